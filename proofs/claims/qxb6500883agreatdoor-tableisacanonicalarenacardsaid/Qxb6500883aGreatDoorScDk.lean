/- join; what the components tell. -/
import Derived.Test.Qxb6500883aGreatDoorScDj
namespace Go.Proofs.Qxb6500883aGreatDoor
open Go.RowKit
set_option linter.unusedSimpArgs false
set_option linter.unusedVariables false
abbrev RwS (g n : Nat) (f : Nat → ByteArray) (r : Nat) (ρ : Rl) (w : World) : Prop := RwK 9 (fun x : ByteArray => Value.string x) g n f r ρ w
theorem ba_len (s : ByteArray) : s.data.toList.length = s.size := Array.length_toList
theorem idx_le {w : Nat} : ∀ {l : List Nat} {q : Nat}, l[q]? = some w → l.idxOf w ≤ q
  | [], q, h => by cases h
  | a :: l, q, h => by
    rw [List.idxOf_cons]
    cases q with
    | zero =>
      simp at h
      subst h
      simp
    | succ q =>
      have := idx_le (l := l) (q := q) (by simpa using h)
      cases hb : (a == w) with
      | true => simp
      | false => simp; omega
/-- The first n texts with sep between. -/
def joinL (f : Nat → ByteArray) (sep : ByteArray) : Nat → List UInt8
  | 0 => []
  | n + 1 => joinL f sep n ++ (if 0 < n then sep.data.toList else []) ++ (f n).data.toList
theorem joinL_len {f : Nat → ByteArray} {sep : ByteArray} {B : Nat} (hs : sep.size ≤ 2) : ∀ n, (∀ j, j < n → (f j).size ≤ B) → (joinL f sep n).length ≤ n * (B + 2)
  | 0, _ => by simp [joinL]
  | n + 1, h => by
    have h1 := joinL_len hs n (fun j hj => h j (by omega))
    have h2 := h n (by omega)
    have h3 : (f n).data.toList.length = (f n).size := ba_len _
    have h4 : sep.data.toList.length = sep.size := ba_len _
    unfold joinL
    rw [List.length_append, List.length_append, h3]
    rw [Nat.add_mul, Nat.one_mul]
    split <;> simp only [h4, List.length_nil] <;> omega
theorem joinL_mono {f : Nat → ByteArray} {sep : ByteArray} {n : Nat} : (joinL f sep n).length ≤ (joinL f sep (n + 1)).length := by
  conv => rhs; unfold joinL
  simp only [List.length_append]
  omega
section
variable {ρ σ : Rl} {w w' w1 w2 : World}
set_option maxRecDepth 100000 in
set_option maxHeartbeats 1000000 in
theorem joinW {g n r : Nat} {f : Nat → ByteArray} {sep : ByteArray} (h : RwS g n f r ρ w) (hs : sep.size ≤ 2) {B : Nat} (hf : ∀ j, j < n → (f j).size ≤ B) (hb : n * (B + 2) ≤ 100000000000000) (hn : n ≤ 100000) :
    Calls Tryz.prog 92 #[.slice (some ⟨g, 0, none⟩) n n, .string sep] w fun e w' => e = .returned (.string ⟨(joinL f sep n).toArray⟩) ∧ Below w.heap.size w w' := by
  have HR := hid h
  have Hf := hid hf
  have hbd : ∀ i, i ≤ n → (joinL f sep i).length ≤ 100000000000000 := fun i hi => by
    have h1 := joinL_len (B := B) hs i (fun j hj => hf j (by omega))
    have h2 : i * (B + 2) ≤ n * (B + 2) := Nat.mul_le_mul_right _ hi
    omega
  have Hbd := hid hbd
  have Hs := hid hs
  clear h hf hb hbd hs
  go_enter Tryz.func92, Tryz.ntmps92
  go_upto_region 3 with fail
  go_loopw [10, 5] (fun t q wr => ∃ (i : Nat) (ax : Option Addr) (nx qx : Nat), t = .int .i64 (i : Int) ∧ q = .slice ax nx qx ∧ i ≤ n ∧ Hid (OwR rtB w.heap.size wr (.slice ax nx qx) (joinL f sep i) ∧ Below w.heap.size w wr)) (fun t _ _ => n - (intOf t).toNat)
  case atStart => exact ⟨0, _, _, _, rfl, rfl, Nat.zero_le _, hid ⟨OwR.nil _ _ _, Below.refl _ _⟩⟩
  case round =>
  obtain ⟨i, ax, nx, qx, rfl, rfl, hi, HI⟩ := hrel
  by_cases hin : i < n
  rotate_left
  · as_aux_lemma =>
    have d1 : decide ((i : Int) < (n : Int)) = false := decide_eq_false (by omega)
    have hst := HI.out.1.str
    have hie : i = n := by omega
    rw [hie] at hst
    have HB := hid HI.out.2
    clear HI hie
    go_wp2
    go_ret
    exact ⟨rfl, HB.out⟩
  have d1 : decide ((i : Int) < (n : Int)) = true := decide_eq_true (by omega)
  have i1 : (i : Int) < (n : Int) := by omega
  have cf : wr.cell? ⟨g, i, none⟩ = some (.string (f i)) := by rw [keepCell i (HI.out.2.block g HR.out.1.lt)]; exact HR.out.get hin
  obtain ⟨s, hs⟩ : ∃ s, f i = s := ⟨_, rfl⟩
  rw [hs] at cf
  have Hsf := hid hs
  have Hjn : Hid (joinL f sep (i + 1) = joinL f sep i ++ (if 0 < i then sep.data.toList else []) ++ s.data.toList) := hid (by rw [← hs]; rfl)
  have hb1 := Hbd.out (i + 1) (by omega)
  rw [Hjn.out, List.length_append, List.length_append] at hb1
  have hsl : s.data.toList.length = s.size := ba_len _
  have hpl : sep.data.toList.length = sep.size := ba_len _
  rw [hsl] at hb1
  clear hs
  by_cases h0 : 0 < i
  · as_aux_lemma =>
    have d2 : decide ((i : Int) > 0) = true := decide_eq_true (by omega)
    have d2n : decide (0 < i) = true := decide_eq_true h0
    rw [if_pos h0, hpl] at hb1
    have Hj2 : Hid (joinL f sep (i + 1) = joinL f sep i ++ sep.data.toList ++ s.data.toList) := hid (by rw [Hjn.out, if_pos h0])
    clear h0
    go_wp2_with (at_builtin; refine stopHere ?_)
    intro _
    refine wpList_app_s rfl _ _ HI.out.1 rfl rfl sep rfl (by omega) HI.out.2.size ?_
    intro v7 w7 hr7 hk7
    obtain ⟨a7, q7, h7⟩ := hr7.out.shape
    obtain ⟨n7, hn7⟩ : ∃ k, (joinL f sep i ++ sep.data.toList).length = k := ⟨_, rfl⟩
    rw [hn7] at h7
    subst h7
    clear hn7
    have HB7 := hid (HI.out.2.trans (hk7.out.below HI.out.1.hi HI.out.2.size))
    clear hk7 cf
    go_wp2_with (at_builtin; refine stopHere ?_)
    intro _
    refine wpList_app_s rfl _ _ hr7.out rfl rfl s rfl (by rw [List.length_append, hpl]; omega) HB7.out.size ?_
    intro v8 w8 hr8 hk8
    obtain ⟨a8, q8, h8⟩ := hr8.out.shape
    obtain ⟨n8, hn8⟩ : ∃ k, (joinL f sep i ++ sep.data.toList ++ s.data.toList).length = k := ⟨_, rfl⟩
    rw [hn8] at h8
    subst h8
    clear hn8
    have HE : Hid (OwR rtB w.heap.size w8 (.slice a8 n8 q8) (joinL f sep (i + 1)) ∧ Below w.heap.size w w8) := hid ⟨by rw [Hj2.out]; exact hr8.out, HB7.out.trans (hk8.out.below hr7.out.hi HB7.out.size)⟩
    clear hk8 hr8 hr7 HB7
    go_wp2
    exact ⟨⟨i + 1, _, _, _, by go_num, rfl, by omega, HE⟩, by simp [intOf]; omega⟩
  · as_aux_lemma =>
    have d2 : decide ((i : Int) > 0) = false := decide_eq_false (by omega)
    have d2n : decide (0 < i) = false := decide_eq_false h0
    have Hj2 : Hid (joinL f sep (i + 1) = joinL f sep i ++ s.data.toList) := hid (by rw [Hjn.out, if_neg h0, List.append_nil])
    clear h0
    go_wp2_with (at_builtin; refine stopHere ?_)
    intro _
    refine wpList_app_s rfl _ _ HI.out.1 rfl rfl s rfl (by omega) HI.out.2.size ?_
    intro v8 w8 hr8 hk8
    obtain ⟨a8, q8, h8⟩ := hr8.out.shape
    obtain ⟨n8, hn8⟩ : ∃ k, (joinL f sep i ++ s.data.toList).length = k := ⟨_, rfl⟩
    rw [hn8] at h8
    subst h8
    clear hn8
    have HE : Hid (OwR rtB w.heap.size w8 (.slice a8 n8 q8) (joinL f sep (i + 1)) ∧ Below w.heap.size w w8) := hid ⟨by rw [Hj2.out]; exact hr8.out, HI.out.2.trans (hk8.out.below HI.out.1.hi HI.out.2.size)⟩
    clear hk8 hr8 cf
    go_wp2
    exact ⟨⟨i + 1, _, _, _, by go_num, rfl, by omega, HE⟩, by simp [intOf]; omega⟩
end
/-- All nodes are in order, and the finder's verdict is right. -/
structure Fin (A : Gr) (T : TJ) : Prop where
  all : ∀ v, v < A.length → v ∈ T.od
  rng : ∀ v ∈ T.od, v < A.length
  cp : ∀ v, v < A.length → T.cp v < T.sz.length
  sz : T.sz.length ≤ A.length
  ol : T.od.length ≤ A.length
  ok : (∀ v, v < A.length → onC A T v = false) ↔ Acy A
theorem JI.finish {A : Gr} {T : TJ} (hA : GrOk A) (h : JI A T []) (hv : ∀ u, u < A.length → T.ix u ≠ 0) : Fin A T := by
  have hst : T.st = [] := h.emp rfl
  have hall : ∀ v, v < A.length → v ∈ T.od := fun v hvn => by
    rcases (h.vis v hvn).1 (hv v hvn) with h1 | h1
    · rw [hst] at h1; cases h1
    · exact h1
  have hol : T.od.length ≤ A.length := nodup_le A.length T.od h.ndO (fun v hv => h.rng v (.inr hv))
  refine ⟨hall, fun v hv => h.rng v (.inr hv), fun v hvn => h.cmp v (hall v hvn), Nat.le_trans h.cnt hol, hol, ?_, ?_⟩
  · intro hc
    have hsz : ∀ s ∈ T.sz, s = 1 := fun s hs => by
      obtain ⟨id, hid'⟩ := List.mem_iff_getElem?.1 hs
      have hlt := (List.getElem?_eq_some_iff.1 hid').1
      obtain ⟨v, hvo, hvc⟩ := h.rep id hlt
      have h1 := hc v (h.rng v (.inr hvo))
      unfold onC at h1
      rw [hvc, List.getD_eq_getElem?_getD, hid'] at h1
      simp at h1
      have := h.pos s hs
      omega
    have htopo := h.topo hsz
    refine ⟨fun v => T.od.idxOf v, fun v w hw => ?_⟩
    show T.od.idxOf w < T.od.idxOf v
    have hvn : v < A.length := by
      rcases Nat.lt_or_ge v A.length with h1 | h1
      · exact h1
      · unfold suc at hw
        rw [List.getD_eq_getElem?_getD, List.getElem?_eq_none h1] at hw
        cases hw
    have hvo := hall v hvn
    have hp : T.od.idxOf v < T.od.length := List.idxOf_lt_length_iff.2 hvo
    have hpv : T.od[T.od.idxOf v]? = some v := by rw [List.getElem?_eq_getElem hp, List.getElem_idxOf]
    have hnv : v ∉ suc A v := by
      have h1 := hc v hvn
      unfold onC at h1
      simp at h1
      exact h1.2
    rcases htopo _ v hpv w hw with h1 | ⟨q, h1, h2⟩
    · subst h1; exact absurd hw hnv
    · have h3 := idx_le h2
      omega
  · rintro ⟨r, hr⟩ v hvn
    have hsz := (h.acy r hr).2.2.2
    unfold onC
    have h1 : v ∉ suc A v := fun hm => by have := hr v v hm; omega
    have h2 : ¬ (1 < T.sz.getD (T.cp v) 0) := by
      rw [List.getD_eq_getElem?_getD]
      cases hq : T.sz[T.cp v]? with
      | none => simp
      | some s =>
        have := hsz s (List.mem_of_getElem? hq)
        simp
        omega
    rw [decide_eq_false h1, decide_eq_false h2]
    rfl
/-- The file's graph leads to declarations. -/
theorem grF_ok (F : FS) : GrOk (grF F) := fun v w hw => by
  have hl : (grF F).length = F.decls.length := by unfold grF; rw [List.length_map]
  rw [hl]
  cases hx : F.decls[v]? with
  | none =>
    unfold suc at hw
    rw [List.getD_eq_getElem?_getD, List.getElem?_eq_none (by rw [hl]; exact List.getElem?_eq_none_iff.1 hx)] at hw
    cases hw
  | some x =>
    rw [suc_get (grF_get hx)] at hw
    unfold adjF at hw
    rcases List.mem_append.1 hw with h | h
    · obtain ⟨j, _, hj⟩ := ptT_mem.1 h
      unfold tDA at hj
      cases ht : F.types[x.tLo + j]? with
      | none => rw [ht] at hj; simp only at hj; omega
      | some y =>
        rw [ht] at hj
        obtain ⟨z, hz, _⟩ := tDof_ok hj
        exact (List.getElem?_eq_some_iff.1 hz).1
    · obtain ⟨j, _, hj⟩ := ptT_mem.1 h
      unfold eDA at hj
      cases ht : F.exprs[x.eLo + j]? with
      | none => rw [ht] at hj; simp only at hj; omega
      | some y =>
        rw [ht] at hj
        obtain ⟨z, hz, _⟩ := eDof_ok hj
        exact (List.getElem?_eq_some_iff.1 hz).1
end Go.Proofs.Qxb6500883aGreatDoor
