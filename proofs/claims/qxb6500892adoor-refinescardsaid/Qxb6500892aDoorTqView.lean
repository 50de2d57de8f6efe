/- View. -/
import Derived.Test.Qxb6500892aDoorTqVwM
namespace Go.Proofs.Qxb6500892aDoor
open Go.RowKit
set_option linter.unusedSimpArgs false
set_option linter.unusedVariables false

theorem EI.slotOf {s : ES} {L C : Nat → List Nat} (h : EI s L C) {q i : Nat} (hq : q = 1 ∨ q = 2) (hi : i ∈ L q) : i < s.slots := by
  have hd := h.q.dl q (by omega)
  have h1 := hd.lt i hi
  have h2 := hd.wh i hi
  rcases Nat.lt_or_ge i s.slots with h3 | h3
  · exact h3
  · have := h.gho i h3 h1
    omega
/-- Entry at a live slot. -/
theorem entry_live {e gn gb : Nat} {s : ES} {L C : Nat → List Nat} {w : World} (hE : EM e gn gb s w) (hI : EI s L C) {i : Nat} (hi : i < s.slots) (hw : s.whr i ≠ 0) (hpb : s.pin i ≤ 1000000) :
    Calls Tryd.prog 21 #[.pointer (some ⟨e, 0, none⟩), .int .i64 (i : Int)] w fun y w' => y = .returned (.tuple #[.agg #[.int .i64 (i : Int), .int .u64 (s.key i : Int), .int .i64 (s.pin i), .bool (s.neg i)], .bool true]) ∧ Below w.heap.size w w' := by
  have h := entry_walk (w0 := w) ⟨hE, U3.refl _ _ _ _, hI⟩ hi hpb
  have h1 := entOf_cells s i hw
  have hl : lv s i = true := decide_eq_true hw
  unfold entC entOf at h1
  simp only [List.cons.injEq, and_true] at h1
  obtain ⟨e0, e1, e2, e3⟩ := h1
  rw [e0, e1, e2, e3, hl] at h
  exact h
/-- One step down a queue. -/
theorem DL.next {s : ES} {q : Nat} {M : List Nat} (h : DL s q M) {k : Nat} (hk : k < M.length) : s.nxt M[k] = headI (M.drop (k + 1)) ∧ sufL M (headI (M.drop (k + 1))) < sufL M (M[k] : Int) := by
  have hM : M = M.take k ++ M[k] :: M.drop (k + 1) := by simp
  have h1 := h.nx _ _ _ hM
  refine ⟨h1, ?_⟩
  have hnd := h.nd
  rw [hM] at hnd
  have h2 := sufL_at hnd
  rw [← hM] at h2
  rw [h2]
  rcases hD : M.drop (k + 1) with _ | ⟨j, D⟩
  · show sufL M (-1) < _
    rw [sufL_end]; omega
  · show sufL M (j : Int) < _
    have hM2 : M = (M.take k ++ [M[k]]) ++ j :: D := by rw [List.append_assoc]; show M = M.take k ++ (M[k] :: j :: D); rw [← hD]; exact hM
    have hnd2 := h.nd
    rw [hM2] at hnd2
    have h3 := sufL_at hnd2
    rw [← hM2] at h3
    rw [h3]
    simp
theorem headI_drop {M : List Nat} {k : Nat} (hk : k < M.length) : headI (M.drop k) = (M[k] : Int) := by
  rw [List.drop_eq_getElem_cons hk]; rfl
theorem OR.row' {α : Type} {w : World} {base : Nat} {e : TypeId} {sz : Nat} {f : α → List Value} {a : Option Addr} {n c : Nat} {l : List α} (h : OR w base e sz f (.slice a n c) l) (hsz : 0 < sz) (hf : ∀ x, (f x).length = sz) (hb : l.length ≤ 140737488351232) : RowOf w sz f a n c l := by
  obtain ⟨a', n', c', h1, h2⟩ := h.row hsz hf hb
  cases h1
  exact h2
theorem stopHere {p : Prop} (h : True → p) : p := h trivial
theorem wrap64_of {x : Int} (h1 : -9223372036854775808 ≤ x) (h2 : x ≤ 9223372036854775807) : wrap64 x = x := by unfold wrap64; omega
theorem wrapi64_of {x : Int} (h1 : 0 ≤ x) (h2 : x ≤ 1000000) : IntKind.i64.wrap x = x := by rw [IntKind.wrap_i64]; omega
def ViewP (s : ES) (L : Nat → List Nat) (w : World) (y : Ending) (w' : World) : Prop := ∃ a1 n1 c1 a2 n2 c2 a3 n3 c3, y = .returned (.agg #[.slice a1 n1 c1, .slice a2 n2 c2, .slice a3 n3 c3]) ∧
  Hid (Below w.heap.size w w' ∧ OR w' w.heap.size 64 4 entC (.slice a1 n1 c1) ((L 1).map (entOf s)) ∧ OR w' w.heap.size 64 4 entC (.slice a2 n2 c2) ((L 2).map (entOf s)) ∧ OR w' w.heap.size 29 1 keyC (.slice a3 n3 c3) ((L 3).map s.key))
theorem info_view : AggOf Tryd.prog 41 3 := AggOf.struct Tryd.underlying41 (by kernel_rfl)
section
variable {e gn gb : Nat} {w0 : World} {s : ES} {L C : Nat → List Nat} {w : World}
set_option maxRecDepth 100000 in
set_option maxHeartbeats 4000000 in
theorem view_walk (hE0 : EM e gn gb s w) (hI0 : EI s L C) (hpb : ∀ i, i < s.slots → s.pin i ≤ 1000000) :
    Calls Tryd.prog 12 #[.pointer (some ⟨e, 0, none⟩)] w fun y w' => ViewP s L w y w' := by
  have HI := hid hI0
  have HPB := hid hpb
  obtain ⟨M1, hM1⟩ : ∃ M, L 1 = M := ⟨_, rfl⟩
  obtain ⟨M2, hM2⟩ : ∃ M, L 2 = M := ⟨_, rfl⟩
  obtain ⟨M3, hM3⟩ : ∃ M, L 3 = M := ⟨_, rfl⟩
  have HM := hid (And.intro hM1 (And.intro hM2 hM3))
  have HD1 := hid (hI0.q.dl 1 (by omega))
  have HD2 := hid (hI0.q.dl 2 (by omega))
  have HD3 := hid (hI0.q.dl 3 (by omega))
  rw [hM1] at HD1
  rw [hM2] at HD2
  rw [hM3] at HD3
  have hnb := hI0.q.nb
  have HL1 : Hid (∀ i ∈ M1, i < s.slots) := hid (fun i hi => hI0.slotOf (.inl rfl) (by rw [hM1]; exact hi))
  have HL2 : Hid (∀ i ∈ M2, i < s.slots) := hid (fun i hi => hI0.slotOf (.inr rfl) (by rw [hM2]; exact hi))
  have hml1 : M1.length ≤ 131072 := Nat.le_trans (nodup_len HD1.out.nd HD1.out.lt) hnb
  have hml2 : M2.length ≤ 131072 := Nat.le_trans (nodup_len HD2.out.nd HD2.out.lt) hnb
  have hml3 : M3.length ≤ 131072 := Nat.le_trans (nodup_len HD3.out.nd HD3.out.lt) hnb
  obtain ⟨p2, hp2⟩ : ∃ p, w.heap.size = p := ⟨_, rfl⟩
  obtain ⟨p3, hp3⟩ : ∃ p, p2 + 1 = p := ⟨_, rfl⟩
  obtain ⟨w2, hw2⟩ : ∃ w2, (w.alloc (.cells #[.slice none 0 0, .slice none 0 0, .slice none 0 0] 41)).alloc (.cells #[.slice none 0 0, .slice none 0 0, .slice none 0 0] 41) = w2 := ⟨_, rfl⟩
  have HV0 : Hid (VM e gn gb s w p2 p3 nilS nilS nilS [] [] [] w2) := hid (by
    have s1 : ∀ (x : World) (o : Obj), (x.alloc o).heap.size = x.heap.size + 1 := fun x o => by simp
    have hb : Below w.heap.size w w2 := by rw [← hw2]; exact ((Below.refl _ w).alloc (Nat.le_refl _) _).alloc (by rw [s1]; omega) _
    have k1 := (Blk.new w [.slice none 0 0, .slice none 0 0, .slice none 0 0] 41).alloc (.cells #[.slice none 0 0, .slice none 0 0, .slice none 0 0] 41)
    have k2 := Blk.new (w.alloc (.cells #[.slice none 0 0, .slice none 0 0, .slice none 0 0] 41)) [.slice none 0 0, .slice none 0 0, .slice none 0 0] 41
    rw [s1, hp2, hp3] at k2
    rw [hp2] at k1
    rw [← hw2] at *
    exact ⟨hE0.below hb, hb, k1, k2, OR.nil _ _ _ _ _, OR.nil _ _ _ _ _, OR.nil _ _ _ _ _, (fun g hg => by cases hg), by omega, by omega, by omega⟩)
  obtain ⟨ie, hie, hze, hsz1, hby1⟩ := info_entz
  obtain ⟨iu, hiu, hzu, hsz2, hby2⟩ := info_u64z
  have IE := hid (And.intro hie (And.intro hze (And.intro hsz1 hby1)))
  have IU := hid (And.intro hiu (And.intro hzu (And.intro hsz2 hby2)))
  clear hie hze hsz1 hby1 hiu hzu hsz2 hby2 hM1 hM2 hM3 hE0 hI0 hpb
  obtain ⟨x1, hx1⟩ : ∃ x, s.hd 1 = x := ⟨_, rfl⟩
  have Hx1 : Hid (x1 = headI M1) := hid (by rw [← hx1]; exact HD1.out.hd)
  have c8 : w2.cell? ⟨e, 8, none⟩ = some (.int .i32 x1) := by rw [← hx1]; exact HV0.out.em.hd (q := 1) (by omega)
  clear hx1
  go_enter Tryd.func12, Tryd.ntmps12
  go_upto_region 2 with fail
  clear hw2 hp3 hp2
  go_upto_region 3 with fail
  clear c8
  go_loopw [4] (fun v0 wr => ∃ x : Int, v0 = .int .i32 x ∧ Hid (∃ k v, k ≤ M1.length ∧ x = headI (M1.drop k) ∧ VM e gn gb s w p2 p3 v nilS nilS ((M1.take k).map (entOf s)) [] [] wr)) (fun v _ => sufL M1 (intOf v))
  case atStart => exact ⟨x1, rfl, hid ⟨0, nilS, by omega, Hx1.out, HV0.out⟩⟩
  case round =>
  clear Hx1 HV0
  obtain ⟨x, rfl, HK⟩ := hrel
  obtain ⟨k, v, hk, hx, hvm⟩ := HK.out
  obtain ⟨av, nv, cv, rfl⟩ := hvm.o1.shape
  have HV := hid hvm
  clear hvm HK
  by_cases hkl : k < M1.length
  · as_aux_lemma =>
    obtain ⟨i, hi⟩ : ∃ i, M1[k] = i := ⟨_, rfl⟩
    rw [headI_drop hkl, hi] at hx
    subst hx
    have hin : i ∈ M1 := by rw [← hi]; exact List.getElem_mem hkl
    have his := HL1.out i hin
    have hiw : s.whr i ≠ 0 := by rw [HD1.out.wh i hin]; omega
    obtain ⟨hnx, hsuf⟩ := HD1.out.next hkl
    rw [hi] at hnx hsuf
    have hsn := HD1.out.lt i hin
    have hin1 : i < 131072 := by omega
    have hii : (i : Int) < (s.n : Int) := by omega
    have dx : ((i : Int) != -1) = true := bne_iff_ne.2 (by omega)
    have hi0 : (0 : Int) ≤ (i : Int) := by omega
    have hi6 : (i : Int) ≤ 1000000 := by omega
    have HG := hid (entry_live HV.out.em HI.out his hiw (HPB.out i his))
    obtain ⟨y, hy⟩ : ∃ y, s.nxt i = y := ⟨_, rfl⟩
    rw [← hnx, hy] at hsuf
    have Hy : Hid (y = headI (M1.drop (k + 1)) ∧ sufL M1 y < sufL M1 (i : Int)) := hid ⟨by rw [← hy]; exact hnx, hsuf⟩
    have HKk : Hid (M1[k]? = some i ∧ s.nxt i = y) := hid ⟨by rw [List.getElem?_eq_getElem hkl, hi], hy⟩
    obtain ⟨t, ht⟩ : ∃ t, entOf s i = t := ⟨_, rfl⟩
    have HT := hid ht
    have ht1 : (i : Int) = t.slot := by rw [← ht]; rfl
    have ht2 : (s.key i : Int) = t.key := by rw [← ht]; rfl
    have ht3 : s.pin i = t.pins := by rw [← ht]; rfl
    have ht4 : s.neg i = t.neg := by rw [← ht]; rfl
    rw [ht2, ht3, ht4] at HG
    have Ht1 := hid ht1
    clear hi hin his hiw hnx hsuf hy ht ht1 ht2 ht3 ht4
    have hw64b : IntKind.i64.wrap (i : Int) = (i : Int) := wrapi64_of hi0 hi6
    have hw64 : wrap64 (i : Int) = (i : Int) := wrap64_of (by omega) (by omega)
    go_upto_region 5 with fail
    go_wp2_with fail
    refine HG.out.mono ?_
    rintro y4 w4 ⟨rfl, hb4⟩
    have HV4 := hid (HV.out.below hb4)
    clear HG HV hb4 hw64 hw64b
    obtain ⟨p5, hp5⟩ : ∃ p, w4.heap.size = p := ⟨_, rfl⟩
    go_upto_region 6 with fail
    obtain ⟨w5, hw5⟩ : ∃ w5, w4.alloc (.cells #[.int .i64 (i : Int), .int .u64 t.key, .int .i64 t.pins, .bool t.neg] 64) = w5 := ⟨_, rfl⟩
    have HV5 : Hid (VM e gn gb s w p2 p3 (.slice av nv cv) nilS nilS ((M1.take k).map (entOf s)) [] [] w5 ∧ Blk w5 p5 64 [.int .i64 (i : Int), .int .u64 t.key, .int .i64 t.pins, .bool t.neg]) := hid (by
      have k1 := Blk.new w4 [.int .i64 (i : Int), .int .u64 t.key, .int .i64 t.pins, .bool t.neg] 64
      rw [hp5] at k1
      rw [← hw5]
      exact ⟨HV4.out.below (nbel w4 _), k1⟩)
    try simp only [hw5]
    clear hw5 hp5 HV4
    have a0 : w5.cell? ⟨p3, 0, none⟩ = some (.slice av nv cv) := HV5.out.1.b3.cell 0
    have a1 : w5.cell? ⟨p5, 0, none⟩ = some (.int .i64 (i : Int)) := HV5.out.2.cell 0
    have a2 : w5.cell? ⟨p5, 1, none⟩ = some (.int .u64 t.key) := HV5.out.2.cell 1
    have a3 : w5.cell? ⟨p5, 2, none⟩ = some (.int .i64 t.pins) := HV5.out.2.cell 2
    have a4 : w5.cell? ⟨p5, 3, none⟩ = some (.bool t.neg) := HV5.out.2.cell 3
    obtain ⟨w6, hw6⟩ : ∃ w6, w5.alloc (.cells #[.int .i64 (i : Int), .int .u64 t.key, .int .i64 t.pins, .bool t.neg] 64) = w6 := ⟨_, rfl⟩
    have HV6 : Hid (VM e gn gb s w p2 p3 (.slice av nv cv) nilS nilS ((M1.take k).map (entOf s)) [] [] w6) := hid (by rw [← hw6]; exact HV5.out.1.below (nbel w5 _))
    have HNw := hid (newRow w5 [.int .i64 (i : Int), .int .u64 t.key, .int .i64 t.pins, .bool t.neg] 64 w5.heap.size rfl)
    have HlT : Hid ([.int .i64 (i : Int), .int .u64 t.key, .int .i64 t.pins, .bool t.neg] = entC t) := hid (by rw [Ht1.out]; rfl)
    rw [show (w5.alloc (.cells [.int .i64 (i : Int), .int .u64 t.key, .int .i64 t.pins, .bool t.neg].toArray 64)) = w6 from hw6] at HNw
    obtain ⟨p6, hp6⟩ : ∃ p, w5.heap.size = p := ⟨_, rfl⟩
    rw [hp6] at HNw
    have HP6 := hid hp6
    have hlen : ((M1.take k).map (entOf s)).length = k := by simp; omega
    have hbs : w.heap.size ≤ w6.heap.size := HV6.out.bel.size
    have Hlen := hid hlen
    clear hlen
    go_wp2_with (at_builtin; refine stopHere ?_)
    intro _
    (try simp only [hw6])
    refine wpList_append_row _ rfl (.tmp 35) (.tmp 37) 38 rfl w.heap.size 64 ie (.agg #[.int .i64 0, .int .u64 0, .int .i64 0, .bool false]) 4 32 Tryd.underlying38 IE.out.1 IE.out.2.1 IE.out.2.2.1 IE.out.2.2.2 rfl (by decide) (.slice av nv cv) _ _ (by simp [Act.eval, Act.put]; done) HV6.out.o1 (some ⟨p6, 0, none⟩) 1 1 (entC t) (by simp [Act.eval, Act.put]; done) rfl (fun h => by cases h) (by rw [← HlT.out]; exact HNw.out) (entC_one t) (by rw [Hlen.out]; omega) (by decide) hbs ?_
    intro v7 w7 hown7 hb7 hk7 hg7
    have HA7 := hid (⟨by have := hown7; rw [flatMap_snoc] at this; unfold OR; rw [List.length_append]; exact this, hb7, hk7, hg7⟩ : App w.heap.size 64 4 entC (.slice av nv cv) ((M1.take k).map (entOf s) ++ [t]) w6 v7 w7)
    clear hown7 hb7 hk7 hg7
    obtain ⟨a7, n7, c7, h7⟩ := HA7.out.ow.shape
    subst h7
    have a5 : w7.cell? ⟨p3, 0, none⟩ = some (.slice av nv cv) := by (rw [keepCell 0 (HA7.out.keep p3 HV6.out.b3.lt (fun g hg e => by subst e; obtain ⟨_, c2, b2⟩ := HV6.out.o1.blk hg; exact HV6.out.b3.tne b2 (by decide) rfl))]; exact HV6.out.b3.cell 0)
    have f5 : w7.frozen? ⟨p3, 0, none⟩ = false := (HV6.out.b3.same (HA7.out.keep p3 HV6.out.b3.lt (fun g hg e => by subst e; obtain ⟨_, c2, b2⟩ := HV6.out.o1.blk hg; exact HV6.out.b3.tne b2 (by decide) rfl))).frozen 0
    have HV8 := hid (HV6.out.app1 HA7.out)
    obtain ⟨w8, hw8⟩ : ∃ w8, w7.setCell ⟨p3, 0, none⟩ (.slice a7 n7 c7) = w8 := ⟨_, rfl⟩
    rw [hw8] at HV8
    have e4 : w8.cell? ⟨e, 4, none⟩ = some (.slice (some ⟨gn, 0, none⟩) s.n s.n) := HV8.out.em.nds
    have n1 : w8.cell? ⟨gn, i * 7 + 1, none⟩ = some (.int .i32 y) := by (rw [← HKk.out.2]; exact HV8.out.em.nxt hsn)
    have HV9 : Hid (∃ k v, k ≤ M1.length ∧ y = headI (M1.drop k) ∧ VM e gn gb s w p2 p3 v nilS nilS ((M1.take k).map (entOf s)) [] [] w8) := hid ⟨k + 1, _, hkl, Hy.out.1, by
      have h1 := HV8.out
      have h2 : (M1.take (k + 1)).map (entOf s) = (M1.take k).map (entOf s) ++ [t] := by
        rw [List.take_add_one, HKk.out.1, List.map_append, ← HT.out]; rfl
      rw [h2]
      exact h1⟩
    clear HV8 HA7 HV6 HNw HlT HP6 hp6 Hlen a0 a1 a2 a3 a4 hw6
    go_wp2
    exact ⟨⟨y, rfl, HV9⟩, Hy.out.2⟩
  obtain ⟨v1, hv1⟩ : ∃ v1, VM e gn gb s w p2 p3 v1 nilS nilS (M1.map (entOf s)) [] [] wr := ⟨_, by
    have h1 := HV.out
    rw [List.take_of_length_le (show M1.length ≤ k by omega)] at h1
    exact h1⟩
  have HV1 := hid hv1
  clear hv1 HV
  rw [List.drop_eq_nil_of_le (by omega)] at hx
  have hx' : x = -1 := hx
  clear hx
  subst hx'
  have dx : ((-1 : Int) != -1) = false := by decide
  obtain ⟨w1', hw1'⟩ : ∃ w1, w1 = wr := ⟨_, rfl⟩
  subst hw1'
  clear hk hkl
  obtain ⟨x2, hx2⟩ : ∃ x, s.hd 2 = x := ⟨_, rfl⟩
  have Hx2 : Hid (x2 = headI M2) := hid (by rw [← hx2]; exact HD2.out.hd)
  have c8 : w1'.cell? ⟨e, 11, none⟩ = some (.int .i32 x2) := by rw [← hx2]; exact HV1.out.em.hd (q := 2) (by omega)
  clear hx2
  go_upto_region 8 with fail
  clear c8 dx
  go_loopw [7] (fun v0 wr => ∃ x : Int, v0 = .int .i32 x ∧ Hid (∃ k v, k ≤ M2.length ∧ x = headI (M2.drop k) ∧ VM e gn gb s w p2 p3 v1 v nilS (M1.map (entOf s)) ((M2.take k).map (entOf s)) [] wr)) (fun v _ => sufL M2 (intOf v))
  case atStart => exact ⟨x2, rfl, hid ⟨0, nilS, by omega, Hx2.out, HV1.out⟩⟩
  case round =>
  clear Hx2 HV1
  obtain ⟨x, rfl, HK⟩ := hrel
  obtain ⟨k, v, hk, hx, hvm⟩ := HK.out
  obtain ⟨av, nv, cv, rfl⟩ := hvm.o2.shape
  have HV := hid hvm
  clear hvm HK
  by_cases hkl : k < M2.length
  · as_aux_lemma =>
    obtain ⟨i, hi⟩ : ∃ i, M2[k] = i := ⟨_, rfl⟩
    rw [headI_drop hkl, hi] at hx
    subst hx
    have hin : i ∈ M2 := by rw [← hi]; exact List.getElem_mem hkl
    have his := HL2.out i hin
    have hiw : s.whr i ≠ 0 := by rw [HD2.out.wh i hin]; omega
    obtain ⟨hnx, hsuf⟩ := HD2.out.next hkl
    rw [hi] at hnx hsuf
    have hsn := HD2.out.lt i hin
    have hin1 : i < 131072 := by omega
    have hii : (i : Int) < (s.n : Int) := by omega
    have dx : ((i : Int) != -1) = true := bne_iff_ne.2 (by omega)
    have hi0 : (0 : Int) ≤ (i : Int) := by omega
    have hi6 : (i : Int) ≤ 1000000 := by omega
    have HG := hid (entry_live HV.out.em HI.out his hiw (HPB.out i his))
    obtain ⟨y, hy⟩ : ∃ y, s.nxt i = y := ⟨_, rfl⟩
    rw [← hnx, hy] at hsuf
    have Hy : Hid (y = headI (M2.drop (k + 1)) ∧ sufL M2 y < sufL M2 (i : Int)) := hid ⟨by rw [← hy]; exact hnx, hsuf⟩
    have HKk : Hid (M2[k]? = some i ∧ s.nxt i = y) := hid ⟨by rw [List.getElem?_eq_getElem hkl, hi], hy⟩
    obtain ⟨t, ht⟩ : ∃ t, entOf s i = t := ⟨_, rfl⟩
    have HT := hid ht
    have ht1 : (i : Int) = t.slot := by rw [← ht]; rfl
    have ht2 : (s.key i : Int) = t.key := by rw [← ht]; rfl
    have ht3 : s.pin i = t.pins := by rw [← ht]; rfl
    have ht4 : s.neg i = t.neg := by rw [← ht]; rfl
    rw [ht2, ht3, ht4] at HG
    have Ht1 := hid ht1
    clear hi hin his hiw hnx hsuf hy ht ht1 ht2 ht3 ht4
    have hw64b : IntKind.i64.wrap (i : Int) = (i : Int) := wrapi64_of hi0 hi6
    have hw64 : wrap64 (i : Int) = (i : Int) := wrap64_of (by omega) (by omega)
    go_upto_region 10 with fail
    go_wp2_with fail
    refine HG.out.mono ?_
    rintro y4 w4 ⟨rfl, hb4⟩
    have HV4 := hid (HV.out.below hb4)
    clear HG HV hb4 hw64 hw64b
    obtain ⟨p5, hp5⟩ : ∃ p, w4.heap.size = p := ⟨_, rfl⟩
    go_upto_region 11 with fail
    obtain ⟨w5, hw5⟩ : ∃ w5, w4.alloc (.cells #[.int .i64 (i : Int), .int .u64 t.key, .int .i64 t.pins, .bool t.neg] 64) = w5 := ⟨_, rfl⟩
    have HV5 : Hid (VM e gn gb s w p2 p3 v1 (.slice av nv cv) nilS (M1.map (entOf s)) ((M2.take k).map (entOf s)) [] w5 ∧ Blk w5 p5 64 [.int .i64 (i : Int), .int .u64 t.key, .int .i64 t.pins, .bool t.neg]) := hid (by
      have k1 := Blk.new w4 [.int .i64 (i : Int), .int .u64 t.key, .int .i64 t.pins, .bool t.neg] 64
      rw [hp5] at k1
      rw [← hw5]
      exact ⟨HV4.out.below (nbel w4 _), k1⟩)
    try simp only [hw5]
    clear hw5 hp5 HV4
    have a0 : w5.cell? ⟨p3, 1, none⟩ = some (.slice av nv cv) := HV5.out.1.b3.cell 1
    have a1 : w5.cell? ⟨p5, 0, none⟩ = some (.int .i64 (i : Int)) := HV5.out.2.cell 0
    have a2 : w5.cell? ⟨p5, 1, none⟩ = some (.int .u64 t.key) := HV5.out.2.cell 1
    have a3 : w5.cell? ⟨p5, 2, none⟩ = some (.int .i64 t.pins) := HV5.out.2.cell 2
    have a4 : w5.cell? ⟨p5, 3, none⟩ = some (.bool t.neg) := HV5.out.2.cell 3
    obtain ⟨w6, hw6⟩ : ∃ w6, w5.alloc (.cells #[.int .i64 (i : Int), .int .u64 t.key, .int .i64 t.pins, .bool t.neg] 64) = w6 := ⟨_, rfl⟩
    have HV6 : Hid (VM e gn gb s w p2 p3 v1 (.slice av nv cv) nilS (M1.map (entOf s)) ((M2.take k).map (entOf s)) [] w6) := hid (by rw [← hw6]; exact HV5.out.1.below (nbel w5 _))
    have HNw := hid (newRow w5 [.int .i64 (i : Int), .int .u64 t.key, .int .i64 t.pins, .bool t.neg] 64 w5.heap.size rfl)
    have HlT : Hid ([.int .i64 (i : Int), .int .u64 t.key, .int .i64 t.pins, .bool t.neg] = entC t) := hid (by rw [Ht1.out]; rfl)
    rw [show (w5.alloc (.cells [.int .i64 (i : Int), .int .u64 t.key, .int .i64 t.pins, .bool t.neg].toArray 64)) = w6 from hw6] at HNw
    obtain ⟨p6, hp6⟩ : ∃ p, w5.heap.size = p := ⟨_, rfl⟩
    rw [hp6] at HNw
    have HP6 := hid hp6
    have hlen : ((M2.take k).map (entOf s)).length = k := by simp; omega
    have hbs : w.heap.size ≤ w6.heap.size := HV6.out.bel.size
    have Hlen := hid hlen
    clear hlen
    go_wp2_with (at_builtin; refine stopHere ?_)
    intro _
    (try simp only [hw6])
    refine wpList_append_row _ rfl (.tmp 64) (.tmp 66) 38 rfl w.heap.size 64 ie (.agg #[.int .i64 0, .int .u64 0, .int .i64 0, .bool false]) 4 32 Tryd.underlying38 IE.out.1 IE.out.2.1 IE.out.2.2.1 IE.out.2.2.2 rfl (by decide) (.slice av nv cv) _ _ (by simp [Act.eval, Act.put]; done) HV6.out.o2 (some ⟨p6, 0, none⟩) 1 1 (entC t) (by simp [Act.eval, Act.put]; done) rfl (fun h => by cases h) (by rw [← HlT.out]; exact HNw.out) (entC_one t) (by rw [Hlen.out]; omega) (by decide) hbs ?_
    intro v7 w7 hown7 hb7 hk7 hg7
    have HA7 := hid (⟨by have := hown7; rw [flatMap_snoc] at this; unfold OR; rw [List.length_append]; exact this, hb7, hk7, hg7⟩ : App w.heap.size 64 4 entC (.slice av nv cv) ((M2.take k).map (entOf s) ++ [t]) w6 v7 w7)
    clear hown7 hb7 hk7 hg7
    obtain ⟨a7, n7, c7, h7⟩ := HA7.out.ow.shape
    subst h7
    have a5 : w7.cell? ⟨p3, 1, none⟩ = some (.slice av nv cv) := by (rw [keepCell 1 (HA7.out.keep p3 HV6.out.b3.lt (fun g hg e => by subst e; obtain ⟨_, c2, b2⟩ := HV6.out.o2.blk hg; exact HV6.out.b3.tne b2 (by decide) rfl))]; exact HV6.out.b3.cell 1)
    have f5 : w7.frozen? ⟨p3, 1, none⟩ = false := (HV6.out.b3.same (HA7.out.keep p3 HV6.out.b3.lt (fun g hg e => by subst e; obtain ⟨_, c2, b2⟩ := HV6.out.o2.blk hg; exact HV6.out.b3.tne b2 (by decide) rfl))).frozen 1
    have HV8 := hid (HV6.out.app2 HA7.out)
    obtain ⟨w8, hw8⟩ : ∃ w8, w7.setCell ⟨p3, 1, none⟩ (.slice a7 n7 c7) = w8 := ⟨_, rfl⟩
    rw [hw8] at HV8
    have e4 : w8.cell? ⟨e, 4, none⟩ = some (.slice (some ⟨gn, 0, none⟩) s.n s.n) := HV8.out.em.nds
    have n1 : w8.cell? ⟨gn, i * 7 + 1, none⟩ = some (.int .i32 y) := by (rw [← HKk.out.2]; exact HV8.out.em.nxt hsn)
    have HV9 : Hid (∃ k v, k ≤ M2.length ∧ y = headI (M2.drop k) ∧ VM e gn gb s w p2 p3 v1 v nilS (M1.map (entOf s)) ((M2.take k).map (entOf s)) [] w8) := hid ⟨k + 1, _, hkl, Hy.out.1, by
      have h1 := HV8.out
      have h2 : (M2.take (k + 1)).map (entOf s) = (M2.take k).map (entOf s) ++ [t] := by
        rw [List.take_add_one, HKk.out.1, List.map_append, ← HT.out]; rfl
      rw [h2]
      exact h1⟩
    clear HV8 HA7 HV6 HNw HlT HP6 hp6 Hlen a0 a1 a2 a3 a4 hw6
    go_wp2
    exact ⟨⟨y, rfl, HV9⟩, Hy.out.2⟩
  obtain ⟨v2, hv2⟩ : ∃ v2, VM e gn gb s w p2 p3 v1 v2 nilS (M1.map (entOf s)) (M2.map (entOf s)) [] wr := ⟨_, by
    have h1 := HV.out
    rw [List.take_of_length_le (show M2.length ≤ k by omega)] at h1
    exact h1⟩
  have HV2 := hid hv2
  clear hv2 HV
  rw [List.drop_eq_nil_of_le (by omega)] at hx
  have hx' : x = -1 := hx
  clear hx
  subst hx'
  have dx : ((-1 : Int) != -1) = false := by decide
  obtain ⟨w2', hw2'⟩ : ∃ w1, w1 = wr := ⟨_, rfl⟩
  subst hw2'
  clear hk hkl
  obtain ⟨x3, hx3⟩ : ∃ x, s.hd 3 = x := ⟨_, rfl⟩
  have Hx3 : Hid (x3 = headI M3) := hid (by rw [← hx3]; exact HD3.out.hd)
  have c8 : w2'.cell? ⟨e, 14, none⟩ = some (.int .i32 x3) := by rw [← hx3]; exact HV2.out.em.hd (q := 3) (by omega)
  clear hx3
  go_upto_region 13 with fail
  clear c8 dx
  go_loopw [10] (fun v0 wr => ∃ x : Int, v0 = .int .i32 x ∧ Hid (∃ k v, k ≤ M3.length ∧ x = headI (M3.drop k) ∧ VM e gn gb s w p2 p3 v1 v2 v (M1.map (entOf s)) (M2.map (entOf s)) ((M3.take k).map s.key) wr)) (fun v _ => sufL M3 (intOf v))
  case atStart => exact ⟨x3, rfl, hid ⟨0, nilS, by omega, Hx3.out, HV2.out⟩⟩
  case round =>
  clear Hx3 HV2
  obtain ⟨x, rfl, HK⟩ := hrel
  obtain ⟨k, v, hk, hx, hvm⟩ := HK.out
  obtain ⟨av, nv, cv, rfl⟩ := hvm.o3.shape
  have HV := hid hvm
  clear hvm HK
  by_cases hkl : k < M3.length
  · as_aux_lemma =>
    obtain ⟨i, hi⟩ : ∃ i, M3[k] = i := ⟨_, rfl⟩
    rw [headI_drop hkl, hi] at hx
    subst hx
    have hin : i ∈ M3 := by rw [← hi]; exact List.getElem_mem hkl
    obtain ⟨hnx, hsuf⟩ := HD3.out.next hkl
    rw [hi] at hnx hsuf
    have hsn := HD3.out.lt i hin
    have hii : (i : Int) < (s.n : Int) := by omega
    have dx : ((i : Int) != -1) = true := bne_iff_ne.2 (by omega)
    obtain ⟨y, hy⟩ : ∃ y, s.nxt i = y := ⟨_, rfl⟩
    rw [← hnx, hy] at hsuf
    have Hy : Hid (y = headI (M3.drop (k + 1)) ∧ sufL M3 y < sufL M3 (i : Int)) := hid ⟨by rw [← hy]; exact hnx, hsuf⟩
    have HKk : Hid (M3[k]? = some i ∧ s.nxt i = y) := hid ⟨by rw [List.getElem?_eq_getElem hkl, hi], hy⟩
    obtain ⟨ky, hky⟩ : ∃ ky, s.key i = ky := ⟨_, rfl⟩
    have HKy := hid hky
    have HVd : Hid (VM e gn gb s w p2 p3 v1 v2 (.slice av nv cv) (M1.map (entOf s)) (M2.map (entOf s)) ((M3.take k).map s.key) wr.drew) := hid (HV.out.below (Drew.below ⟨1, rfl⟩ _))
    have hlen : ((M3.take k).map s.key).length = k := by simp; omega
    have Hlen := hid hlen
    clear hi hin hnx hsuf hy hky hlen
    go_upto_region 15 with fail
    refine wp_region_heavy (fun w' => w'.cell? ⟨p3, 2, none⟩ = some (.slice av nv cv) ∧ w'.cell? ⟨e, 4, none⟩ = some (.slice (some ⟨gn, 0, none⟩) s.n s.n) ∧ w'.cell? ⟨gn, i * 7 + 4, none⟩ = some (.int .u64 (ky : Int))) 12 [0, 1, 2, 3, 4, 5, 6, 7, 8, 9] [10, 11] rfl (by kernel_rfl) (by kernel_rfl) (fun d _ _ _ _ h => by cases d <;> exact h) ⟨HVd.out.b3.cell 2, HVd.out.em.nds, by rw [← HKy.out]; exact HVd.out.em.key hsn⟩ ?_
    apply Exists.intro
    refine ⟨?_, ?_⟩
    · intro W hW
      have d0 : ∀ x, (W x).cell? ⟨p3, 2, none⟩ = some (.slice av nv cv) := fun x => (hW x).1
      have d1 : ∀ x, (W x).cell? ⟨e, 4, none⟩ = some (.slice (some ⟨gn, 0, none⟩) s.n s.n) := fun x => (hW x).2.1
      have d2 : ∀ x, (W x).cell? ⟨gn, i * 7 + 4, none⟩ = some (.int .u64 (ky : Int)) := fun x => (hW x).2.2
      clear hW
      simp only [List.take, opsAt, List.drop, List.cons_append, List.nil_append]
      repeat (go_big_quiet_step (fail))
      exact rfl
    simp only [List.take, List.drop, opsAt, List.cons_append, List.nil_append, wpHv]
    generalize wr.drew = w5 at HVd ⊢
    clear HV
    obtain ⟨w6, hw6⟩ : ∃ w6, w5.alloc (.cells #[.int .u64 (ky : Int)] 29) = w6 := ⟨_, rfl⟩
    have HV6 : Hid (VM e gn gb s w p2 p3 v1 v2 (.slice av nv cv) (M1.map (entOf s)) (M2.map (entOf s)) ((M3.take k).map s.key) w6) := hid (by rw [← hw6]; exact HVd.out.below (nbel w5 _))
    have HNw := hid (newRow w5 [.int .u64 (ky : Int)] 29 w5.heap.size rfl)
    rw [show (w5.alloc (.cells [.int .u64 (ky : Int)].toArray 29)) = w6 from hw6] at HNw
    obtain ⟨p6, hp6⟩ : ∃ p, w5.heap.size = p := ⟨_, rfl⟩
    rw [hp6] at HNw
    have hbs : w.heap.size ≤ w6.heap.size := HV6.out.bel.size
    go_wp2_with fail
    try simp only [hw6]
    refine ⟨⟨HV6.out.b3.cell 2, HV6.out.em.nds, by rw [← HKy.out]; exact HV6.out.em.key hsn⟩, ?_⟩
    clear hw6 hp6 HVd
    go_wp2_with (at_builtin; refine stopHere ?_)
    intro _
    refine wpList_append_row _ rfl (.tmp 86) (.tmp 95) 39 rfl w.heap.size 29 iu (.int .u64 0) 1 8 Tryd.underlying39 IU.out.1 IU.out.2.1 IU.out.2.2.1 IU.out.2.2.2 rfl (by decide) (.slice av nv cv) _ _ (by simp [Act.eval, Act.put]; done) HV6.out.o3 (some ⟨p6, 0, none⟩) 1 1 (keyC ky) (by simp [Act.eval, Act.put]; done) rfl (fun h => by cases h) HNw.out (keyC_one ky) (by rw [Hlen.out]; omega) (by decide) hbs ?_
    intro v7 w7 hown7 hb7 hk7 hg7
    have HA7 := hid (⟨by have := hown7; rw [flatMap_snoc] at this; unfold OR; rw [List.length_append]; exact this, hb7, hk7, hg7⟩ : App w.heap.size 29 1 keyC (.slice av nv cv) ((M3.take k).map s.key ++ [ky]) w6 v7 w7)
    clear hown7 hb7 hk7 hg7
    obtain ⟨a7, n7, c7, h7⟩ := HA7.out.ow.shape
    subst h7
    have HB3 : Hid (Blk w7 p3 41 [v1, v2, .slice av nv cv] ∧ EM e gn gb s w7) := hid (by
      have kt : ∀ k t cs, Blk w6 k t cs → t ≠ 29 → Blk w7 k t cs := fun k t cs hb ht => hb.same (HA7.out.keep k hb.lt fun g hg e => by subst e; obtain ⟨_, c2, b2⟩ := HV6.out.o3.blk hg; exact hb.tne b2 ht rfl)
      exact ⟨kt _ _ _ HV6.out.b3 (by decide), kt _ _ _ HV6.out.em.eb (by decide), kt _ _ _ HV6.out.em.nb (by decide), kt _ _ _ HV6.out.em.bb (by decide)⟩)
    go_wp2_with fail
    refine ⟨⟨HB3.out.1.cell 2, HB3.out.2.nds, by rw [← HKy.out]; exact HB3.out.2.key hsn⟩, ?_⟩
    simp only [QN]
    have a5 : w7.cell? ⟨p3, 2, none⟩ = some (.slice av nv cv) := HB3.out.1.cell 2
    have f5 : w7.frozen? ⟨p3, 2, none⟩ = false := HB3.out.1.frozen 2
    have HV8 := hid (HV6.out.app3 HA7.out)
    obtain ⟨w8, hw8⟩ : ∃ w8, w7.setCell ⟨p3, 2, none⟩ (.slice a7 n7 c7) = w8 := ⟨_, rfl⟩
    rw [hw8] at HV8
    have e4 : w8.cell? ⟨e, 4, none⟩ = some (.slice (some ⟨gn, 0, none⟩) s.n s.n) := HV8.out.em.nds
    have n1 : w8.cell? ⟨gn, i * 7 + 1, none⟩ = some (.int .i32 y) := by rw [← HKk.out.2]; exact HV8.out.em.nxt hsn
    have HV9 : Hid (∃ k v, k ≤ M3.length ∧ y = headI (M3.drop k) ∧ VM e gn gb s w p2 p3 v1 v2 v (M1.map (entOf s)) (M2.map (entOf s)) ((M3.take k).map s.key) w8) := hid ⟨k + 1, _, hkl, Hy.out.1, by
      have h1 := HV8.out
      have h2 : (M3.take (k + 1)).map s.key = (M3.take k).map s.key ++ [ky] := by
        rw [List.take_add_one, HKk.out.1, List.map_append, ← HKy.out]; rfl
      rw [h2]
      exact h1⟩
    clear HV8 HA7 HV6 HNw Hlen HB3
    go_wp2
    exact ⟨⟨y, rfl, HV9⟩, Hy.out.2⟩
  obtain ⟨v3, hv3⟩ : ∃ v3, VM e gn gb s w p2 p3 v1 v2 v3 (M1.map (entOf s)) (M2.map (entOf s)) (M3.map s.key) wr := ⟨_, by
    have h1 := HV.out
    rw [List.take_of_length_le (show M3.length ≤ k by omega)] at h1
    exact h1⟩
  have HV3 := hid hv3
  clear hv3 HV
  rw [List.drop_eq_nil_of_le (by omega)] at hx
  have hx' : x = -1 := hx
  clear hx
  subst hx'
  have dx : ((-1 : Int) != -1) = false := by decide
  obtain ⟨w3', hw3'⟩ : ∃ w1, w1 = wr := ⟨_, rfl⟩
  subst hw3'
  clear hk hkl
  obtain ⟨a1, n1, c1, h1, r1⟩ := HV3.out.o1.row (by decide) (fun _ => rfl) (by rw [List.length_map]; omega)
  obtain ⟨a2, n2, c2, h2, r2⟩ := HV3.out.o2.row (by decide) (fun _ => rfl) (by rw [List.length_map]; omega)
  obtain ⟨a3, n3, c3, h3, r3⟩ := HV3.out.o3.row (by decide) (fun _ => rfl) (by rw [List.length_map]; omega)
  subst h1 h2 h3
  have HR := hid (And.intro r1 (And.intro r2 r3))
  have b2 := HV3.out.b2
  have b3 := HV3.out.b3
  have d0 : w3'.cell? ⟨p3, 0, none⟩ = some (.slice a1 n1 c1) := b3.cell 0
  have d1 : w3'.cell? ⟨p3, 1, none⟩ = some (.slice a2 n2 c2) := b3.cell 1
  have d2 : w3'.cell? ⟨p3, 2, none⟩ = some (.slice a3 n3 c3) := b3.cell 2
  have k1 := b2.set 0 (.slice a1 n1 c1)
  have k2 := k1.set 1 (.slice a2 n2 c2)
  have k3 := k2.set 2 (.slice a3 n3 c3)
  have f0 := b2.frozen 0
  have f1 := k1.frozen 1
  have f2 := k2.frozen 2
  have z0 := b2.cell 0
  have z1 := k1.cell 1
  have z2 := k2.cell 2
  simp only [List.set_cons_zero, List.set_cons_succ, List.getElem?_cons_zero, List.getElem?_cons_succ] at z0 z1 z2
  have HK3 := hid k3
  have HU : Hid (Upd p2 w3' (((w3'.setCell ⟨p2, 0, none⟩ (.slice a1 n1 c1)).setCell ⟨p2, 1, none⟩ (.slice a2 n2 c2)).setCell ⟨p2, 2, none⟩ (.slice a3 n3 c3))) := hid ((((Upd.refl p2 w3').setCell rfl _).setCell rfl _).setCell rfl _)
  have HF : Hid (∀ w', Upd p2 w3' w' → Below w.heap.size w w' ∧ OR w' w.heap.size 64 4 entC (.slice a1 n1 c1) ((L 1).map (entOf s)) ∧ OR w' w.heap.size 64 4 entC (.slice a2 n2 c2) ((L 2).map (entOf s)) ∧ OR w' w.heap.size 29 1 keyC (.slice a3 n3 c3) ((L 3).map s.key)) := hid (fun w' hu => by
    rw [HM.out.1, HM.out.2.1, HM.out.2.2]
    have hb := hu.below HV3.out.g2 HV3.out.bel.size
    have o1 := HV3.out.o1.keep (w' := w') (fun g hg => hu.block g (HV3.out.o1.lt hg) (fun e => by obtain ⟨_, cs, hb⟩ := HV3.out.o1.blk hg; exact hb.tne HV3.out.b2 (by decide) e))
    have o2 := HV3.out.o2.keep (w' := w') (fun g hg => hu.block g (HV3.out.o2.lt hg) (fun e => by obtain ⟨_, cs, hb⟩ := HV3.out.o2.blk hg; exact hb.tne HV3.out.b2 (by decide) e))
    have o3 := HV3.out.o3.keep (w' := w') (fun g hg => hu.block g (HV3.out.o3.lt hg) (fun e => by obtain ⟨_, cs, hb⟩ := HV3.out.o3.blk hg; exact hb.tne HV3.out.b2 (by decide) e))
    exact ⟨HV3.out.bel.trans hb, o1, o2, o3⟩)
  have HFF := hid (HF.out _ HU.out)
  have I := hid info_view
  clear b2 b3 k1 k2 k3 HR HV3 HF HU r1 r2 r3
  go_wp2
  refine bodyPost_ret (results_blk (cs := [.slice a1 n1 c1, .slice a2 n2 c2, .slice a3 n3 c3]) Tryd.results12 rfl I.out HK3.out) rfl ?_
  exact ⟨a1, n1, c1, a2, n2, c2, a3, n3, c3, rfl, HFF⟩
end
end Go.Proofs.Qxb6500892aDoor
