/- The law's matching: pair. -/
import Derived.Test.Qxb6500889aDoorMuA1
import Derived.Test.Qxb6500889aDoorMapE
import Derived.Test.Qxb6500889aDoorMapI
namespace Go.Proofs.Qxb6500889aDoor
open Go.RowKit
set_option linter.unusedSimpArgs false
set_option linter.unusedVariables false
theorem und_int : Tryd.prog.underlying 3 = some (.int .i64) := Tryd.underlying3
theorem zero_int (w : World) : (zeroValue 3).run Tryd.prog w = .ok (.int .i64 0) w := by kernel_rfl
theorem zero_addr (w : World) : (zeroValue 50).run Tryd.prog w = .ok (.int .u64 0) w := by kernel_rfl
/-- The matching in memory: S are the addresses paired so far, D those that wait. -/
structure Mch (xs : List XBk) (base pB i1 i2 : Nat) (φ : Nat → Nat) (v : Value) (S D : List Nat) (w : World) : Prop where
  bk : Blk w pB 145 [.map (some i1), .map (some i2), v]
  m1 : ∃ E, PN w i1 E ∧ E.map (·.k) = S ∧ ∀ e ∈ E, e.v = .int .i64 (φ e.k : Int)
  m2 : ∃ E, IK.PN w i2 E ∧ E.map (fun e => (e.k, e.v)) = S.map (fun a => (φ a, Value.int .u64 (a : Int)))
  own : w.ownsRow base 50 1 v D.length (aC D)
  lo : base ≤ pB ∧ base ≤ i1 ∧ base ≤ i2
  ne : i1 ≠ i2 ∧ pB ≠ i1 ∧ pB ≠ i2
  dj : ∀ g, v.ownBlock = some g → g ≠ pB ∧ g ≠ i1 ∧ g ≠ i2
  bl : ∀ x ∈ xs, Blk w x.1 x.2.1 x.2.2 ∧ (x.1 ≠ pB ∧ x.1 ≠ i1 ∧ x.1 ≠ i2) ∧ v.ownBlock ≠ some x.1
section
variable {xs : List XBk} {w w' : World} {base pB i1 i2 : Nat} {φ : Nat → Nat} {v : Value} {S D : List Nat}
theorem own_shape3 {n : Nat} {cs : List Value} (h : w.ownsRow base 50 1 v n cs) : ∃ a k, v = .slice a n k := by
  rcases h.2 with ⟨rfl, h0⟩ | ⟨g, cap, cur, rfl, _⟩
  · rw [h0]; exact ⟨none, 0, rfl⟩
  · exact ⟨_, _, rfl⟩
theorem Mch.below (h : Mch xs base pB i1 i2 φ v S D w) (hb : Below w.heap.size w w') : Mch xs base pB i1 i2 φ v S D w' := by
  obtain ⟨E1, h1, h2⟩ := h.m1
  obtain ⟨E2, h3, h4⟩ := h.m2
  exact ⟨h.bk.below hb, ⟨E1, h1.below hb, h2⟩, ⟨E2, h3.below hb, h4⟩, own_below h.own hb, h.lo, h.ne, h.dj, fun x hx => ⟨(h.bl x hx).1.below hb, (h.bl x hx).2⟩⟩
theorem Mch.seen (h : Mch xs base pB i1 i2 φ v S D w) {a : Nat} (ha : a ∈ S) : (Instr.lookup 142 (.map (some i1)) (.int .u64 (a : Int)) true).run Tryd.prog w = .ok (.tuple #[.int .i64 (φ a : Int), .bool true]) w := by
  obtain ⟨E, h1, h2, h3⟩ := h.m1
  rw [← h2] at ha
  obtain ⟨e, he, rfl⟩ := List.mem_map.1 ha
  have := h1.lookT (P := Tryd.prog) Tryd.underlying142 und_addr he
  rw [h3 e he] at this
  exact this
theorem Mch.seen1 (h : Mch xs base pB i1 i2 φ v S D w) {a : Nat} (ha : a ∈ S) : (Instr.lookup 142 (.map (some i1)) (.int .u64 (a : Int)) false).run Tryd.prog w = .ok (.int .i64 (φ a : Int)) w := by
  obtain ⟨E, h1, h2, h3⟩ := h.m1
  rw [← h2] at ha
  obtain ⟨e, he, rfl⟩ := List.mem_map.1 ha
  have := h1.look (P := Tryd.prog) Tryd.underlying142 und_addr he
  rw [h3 e he] at this
  exact this
theorem Mch.back (h : Mch xs base pB i1 i2 φ v S D w) {a : Nat} (ha : a ∈ S) : (Instr.lookup 143 (.map (some i2)) (.int .i64 (φ a : Int)) true).run Tryd.prog w = .ok (.tuple #[.int .u64 (a : Int), .bool true]) w := by
  obtain ⟨E, h1, h2⟩ := h.m2
  have hm : (φ a, Value.int .u64 (a : Int)) ∈ E.map (fun e => (e.k, e.v)) := by rw [h2]; exact List.mem_map.2 ⟨a, ha, rfl⟩
  obtain ⟨e, he, hee⟩ := List.mem_map.1 hm
  have k1 : e.k = φ a := congrArg Prod.fst hee
  have k2 : e.v = Value.int .u64 (a : Int) := congrArg Prod.snd hee
  have := h1.lookT (P := Tryd.prog) Tryd.underlying143 und_int he
  rw [k1, k2] at this
  exact this
/-- What pair leaves. -/
structure Pad (xs : List XBk) (base pB i1 i2 : Nat) (φ : Nat → Nat) (S D : List Nat) (a : Nat) (w w' : World) : Prop where
  bel : Below base w w'
  mch : ∃ v', Mch xs base pB i1 i2 φ v' (if a = 0 ∨ a ∈ S then S else S ++ [a]) (if a = 0 ∨ a ∈ S then D else D ++ [a]) w'
set_option maxRecDepth 1000000 in
set_option maxHeartbeats 4000000 in
theorem pair_walk (h : Mch xs base pB i1 i2 φ v S D w) (a : Nat) (h0 : φ 0 = 0) (hin : a ≠ 0 → 1 ≤ φ a ∧ ∀ b ∈ S, φ b = φ a → b = a) (hdl : D.length ≤ 1000000) :
    Calls Tryd.prog 63 #[.pointer (some ⟨pB, 0, none⟩), .int .u64 (a : Int), .int .i64 (φ a : Int)] w fun e w' => e = .returned (.bool true) ∧ Pad xs base pB i1 i2 φ S D a w w' := by
  by_cases hz : a = 0
  · as_aux_lemma =>
    have HP : Hid (Pad xs base pB i1 i2 φ S D a w w) := hid ⟨Below.refl _ _, v, by rw [if_pos (.inl hz), if_pos (.inl hz)]; exact h⟩
    rw [hz] at HP ⊢
    rw [h0]
    clear h hin hz
    go_enter Tryd.func63, Tryd.ntmps63
    go_wp2
    go_ret
    exact ⟨rfl, HP.out⟩
  obtain ⟨hi1, hi2⟩ := hin hz
  obtain ⟨f, hf⟩ : ∃ f, φ a = f := ⟨_, rfl⟩
  have Hf := hid hf
  have cp0 := h.bk.cell 0
  have cp1 := h.bk.cell 1
  have cp2 := h.bk.cell 2
  have d1 : ((a : Int) == 0) = false := by simp; omega
  have d2 : ((f : Int) == 0) = false := by simp; omega
  by_cases hs : a ∈ S
  · as_aux_lemma =>
    have HP : Hid (Pad xs base pB i1 i2 φ S D a w w) := hid ⟨Below.refl _ _, v, by rw [if_pos (.inr hs), if_pos (.inr hs)]; exact h⟩
    have l1 := h.seen hs
    have l2 := h.back hs
    rw [hf] at l1 l2 ⊢
    clear h hf hi1 hi2 hz hs cp2
    go_enter Tryd.func63, Tryd.ntmps63
    go_wp2
    go_ret
    exact ⟨rfl, HP.out⟩
  as_aux_lemma =>
  obtain ⟨E1, e1, e2, e3⟩ := h.m1
  obtain ⟨E2, k1, k2⟩ := h.m2
  have n1 : ∀ e ∈ E1, e.k ≠ a := fun e he hek => hs (by rw [← e2, ← hek]; exact List.mem_map_of_mem he)
  have n2 : ∀ e ∈ E2, e.k ≠ f := fun e he hek => by
    have hm : (e.k, e.v) ∈ S.map (fun a => (φ a, Value.int .u64 (a : Int))) := by rw [← k2]; exact List.mem_map.2 ⟨e, he, rfl⟩
    obtain ⟨b, hb, hbe⟩ := List.mem_map.1 hm
    injection hbe with t1 t2
    exact hs (by rw [← hi2 b hb (by rw [t1, hek, hf])]; exact hb)
  have l1 := e1.lookTZ (P := Tryd.prog) Tryd.underlying142 und_addr n1 zero_int
  have l2 := k1.lookTZ (P := Tryd.prog) Tryd.underlying143 und_int n2 zero_addr
  rw [hf]
  have HM := hid h
  have HE1 := hid (And.intro e1 (And.intro e2 e3))
  have HE2 := hid (And.intro k1 k2)
  have Hn1 := hid n1
  have Hn2 := hid n2
  have Hhs := hid hs
  have Hz := hid hz
  have Hdl := hid hdl
  clear h hf hi1 hi2 hz hs e1 e2 e3 k1 k2 n1 n2 hdl
  go_enter Tryd.func63, Tryd.ntmps63
  go_upto_region 7 with fail
  refine wp_region_heavy (fun wz => wz.cell? ⟨pB, 0, none⟩ = some (.map (some i1)) ∧ wz.cell? ⟨pB, 1, none⟩ = some (.map (some i2))) 18 [0, 1, 2, 3, 4, 5, 6, 7, 8, 9, 10, 11] [12, 13, 14, 15, 16, 17] rfl (by kernel_rfl) (by kernel_rfl) (fun d _ _ _ _ h => by cases d <;> exact h) ⟨cp0, cp1⟩ ?_
  apply Exists.intro
  refine ⟨?_, ?_⟩
  · intro W hW
    have q0 := fun x => (hW x).1
    have q1 := fun x => (hW x).2
    clear hW
    simp only [List.take, opsAt, List.drop, List.cons_append, List.nil_append]
    repeat (go_big_quiet_step (fail))
    exact rfl
  simp only [List.take, List.drop, opsAt, List.cons_append, List.nil_append, wpHv]
  have HBw : Hid (Below w.heap.size w w.drew) := hid (Drew.below ⟨1, rfl⟩ _)
  generalize w.drew = wd at HBw ⊢
  have HMd := hid (HM.out.below HBw.out)
  obtain ⟨w2, b2, hme2, hpn2, hu2, hst2⟩ := (HE1.out.1.below HBw.out).entry (P := Tryd.prog) Tryd.underlying142 und_addr a Hn1.out zero_int
  obtain ⟨w3, hes3, hpn3, hu3⟩ := hst2 w2 (.int .i64 (f : Int)) rfl
  obtain ⟨w4, b4, hme4, hpn4, hu4, hst4⟩ := (((HE2.out.1.below HBw.out).upd hu2 (fun e => HM.out.ne.1 e.symm)).upd hu3 (fun e => HM.out.ne.1 e.symm)).entry (P := Tryd.prog) Tryd.underlying143 und_int f Hn2.out zero_addr
  obtain ⟨w5, hes5, hpn5, hu5⟩ := hst4 w4 (.int .u64 (a : Int)) rfl
  have hpn1 : PN w5 i1 (E1 ++ [⟨a, .int .i64 (f : Int), b2⟩]) := (hpn3.upd hu4 HM.out.ne.1).upd hu5 HM.out.ne.1
  have hb2 := HMd.out.bk.upd hu2 HM.out.ne.2.1
  have hb3 := hb2.upd hu3 HM.out.ne.2.1
  have hb4 := hb3.upd hu4 HM.out.ne.2.2
  have HC2 : Hid (w2.cell? ⟨pB, 0, none⟩ = some (.map (some i1)) ∧ w2.cell? ⟨pB, 1, none⟩ = some (.map (some i2))) := hid ⟨hb2.cell 0, hb2.cell 1⟩
  have HC3 : Hid (w3.cell? ⟨pB, 0, none⟩ = some (.map (some i1)) ∧ w3.cell? ⟨pB, 1, none⟩ = some (.map (some i2))) := hid ⟨hb3.cell 0, hb3.cell 1⟩
  have HC4 : Hid (w4.cell? ⟨pB, 0, none⟩ = some (.map (some i1)) ∧ w4.cell? ⟨pB, 1, none⟩ = some (.map (some i2))) := hid ⟨hb4.cell 0, hb4.cell 1⟩
  have hbk5 : Blk w5 pB 145 [.map (some i1), .map (some i2), v] := (((HMd.out.bk.upd hu2 HM.out.ne.2.1).upd hu3 HM.out.ne.2.1).upd hu4 HM.out.ne.2.2).upd hu5 HM.out.ne.2.2
  have hown5 := own_upd2 (own_upd2 (own_upd2 (own_upd2 HMd.out.own hu2 (fun g hg => (HM.out.dj g hg).2.1)) hu3 (fun g hg => (HM.out.dj g hg).2.1)) hu4 (fun g hg => (HM.out.dj g hg).2.2)) hu5 (fun g hg => (HM.out.dj g hg).2.2)
  have hsz : base ≤ wd.heap.size := by have := HM.out.lo.1; have := HMd.out.bk.lt; omega
  have hB5 : Below base w w5 := ((((HBw.out.mono (by have := HM.out.lo.1; have := HM.out.bk.lt; omega)).trans (hu2.below HM.out.lo.2.1 hsz)).trans (hu3.below HM.out.lo.2.1 (by have := hu2.size; omega))).trans (hu4.below HM.out.lo.2.2 (by have := hu2.size; have := hu3.size; omega))).trans (hu5.below HM.out.lo.2.2 (by have := hu2.size; have := hu3.size; have := hu4.size; omega))
  have HX5 : Hid (∀ x ∈ xs, Blk w5 x.1 x.2.1 x.2.2) := hid (fun x hx => by
    obtain ⟨t1, ⟨t2, t3, t4⟩, t5⟩ := HMd.out.bl x hx
    exact (((t1.upd hu2 t3).upd hu3 t3).upd hu4 t4).upd hu5 t4)
  have HB5 := hid hB5
  have HPn1 := hid hpn1
  have HPn5 := hid hpn5
  have HBk5 := hid hbk5
  have HC5 : Hid (w5.cell? ⟨pB, 0, none⟩ = some (.map (some i1)) ∧ w5.cell? ⟨pB, 1, none⟩ = some (.map (some i2))) := hid ⟨hbk5.cell 0, hbk5.cell 1⟩
  have HOwn5 := hid hown5
  have hs5 : base ≤ w5.heap.size := by have := HM.out.lo.1; have := hbk5.lt; omega
  clear hb2 hb3 hb4 hpn2 hu2 hst2 hpn3 hu3 hpn4 hu4 hst4 hpn5 hu5 hpn1 hbk5 hown5 hsz HMd cp0 cp1 cp2 l1 l2 hB5
  go_wp2_with fail
  refine ⟨HC2.out, ?_⟩
  go_wp2_with fail
  refine ⟨HC2.out, ?_⟩
  go_wp2_with fail
  refine ⟨HC3.out, ?_⟩
  go_wp2_with fail
  refine ⟨HC4.out, ?_⟩
  go_wp2_with fail
  refine ⟨HC4.out, ?_⟩
  go_wp2_with fail
  refine ⟨HC5.out, ?_⟩
  simp only [QN]
  go_upto_region 8 with fail
  clear hme2 hes3 hme4 hes5 HC2 HC3 HC4 HC5
  have c2 := HBk5.out.cell 2
  have f2 := HBk5.out.frozen 2
  obtain ⟨va, vk, hv⟩ := own_shape HOwn5.out
  obtain ⟨n, hn⟩ : ∃ n, D.length = n := ⟨_, rfl⟩
  have HOw := hid (own_below HOwn5.out (nbel w5 (.cells #[.int .u64 (a : Int)] 50)))
  have Hv := hid hv
  rw [hn] at hv HOw
  subst hv
  have Hn := hid hn
  obtain ⟨ii, hii0, hz0, hz1, hz2⟩ := info_addr
  have hbb : (n + 1) * 8 ≤ 140737488355328 := by have := Hdl.out; omega
  have hgl : (aC [a]).length = 1 * 1 := by rw [aC_len]; rfl
  have hbs : base ≤ (w5.alloc (.cells #[.int .u64 (a : Int)] 50)).heap.size := by simp; omega
  have HNws := hid (newA w5 a w5.heap.size rfl)
  have HIn := hid (And.intro hii0 (And.intro hz0 (And.intro hz1 hz2)))
  have c2' : w5.cell? ⟨pB, 2, none⟩ = some (.slice va n vk) := c2
  have HF : Hid (∀ w8 : World, (∀ k, k < (w5.alloc (.cells #[.int .u64 (a : Int)] 50)).heap.size → (∀ g, (Value.slice va n vk).ownBlock = some g → k ≠ g) → w8.heap[k]? = (w5.alloc (.cells #[.int .u64 (a : Int)] 50)).heap[k]?) → ((∀ j, j < w5.heap.size → (∀ g, (Value.slice va n vk).ownBlock = some g → g ≠ j) → w8.heap[j]? = w5.heap[j]?) ∧ w8.heap[pB]? = w5.heap[pB]? ∧ w8.heap[i1]? = w5.heap[i1]? ∧ w8.heap[i2]? = w5.heap[i2]?) ∧ w8.cell? ⟨pB, 2, none⟩ = some (.slice va n vk) ∧ w8.frozen? ⟨pB, 2, none⟩ = false) := hid (fun w8 hk => by
    have hb := nbel w5 (.cells #[.int .u64 (a : Int)] 50)
    have kk : ∀ j, j < w5.heap.size → (∀ g, (Value.slice va n vk).ownBlock = some g → g ≠ j) → w8.heap[j]? = w5.heap[j]? := fun j hj hg => (hk j (Nat.lt_of_lt_of_le hj hb.size) (fun g h1 e => hg g h1 e.symm)).trans (hb.block j hj)
    have e1 := kk pB HBk5.out.lt (fun g hg => (HM.out.dj g hg).1)
    refine ⟨⟨kk, e1, kk i1 HPn1.out.lt (fun g hg => (HM.out.dj g hg).2.1), kk i2 HPn5.out.lt (fun g hg => (HM.out.dj g hg).2.2)⟩, ?_, ?_⟩
    · rw [World.cell?_of_block e1]; exact c2'
    · rw [World.frozen?_of_block e1]; exact f2)
  clear hn hii0 hz0 hz1 hz2 c2
  go_wp2_with (at_builtin; refine wpList_append_row _ rfl (.tmp 79) (.tmp 81) 80 rfl base 50 ii (.int .u64 0) 1 8 Tryd.underlying80 HIn.out.1 HIn.out.2.1 HIn.out.2.2.1 HIn.out.2.2.2 rfl (by decide) _ _ _ rfl HOw.out (some ⟨w5.heap.size, 0, none⟩) 1 1 (aC [a]) rfl hgl (fun h => by cases h) HNws.out (aC_one _) hbb (by decide) hbs ?_; intro v8 w8 hO8 hB8 hK8 hG8; obtain ⟨HFa, c8, f8⟩ := HF.out w8 hK8; obtain ⟨a8, k8, h8⟩ := own_shape3 hO8; subst h8)
  go_ret
  refine ⟨rfl, ?_⟩
  have hor : ¬ (a = 0 ∨ a ∈ S) := fun h => h.elim Hz.out Hhs.out
  have hu9 : Upd pB w8 (w8.setCell ⟨pB, 2, none⟩ (.slice a8 (n + 1) k8)) := (Upd.refl pB w8).setCell (p := ⟨pB, 2, none⟩) rfl _
  have hbk8 := HBk5.out.of HFa.2.1
  have hown8 : w8.ownsRow base 50 1 (.slice a8 (n + 1) k8) (D ++ [a]).length (aC (D ++ [a])) := by
    rw [List.length_append, Hn.out]
    have e : aC (D ++ [a]) = aC D ++ aC [a] := by simp [aC]
    rw [e]
    exact hO8
  have hdj : ∀ g, (Value.slice a8 (n + 1) k8).ownBlock = some g → g ≠ pB ∧ g ≠ i1 ∧ g ≠ i2 := fun g hg => by
    rcases hG8 g hg with h1 | h1
    · exact HM.out.dj g h1
    · have e := HBk5.out.lt
      have e1 := HPn1.out.lt
      have e2 := HPn5.out.lt
      simp at h1
      omega
  refine ⟨(((HB5.out.trans ((nbel w5 _).mono hs5)).trans hB8).trans (hu9.below HM.out.lo.1 (Nat.le_trans hbs hB8.size))), .slice a8 (n + 1) k8, ?_⟩
  rw [if_neg hor, if_neg hor]
  refine ⟨?_, ⟨_, (HPn1.out.of HFa.2.2.1).upd hu9 (fun e => HM.out.ne.2.1 e.symm), ?_, ?_⟩, ⟨_, (HPn5.out.of HFa.2.2.2).upd hu9 (fun e => HM.out.ne.2.2 e.symm), ?_⟩, own_upd2 hown8 hu9 (fun g hg => (hdj g hg).1), HM.out.lo, HM.out.ne, hdj, fun x hx => ?_⟩
  · exact hbk8.set 2 (.slice a8 (n + 1) k8)
  · rw [List.map_append, HE1.out.2.1]; rfl
  · intro e he
    rcases List.mem_append.1 he with h1 | h1
    · exact HE1.out.2.2 e h1
    · simp at h1; subst h1; show _ = Value.int .i64 ((φ a : Nat) : Int); rw [Hf.out]
  · rw [List.map_append, List.map_append, HE2.out.2]
    simp [Hf.out]
  · obtain ⟨t1, t2, t3⟩ := HM.out.bl x hx
    have h5 := HX5.out x hx
    refine ⟨(h5.of (HFa.1 x.1 h5.lt (fun g hg e => t3 (by rw [← e]; exact hg)))).upd hu9 t2.1, t2, fun hv => ?_⟩
    rcases hG8 x.1 hv with h1 | h1
    · exact t3 h1
    · have := h5.lt
      simp at h1
      omega
end
end Go.Proofs.Qxb6500889aDoor
