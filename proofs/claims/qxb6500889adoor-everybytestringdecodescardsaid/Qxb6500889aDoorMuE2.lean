/- Scripts as bytes: the reader. -/
import Derived.Test.Qxb6500889aDoorMuE1
import Derived.Test.Qxb6500889aDoorMuR2
namespace Go.Proofs.Qxb6500889aDoor
open Go.RowKit
set_option linter.unusedSimpArgs false
set_option linter.unusedVariables false
/-- A row of bytes. -/
structure Rd (w : World) (a : Option Addr) (n c : Nat) (l : List Nat) : Prop where
  len : l.length = n
  byt : By l
  bnd : n ≤ 100000000000
  cap : n ≤ c
  cell : ∀ (i b : Nat), l[i]? = some b → ∃ g off, a = some ⟨g, off, none⟩ ∧ g < w.heap.size ∧ w.cell? ⟨g, off + i, none⟩ = some (.int .u8 (b : Int))
/-- The reader at place k of the row. -/
structure RB (w0 w : World) (rB : Nat) (a : Option Addr) (n c : Nat) (l : List Nat) (k : Nat) : Prop where
  rd : Rd w0 a n c l
  bel : Below w0.heap.size w0 w
  lo : w0.heap.size ≤ rB
  blk : Blk w rB 95 [.slice a n c, .int .i64 (k : Int)]
  hk : k ≤ n
section
variable {w0 w w' w'' : World} {rB : Nat} {a : Option Addr} {n c : Nat} {l r : List Nat} {k : Nat}
theorem Rd.below (h : Rd w a n c l) (hb : Below w.heap.size w w') : Rd w' a n c l := ⟨h.len, h.byt, h.bnd, h.cap, fun i b hi => by
  obtain ⟨g, off, h1, h2, h3⟩ := h.cell i b hi
  exact ⟨g, off, h1, Nat.lt_of_lt_of_le h2 hb.size, by rw [World.cell?_of_block (hb.block g h2)]; exact h3⟩⟩
theorem RB.drew (h : RB w0 w rB a n c l k) (hd : Drew w w') : RB w0 w' rB a n c l k := ⟨h.rd, h.bel.trans ((hd.below _).mono h.bel.size), h.lo, h.blk.drew hd, h.hk⟩
/-- What a reading leaves. -/
def RN (w0 w w' : World) (rB : Nat) (a : Option Addr) (n c : Nat) (l r : List Nat) : Prop := ∃ k, RB w0 w' rB a n c l k ∧ Upd rB w w' ∧ l.drop k = r
theorem RN.stay (h : RB w0 w rB a n c l k) (hd : Drew w w') : RN w0 w w' rB a n c l (l.drop k) := ⟨k, h.drew hd, (Upd.refl rB w).drew hd, rfl⟩
set_option maxRecDepth 1000000 in
set_option maxHeartbeats 4000000 in
theorem more_walk (h : RB w0 w rB a n c l k) : Calls Tryd.prog 29 #[.pointer (some ⟨rB, 0, none⟩)] w fun e w' => e = .returned (.bool (decide (k < n))) ∧ Drew w w' := by
  have HB := hid h.blk
  have hb1 := h.rd.bnd
  have hk1 := h.hk
  clear h
  go_enter Tryd.func29, Tryd.ntmps29
  go_upto_region 1 with fail
  refine wp_region_heavy (fun wy => Blk wy rB 95 [.slice a n c, .int .i64 (k : Int)]) 11 (List.range 11) [] rfl (by kernel_rfl) (by kernel_rfl) (fun d _ _ _ _ h => by cases d <;> exact h) (HB.out.drew ⟨1, rfl⟩) ?_
  apply Exists.intro
  refine ⟨?_, ?_⟩
  · intro W hW
    have q0 : ∀ x, (W x).cell? ⟨rB, 0, none⟩ = some (.slice a n c) := fun x => (hW x).cell 0
    have q1 : ∀ x, (W x).cell? ⟨rB, 1, none⟩ = some (.int .i64 (k : Int)) := fun x => (hW x).cell 1
    clear hW
    simp only [List.take, opsAt, List.drop, List.cons_append, List.nil_append, List.range, List.range.loop]
    repeat (go_big_quiet_step (fail))
    exact rfl
  simp only [List.take, List.drop, opsAt, List.cons_append, List.nil_append, wpHv, QN]
  have hd : Drew w w.drew := ⟨1, rfl⟩
  generalize w.drew = wd at hd ⊢
  go_wp2
  go_ret
  exact ⟨by simp, hd⟩
theorem RB.step (h : RB w0 w rB a n c l k) (hk : k < n) : RB w0 (w.setCell ⟨rB, 1, none⟩ (.int .i64 ((k : Int) + 1))) rB a n c l (k + 1) := by
  have hu : Upd rB w (w.setCell ⟨rB, 1, none⟩ (.int .i64 ((k : Int) + 1))) := (Upd.refl rB w).setCell rfl _
  exact ⟨h.rd, h.bel.trans (hu.below h.lo h.bel.size), h.lo, h.blk.set 1 _, hk⟩
theorem nx_drop {i b : Nat} (h : l[i]? = some b) : l.drop i = b :: l.drop (i + 1) := by
  obtain ⟨h1, h2⟩ := List.getElem?_eq_some_iff.1 h
  rw [← h2]
  exact List.drop_eq_getElem_cons h1
set_option maxRecDepth 1000000 in
set_option maxHeartbeats 4000000 in
theorem next_walk (h : RB w0 w rB a n c l k) : Calls Tryd.prog 30 #[.pointer (some ⟨rB, 0, none⟩)] w fun e w' => e = .returned (.int .u8 ((nx (l.drop k)).1 : Int)) ∧ RN w0 w w' rB a n c l (nx (l.drop k)).2 := by
  have HM := hid (more_walk h)
  have H := hid h
  have hb1 := h.rd.bnd
  have hk1 := h.hk
  by_cases hkn : k < n
  rotate_left
  · have hd : l.drop k = [] := List.drop_eq_nil_of_le (by rw [h.rd.len]; omega)
    rw [hd]
    show Calls _ _ _ _ fun e w' => e = .returned (.int .u8 0) ∧ RN w0 w w' rB a n c l []
    have Hd := hid hd
    rw [decide_eq_false hkn] at HM
    clear h hd
    go_enter Tryd.func30, Tryd.ntmps30
    go_wp2_with fail
    refine HM.out.mono ?_
    rintro e w1 ⟨rfl, hd1⟩
    have HR : Hid (RN w0 w w1 rB a n c l []) := hid (by have := RN.stay H.out hd1; rw [Hd.out] at this; exact this)
    clear hd1 HM
    go_wp2
    go_ret
    exact ⟨rfl, HR.out⟩
  · obtain ⟨b, hb⟩ : ∃ b, l[k]? = some b := ⟨_, List.getElem?_eq_getElem (by rw [h.rd.len]; exact hkn)⟩
    rw [nx_drop hb]
    show Calls _ _ _ _ fun e w' => e = .returned (.int .u8 (b : Int)) ∧ RN w0 w w' rB a n c l (l.drop (k + 1))
    rw [decide_eq_true hkn] at HM
    obtain ⟨g, off, rfl, hg, hc⟩ := h.rd.cell k b hb
    have Hc : Hid (∀ wy, Below w0.heap.size w0 wy → wy.cell? ⟨g, off + k, none⟩ = some (.int .u8 (b : Int))) := hid (fun wy hy => by rw [World.cell?_of_block (hy.block g hg)]; exact hc)
    have ik : (k : Int) < (n : Int) := by omega
    clear h hb hc hg
    go_enter Tryd.func30, Tryd.ntmps30
    go_wp2_with fail
    refine HM.out.mono ?_
    rintro e w1 ⟨rfl, hd1⟩
    have H1 := hid (H.out.drew hd1)
    have Hd := hid hd1
    clear HM hd1
    go_upto_region 3 with fail
    refine wp_region_heavy (fun wy => Blk wy rB 95 [.slice (some ⟨g, off, none⟩) n c, .int .i64 (k : Int)] ∧ wy.cell? ⟨g, off + k, none⟩ = some (.int .u8 (b : Int))) 11 (List.range 11) [] rfl (by kernel_rfl) (by kernel_rfl) (fun d _ _ _ _ h => by cases d <;> exact h) ⟨H1.out.blk.drew ⟨1, rfl⟩, Hc.out _ (H1.out.drew ⟨1, rfl⟩).bel⟩ ?_
    apply Exists.intro
    refine ⟨?_, ?_⟩
    · intro W hW
      have q0 : ∀ x, (W x).cell? ⟨rB, 0, none⟩ = some (.slice (some ⟨g, off, none⟩) n c) := fun x => (hW x).1.cell 0
      have q1 : ∀ x, (W x).cell? ⟨rB, 1, none⟩ = some (.int .i64 (k : Int)) := fun x => (hW x).1.cell 1
      have q2 := fun x => (hW x).2
      clear hW
      simp only [List.take, opsAt, List.drop, List.cons_append, List.nil_append, List.range, List.range.loop]
      repeat (go_big_quiet_step (fail))
      exact rfl
    simp only [List.take, List.drop, opsAt, List.cons_append, List.nil_append, wpHv, QN]
    have H2 : Hid (RB w0 w1.drew rB (some ⟨g, off, none⟩) n c l k ∧ Drew w w1.drew) := hid ⟨H1.out.drew ⟨1, rfl⟩, Hd.out.trans ⟨1, rfl⟩⟩
    generalize w1.drew = w2 at H2 ⊢
    clear H1 Hd
    have c1 : w2.cell? ⟨rB, 1, none⟩ = some (.int .i64 (k : Int)) := H2.out.1.blk.cell 1
    have f1 : w2.frozen? ⟨rB, 1, none⟩ = false := H2.out.1.blk.frozen 1
    go_wp2
    go_ret
    exact ⟨rfl, k + 1, H2.out.1.step hkn, ((Upd.refl rB w).drew H2.out.2).setCell rfl _, rfl⟩
theorem or_place {v b i : Nat} (hv : v < 256 ^ i) (hb : b < 256) (hi : i < 8) : bits .or .u64 (v : Int) (IntKind.u64.wrap ((b : Int) * 2 ^ (8 * i))) = ((v + 256 ^ i * b : Nat) : Int) := by
  have hp : (256 : Nat) ^ i = 2 ^ (8 * i) := by rw [Nat.pow_mul]
  have hm : (256 : Nat) ^ i ≤ 256 ^ 7 := Nat.pow_le_pow_right (by omega) (by omega)
  have hx : b * 256 ^ i < 18446744073709551616 := by
    have := Nat.mul_le_mul (Nat.le_of_lt_succ hb) hm
    exact Nat.lt_of_le_of_lt this (by decide)
  have hv2 : v < 18446744073709551616 := Nat.lt_of_lt_of_le hv (Nat.le_trans hm (by decide))
  have e : (b : Int) * 2 ^ (8 * i) = ((b * 256 ^ i : Nat) : Int) := by rw [hp, Int.natCast_mul, Int.natCast_pow]; rfl
  rw [e, IntKind.wrap_u64, Int.emod_eq_of_lt (Int.natCast_nonneg _) (by omega), u64_or _ _ (Int.natCast_nonneg _) (by omega) (Int.natCast_nonneg _) (by omega)]
  rw [Int.toNat_natCast, Int.toNat_natCast, Nat.or_comm, nat_join (8 * i) (b * 256 ^ i) v (by rw [hp]; exact Nat.mul_mod_left _ _) (by rw [← hp]; exact hv), Nat.mul_comm, Nat.add_comm]
theorem wd_snoc (i : Nat) : ∀ l : List Nat, wd (i + 1) l = ((wd i l).1 + 256 ^ i * (nx (wd i l).2).1, (nx (wd i l).2).2) := by
  induction i with
  | zero => intro l; simp [wd]
  | succ i ih =>
    intro l
    rw [wd, ih (nx l).2]
    simp only [wd, Prod.mk.injEq, and_true]
    rw [Nat.pow_succ', Nat.mul_add, Nat.mul_assoc]
    omega
theorem Below.by {l : List Nat} (h : By l) (k : Nat) : By (l.drop k) := fun b hb => h b (List.mem_of_mem_drop hb)
theorem RN.trans {r' : List Nat} (h : RN w0 w w' rB a n c l r) (k : ∀ k, RB w0 w' rB a n c l k → l.drop k = r → RN w0 w' w'' rB a n c l r') : RN w0 w w'' rB a n c l r' := by
  obtain ⟨k1, h1, h2, h3⟩ := h
  obtain ⟨k2, h4, h5, h6⟩ := k k1 h1 h3
  exact ⟨k2, h4, h2.trans h5, h6⟩
set_option maxRecDepth 1000000 in
set_option maxHeartbeats 4000000 in
theorem wide_walk (h : RB w0 w rB a n c l k) (m : Nat) (hm : m ≤ 8) : Calls Tryd.prog 46 #[.pointer (some ⟨rB, 0, none⟩), .int .i64 (m : Int)] w fun e w' => e = .returned (.int .u64 ((wd m (l.drop k)).1 : Int)) ∧ RN w0 w w' rB a n c l (wd m (l.drop k)).2 := by
  obtain ⟨s, hs⟩ : ∃ s, l.drop k = s := ⟨_, rfl⟩
  have hby : By s := by rw [← hs]; exact Below.by h.rd.byt k
  have H0 : Hid (RN w0 w w rB a n c l s) := hid ⟨k, h, Upd.refl _ _, hs⟩
  rw [hs]
  clear h hs
  go_enter Tryd.func46, Tryd.ntmps46
  go_wp2_with fail
  go_loopw [5, 6] (fun v v2 wr => ∃ i : Nat, i ≤ m ∧ v = .int .u64 ((wd i s).1 : Int) ∧ v2 = .int .i64 (i : Int) ∧ Hid (RN w0 w wr rB a n c l (wd i s).2)) (fun _ v2 _ => m - (intOf v2).toNat)
  case atStart => exact ⟨0, by omega, rfl, rfl, H0⟩
  case round =>
  clear H0
  obtain ⟨i, hi, rfl, rfl, HR⟩ := hrel
  by_cases him : i < m
  rotate_left
  · have di : decide ((i : Int) < (m : Int)) = false := decide_eq_false (by omega)
    have e : i = m := by omega
    subst e
    go_wp2
    go_ret
    exact ⟨rfl, HR.out⟩
  have di : decide ((i : Int) < (m : Int)) = true := decide_eq_true (by omega)
  obtain ⟨k1, h1, h2, h3⟩ := HR.out
  have HN := hid (next_walk h1)
  rw [h3] at HN
  obtain ⟨v, hv⟩ : ∃ v, (wd i s).1 = v := ⟨_, rfl⟩
  obtain ⟨t, ht⟩ : ∃ t, (wd i s).2 = t := ⟨_, rfl⟩
  obtain ⟨b, hb⟩ : ∃ b, (nx t).1 = b := ⟨_, rfl⟩
  have hv1 : v < 256 ^ i := by rw [← hv]; exact (wd_by i hby).1
  have hb1 : b < 256 := by rw [← hb, ← ht]; exact (nx_by (wd_by i hby).2).1
  rw [ht, hb] at HN
  rw [hv]
  have Hw : Hid (wd (i + 1) s = (v + 256 ^ i * b, (nx t).2)) := hid (by rw [wd_snoc, hv, ht, hb])
  have HU : Hid (Upd rB w wr) := hid h2
  clear h1 h2 h3 HR
  go_wp2_with fail
  refine HN.out.mono ?_
  rintro e w2 ⟨rfl, hr2⟩
  have HR2 : Hid (RN w0 w w2 rB a n c l (nx t).2) := hid (by obtain ⟨k2, q1, q2, q3⟩ := hr2; exact ⟨k2, q1, HU.out.trans q2, q3⟩)
  clear hr2 HN HU
  have hor := or_place hv1 hb1 (by omega : i < 8)
  go_wp2
  exact ⟨⟨i + 1, by omega, by rw [Hw.out]; simp, by go_num, by rw [Hw.out]; exact HR2⟩, by simp [intOf]; omega⟩
set_option maxRecDepth 1000000 in
set_option maxHeartbeats 4000000 in
theorem argument_walk (h : RB w0 w rB a n c l k) : Calls Tryd.prog 31 #[.pointer (some ⟨rB, 0, none⟩)] w fun e w' => e = .returned (.int .u64 ((ar (l.drop k)).1 : Int)) ∧ RN w0 w w' rB a n c l (ar (l.drop k)).2 := by
  have HN := hid (next_walk h)
  obtain ⟨b, hb⟩ : ∃ b, (nx (l.drop k)).1 = b := ⟨_, rfl⟩
  obtain ⟨t, ht⟩ : ∃ t, (nx (l.drop k)).2 = t := ⟨_, rfl⟩
  have hb1 : b < 256 := by rw [← hb]; exact (nx_by (Below.by h.rd.byt k)).1
  have ha : ar (l.drop k) = if b = 254 then wd 2 t else if b = 255 then wd 8 t else (b, t) := by
    unfold ar
    rw [hb, ht]
    split
    · rfl
    · split
      · rfl
      · rw [← hb, ← ht]
  rw [ha]
  rw [hb, ht] at HN
  clear ha hb ht h
  by_cases h2 : b = 254
  · subst h2
    rw [if_pos rfl]
    go_enter Tryd.func31, Tryd.ntmps31
    go_wp2_with fail
    refine HN.out.mono ?_
    rintro e w1 ⟨rfl, k1, h1, u1, d1⟩
    have HW := hid (wide_walk h1 2 (by omega))
    rw [d1] at HW
    have HU := hid u1
    clear h1 u1 d1 HN
    go_wp2_with fail
    refine HW.out.mono ?_
    rintro e w2 ⟨rfl, k2, h3, u2, d2⟩
    have HR : Hid (RN w0 w w2 rB a n c l (wd 2 t).2) := hid ⟨k2, h3, HU.out.trans u2, d2⟩
    clear h3 u2 d2 HW HU
    go_wp2
    go_ret
    exact ⟨rfl, HR.out⟩
  · rw [if_neg h2]
    have e1 : ((b : Int) == 254) = false := by simp; omega
    by_cases h8 : b = 255
    · subst h8
      rw [if_pos rfl]
      clear e1
      go_enter Tryd.func31, Tryd.ntmps31
      go_wp2_with fail
      refine HN.out.mono ?_
      rintro e w1 ⟨rfl, k1, h1, u1, d1⟩
      have HW := hid (wide_walk h1 8 (by omega))
      rw [d1] at HW
      have HU := hid u1
      clear h1 u1 d1 HN
      go_wp2_with fail
      refine HW.out.mono ?_
      rintro e w2 ⟨rfl, k2, h3, u2, d2⟩
      have HR : Hid (RN w0 w w2 rB a n c l (wd 8 t).2) := hid ⟨k2, h3, HU.out.trans u2, d2⟩
      clear h3 u2 d2 HW HU
      go_wp2
      go_ret
      exact ⟨rfl, HR.out⟩
    · rw [if_neg h8]
      have e2 : ((b : Int) == 255) = false := by simp; omega
      have ib : (b : Int) < 256 := by omega
      go_enter Tryd.func31, Tryd.ntmps31
      go_wp2_with fail
      refine HN.out.mono ?_
      rintro e w1 ⟨rfl, hr⟩
      have HR := hid hr
      clear hr HN
      go_wp2
      go_ret
      exact ⟨rfl, HR.out⟩
end
end Go.Proofs.Qxb6500889aDoor
