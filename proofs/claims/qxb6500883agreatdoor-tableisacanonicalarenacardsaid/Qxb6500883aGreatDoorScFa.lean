/- before, sortErrors: entries stay among the errors. -/
import Derived.Test.Qxb6500883aGreatDoorScEd
import Derived.Test.Qxb6500883aGreatDoorCopy
namespace Go.Proofs.Qxb6500883aGreatDoor
open Go.RowKit
set_option linter.unusedSimpArgs false
set_option linter.unusedVariables false
def bfV (k1 p1 k2 p2 : Nat) : Bool := if p1 ≠ p2 then decide (p1 < p2) else decide (k1 < k2)
set_option maxRecDepth 100000 in
theorem beforeW {q1 q2 k1 p1 k2 p2 : Nat} {w : World} (a0 : w.cell? ⟨q1, 0, none⟩ = some (.int .u8 (k1 : Int))) (a1 : w.cell? ⟨q1, 1, none⟩ = some (.int .i64 (p1 : Int))) (b0 : w.cell? ⟨q2, 0, none⟩ = some (.int .u8 (k2 : Int))) (b1 : w.cell? ⟨q2, 1, none⟩ = some (.int .i64 (p2 : Int))) : Calls Tryz.prog 120 #[.pointer (some ⟨q1, 0, none⟩), .pointer (some ⟨q2, 0, none⟩)] w fun e w' => e = .returned (.bool (bfV k1 p1 k2 p2)) ∧ ∃ m, w' = w.drewN m := by
  by_cases h : p1 = p2
  · have e : bfV k1 p1 k2 p2 = decide (k1 < k2) := by unfold bfV; rw [if_neg (fun hh => hh h)]
    rw [e]
    have d1 : ((p1 : Int) != (p2 : Int)) = false := by simp; omega
    have d2 : decide ((k1 : Int) < (k2 : Int)) = decide (k1 < k2) := by simp
    clear e
    go_enter Tryz.func120, Tryz.ntmps120
    go_upto_region 1 with fail
    go_quiet (fail)
    have HD : Hid (Drew w (w.drewN nq)) := hid ((Drew.refl w).next nq)
    have x0 : (w.drewN nq).cell? ⟨q1, 0, none⟩ = some (.int .u8 (k1 : Int)) := a0
    have y0 : (w.drewN nq).cell? ⟨q2, 0, none⟩ = some (.int .u8 (k2 : Int)) := b0
    generalize w.drewN nq = w1 at HD x0 y0 ⊢
    clear a0 a1 b0 b1
    go_upto_region 3 with fail
    go_quiet (fail)
    have HD2 : Hid (Drew w (w1.drewN nq)) := hid (HD.out.next nq)
    generalize w1.drewN nq = w2 at HD2 ⊢
    clear x0 y0 HD
    go_wp2
    go_ret
    exact ⟨rfl, HD2.out⟩
  · have e : bfV k1 p1 k2 p2 = decide (p1 < p2) := by unfold bfV; rw [if_pos h]
    rw [e]
    have d1 : ((p1 : Int) != (p2 : Int)) = true := by simp; omega
    have d2 : decide ((p1 : Int) < (p2 : Int)) = decide (p1 < p2) := by simp
    clear e
    go_enter Tryz.func120, Tryz.ntmps120
    go_upto_region 1 with fail
    go_quiet (fail)
    have HD : Hid (Drew w (w.drewN nq)) := hid ((Drew.refl w).next nq)
    have x0 : (w.drewN nq).cell? ⟨q1, 1, none⟩ = some (.int .i64 (p1 : Int)) := a1
    have y0 : (w.drewN nq).cell? ⟨q2, 1, none⟩ = some (.int .i64 (p2 : Int)) := b1
    generalize w.drewN nq = w1 at HD x0 y0 ⊢
    clear a0 a1 b0 b1
    go_upto_region 2 with fail
    go_quiet (fail)
    have HD2 : Hid (Drew w (w1.drewN nq)) := hid (HD.out.next nq)
    generalize w1.drewN nq = w2 at HD2 ⊢
    clear x0 y0 HD
    go_wp2
    go_ret
    exact ⟨rfl, HD2.out⟩
/-- All blocks but two are as they were. -/
structure Oth (ga gb : Nat) (w w' : World) : Prop where
  os : w'.os = w.os
  tape : w'.tape = w.tape
  output : w'.output = w.output
  size : w.heap.size ≤ w'.heap.size
  blk : ∀ g, g < w.heap.size → g ≠ ga → g ≠ gb → w'.heap[g]? = w.heap[g]?
theorem Oth.refl (ga gb : Nat) (w : World) : Oth ga gb w w := ⟨rfl, rfl, rfl, Nat.le_refl _, fun _ _ _ _ => rfl⟩
theorem Oth.trans {ga gb : Nat} {w w1 w2 : World} (h : Oth ga gb w w1) (k : Oth ga gb w1 w2) : Oth ga gb w w2 := ⟨k.os.trans h.os, k.tape.trans h.tape, k.output.trans h.output, Nat.le_trans h.size k.size, fun g hg h1 h2 => (k.blk g (Nat.lt_of_lt_of_le hg h.size) h1 h2).trans (h.blk g hg h1 h2)⟩
theorem Oth.below {ga gb : Nat} {w w1 w2 : World} (h : Oth ga gb w w1) (hb : Below w1.heap.size w1 w2) : Oth ga gb w w2 := h.trans ⟨hb.os, hb.tape, hb.output, hb.size, fun g hg _ _ => hb.block g hg⟩
theorem Oth.upd {ga gb g : Nat} {w w1 w2 : World} (h : Oth ga gb w w1) (hu : Upd g w1 w2) (hg : g = ga ∨ g = gb) : Oth ga gb w w2 := h.trans ⟨hu.os, hu.tape, hu.output, hu.size, fun k hk h1 h2 => hu.block k hk (fun e => by rcases hg with e2 | e2 <;> omega)⟩
/-- A cell that points to one of the errors. -/
def PtQ (Q : Nat → Prop) (v : Value) : Prop := ∃ q, v = .pointer (some ⟨q, 0, none⟩) ∧ Q q
/-- The row of errors (block ga), its spare (gb), the errors themselves. -/
structure SrM (Q : Nat → Prop) (ga na ca gb nb : Nat) (w0 w : World) : Prop where
  a : ∃ fa, Blk w ga 25 (fnC ca fa) ∧ ∀ i, i < na → PtQ Q (fa i)
  b : ∃ fb, Blk w gb 25 (fnC nb fb) ∧ ∀ i, i < nb → (fb i).oneCell' = true
  e : ∀ q, Q q → ∃ k p : Nat, w.cell? ⟨q, 0, none⟩ = some (.int .u8 (k : Int)) ∧ w.cell? ⟨q, 1, none⟩ = some (.int .i64 (p : Int)) ∧ q ≠ ga ∧ q ≠ gb ∧ q < w.heap.size
  o : Oth ga gb w0 w
  ne : ga ≠ gb
  na : na ≤ ca
section
variable {Q : Nat → Prop} {ga na ca gb nb : Nat} {w w0 w1 w2 : World}
theorem SrM.eOf (h : SrM Q ga na ca gb nb w0 w) (ho : Oth ga gb w w1) : ∀ q, Q q → ∃ k p : Nat, w1.cell? ⟨q, 0, none⟩ = some (.int .u8 (k : Int)) ∧ w1.cell? ⟨q, 1, none⟩ = some (.int .i64 (p : Int)) ∧ q ≠ ga ∧ q ≠ gb ∧ q < w1.heap.size := fun q hq => by
  obtain ⟨k, p, h1, h2, h3, h4, h5⟩ := h.e q hq
  exact ⟨k, p, by rw [keepCell 0 (ho.blk q h5 h3 h4)]; exact h1, by rw [keepCell 1 (ho.blk q h5 h3 h4)]; exact h2, h3, h4, Nat.lt_of_lt_of_le h5 ho.size⟩
theorem SrM.below (h : SrM Q ga na ca gb nb w0 w1) (hb : Below w1.heap.size w1 w2) : SrM Q ga na ca gb nb w0 w2 := by
  obtain ⟨fa, a1, a2⟩ := h.a
  obtain ⟨fb, b1, b2⟩ := h.b
  exact ⟨⟨fa, a1.below hb, a2⟩, ⟨fb, b1.below hb, b2⟩, h.eOf ((Oth.refl ga gb w1).below hb), h.o.below hb, h.ne, h.na⟩
theorem SrM.from (h : SrM Q ga na ca gb nb w0 w1) (h2 : SrM Q ga na ca gb nb w1 w2) : SrM Q ga na ca gb nb w0 w2 := ⟨h2.a, h2.b, h2.e, h.o.trans h2.o, h.ne, h.na⟩
theorem SrM.own (h : SrM Q ga na ca gb nb w0 w1) : SrM Q ga na ca gb nb w1 w1 := ⟨h.a, h.b, h.e, Oth.refl _ _ _, h.ne, h.na⟩
theorem SrM.get (h : SrM Q ga na ca gb nb w0 w) {i : Nat} (hi : i < na) : ∃ q, w.cell? ⟨ga, i, none⟩ = some (.pointer (some ⟨q, 0, none⟩)) ∧ Q q ∧ w.frozen? ⟨ga, i, none⟩ = false := by
  obtain ⟨fa, h1, h2⟩ := h.a
  obtain ⟨q, e1, e2⟩ := h2 i hi
  refine ⟨q, ?_, e2, h1.frozen i⟩
  rw [h1.cell i, fnC_get _ (by have := h.na; omega), e1]
/-- One of the errors is put into the row. -/
theorem SrM.put (h : SrM Q ga na ca gb nb w0 w) {i q : Nat} (hi : i < na) (hq : Q q) : SrM Q ga na ca gb nb w0 (w.setCell ⟨ga, i, none⟩ (.pointer (some ⟨q, 0, none⟩))) := by
  obtain ⟨fa, h1, h2⟩ := h.a
  obtain ⟨fb, b1, b2⟩ := h.b
  have hu : Upd ga w (w.setCell ⟨ga, i, none⟩ (.pointer (some ⟨q, 0, none⟩))) := Upd.setCell (Upd.refl ga w) (p := ⟨ga, i, none⟩) rfl _
  have hn := h.na
  refine ⟨⟨fup fa i (.pointer (some ⟨q, 0, none⟩)), ?_, fun j hj => ?_⟩, ⟨fb, b1.upd hu (fun e => h.ne e.symm), b2⟩, h.eOf ((Oth.refl ga gb w).upd hu (.inl rfl)), h.o.upd hu (.inl rfl), h.ne, h.na⟩
  · have := h1.set i (.pointer (some ⟨q, 0, none⟩))
    rw [fnC_set _ (by omega)] at this
    exact this
  · by_cases e : j = i
    · subst e; rw [fup_self]; exact ⟨q, rfl, hq⟩
    · rw [fup_ne _ _ e]; exact h2 j hj
theorem splice_fn {n o : Nat} {f : Nat → Value} {ns : List Value} (h : o + ns.length ≤ n) : splice (fnC n f) o ns = fnC n (fun j => if o ≤ j ∧ j < o + ns.length then ns.getD (j - o) undef else f j) := by
  apply List.ext_getElem?
  intro j
  unfold splice
  have hl : (fnC n f).length = n := fnC_len n f
  by_cases h1 : j < o
  · rw [List.append_assoc, List.getElem?_append_left (by rw [List.length_take, hl]; omega), List.getElem?_take, if_pos h1, fnC_get _ (by omega), fnC_get _ (by omega), if_neg (by omega)]
  · by_cases h2 : j < o + ns.length
    · rw [List.append_assoc, List.getElem?_append_right (by rw [List.length_take, hl]; omega), List.length_take, hl, Nat.min_eq_left (by omega), List.getElem?_append_left (by omega), fnC_get _ (by omega), if_pos ⟨by omega, h2⟩, List.getD_eq_getElem?_getD, List.getElem?_eq_getElem (by omega)]
      rfl
    · rw [List.getElem?_append_right (by rw [List.length_append, List.length_take, hl]; omega), List.length_append, List.length_take, hl, Nat.min_eq_left (by omega), List.getElem?_drop, show o + ns.length + (j - (o + ns.length)) = j by omega]
      by_cases h3 : j < n
      · rw [fnC_get _ h3, fnC_get _ h3, if_neg (by omega)]
      · rw [List.getElem?_eq_none (by rw [hl]; omega), List.getElem?_eq_none (by rw [fnC_len]; omega)]
theorem slice_pl {g o n c lo : Nat} (h1 : lo ≤ n) (h2 : n ≤ c) (w : World) : (Instr.sliceAt 33 (.slice (some ⟨g, o, none⟩) n c) (some (.int .i64 (lo : Int))) none none).run Tryz.prog w = .ok (.slice (if c - lo = 0 then some ⟨g, o, none⟩ else some ⟨g, o + lo, none⟩) (n - lo) (c - lo)) w := by
  have b1 : (lo : Int) ≤ (n : Int) := by omega
  have b2 : ¬ (n < lo) := by omega
  have b3 : (n : Int) ≤ (c : Int) := by omega
  have b4 : ¬ (c < n) := by omega
  by_cases hc : c - lo = 0
  · have hc2 : c = lo := by omega
    have hn : n = lo := by omega
    subst hc2
    subst hn
    simp [Instr.sliceAt, go_sem, Instr.sliceBounds]
  · have hc2 : ¬ (c = lo) := by omega
    simp [Instr.sliceAt, go_sem, Instr.sliceBounds, b1, b2, b3, b4, h1, h2, hc, hc2]
end
end Go.Proofs.Qxb6500883aGreatDoor
