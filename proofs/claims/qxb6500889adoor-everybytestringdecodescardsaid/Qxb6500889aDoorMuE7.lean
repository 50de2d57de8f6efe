/- Scripts as bytes: wellFormed, tidied (written by tools/mk_e7.py). -/
import Derived.Test.Qxb6500889aDoorMuE6
import Derived.Test.Qxb6500889aDoorMuP6
namespace Go.Proofs.Qxb6500889aDoor
open Go.RowKit
set_option linter.unusedSimpArgs false
set_option linter.unusedVariables false
/-- The listed variable arguments reads as it is laid. -/
structure AgG (w : World) (mg : Nat) : Prop where
  lt : 2 < w.heap.size
  lm : mg < w.heap.size
  c : w.cell? ⟨2, 0, none⟩ = some (.map (some mg))
  lk : ∀ wy : World, wy.heap[mg]? = w.heap[mg]? → ∀ k : Nat, k < 9 → (Instr.lookup 102 (.map (some mg)) (.int .u8 (k : Int)) false).run Tryd.prog wy = .ok (.int .i64 (ari k : Int)) wy
  lkT : ∀ wy : World, wy.heap[mg]? = w.heap[mg]? → ∀ k : Nat, k < 9 → (Instr.lookup 102 (.map (some mg)) (.int .u8 (k : Int)) true).run Tryd.prog wy = .ok (.tuple #[.int .i64 (ari k : Int), .bool true]) wy
theorem AgG.below {w w' : World} {mg : Nat} (h : AgG w mg) (hb : Below w.heap.size w w') : AgG w' mg :=
  ⟨Nat.lt_of_lt_of_le h.lt hb.size, Nat.lt_of_lt_of_le h.lm hb.size, by rw [World.cell?_of_block (hb.block 2 h.lt)]; exact h.c, fun wy hy => h.lk wy (hy.trans (hb.block mg h.lm)), fun wy hy => h.lkT wy (hy.trans (hb.block mg h.lm))⟩
theorem neq_op (o : OpP) (w : World) : (binOp .neq 31 (.agg (opC o).toArray) (.agg (opC o).toArray)).run Tryd.prog w = .ok (.bool false) w := by
  rw [run_neq_struct]
  unfold opC
  simp [go_sem, part]
theorem eql_op (o : OpP) (w : World) : (binOp .eql 31 (.agg (opC o).toArray) (.agg (opC o).toArray)).run Tryd.prog w = .ok (.bool true) w := by
  rw [run_eql_struct]
  unfold opC
  simp [go_sem, part]
section
variable {w : World} {mg : Nat}
set_option maxRecDepth 1000000 in
set_option maxHeartbeats 4000000 in
theorem wfH {ac : Nat} (h4 : 4 ≤ ac) (h7 : ac < 7) : Calls Tryd.prog 33 #[.agg #[.int .u8 (ac : Int), .int .u8 (0 : Int), .int .u64 (0 : Int), .int .u64 (0 : Int), .int .u64 (0 : Int)]] w fun e w' => e = .returned (.bool true) ∧ Below w.heap.size w w' := by
  obtain ⟨w1, hw1⟩ : ∃ x, w.alloc (.cells #[.int .u8 (ac : Int), .int .u8 (0 : Int), .int .u64 (0 : Int), .int .u64 (0 : Int), .int .u64 (0 : Int)] 31) = x := ⟨_, rfl⟩
  obtain ⟨pB, hpB⟩ : ∃ x, w.heap.size = x := ⟨_, rfl⟩
  have hB1 : Below w.heap.size w w1 := by rw [← hw1]; exact nbel _ _
  have HB1 := hid hB1
  have hk1 : Blk w1 pB 31 [.int .u8 (ac : Int), .int .u8 (0 : Int), .int .u64 (0 : Int), .int .u64 (0 : Int), .int .u64 (0 : Int)] := by rw [← hw1, ← hpB]; exact Blk.new w _ _
  have c0 := hk1.cell 0
  have c1 := hk1.cell 1
  have c2 := hk1.cell 2
  have c3 := hk1.cell 3
  have c4 := hk1.cell 4
  simp only [List.getElem?_cons_zero, List.getElem?_cons_succ] at c0 c1 c2 c3 c4
  have d1 : decide (7 ≤ (ac : Int)) = false := decide_eq_false (by omega)
  have d2 : decide (4 ≤ (ac : Int)) = true := decide_eq_true (by omega)
  have he : ∀ w : World, (binOp .eql 31 (.agg #[.int .u8 (ac : Int), .int .u8 0, .int .u64 0, .int .u64 0, .int .u64 0]) (.agg #[.int .u8 (ac : Int), .int .u8 0, .int .u64 0, .int .u64 0, .int .u64 0])).run Tryd.prog w = .ok (.bool true) w := fun w => eql_op ⟨ac, 0, 0, 0, 0⟩ w
  rw [hpB] at HB1
  clear hB1 hk1
  go_enter Tryd.func33, Tryd.ntmps33
  go_wp2
  go_ret
  exact ⟨rfl, by rw [hpB]; exact HB1.out⟩
set_option maxRecDepth 1000000 in
set_option maxHeartbeats 4000000 in
theorem wfL0 {ac k : Nat} (h4 : ac < 4) (hk : k < 9) (hai : ari k = 0) (hg : AgG w mg) : Calls Tryd.prog 33 #[.agg #[.int .u8 (ac : Int), .int .u8 (k : Int), .int .u64 (0 : Int), .int .u64 (0 : Int), .int .u64 (0 : Int)]] w fun e w' => e = .returned (.bool true) ∧ Below w.heap.size w w' := by
  obtain ⟨w1, hw1⟩ : ∃ x, w.alloc (.cells #[.int .u8 (ac : Int), .int .u8 (k : Int), .int .u64 (0 : Int), .int .u64 (0 : Int), .int .u64 (0 : Int)] 31) = x := ⟨_, rfl⟩
  obtain ⟨pB, hpB⟩ : ∃ x, w.heap.size = x := ⟨_, rfl⟩
  have hB1 : Below w.heap.size w w1 := by rw [← hw1]; exact nbel _ _
  have HB1 := hid hB1
  have hk1 : Blk w1 pB 31 [.int .u8 (ac : Int), .int .u8 (k : Int), .int .u64 (0 : Int), .int .u64 (0 : Int), .int .u64 (0 : Int)] := by rw [← hw1, ← hpB]; exact Blk.new w _ _
  have c0 := hk1.cell 0
  have c1 := hk1.cell 1
  have c2 := hk1.cell 2
  have c3 := hk1.cell 3
  have c4 := hk1.cell 4
  simp only [List.getElem?_cons_zero, List.getElem?_cons_succ] at c0 c1 c2 c3 c4
  have d1 : decide (7 ≤ (ac : Int)) = false := decide_eq_false (by omega)
  have d2 : decide (4 ≤ (ac : Int)) = false := decide_eq_false (by omega)
  have hlk := hg.lkT w1 (hB1.block mg hg.lm) k hk
  rw [hai] at hlk
  have cg := (hg.below hB1).c
  rw [hpB] at HB1
  clear hB1 hk1
  go_enter Tryd.func33, Tryd.ntmps33
  go_wp2
  go_ret
  exact ⟨rfl, by rw [hpB]; exact HB1.out⟩
set_option maxRecDepth 1000000 in
set_option maxHeartbeats 4000000 in
theorem wfL1 {ac k a : Nat} (h4 : ac < 4) (hk : k < 9) (hai : ari k = 1) (hg : AgG w mg) : Calls Tryd.prog 33 #[.agg #[.int .u8 (ac : Int), .int .u8 (k : Int), .int .u64 (a : Int), .int .u64 (0 : Int), .int .u64 (0 : Int)]] w fun e w' => e = .returned (.bool true) ∧ Below w.heap.size w w' := by
  obtain ⟨w1, hw1⟩ : ∃ x, w.alloc (.cells #[.int .u8 (ac : Int), .int .u8 (k : Int), .int .u64 (a : Int), .int .u64 (0 : Int), .int .u64 (0 : Int)] 31) = x := ⟨_, rfl⟩
  obtain ⟨pB, hpB⟩ : ∃ x, w.heap.size = x := ⟨_, rfl⟩
  have hB1 : Below w.heap.size w w1 := by rw [← hw1]; exact nbel _ _
  have HB1 := hid hB1
  have hk1 : Blk w1 pB 31 [.int .u8 (ac : Int), .int .u8 (k : Int), .int .u64 (a : Int), .int .u64 (0 : Int), .int .u64 (0 : Int)] := by rw [← hw1, ← hpB]; exact Blk.new w _ _
  have c0 := hk1.cell 0
  have c1 := hk1.cell 1
  have c2 := hk1.cell 2
  have c3 := hk1.cell 3
  have c4 := hk1.cell 4
  simp only [List.getElem?_cons_zero, List.getElem?_cons_succ] at c0 c1 c2 c3 c4
  have d1 : decide (7 ≤ (ac : Int)) = false := decide_eq_false (by omega)
  have d2 : decide (4 ≤ (ac : Int)) = false := decide_eq_false (by omega)
  have hlk := hg.lkT w1 (hB1.block mg hg.lm) k hk
  rw [hai] at hlk
  have cg := (hg.below hB1).c
  rw [hpB] at HB1
  clear hB1 hk1
  go_enter Tryd.func33, Tryd.ntmps33
  go_wp2
  go_ret
  exact ⟨rfl, by rw [hpB]; exact HB1.out⟩
set_option maxRecDepth 1000000 in
set_option maxHeartbeats 4000000 in
theorem wfL2 {ac k a b : Nat} (h4 : ac < 4) (hk : k < 9) (hai : ari k = 2) (hg : AgG w mg) : Calls Tryd.prog 33 #[.agg #[.int .u8 (ac : Int), .int .u8 (k : Int), .int .u64 (a : Int), .int .u64 (b : Int), .int .u64 (0 : Int)]] w fun e w' => e = .returned (.bool true) ∧ Below w.heap.size w w' := by
  obtain ⟨w1, hw1⟩ : ∃ x, w.alloc (.cells #[.int .u8 (ac : Int), .int .u8 (k : Int), .int .u64 (a : Int), .int .u64 (b : Int), .int .u64 (0 : Int)] 31) = x := ⟨_, rfl⟩
  obtain ⟨pB, hpB⟩ : ∃ x, w.heap.size = x := ⟨_, rfl⟩
  have hB1 : Below w.heap.size w w1 := by rw [← hw1]; exact nbel _ _
  have HB1 := hid hB1
  have hk1 : Blk w1 pB 31 [.int .u8 (ac : Int), .int .u8 (k : Int), .int .u64 (a : Int), .int .u64 (b : Int), .int .u64 (0 : Int)] := by rw [← hw1, ← hpB]; exact Blk.new w _ _
  have c0 := hk1.cell 0
  have c1 := hk1.cell 1
  have c2 := hk1.cell 2
  have c3 := hk1.cell 3
  have c4 := hk1.cell 4
  simp only [List.getElem?_cons_zero, List.getElem?_cons_succ] at c0 c1 c2 c3 c4
  have d1 : decide (7 ≤ (ac : Int)) = false := decide_eq_false (by omega)
  have d2 : decide (4 ≤ (ac : Int)) = false := decide_eq_false (by omega)
  have hlk := hg.lkT w1 (hB1.block mg hg.lm) k hk
  rw [hai] at hlk
  have cg := (hg.below hB1).c
  rw [hpB] at HB1
  clear hB1 hk1
  go_enter Tryd.func33, Tryd.ntmps33
  go_wp2
  go_ret
  exact ⟨rfl, by rw [hpB]; exact HB1.out⟩
set_option maxRecDepth 1000000 in
set_option maxHeartbeats 4000000 in
theorem wfL3 {ac k a b c : Nat} (h4 : ac < 4) (hk : k < 9) (hai : ari k = 3) (hg : AgG w mg) : Calls Tryd.prog 33 #[.agg #[.int .u8 (ac : Int), .int .u8 (k : Int), .int .u64 (a : Int), .int .u64 (b : Int), .int .u64 (c : Int)]] w fun e w' => e = .returned (.bool true) ∧ Below w.heap.size w w' := by
  obtain ⟨w1, hw1⟩ : ∃ x, w.alloc (.cells #[.int .u8 (ac : Int), .int .u8 (k : Int), .int .u64 (a : Int), .int .u64 (b : Int), .int .u64 (c : Int)] 31) = x := ⟨_, rfl⟩
  obtain ⟨pB, hpB⟩ : ∃ x, w.heap.size = x := ⟨_, rfl⟩
  have hB1 : Below w.heap.size w w1 := by rw [← hw1]; exact nbel _ _
  have HB1 := hid hB1
  have hk1 : Blk w1 pB 31 [.int .u8 (ac : Int), .int .u8 (k : Int), .int .u64 (a : Int), .int .u64 (b : Int), .int .u64 (c : Int)] := by rw [← hw1, ← hpB]; exact Blk.new w _ _
  have c0 := hk1.cell 0
  have c1 := hk1.cell 1
  have c2 := hk1.cell 2
  have c3 := hk1.cell 3
  have c4 := hk1.cell 4
  simp only [List.getElem?_cons_zero, List.getElem?_cons_succ] at c0 c1 c2 c3 c4
  have d1 : decide (7 ≤ (ac : Int)) = false := decide_eq_false (by omega)
  have d2 : decide (4 ≤ (ac : Int)) = false := decide_eq_false (by omega)
  have hlk := hg.lkT w1 (hB1.block mg hg.lm) k hk
  rw [hai] at hlk
  have cg := (hg.below hB1).c
  rw [hpB] at HB1
  clear hB1 hk1
  go_enter Tryd.func33, Tryd.ntmps33
  go_wp2
  go_ret
  exact ⟨rfl, by rw [hpB]; exact HB1.out⟩
end
theorem wellFormed_walk {w : World} {mg : Nat} {o : OpP} (h : WfO o) (hg : AgG w mg) : Calls Tryd.prog 33 #[.agg (opC o).toArray] w fun e w' => e = .returned (.bool true) ∧ Below w.heap.size w w' := by
  obtain ⟨ac, k, a, b, c⟩ := o
  by_cases h4 : ac < 4
  · obtain ⟨k1, k2, k3, k4⟩ := h.k h4
    dsimp only at k1 k2 k3 k4
    rcases (by have := ari_le k; omega : ari k = 0 ∨ ari k = 1 ∨ ari k = 2 ∨ ari k = 3) with e | e | e | e
    · obtain rfl := k2 e
      obtain rfl := k3 (by omega)
      obtain rfl := k4 (by omega)
      exact wfL0 h4 k1 e hg
    · obtain rfl := k3 (by omega)
      obtain rfl := k4 (by omega)
      exact wfL1 h4 k1 e hg
    · obtain rfl := k4 (by omega)
      exact wfL2 h4 k1 e hg
    · exact wfL3 h4 k1 e hg
  · obtain ⟨k1, k2, k3, k4⟩ := h.hi (Nat.le_of_not_lt h4)
    dsimp only at k1 k2 k3 k4
    subst k1 k2 k3 k4
    exact wfH (Nat.le_of_not_lt h4) h.ac
end Go.Proofs.Qxb6500889aDoor
