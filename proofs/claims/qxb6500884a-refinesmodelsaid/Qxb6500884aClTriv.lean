/- needsRegister, number, truth. -/
import Derived.Test.Qxb6500884aClBld
namespace Go.Proofs.Qxb6500884a
open Go.RowKit
set_option linter.unusedSimpArgs false
set_option linter.unusedVariables false

def needB (k : Int) : Bool := !(decide (k = 0) || decide (k = 1) || decide (k = 2) || decide (k = 3) || decide (k = 4) || decide (k = 11))
set_option maxRecDepth 100000 in
theorem needs_walk (k : Int) (w : World) : Calls Try.prog 19 #[.int .i64 k] w fun e w' => e = .returned (.bool (needB k)) ∧ w' = w := by
  have HB : Hid (needB k = !(decide (k = 0) || decide (k = 1) || decide (k = 2) || decide (k = 3) || decide (k = 4) || decide (k = 11))) := hid rfl
  obtain ⟨B, hB⟩ : ∃ B, needB k = B := ⟨_, rfl⟩
  rw [hB] at HB
  rw [hB]
  clear hB
  by_cases h : k = 0 ∨ k = 1 ∨ k = 2 ∨ k = 3 ∨ k = 4 ∨ k = 11
  · have hb : B = false := by
      rw [HB.out]
      rcases h with rfl | rfl | rfl | rfl | rfl | rfl <;> rfl
    subst hb
    clear HB
    rcases h with rfl | rfl | rfl | rfl | rfl | rfl
    all_goals
      go_enter Try.func19, Try.ntmps19
      go_wp2
      go_ret
      exact ⟨rfl, rfl⟩
  · have q0 : (k == 0) = false := by simp; omega
    have q1 : (k == 1) = false := by simp; omega
    have q2 : (k == 2) = false := by simp; omega
    have q3 : (k == 3) = false := by simp; omega
    have q4 : (k == 4) = false := by simp; omega
    have q5 : (k == 11) = false := by simp; omega
    have hb : B = true := by
      rw [HB.out, decide_eq_false (show ¬ k = 0 by omega), decide_eq_false (show ¬ k = 1 by omega), decide_eq_false (show ¬ k = 2 by omega), decide_eq_false (show ¬ k = 3 by omega), decide_eq_false (show ¬ k = 4 by omega), decide_eq_false (show ¬ k = 11 by omega)]
      rfl
    subst hb
    clear HB h
    go_enter Try.func19, Try.ntmps19
    go_wp2
    go_ret
    exact ⟨rfl, rfl⟩
/-- A Result's cells. -/
def resC (pushed : Int) (ok : Bool) (v : Int) : List Value := [.int .i64 pushed, .bool ok, .int .i64 v]
def numR (v : Int) : Bool → List Value
  | true => resC 0 true v
  | false => resC 0 false 0
theorem info_res : (Try.prog.info? 51).map (·.size) = some 3 := by kernel_rfl
theorem aggRes : AggOf Try.prog 51 3 := AggOf.struct Try.underlying51 info_res
theorem res_one (p : Int) (ok : Bool) (v : Int) : ∀ u ∈ resC p ok v, u.oneCell' = true := by
  intro u hu
  simp [resC] at hu
  rcases hu with rfl | rfl | rfl <;> rfl
set_option maxRecDepth 100000 in
theorem number_walk (v : Int) (ok : Bool) (w : World) : Calls Try.prog 54 #[.int .i64 v, .bool ok] w fun e w' => e = .returned (.agg (numR v ok).toArray) ∧ Below w.heap.size w w' := by
  obtain ⟨r, hr⟩ : ∃ r, w.heap.size = r := ⟨_, rfl⟩
  have hb := Blk.new w (resC 0 false 0) 51
  rw [hr] at hb
  have HB := hid hb
  have HBe := hid (nbel w (.cells (resC 0 false 0).toArray 51))
  clear hb
  cases ok with
  | true =>
    have I0 : Hid ((Try.prog.info? 51).map (·.size) = some (resC 0 true v).length) := hid info_res
    go_enter Try.func54, Try.ntmps54
    go_wp2_with (refine wpList_store_blk rfl 51 _ _ rfl r rfl (resC 0 true v) rfl HB.out rfl I0.out (res_one _ _ _) ?_; intro w9 HB9 HU9)
    exact bodyPost_ret (results_blk Try.results54 rfl (show AggOf Try.prog 51 (List.length (resC 0 true v)) from aggRes) HB9.out) rfl ⟨rfl, HBe.out.trans (HU9.out.below (by omega) HBe.out.size)⟩
  | false =>
    have I0 : Hid ((Try.prog.info? 51).map (·.size) = some (resC 0 false 0).length) := hid info_res
    go_enter Try.func54, Try.ntmps54
    go_wp2_with (refine wpList_store_blk rfl 51 _ _ rfl r rfl (resC 0 false 0) rfl HB.out rfl I0.out (res_one _ _ _) ?_; intro w9 HB9 HU9)
    exact bodyPost_ret (results_blk Try.results54 rfl (show AggOf Try.prog 51 (List.length (resC 0 false 0)) from aggRes) HB9.out) rfl ⟨rfl, HBe.out.trans (HU9.out.below (by omega) HBe.out.size)⟩
def bitI (b : Bool) : Int := if b then 1 else 0
set_option maxRecDepth 100000 in
theorem truth_walk (b : Bool) (w : World) : Calls Try.prog 53 #[.bool b] w fun e w' => e = .returned (.agg (resC 0 true (bitI b)).toArray) ∧ Below w.heap.size w w' := by
  obtain ⟨r, hr⟩ : ∃ r, w.heap.size = r := ⟨_, rfl⟩
  have hb := Blk.new w (resC 0 false 0) 51
  rw [hr] at hb
  have HB := hid hb
  have HBe := hid (nbel w (.cells (resC 0 false 0).toArray 51))
  have HNm : Hid (∀ v w, Calls Try.prog 54 #[.int .i64 v, .bool true] w fun e w' => e = .returned (.agg (resC 0 true v).toArray) ∧ Below w.heap.size w w') := hid (fun v w => number_walk v true w)
  clear hb
  cases b with
  | true =>
    have I0 : Hid ((Try.prog.info? 51).map (·.size) = some (resC 0 true 1).length) := hid info_res
    go_enter Try.func53, Try.ntmps53
    go_wp2_with fail
    refine (HNm.out _ _).mono ?_
    rintro e w2 ⟨rfl, hb2⟩
    have HB2 := hid (HB.out.below hb2)
    have HBe2 : Hid (Below w.heap.size w w2) := hid (HBe.out.trans (hb2.mono HBe.out.size))
    clear hb2
    go_wp2_with (refine wpList_store_blk rfl 51 _ _ rfl r rfl (resC 0 true 1) rfl HB2.out rfl I0.out (res_one _ _ _) ?_; intro w9 HB9 HU9)
    exact bodyPost_ret (results_blk Try.results53 rfl (show AggOf Try.prog 51 (List.length (resC 0 true 1)) from aggRes) HB9.out) rfl ⟨rfl, HBe2.out.trans (HU9.out.below (by omega) HBe2.out.size)⟩
  | false =>
    have I0 : Hid ((Try.prog.info? 51).map (·.size) = some (resC 0 true 0).length) := hid info_res
    go_enter Try.func53, Try.ntmps53
    go_wp2_with fail
    refine (HNm.out _ _).mono ?_
    rintro e w2 ⟨rfl, hb2⟩
    have HB2 := hid (HB.out.below hb2)
    have HBe2 : Hid (Below w.heap.size w w2) := hid (HBe.out.trans (hb2.mono HBe.out.size))
    clear hb2
    go_wp2_with (refine wpList_store_blk rfl 51 _ _ rfl r rfl (resC 0 true 0) rfl HB2.out rfl I0.out (res_one _ _ _) ?_; intro w9 HB9 HU9)
    exact bodyPost_ret (results_blk Try.results53 rfl (show AggOf Try.prog 51 (List.length (resC 0 true 0)) from aggRes) HB9.out) rfl ⟨rfl, HBe2.out.trans (HU9.out.below (by omega) HBe2.out.size)⟩
end Go.Proofs.Qxb6500884a
