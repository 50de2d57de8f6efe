/- The text model: Compare, Parse, digitsOf, Format, Name, Arith. -/
import Derived.Test.Qxb6500890aDoorTxE4
import Derived.Test.Qxb6500890aDoorTextOrder
import Derived.Test.Qxb6500890aDoorTextSortLaw
import Derived.Test.Qxb6500890aDoorTextAgree
import Derived.WalkLawsBesides
namespace Go.Proofs.Qxb6500890aDoor
open Go.RowKit
set_option linter.unusedSimpArgs false
set_option linter.unusedVariables false

section
variable {w w' : World}
set_option maxRecDepth 100000
set_option maxHeartbeats 1000000
theorem toList_data (s : ByteArray) : s.toList = s.data.toList := ByteArray.toList_eq s
theorem ret_i' {k : IntKind} {a b : Int} (h : a = b) : Ending.returned (.int k a) = .returned (.int k b) := by rw [h]
theorem mcompare_walk (a b : ByteArray) (w : World) : Calls Tryd.prog 43 #[.string a, .string b] w fun r w' => r = .returned (.int .i64 (cmpL a.data.toList b.data.toList)) ∧ w' = w := by
  have h1 : Op.bytesLess a.toList b.toList = decide (cmpL a.data.toList b.data.toList < 0) := by rw [toList_data, toList_data]; exact bytesLess_cmp _ _
  have h2 : (a.toList == b.toList) = decide (cmpL a.data.toList b.data.toList = 0) := by
    rw [toList_data, toList_data, Bool.eq_iff_iff, beq_iff_eq, decide_eq_true_eq]
    exact (cmp_zero _ _).symm
  have h3 := cmp_range a.data.toList b.data.toList
  generalize cmpL a.data.toList b.data.toList = c at h1 h2 h3 ⊢
  have H3 := hid h3
  clear h3
  rcases (by have := H3.out; omega : c = -1 ∨ c = 0 ∨ c = 1) with rfl | rfl | rfl
  · have h1 : Op.bytesLess a.toList b.toList = true := h1
    have h2 : (a.toList == b.toList) = false := h2
    go_enter Tryd.func43, Tryd.ntmps43
    go_wp2
    go_ret
    exact ⟨rfl, rfl⟩
  · have h1 : Op.bytesLess a.toList b.toList = false := h1
    have h2 : (a.toList == b.toList) = true := h2
    go_enter Tryd.func43, Tryd.ntmps43
    go_wp2
    go_ret
    exact ⟨rfl, rfl⟩
  · have h1 : Op.bytesLess a.toList b.toList = false := h1
    have h2 : (a.toList == b.toList) = false := h2
    go_enter Tryd.func43, Tryd.ntmps43
    go_wp2
    go_ret
    exact ⟨rfl, rfl⟩
theorem mparse_walk (s : ByteArray) (hs : s.size ≤ 140737488351232) (w : World) : Calls Tryd.prog 41 #[.string s] w fun r w' => r = .returned (.tuple #[.int .i64 (parseOut s.data.toList).1, .int .i64 (parseOut s.data.toList).2]) ∧ Below w.heap.size w w' := by
  rw [accepts]
  have HS := hid (shape_walk s hs w)
  cases h1 : shapeB s.data.toList with
  | false =>
    rw [if_pos rfl]
    rw [h1] at HS
    clear h1
    go_enter Tryd.func41, Tryd.ntmps41
    go_wp2_with fail
    refine HS.out.mono ?_
    rintro e w1 ⟨rfl, hb⟩
    have HB := hid hb
    clear hb HS
    go_wp2
    exact bodyPost_ret (v := .tuple #[.int .i64 0, .int .i64 1]) (by simp [results, Tryd.results41, go_sem]) rfl ⟨rfl, HB.out⟩
  | true =>
    rw [if_neg (by simp)]
    rw [h1] at HS
    have HI := hid (fun wx => inRange_walk s hs h1 wx)
    cases h2 : inRangeB s.data.toList with
    | false =>
      rw [if_pos rfl]
      rw [h2] at HI
      clear h1 h2
      go_enter Tryd.func41, Tryd.ntmps41
      go_wp2_with fail
      refine HS.out.mono ?_
      rintro e w1 ⟨rfl, hb⟩
      have HB := hid hb
      clear hb HS
      go_wp2_with fail
      refine (HI.out _).mono ?_
      rintro e w2 ⟨rfl, rfl⟩
      clear HI
      go_wp2
      exact bodyPost_ret (v := .tuple #[.int .i64 0, .int .i64 2]) (by simp [results, Tryd.results41, go_sem]) rfl ⟨rfl, HB.out⟩
    | true =>
      rw [if_neg (by simp)]
      have HV := hid (fun wx => value_walk s hs h1 h2 wx)
      rw [h2] at HI
      generalize valueOf s.data.toList = v at HV ⊢
      clear h1 h2
      go_enter Tryd.func41, Tryd.ntmps41
      go_wp2_with fail
      refine HS.out.mono ?_
      rintro e w1 ⟨rfl, hb⟩
      have HB := hid hb
      clear hb HS
      go_wp2_with fail
      refine (HI.out _).mono ?_
      rintro e w2 ⟨rfl, rfl⟩
      clear HI
      go_wp2_with fail
      refine (HV.out _).mono ?_
      rintro e w3 ⟨rfl, hb3⟩
      have HB3 := hid (HB.out.trans (hb3.mono HB.out.size))
      clear HV hb3 HB
      go_wp2
      exact bodyPost_ret (v := .tuple #[.int .i64 v, .int .i64 0]) (by simp [results, Tryd.results41, go_sem]) rfl ⟨rfl, HB3.out⟩
theorem marith_some (kind a b z : Int) (hz : z.natAbs < 340282366920938463463374607431768211456)
    (HX : ∀ w, Calls Tryd.prog 51 #[.int .i64 kind, .int .i64 a, .int .i64 b] w fun e w' => e = .returned (.tuple #[wideV z, .bool true]) ∧ Below w.heap.size w w') (w : World) :
    Calls Tryd.prog 42 #[.int .i64 kind, .int .i64 a, .int .i64 b] w fun e w' => e = .returned (.tuple #[.int .i64 (fitOut z).1, .int .i64 (fitOut z).2]) ∧ Below w.heap.size w w' := by
  have HX' : Hid (∀ w, Calls Tryd.prog 51 #[.int .i64 kind, .int .i64 a, .int .i64 b] w fun e w' => e = .returned (.tuple #[wideX z, .bool true]) ∧ Below w.heap.size w w') := hid HX
  have HF := hid (fun w => fits_walk z hz w)
  clear HX hz
  by_cases hf : I64 z
  · rw [fit_true (decide_eq_true hf)] at HF ⊢
    rw [decide_eq_true hf] at HF
    generalize wrap64 z = q at *
    clear hf
    go_enter Tryd.func42, Tryd.ntmps42
    go_wp2_with fail
    refine (HX'.out _).mono ?_
    rintro e w2 ⟨rfl, hb2⟩
    have HB2 : Hid (Below w.heap.size w (w2.alloc (.cells (wideL z).toArray 87))) := hid (hb2.alloc hb2.size _)
    have HB2' : Hid (w.heap.size ≤ w2.heap.size) := hid hb2.size
    clear hb2
    unfold wideX
    go_wp2_with fail
    refine (HF.out _).mono ?_
    rintro e w3 ⟨rfl, hb3⟩
    have HB3 : Hid (Below w.heap.size w w3) := hid (HB2.out.trans (hb3.mono (by have := HB2'.out; simp; omega)))
    clear hb3
    go_wp2
    exact bodyPost_ret (v := .tuple #[.int .i64 q, .int .i64 0]) (by simp [results, Tryd.results42, go_sem]) rfl ⟨rfl, HB3.out⟩
  · rw [fit_false (decide_eq_false hf)] at HF ⊢
    rw [decide_eq_false hf] at HF
    clear hf
    go_enter Tryd.func42, Tryd.ntmps42
    go_wp2_with fail
    refine (HX'.out _).mono ?_
    rintro e w2 ⟨rfl, hb2⟩
    have HB2 : Hid (Below w.heap.size w (w2.alloc (.cells (wideL z).toArray 87))) := hid (hb2.alloc hb2.size _)
    have HB2' : Hid (w.heap.size ≤ w2.heap.size) := hid hb2.size
    clear hb2
    unfold wideX
    go_wp2_with fail
    refine (HF.out _).mono ?_
    rintro e w3 ⟨rfl, hb3⟩
    have HB3 : Hid (Below w.heap.size w w3) := hid (HB2.out.trans (hb3.mono (by have := HB2'.out; simp; omega)))
    clear hb3
    go_wp2
    exact bodyPost_ret (v := .tuple #[.int .i64 0, .int .i64 3]) (by simp [results, Tryd.results42, go_sem]) rfl ⟨rfl, HB3.out⟩
theorem marith_none (kind a b : Int)
    (HX : ∀ w, Calls Tryd.prog 51 #[.int .i64 kind, .int .i64 a, .int .i64 b] w fun e w' => e = .returned (.tuple #[.agg zeroL.toArray, .bool false]) ∧ Below w.heap.size w w') (w : World) :
    Calls Tryd.prog 42 #[.int .i64 kind, .int .i64 a, .int .i64 b] w fun e w' => e = .returned (.tuple #[.int .i64 0, .int .i64 4]) ∧ Below w.heap.size w w' := by
  have HX' := hid HX
  clear HX
  go_enter Tryd.func42, Tryd.ntmps42
  go_wp2_with fail
  refine (HX'.out _).mono ?_
  rintro e w2 ⟨rfl, hb2⟩
  have HB2 : Hid (Below w.heap.size w (w2.alloc (.cells zeroL.toArray 87))) := hid (hb2.alloc hb2.size _)
  clear hb2
  unfold zeroL
  go_wp2
  exact bodyPost_ret (v := .tuple #[.int .i64 0, .int .i64 4]) (by simp [results, Tryd.results42, go_sem]) rfl ⟨rfl, HB2.out⟩
def arithP (kind a b : Int) : Int × Int := if kind = 2 then fitOut (a + b) else if kind = 3 then fitOut (a - b) else if kind = 4 then fitOut (a * b) else if kind = 5 then divOut a b else if kind = 6 then modOut a b else fitOut (-a)
theorem arith_both (kind a b : Int) (ha : I64 a) (hb : I64 b) (hk : kind = 2 ∨ kind = 3 ∨ kind = 4 ∨ kind = 5 ∨ kind = 6 ∨ kind = 7) :
    (∀ w, Calls Tryd.prog 18 #[.int .i64 kind, .int .i64 a, .int .i64 b] w fun e w' => e = .returned (.tuple #[.int .i64 (arithP kind a b).1, .int .i64 (arithP kind a b).2]) ∧ w' = w) ∧
    (∀ w, Calls Tryd.prog 42 #[.int .i64 kind, .int .i64 a, .int .i64 b] w fun e w' => e = .returned (.tuple #[.int .i64 (arithP kind a b).1, .int .i64 (arithP kind a b).2]) ∧ Below w.heap.size w w') := by
  have na : a.natAbs ≤ 9223372036854775808 := by obtain ⟨x, y⟩ := ha; omega
  have nb : b.natAbs ≤ 9223372036854775808 := by obtain ⟨x, y⟩ := hb; omega
  rcases hk with rfl | rfl | rfl | rfl | rfl | rfl
  · exact ⟨fun w => arith_add a b ha hb w, fun w => marith_some 2 a b (a + b) (by omega) (fun w => exact_add a b ha hb w) w⟩
  · exact ⟨fun w => arith_sub a b ha hb w, fun w => marith_some 3 a b (a - b) (by omega) (fun w => exact_sub a b ha hb w) w⟩
  · exact ⟨fun w => arith_mul a b ha hb w, fun w => marith_some 4 a b (a * b) (Nat.lt_of_le_of_lt (mul_natAbs_lt ha hb) (by decide)) (fun w => exact_mul a b ha hb w) w⟩
  · refine ⟨fun w => arith_quo a b ha hb w, fun w => ?_⟩
    show Calls _ _ _ _ fun e w' => e = .returned (.tuple #[.int .i64 (divOut a b).1, .int .i64 (divOut a b).2]) ∧ Below w.heap.size w w'
    by_cases hb0 : b = 0
    · rw [show divOut a b = (0, 4) by simp [divOut, hb0]]
      exact marith_none 5 a b (fun w => exact_quo0 a b ha hb hb0 w) w
    · rw [div_fit ha hb0]
      refine marith_some 5 a b (a.tdiv b) ?_ (fun w => exact_quo a b ha hb hb0 w) w
      have := natAbs_tdiv_le a b
      omega
  · refine ⟨fun w => arith_rem a b ha hb w, fun w => ?_⟩
    show Calls _ _ _ _ fun e w' => e = .returned (.tuple #[.int .i64 (modOut a b).1, .int .i64 (modOut a b).2]) ∧ Below w.heap.size w w'
    by_cases hb0 : b = 0
    · rw [show modOut a b = (0, 4) by simp [modOut, hb0]]
      exact marith_none 6 a b (fun w => exact_rem0 a b ha hb hb0 w) w
    · rw [mod_fit hb hb0]
      refine marith_some 6 a b (a.tmod b) ?_ (fun w => exact_rem a b ha hb hb0 w) w
      have h2 : (a.tmod b).natAbs = a.natAbs % b.natAbs := Int.natAbs_tmod a b
      have h3 : a.natAbs % b.natAbs < b.natAbs := Nat.mod_lt _ (by omega)
      omega
  · exact ⟨fun w => arith_neg a b ha hb w, fun w => marith_some 7 a b (-a) (by omega) (fun w => exact_neg a b ha hb w) w⟩
end
end Go.Proofs.Qxb6500890aDoor
