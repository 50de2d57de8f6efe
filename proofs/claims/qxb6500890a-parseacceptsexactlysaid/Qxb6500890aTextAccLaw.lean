/- The law ParseAcceptsExactly. -/
import Derived.Test.Qxb6500890aTextOrder
import Derived.Test.Qxb6500890aTextAcc
namespace Go.Proofs.Qxb6500890a
open Go.RowKit
set_option linter.unusedSimpArgs false
set_option linter.unusedVariables false

set_option maxRecDepth 100000 in
set_option maxHeartbeats 1000000 in
theorem accepts_walk (a : Option Addr) (n c : Nat) (l : List TOp) (w : World) (hs : Script w a n c l) :
    Calls Try.prog 4 #[.slice a n c] w fun e w' => e = .returned (.bool true) ∧ Below w.heap.size w w' := by
  have HS := hid hs
  clear hs
  go_enter Try.func4, Try.ntmps4
  go_wp2_with fail
  refine (small_walk a n c l _ HS.out).mono ?_
  rintro e w' ⟨r, rfl, rfl, hr⟩
  cases r with
  | false =>
    go_wp2
    go_ret
    exact ⟨rfl, Below.refl _ _⟩
  | true =>
    have hsm := hr rfl
    clear hr
    go_wp2_with fail
    refine (strs_walk a n c l _ HS.out hsm).mono ?_
    rintro e w1 ⟨a1, n1, c1, rfl, hrow, hb1⟩
    have HR := hid hrow
    have HB1 := hid hb1
    have hn1 : n1 ≤ 131072 := by
      have h1 := strs_take_len l n (fun o ho => ⟨(HS.out.2 o ho).list.len, (HS.out.2 o ho).recs.len⟩)
      have h2 := HS.out.1.len
      rw [List.take_of_length_le (by omega)] at h1
      have h3 := hrow.len
      omega
    have HK := hid (strs_ok _ l HS.out.2)
    clear hrow hb1
    go_wp2
    go_loopw [13] (fun i wr => ∃ k : Nat, k ≤ n1 ∧ i = .int .i64 k ∧ Below w1.heap.size w1 wr) (fun i _ => n1 - (intOf i).toNat)
    case atStart => exact ⟨0, Nat.zero_le _, rfl, Below.refl _ _⟩
    case round =>
      obtain ⟨k, hk, rfl, hbr⟩ := hrel
      have HB2 := hid hbr
      clear hbr
      by_cases hlt : k < n1
      · obtain ⟨x, hx, b, off, rfl, hb, cx⟩ := (HR.out.below HB2.out).cell1 hlt
        have k0 : wr.cell? ⟨b, off + k, none⟩ = some (.string x) := cx
        have sx := HK.out x (List.mem_of_getElem? hx)
        have HA := hid (accepts x.data.toList)
        clear hx cx
        go_wp2_with fail
        refine (parse_walk x (by unfold maxLen; omega) _).mono ?_
        cases hsh : shapeB x.data.toList with
        | false =>
          have e1 := HA.out
          rw [hsh, if_pos rfl] at e1
          rw [e1]
          have HSH := hid hsh
          clear e1 hsh
          rintro e w3 ⟨rfl, rfl⟩
          go_wp2_with fail
          refine (shape_walk x sx _).mono ?_
          rw [HSH.out]
          rintro e w4 ⟨rfl, hb4⟩
          have HB4 := hid hb4
          clear hb4
          go_wp2
          exact ⟨⟨k + 1, by omega, by go_num, HB2.out.trans (HB4.out.mono HB2.out.size)⟩, by simp [intOf]; omega⟩
        | true =>
          cases hir : inRangeB x.data.toList with
          | false =>
            have e1 := HA.out
            rw [hsh, hir, if_neg (by decide), if_pos rfl] at e1
            rw [e1]
            have HSH := hid hsh
            have HIR := hid hir
            clear e1 hsh hir
            rintro e w3 ⟨rfl, rfl⟩
            go_wp2_with fail
            refine (shape_walk x sx _).mono ?_
            rw [HSH.out]
            rintro e w4 ⟨rfl, hb4⟩
            have HB4 := hid hb4
            clear hb4
            go_wp2_with fail
            refine (inRange_walk x sx HSH.out _).mono ?_
            rw [HIR.out]
            rintro e w5 ⟨rfl, rfl⟩
            go_wp2
            exact ⟨⟨k + 1, by omega, by go_num, HB2.out.trans (HB4.out.mono HB2.out.size)⟩, by simp [intOf]; omega⟩
          | true =>
            have e1 := HA.out
            rw [hsh, hir, if_neg (by decide), if_neg (by decide)] at e1
            rw [e1]
            have HSH := hid hsh
            have HIR := hid hir
            clear e1 hsh hir
            rintro e w3 ⟨rfl, rfl⟩
            go_wp2_with fail
            refine (shape_walk x sx _).mono ?_
            rw [HSH.out]
            rintro e w4 ⟨rfl, hb4⟩
            have HB4 := hid hb4
            clear hb4
            go_wp2_with fail
            refine (inRange_walk x sx HSH.out _).mono ?_
            rw [HIR.out]
            rintro e w5 ⟨rfl, rfl⟩
            go_wp2_with fail
            refine (value_walk x sx HSH.out HIR.out _).mono ?_
            rintro e w6 ⟨rfl, hb6⟩
            have HB6 := hid hb6
            clear hb6
            go_wp2
            exact ⟨⟨k + 1, by omega, by go_num, (HB2.out.trans (HB4.out.mono HB2.out.size)).trans (HB6.out.mono (Nat.le_trans HB2.out.size HB4.out.size))⟩, by simp [intOf]; omega⟩
      · go_wp2
        go_ret
        exact ⟨rfl, HB1.out.trans (HB2.out.mono HB1.out.size)⟩
end Go.Proofs.Qxb6500890a
