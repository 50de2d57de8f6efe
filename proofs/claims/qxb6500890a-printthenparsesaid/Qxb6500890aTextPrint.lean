/- The law PrintThenParse. -/
import Derived.Test.Qxb6500890aTextInts
import Derived.Test.Qxb6500890aTextFmt
import Derived.Test.Qxb6500890aTextParse
namespace Go.Proofs.Qxb6500890a
open Go.RowKit
set_option linter.unusedSimpArgs false
set_option linter.unusedVariables false

set_option maxRecDepth 100000 in
set_option maxHeartbeats 1000000 in
theorem print_walk (a : Option Addr) (n c : Nat) (l : List TOp) (w : World) (hs : Script w a n c l) :
    Calls Try.prog 3 #[.slice a n c] w fun e w' => e = .returned (.bool true) ∧ Below w.heap.size w w' := by
  have HS := hid hs
  clear hs
  go_enter Try.func3, Try.ntmps3
  go_wp2_with fail
  refine (small_walk a n c l _ HS.out).mono ?_
  rintro e w' ⟨r, rfl, rfl, hr⟩
  cases r with
  | false =>
    go_wp2
    go_ret
    exact ⟨rfl, Below.refl _ _⟩
  | true =>
    have hsm := hr rfl
    clear hr
    go_wp2_with fail
    refine (ints_walk a n c l _ HS.out hsm).mono ?_
    rintro e w1 ⟨a1, n1, c1, rfl, hrow, hb1⟩
    have HR := hid hrow
    have HB1 := hid hb1
    have hn1 : n1 ≤ 262144 := by
      have h1 := ints_take_len l n (fun o ho => (HS.out.2 o ho).recs.len)
      have h2 := HS.out.1.len
      rw [List.take_of_length_le (by omega)] at h1
      have h3 := hrow.len
      omega
    have HK := hid (ints_ok _ l HS.out.2)
    clear hrow hb1
    go_wp2
    go_loopw [13] (fun i wr => ∃ k : Nat, k ≤ n1 ∧ i = .int .i64 k ∧ Below w1.heap.size w1 wr) (fun i _ => n1 - (intOf i).toNat)
    case atStart => exact ⟨0, Nat.zero_le _, rfl, Below.refl _ _⟩
    case round =>
      obtain ⟨k, hk, rfl, hbr⟩ := hrel
      have HB2 := hid hbr
      clear hbr
      by_cases hlt : k < n1
      · obtain ⟨x, hx, b, off, rfl, hb, cx⟩ := (HR.out.below HB2.out).cell1 hlt
        have k0 : wr.cell? ⟨b, off + k, none⟩ = some (.int .i64 x) := cx
        obtain ⟨f1, f2⟩ := HK.out x (List.mem_of_getElem? hx)
        clear hx cx
        go_wp2_with fail
        refine (formatInt_walk x f1 f2 _).mono ?_
        rintro e w2 ⟨rfl, hb2⟩
        have HB3 := hid hb2
        clear hb2
        go_wp2_with fail
        refine (parse_walk _ (by have := fmt_len x f1 f2; unfold maxLen; show (fmtL x).toArray.size ≤ _; simp; omega) _).mono ?_
        have e1 : parseOut (ByteArray.mk (fmtL x).toArray).data.toList = (x, 0) := parse_fmt x f1 f2
        rw [e1]
        clear e1
        rintro e w3 ⟨rfl, rfl⟩
        go_wp2
        exact ⟨⟨k + 1, by omega, by go_num, HB2.out.trans (HB3.out.mono HB2.out.size)⟩, by simp [intOf]; omega⟩
      · go_wp2
        go_ret
        exact ⟨rfl, HB1.out.trans (HB2.out.mono HB1.out.size)⟩
end Go.Proofs.Qxb6500890a
