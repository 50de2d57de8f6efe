/- utoa, itoa, quote and the words: texts of a bounded length. -/
import Derived.Test.Qxb6500883aGreatDoorScB
namespace Go.Proofs.Qxb6500883aGreatDoor
open Go.RowKit
set_option linter.unusedSimpArgs false
set_option linter.unusedVariables false
section
variable {w w' w0 : World}
set_option maxRecDepth 100000 in
theorem utoaZ (v : Nat) (hv : v < 18446744073709551616) (w : World) : Calls Tryz.prog 103 #[.int .u64 (v : Int)] w fun e w' => ∃ s : ByteArray, e = .returned (.string s) ∧ s.size ≤ 20 ∧ Hid (Below w.heap.size w w') := by
  have HA := hid (appendUintZ (bs := []) (OwR.nil rtB w.heap.size w) (Nat.le_refl _) v hv (by decide))
  go_enter Tryz.func103, Tryz.ntmps103
  go_wp2_with fail
  refine HA.out.mono ?_
  rintro e w2 ⟨v2, rfl, H2⟩
  obtain ⟨ds, hd, h2⟩ := H2.out.row
  obtain ⟨a2, q2, rfl⟩ := h2.shape
  have hcv := h2.str
  have hsz : (⟨([] ++ ds).toArray⟩ : ByteArray).size ≤ 20 := by show ([] ++ ds).toArray.size ≤ 20; simpa using hd
  generalize (⟨([] ++ ds).toArray⟩ : ByteArray) = ss at hcv hsz
  generalize ([] ++ ds).length = m2 at hcv ⊢
  have HB := hid H2.out.bel
  clear h2 H2 HA hd
  go_wp2
  go_ret
  exact ⟨ss, rfl, hsz, HB⟩
set_option maxRecDepth 100000 in
theorem itoaZ (v : Nat) (hv : v < 9223372036854775808) (w : World) : Calls Tryz.prog 64 #[.int .i64 (v : Int)] w fun e w' => ∃ s : ByteArray, e = .returned (.string s) ∧ s.size ≤ 20 ∧ Hid (Below w.heap.size w w') := by
  have HU := hid (utoaZ v (by omega) w)
  have ew : IntKind.u64.wrap (v : Int) = (v : Int) := by rw [IntKind.wrap_u64]; omega
  go_enter Tryz.func64, Tryz.ntmps64
  go_wp2_with fail
  refine HU.out.mono ?_
  rintro e w2 ⟨s, rfl, hs, HB⟩
  go_wp2
  go_ret
  exact ⟨s, rfl, hs, HB⟩
end
end Go.Proofs.Qxb6500883aGreatDoor
