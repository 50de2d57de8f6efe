/- The law NothingAcceptedCanOverflow. -/
import Derived.Test.Qxb6500883aGreatDoorScRa
import Derived.Test.Qxb6500883aGreatDoorScTo
namespace Go.Proofs.Qxb6500883aGreatDoor
open Go.RowKit
set_option linter.unusedSimpArgs false
set_option linter.unusedVariables false
section
variable {N mg : Nat} {w w' : World} {a : Option Addr} {n c : Nat} {l : List OpT}
set_option maxRecDepth 100000 in
set_option maxHeartbeats 2000000 in
theorem zzSmall1W (hs : ScrT w a n c l) : Calls Tryz.prog 7 #[.slice a n c] w fun e w' => ∃ r : Bool, e = .returned (.bool r) ∧ w' = w ∧ (r = true → n + rwS l ≤ 65536) := by
  have HS := hid hs
  have hln : l.length = n := hs.1.1
  have Hln := hid hln
  have hn47 : n ≤ 140737488351232 := hs.1.2.2.1.1
  clear hs hln
  by_cases hbig : 65536 < n
  · have d1 : decide ((65536 : Int) < (n : Int)) = true := decide_eq_true (by omega)
    go_enter Tryz.func7, Tryz.ntmps7
    go_wp2
    go_ret
    exact ⟨false, rfl, rfl, fun h => by cases h⟩
  have d1 : decide ((65536 : Int) < (n : Int)) = false := decide_eq_false (by omega)
  go_enter Tryz.func7, Tryz.ntmps7
  go_upto_region 5 with fail
  go_loopw [3, 4] (fun s t wr => wr = w ∧ ∃ (i x : Nat), s = .int .i64 (x : Int) ∧ t = .int .i64 (i : Int) ∧ i ≤ n ∧ x ≤ 65536 ∧ Hid (x = n + rwS (l.take i))) (fun _ t _ => n - (intOf t).toNat)
  case atStart => exact ⟨rfl, 0, n, rfl, rfl, Nat.zero_le _, by omega, hid (by unfold rwS; simp)⟩
  case round =>
  obtain ⟨rfl, i, x, rfl, rfl, hi, hx, HX⟩ := hrel
  by_cases hin : i < n
  rotate_left
  · have d2 : decide ((i : Int) < (n : Int)) = false := decide_eq_false (by omega)
    have hQ : n + rwS l ≤ 65536 := by
      have := HX.out
      rw [List.take_of_length_le (by rw [Hln.out]; omega)] at this
      omega
    have HQ := hid hQ
    clear hQ HX
    go_wp2
    go_ret
    exact ⟨true, rfl, rfl, fun _ => HQ.out⟩
  have d2 : decide ((i : Int) < (n : Int)) = true := decide_eq_true (by omega)
  have i1 : (i : Int) < (n : Int) := by omega
  obtain ⟨op, hop, bb, off, rfl, hbb, hc⟩ := HS.out.1.cell hin
  have hraw := (HS.out.2 op (List.mem_of_getElem? hop)).raw
  have Hop := hid hop
  have c4 : wr.cell? ⟨bb, off + i * 5 + 4, none⟩ = some (.string op.raw) := hc 4 (by decide)
  obtain ⟨rz, hrz⟩ : ∃ z, op.raw.size = z := ⟨_, rfl⟩
  rw [hrz] at hraw
  have Hrz := hid hrz
  have ew : IntKind.i64.wrap ((x : Int) + (rz : Int)) = ((x + rz : Nat) : Int) := by rw [IntKind.wrap_i64]; omega
  obtain ⟨y, hy⟩ : ∃ y, x + rz = y := ⟨_, rfl⟩
  have Hy := hid hy
  rw [hy] at ew
  clear hc hop
  by_cases hyb : 65536 < y
  · have d3 : decide ((65536 : Int) < (y : Int)) = true := decide_eq_true (by omega)
    clear hy
    go_wp2
    go_ret
    exact ⟨false, rfl, rfl, fun h => by cases h⟩
  have d3 : decide ((65536 : Int) < (y : Int)) = false := decide_eq_false (by omega)
  have HX2 : Hid (y = n + rwS (l.take (i + 1))) := hid (by
    rw [rwS_succ Hop.out, Hrz.out]
    have := HX.out
    have := Hy.out
    omega)
  clear hy HX
  go_wp2
  exact ⟨⟨by first | trivial | rfl, i + 1, y, rfl, by go_num, by omega, by omega, HX2⟩, by simp [intOf]; omega⟩
end
/-- Text's row as a source. -/
theorem TtI.src {w w' : World} {v : Value} {C L : Nat} (h : TtI w C L w' v) (hL : L ≤ 17592186044000) : ∃ a n c bs, v = .slice a n c ∧ Go.Proofs.Qxb6500883aGreatDoor.Src w' a n c bs ∧ Gd C bs := by
  obtain ⟨ds, h1, h2, h3⟩ := h.row
  obtain ⟨a, q, rfl⟩ := h1.shape
  refine ⟨a, ds.length, q, ds, rfl, ⟨?_, fun ad ha => ?_, by omega⟩, h2⟩
  · obtain ⟨h4, h5, h6⟩ := h1.cap
    refine ⟨rfl, h4, ⟨by omega, ?_, fun e => ?_⟩, fun i hi => ?_⟩
    · rcases h1.2 with ⟨e1, _⟩ | ⟨g, cap, cur, e1, e2, e3, e4, e5, _⟩
      · injection e1 with _ _ e; subst e; unfold maxLen; omega
      · injection e1 with _ _ e; subst e; exact e5
    · rcases h6 with ⟨_, _, e2⟩ | ⟨g, e2⟩
      · exact e2
      · rw [e2] at e; cases e
    · rcases h6 with ⟨_, e1, _⟩ | ⟨g, e2⟩
      · omega
      · subst e2
        refine ⟨g, 0, rfl, h1.lt g rfl, fun j hj => ?_⟩
        obtain rfl : j = 0 := by omega
        have := h1.cells (lo := 0) (j := i) (u := byV ds[i]) (by rw [List.drop_zero, List.getElem?_map, List.getElem?_eq_getElem hi]; rfl)
        rw [Nat.zero_add] at this
        show w'.cell? ⟨g, 0 + i * 1 + 0, none⟩ = some (byV ds[i])
        rw [show 0 + i * 1 + 0 = i by omega]
        exact this
  · exact h1.lt ad.block (by rw [ha]; rfl)
end Go.Proofs.Qxb6500883aGreatDoor
