/- The table's readers of measures. -/
import Derived.Test.Qxb6500883aGreatDoorScQe
namespace Go.Proofs.Qxb6500883aGreatDoor
open Go.RowKit
set_option linter.unusedSimpArgs false
set_option linter.unusedVariables false
section
variable {τ : Rl} {w : World} {tB : Nat} {V : TV} {T : TS}
set_option maxRecDepth 100000 in
theorem lenTW (h : TbM τ w tB V T) (h0 : 0 < T.types.length) : Calls Tryz.prog 18 #[.pointer (some ⟨tB, 0, none⟩)] w fun e w' => e = .returned (.int .i64 (T.types.length : Int)) ∧ w' = w := by
  obtain ⟨x, hx⟩ : ∃ x, T.types[0]? = some x := ⟨_, List.getElem?_eq_getElem h0⟩
  obtain ⟨gt, q, hv, _, _, hc⟩ := h.ty hx
  have c0 : w.cell? ⟨tB, 0, none⟩ = some (.slice (some ⟨gt, 0, none⟩) T.types.length q) := by rw [← hv]; exact h.b.cell 0
  clear h hv hc hx
  generalize T.types.length = n at c0 ⊢
  go_enter Tryz.func18, Tryz.ntmps18
  go_wp2
  go_ret
  exact ⟨rfl, rfl⟩
set_option maxRecDepth 100000 in
theorem minSizeW (h : TbM τ w tB V T) {i : Nat} {x : TR} (hx : T.types[i]? = some x) : Calls Tryz.prog 19 #[.pointer (some ⟨tB, 0, none⟩), .int .i32 (i : Int)] w fun e w' => e = .returned (.int .u32 (x.mn : Int)) ∧ w' = w := by
  obtain ⟨gt, q, hv, _, _, hc⟩ := h.ty hx
  have c0 : w.cell? ⟨tB, 0, none⟩ = some (.slice (some ⟨gt, 0, none⟩) T.types.length q) := by rw [← hv]; exact h.b.cell 0
  have hi := (List.getElem?_eq_some_iff.1 hx).1
  have i1 : (i : Int) < (T.types.length : Int) := by omega
  have c1 : w.cell? ⟨gt, i * 12 + 9, none⟩ = some (.int .u32 (x.mn : Int)) := hc 9 (by decide)
  clear h hv hc hx
  generalize T.types.length = n at c0 hi i1
  go_enter Tryz.func19, Tryz.ntmps19
  go_wp2
  go_ret
  exact ⟨rfl, rfl⟩
set_option maxRecDepth 100000 in
theorem maxSizeW (h : TbM τ w tB V T) {i : Nat} {x : TR} (hx : T.types[i]? = some x) : Calls Tryz.prog 20 #[.pointer (some ⟨tB, 0, none⟩), .int .i32 (i : Int)] w fun e w' => e = .returned (.int .u32 (x.mx : Int)) ∧ w' = w := by
  obtain ⟨gt, q, hv, _, _, hc⟩ := h.ty hx
  have c0 : w.cell? ⟨tB, 0, none⟩ = some (.slice (some ⟨gt, 0, none⟩) T.types.length q) := by rw [← hv]; exact h.b.cell 0
  have hi := (List.getElem?_eq_some_iff.1 hx).1
  have i1 : (i : Int) < (T.types.length : Int) := by omega
  have c1 : w.cell? ⟨gt, i * 12 + 10, none⟩ = some (.int .u32 (x.mx : Int)) := hc 10 (by decide)
  clear h hv hc hx
  generalize T.types.length = n at c0 hi i1
  go_enter Tryz.func20, Tryz.ntmps20
  go_wp2
  go_ret
  exact ⟨rfl, rfl⟩
set_option maxRecDepth 100000 in
theorem depthW (h : TbM τ w tB V T) {i : Nat} {x : TR} (hx : T.types[i]? = some x) (hd : x.depth ≤ 255) : Calls Tryz.prog 21 #[.pointer (some ⟨tB, 0, none⟩), .int .i32 (i : Int)] w fun e w' => e = .returned (.int .i64 (x.depth : Int)) ∧ w' = w := by
  obtain ⟨gt, q, hv, _, _, hc⟩ := h.ty hx
  have c0 : w.cell? ⟨tB, 0, none⟩ = some (.slice (some ⟨gt, 0, none⟩) T.types.length q) := by rw [← hv]; exact h.b.cell 0
  have hi := (List.getElem?_eq_some_iff.1 hx).1
  have i1 : (i : Int) < (T.types.length : Int) := by omega
  have c1 : w.cell? ⟨gt, i * 12 + 2, none⟩ = some (.int .u8 (x.depth : Int)) := hc 2 (by decide)
  have ew : IntKind.i64.wrap (x.depth : Int) = (x.depth : Int) := by rw [IntKind.wrap_i64]; omega
  clear h hv hc hx
  generalize T.types.length = n at c0 hi i1
  go_enter Tryz.func21, Tryz.ntmps21
  go_wp2
  go_ret
  exact ⟨rfl, rfl⟩
set_option maxRecDepth 100000 in
theorem isFixedW (h : TbM τ w tB V T) {i : Nat} {x : TR} (hx : T.types[i]? = some x) : Calls Tryz.prog 22 #[.pointer (some ⟨tB, 0, none⟩), .int .i32 (i : Int)] w fun e w' => e = .returned (.bool x.fixed) ∧ w' = w := by
  obtain ⟨gt, q, hv, _, _, hc⟩ := h.ty hx
  have c0 : w.cell? ⟨tB, 0, none⟩ = some (.slice (some ⟨gt, 0, none⟩) T.types.length q) := by rw [← hv]; exact h.b.cell 0
  have hi := (List.getElem?_eq_some_iff.1 hx).1
  have i1 : (i : Int) < (T.types.length : Int) := by omega
  have c1 : w.cell? ⟨gt, i * 12 + 1, none⟩ = some (.bool x.fixed) := hc 1 (by decide)
  clear h hv hc hx
  generalize T.types.length = n at c0 hi i1
  go_enter Tryz.func22, Tryz.ntmps22
  go_wp2
  go_ret
  exact ⟨rfl, rfl⟩
set_option maxRecDepth 100000 in
theorem fixedSizeW (h : TbM τ w tB V T) {i : Nat} {x : TR} (hx : T.types[i]? = some x) : Calls Tryz.prog 23 #[.pointer (some ⟨tB, 0, none⟩), .int .i32 (i : Int)] w fun e w' => e = .returned (.int .u32 (x.size : Int)) ∧ w' = w := by
  obtain ⟨gt, q, hv, _, _, hc⟩ := h.ty hx
  have c0 : w.cell? ⟨tB, 0, none⟩ = some (.slice (some ⟨gt, 0, none⟩) T.types.length q) := by rw [← hv]; exact h.b.cell 0
  have hi := (List.getElem?_eq_some_iff.1 hx).1
  have i1 : (i : Int) < (T.types.length : Int) := by omega
  have c1 : w.cell? ⟨gt, i * 12 + 8, none⟩ = some (.int .u32 (x.size : Int)) := hc 8 (by decide)
  clear h hv hc hx
  generalize T.types.length = n at c0 hi i1
  go_enter Tryz.func23, Tryz.ntmps23
  go_wp2
  go_ret
  exact ⟨rfl, rfl⟩
set_option maxRecDepth 100000 in
theorem chunkCountW (h : TbM τ w tB V T) {i : Nat} {x : TR} (hx : T.types[i]? = some x) : Calls Tryz.prog 24 #[.pointer (some ⟨tB, 0, none⟩), .int .i32 (i : Int)] w fun e w' => e = .returned (.int .u32 (x.chunks : Int)) ∧ w' = w := by
  obtain ⟨gt, q, hv, _, _, hc⟩ := h.ty hx
  have c0 : w.cell? ⟨tB, 0, none⟩ = some (.slice (some ⟨gt, 0, none⟩) T.types.length q) := by rw [← hv]; exact h.b.cell 0
  have hi := (List.getElem?_eq_some_iff.1 hx).1
  have i1 : (i : Int) < (T.types.length : Int) := by omega
  have c1 : w.cell? ⟨gt, i * 12 + 11, none⟩ = some (.int .u32 (x.chunks : Int)) := hc 11 (by decide)
  clear h hv hc hx
  generalize T.types.length = n at c0 hi i1
  go_enter Tryz.func24, Tryz.ntmps24
  go_wp2
  go_ret
  exact ⟨rfl, rfl⟩
end
end Go.Proofs.Qxb6500883aGreatDoor
