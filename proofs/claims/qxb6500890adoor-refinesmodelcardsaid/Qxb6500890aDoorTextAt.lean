/- All eight cells of a step of the script. -/
import Derived.Test.Qxb6500890aDoorTextSmall
namespace Go.Proofs.Qxb6500890aDoor
open Go.RowKit
theorem Script.at {w : World} {a : Option Addr} {n c : Nat} {l : List TOp} (h : Script w a n c l) {k : Nat} (hk : k < n) :
    ∃ o, l[k]? = some o ∧ OpOk w o ∧ ∃ b off, a = some ⟨b, off, none⟩ ∧ b < w.heap.size ∧ w.cell? ⟨b, off + k * 8, none⟩ = some (.int .i64 o.kind) ∧ w.cell? ⟨b, off + k * 8 + 1, none⟩ = some (.int .i64 o.a) ∧ w.cell? ⟨b, off + k * 8 + 2, none⟩ = some (.int .i64 o.b) ∧
      w.cell? ⟨b, off + k * 8 + 3, none⟩ = some (.int .i64 o.c) ∧ w.cell? ⟨b, off + k * 8 + 4, none⟩ = some (.string o.s) ∧ w.cell? ⟨b, off + k * 8 + 5, none⟩ = some (.string o.t) ∧ w.cell? ⟨b, off + k * 8 + 6, none⟩ = some (.slice o.la o.ln o.lc) ∧ w.cell? ⟨b, off + k * 8 + 7, none⟩ = some (.slice o.ra o.rn o.rc) := by
  obtain ⟨o, ho, b, off, ha, hb, hc⟩ := h.1.cell hk
  exact ⟨o, ho, h.2 o (List.mem_of_getElem? ho), b, off, ha, hb, hc 0 (by omega), hc 1 (by omega), hc 2 (by omega), hc 3 (by omega), hc 4 (by omega), hc 5 (by omega), hc 6 (by omega), hc 7 (by omega)⟩
end Go.Proofs.Qxb6500890aDoor
