/- The walk of textlaw.strs: every string that the script mentions. -/
import Derived.Test.Qxb6500890aDoorTextSmall
import Derived.Test.Qxb6500890aDoorOwn
namespace Go.Proofs.Qxb6500890aDoor
open Go.RowKit
set_option linter.unusedSimpArgs false
set_option linter.unusedVariables false

def opStrs (o : TOp) : List ByteArray := o.s :: o.t :: (o.list ++ o.recs.map (·.1))
def strsOf (l : List TOp) : List ByteArray := l.flatMap opStrs

theorem info_str : (Tryd.prog.info? 9).map (fun i => (i.zero, i.size, i.bytes)) = some (some (.string ByteArray.empty), 1, 16) := by kernel_rfl

def StrsPost (l : List TOp) (w : World) (e : Ending) (w' : World) : Prop := ∃ a n c, e = .returned (.slice a n c) ∧ RowOf w' 1 strCell a n c (strsOf l) ∧ Below w.heap.size w w'

/-- All eight cells of a step. -/
theorem Script.at {w : World} {a : Option Addr} {n c : Nat} {l : List TOp} (h : Script w a n c l) {k : Nat} (hk : k < n) :
    ∃ o, l[k]? = some o ∧ OpOk w o ∧ ∃ b off, a = some ⟨b, off, none⟩ ∧ b < w.heap.size ∧ w.cell? ⟨b, off + k * 8, none⟩ = some (.int .i64 o.kind) ∧ w.cell? ⟨b, off + k * 8 + 1, none⟩ = some (.int .i64 o.a) ∧ w.cell? ⟨b, off + k * 8 + 2, none⟩ = some (.int .i64 o.b) ∧
      w.cell? ⟨b, off + k * 8 + 3, none⟩ = some (.int .i64 o.c) ∧ w.cell? ⟨b, off + k * 8 + 4, none⟩ = some (.string o.s) ∧ w.cell? ⟨b, off + k * 8 + 5, none⟩ = some (.string o.t) ∧ w.cell? ⟨b, off + k * 8 + 6, none⟩ = some (.slice o.la o.ln o.lc) ∧ w.cell? ⟨b, off + k * 8 + 7, none⟩ = some (.slice o.ra o.rn o.rc) := by
  obtain ⟨o, ho, b, off, ha, hb, hc⟩ := h.1.cell hk
  exact ⟨o, ho, h.2 o (List.mem_of_getElem? ho), b, off, ha, hb, hc 0 (by omega), hc 1 (by omega), hc 2 (by omega), hc 3 (by omega), hc 4 (by omega), hc 5 (by omega), hc 6 (by omega), hc 7 (by omega)⟩

theorem strs_take_len (l : List TOp) (k : Nat) (h : ∀ o ∈ l, o.list.length = o.ln ∧ o.recs.length = o.rn) : (strsOf (l.take k)).length ≤ 2 * l.length + opsW l := by
  induction l generalizing k with
  | nil => simp [strsOf]
  | cons o l ih =>
    cases k with
    | zero => simp [strsOf]
    | succ k =>
      have h1 := ih k (fun x hx => h x (by simp [hx]))
      obtain ⟨e1, e2⟩ := h o (by simp)
      simp only [strsOf, List.take_succ_cons, List.flatMap_cons, List.length_append, opsW, List.map_cons, List.sum_cons, List.length_cons] at h1 ⊢
      have : (opStrs o).length ≤ 2 + opW o := by simp [opStrs, opW, e1, e2]; omega
      omega

theorem strs_succ (l : List TOp) (k : Nat) (o : TOp) (h : l[k]? = some o) : strsOf (l.take (k + 1)) = strsOf (l.take k) ++ opStrs o := by
  simp [strsOf, List.take_add_one, h]

theorem strCell_flat (l : List ByteArray) : l.flatMap strCell = l.map .string := by
  induction l with
  | nil => rfl
  | cons x l ih => simp [strCell, ih]

end Go.Proofs.Qxb6500890aDoor
