/- Lowering keeps the table in order. -/
import Derived.Test.Qxb6500883aGreatDoorScPb
namespace Go.Proofs.Qxb6500883aGreatDoor
open Go.RowKit
set_option linter.unusedSimpArgs false
set_option linter.unusedVariables false
theorem shp_len (B : BS) (k : SK) : B.T.types.length ≤ (B.shp k).T.types.length := by
  unfold BS.shp
  cases B.sh k with
  | some i => exact Nat.le_refl _
  | none => show _ ≤ (B.T.types ++ [_]).length; simp
theorem uni_len (B : BS) (ids : List Nat) : B.T.types.length ≤ (B.uni ids).T.types.length := by
  unfold BS.uni
  cases B.un (ukB ids) with
  | some i => exact Nat.le_refl _
  | none => show _ ≤ (B.T.types ++ [_]).length; simp
theorem hB1c (B : BS) (nm : ByteArray) (fs : List FD) : B.T.types.length ≤ (B.con nm fs).T.types.length := by
  show _ ≤ (B.T.types ++ [_]).length; simp
theorem fdZ_typ {fs : List FN} {ids : List Nat} {f : FD} {m : Nat} (hf : f ∈ fdZ fs ids) (h : ∀ i ∈ ids, i < m) : f.typ < m := by
  induction fs generalizing ids with
  | nil => simp [fdZ] at hf
  | cons a fs ih =>
    cases ids with
    | nil => simp [fdZ] at hf
    | cons b ids =>
      unfold fdZ at hf
      rw [List.zipWith_cons_cons, List.mem_cons] at hf
      rcases hf with rfl | hf
      · exact h b (by simp)
      · exact ih (ids := ids) hf (fun i hi => h i (by simp [hi]))
theorem Low.ti {F : FS} {vf : Nat → Nat} {n : Nat} (hW : FWf n F) (hv : ∀ c, vf c < 18446744073709551616) {j : LJ} {B B' : BS} {ids : List Nat} (h : Low F vf j B B' ids) : TI B → B'.T.types.length ≤ 200000 → TI B' := by
  induction h with
  | basic _ _ => exact fun h _ => h
  | non _ _ => exact fun h _ => h
  | name _ _ _ _ ih => exact ih
  | @ser B B1 r x e c i h1 h2 h3 h4 h5 ih =>
    intro hB hl
    have hB1 := ih hB (Nat.le_trans (shp_len _ _) hl)
    have hi := (h5.ok hW hB.ok).2.2.2 i (by simp)
    exact hB1.shp _ (by rcases h2 with h2 | h2 <;> simp [h2]) (.ser h2 rfl hi (hv c))
  | @bit B r x c h1 h2 h3 =>
    intro hB hl
    exact hB.shp _ (by rcases h2 with h2 | h2 <;> simp [h2]) (.bit h2 rfl (hv c))
  | @uni B B1 r x ids h1 h2 h3 ih =>
    intro hB hl
    have hB1 := ih hB (Nat.le_trans (uni_len _ _) hl)
    exact hB1.uni ids (h3.ok hW hB.ok).2.2.2 (Nat.le_trans (uni_len _ _) hl) (hB1.ok.uni ids).1
  | nil => exact fun h _ => h
  | @snoc B B1 B2 rs ids r id h1 h2 ih1 ih2 =>
    intro hB hl
    exact ih2 (ih1 hB (Nat.le_trans h2.ext.len.1 hl)) hl
  | done _ => exact fun h _ => h
  | @ali B B1 d x r id h1 h2 h3 h4 h5 ih =>
    intro hB hl
    have hB1 := ih hB hl
    exact hB1.set d _ (hB1.ok.set ((h5.ok hW hB.ok).2.2.2 id (by simp)))
  | @cnt B B1 d x ids h1 h2 h3 h4 ih =>
    intro hB hl
    have hlen : (B1.con x.name (fdZ (fldsOf F x) ids)).T.types.length ≤ 200000 := hl
    have hc := hB1c B1 x.name (fdZ (fldsOf F x) ids)
    have hB1 := ih hB (Nat.le_trans hc hlen)
    have hi := (h4.ok hW hB.ok).2.2.2
    have hcon := hB1.con x.name (fdZ (fldsOf F x) ids) (fun f hf => fdZ_typ hf hi) (hB1.ok.con _ _).1
    exact hcon.set d _ (hcon.ok.set (hB1.ok.con _ _).2)
end Go.Proofs.Qxb6500883aGreatDoor
