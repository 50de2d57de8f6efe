/- Containers and unions of the built table are not empty. -/
import Derived.Test.Qxb6500883aGreatDoorScPd
namespace Go.Proofs.Qxb6500883aGreatDoor
open Go.RowKit
set_option linter.unusedSimpArgs false
set_option linter.unusedVariables false
def NeT (T : TS) : Prop := ∀ i x, 8 ≤ i → T.types[i]? = some x → x.kind = 7 ∨ x.kind = 8 → x.lo < x.hi
theorem NeT.snoc {T T' : TS} {a : TR} (h : NeT T) (e : T'.types = T.types ++ [a]) (ha : a.kind = 7 ∨ a.kind = 8 → a.lo < a.hi) : NeT T' := fun i x h8 hx hk => by
  rw [e] at hx
  rcases snoc_get hx with ⟨_, h1⟩ | ⟨_, rfl⟩
  · exact h i x h8 h1 hk
  · exact ha hk
theorem Low.ne {F : FS} {vf : Nat → Nat} {n : Nat} (hW : FWf n F) (hC : ∀ (d : Nat) (x : DN), F.decls[d]? = some x → x.sort = 2 → fldsOf F x ≠ []) (hU : ∀ (r : Nat) (x : TN), F.types[r]? = some x → x.form = 7 → kids F x ≠ []) {j : LJ} {B B' : BS} {ids : List Nat} (h : Low F vf j B B' ids) : BOk B → NeT B.T → NeT B'.T := by
  have hshp : ∀ (B : BS) (k : SK), NeT B.T → (k.kind = 3 ∨ k.kind = 4 ∨ k.kind = 5 ∨ k.kind = 6) → NeT (B.shp k).T := fun B k hB hk => by
    unfold BS.shp
    cases B.sh k with
    | some i => exact hB
    | none => exact hB.snoc rfl (fun hc => by have hc : k.kind = 7 ∨ k.kind = 8 := hc; omega)
  induction h with
  | basic _ _ => exact fun _ h => h
  | non _ _ => exact fun _ h => h
  | name _ _ _ _ ih => exact ih
  | @ser B B1 r x e c i h1 h2 h3 h4 h5 ih => exact fun ho hB => hshp _ _ (ih ho hB) (by rcases h2 with h2 | h2 <;> simp [h2])
  | @bit B r x c h1 h2 h3 => exact fun ho hB => hshp _ _ hB (by rcases h2 with h2 | h2 <;> simp [h2])
  | @uni B B1 r x ids h1 h2 h3 ih =>
    intro ho hB
    have hB1 := ih ho hB
    have hlen : ids.length = (kids F x).length := (h3.ok hW ho).2.2.1
    have hne := List.length_pos_iff.2 (hU r x h1 h2)
    unfold BS.uni
    cases B1.un (ukB ids) with
    | some i => exact hB1
    | none => exact hB1.snoc rfl (fun _ => by show B1.T.opts.length < B1.T.opts.length + ids.length; omega)
  | nil => exact fun _ h => h
  | @snoc B B1 B2 rs ids r id h1 h2 ih1 ih2 => exact fun ho hB => ih2 (h1.ok hW ho).1 (ih1 ho hB)
  | done _ => exact fun _ h => h
  | ali _ _ _ _ _ ih => exact ih
  | @cnt B B1 d x ids h1 h2 h3 h4 ih =>
    intro ho hB
    have hB1 := ih ho hB
    have hlen : ids.length = ((fldsOf F x).map (·.typ)).length := (h4.ok hW ho).2.2.1
    have hne := List.length_pos_iff.2 (hC d x h1 h2)
    have hz : (fdZ (fldsOf F x) ids).length = (fldsOf F x).length := by unfold fdZ; rw [List.length_zipWith]; simp at hlen; omega
    exact hB1.snoc rfl (fun _ => by show B1.T.flds.length < B1.T.flds.length + (fdZ (fldsOf F x) ids).length; omega)
end Go.Proofs.Qxb6500883aGreatDoor
