/- The order of the table: a walk over the parts. No Go here. -/
import Derived.Test.Qxb6500883aGreatDoorScVa
import Derived.Test.Qxb6500883aGreatDoorScUe
namespace Go.Proofs.Qxb6500883aGreatDoor
open Go.RowKit
set_option linter.unusedSimpArgs false
set_option linter.unusedVariables false
/-- The types of a list are come to one after the other: k types are there before, k' behind it. -/
inductive Vis (T : TS) : List Nat → Nat → Nat → Prop
  | nil {k : Nat} : Vis T [] k k
  | old {i k k' : Nat} {is : List Nat} : i < k → Vis T is k k' → Vis T (i :: is) k k'
  | new {i k k' : Nat} {is : List Nat} : k ≤ i → Vis T (prI T i) k i → Vis T is (i + 1) k' → Vis T (i :: is) k k'
section
variable {T : TS} {is js : List Nat} {k k' k1 k2 : Nat}
theorem Vis.le (h : Vis T is k k') : k ≤ k' := by
  induction h with
  | nil => exact Nat.le_refl _
  | old _ _ ih => exact ih
  | new h1 _ _ _ ih => omega
theorem Vis.last (h : Vis T is k k') : k' = k ∨ ∃ j ∈ is, k' = j + 1 ∧ k ≤ j := by
  induction h with
  | nil => exact .inl rfl
  | old _ _ ih =>
    rcases ih with h | ⟨j, h1, h2⟩
    · exact .inl h
    · exact .inr ⟨j, by simp [h1], h2⟩
  | @new i k k' is h1 _ _ _ ih =>
    rcases ih with h | ⟨j, h2, h3, h4⟩
    · exact .inr ⟨i, by simp, h, h1⟩
    · exact .inr ⟨j, by simp [h2], h3, by omega⟩
theorem Vis.append (h : Vis T is k k1) (g : Vis T js k1 k2) : Vis T (is ++ js) k k2 := by
  induction h with
  | nil => exact g
  | old h1 _ ih => exact .old h1 (ih g)
  | new h1 h2 _ _ ih => exact .new h1 h2 (ih g)
theorem Vis.used (h : Vis T is k k') : ∀ j, k ≤ j → j < k' → j ∈ is ∨ ∃ i, i < k' ∧ j ∈ prI T i := by
  induction h with
  | nil => intro j h1 h2; omega
  | old _ _ ih =>
    intro j h1 h2
    rcases ih j h1 h2 with h | h
    · exact .inl (by simp [h])
    · exact .inr h
  | @new i k k' is h1 hv hw ih1 ih2 =>
    intro j h2 h3
    have hle := hw.le
    by_cases e : j = i
    · subst e; exact .inl (by simp)
    · by_cases hlt : j < i
      · rcases ih1 j h2 hlt with h | ⟨q, h, h'⟩
        · exact .inr ⟨i, by omega, h⟩
        · exact .inr ⟨q, by omega, h'⟩
      · rcases ih2 j (by omega) h3 with h | h
        · exact .inl (by simp [h])
        · exact .inr h
/-- One type was there, or is the last now. -/
theorem Vis.one {i : Nat} (h : Vis T [i] k k') : (i < k ∧ k' = k) ∨ (k ≤ i ∧ k' = i + 1) := by
  cases h with
  | old h1 h2 => cases h2; exact .inl ⟨h1, rfl⟩
  | new h1 h2 h3 => cases h3; exact .inr ⟨h1, rfl⟩
end
/-- A table has grown, whatever its declarations. -/
structure ExtV (T T' : TS) : Prop where
  t : ∃ l, T'.types = T.types ++ l
  f : ∃ l, T'.flds = T.flds ++ l
  o : ∃ l, T'.opts = T.opts ++ l
theorem Ext.v {T T' : TS} (h : Ext T T') : ExtV T T' := ⟨h.t, h.f, h.o⟩
theorem ExtV.refl (T : TS) : ExtV T T := (Ext.refl T).v
theorem ExtV.trans {T T' T'' : TS} (h : ExtV T T') (k : ExtV T' T'') : ExtV T T'' := by
  obtain ⟨⟨a, a1⟩, ⟨b, b1⟩, ⟨c, c1⟩⟩ := h
  obtain ⟨⟨a', a2⟩, ⟨b', b2⟩, ⟨c', c2⟩⟩ := k
  exact ⟨⟨a ++ a', by rw [a2, a1, List.append_assoc]⟩, ⟨b ++ b', by rw [b2, b1, List.append_assoc]⟩, ⟨c ++ c', by rw [c2, c1, List.append_assoc]⟩⟩
theorem ExtV.ext {T T' : TS} (h : ExtV T T') : Ext T { T' with decls := T.decls } := ⟨h.t, h.f, h.o, rfl⟩
theorem prtT_dcl (T : TS) (ds : List DC) (x : TR) : prtT { T with decls := ds } x = prtT T x := rfl
theorem prtT_shS (T : TS) {k : SK} {e : Nat} (h : k.kind = 3 ∨ k.kind = 4) (he : k.elem = (e : Int)) : prtT T (shR k) = [e] := by
  unfold prtT
  rw [if_pos (show (shR k).kind = 3 ∨ (shR k).kind = 4 from h)]
  show [k.elem.toNat] = [e]
  rw [he]
  rfl
theorem prtT_shB (T : TS) {k : SK} (h : k.kind = 5 ∨ k.kind = 6) : prtT T (shR k) = [] := by
  have e : (shR k).kind = k.kind := rfl
  unfold prtT
  rw [if_neg (by rw [e]; omega), if_neg (by rw [e]; omega), if_neg (by rw [e]; omega)]
theorem prtT_co (T : TS) (nm : ByteArray) (lo hi : Nat) : prtT T (coR nm lo hi) = ((T.flds.drop lo).take (hi - lo)).map (·.typ) := by
  unfold prtT
  rw [if_neg (by show ¬ ((7 : Nat) = 3 ∨ (7 : Nat) = 4); decide), if_pos (show (coR nm lo hi).kind = 7 from rfl)]
  rfl
theorem prtT_un (T : TS) (lo hi : Nat) : prtT T (unR lo hi) = (T.opts.drop lo).take (hi - lo) := by
  unfold prtT
  rw [if_neg (by show ¬ ((8 : Nat) = 3 ∨ (8 : Nat) = 4); decide), if_neg (by show ¬ ((8 : Nat) = 7); decide), if_pos (show (unR lo hi).kind = 8 from rfl)]
  rfl
/-- The parts of a type stay. -/
theorem RecOk.prt {T T' : TS} {i : Nat} {x : TR} (h : RecOk T i x) (he : ExtV T T') : prtT T' x = prtT T x := by
  have he' := he.ext
  cases h with
  | ser h1 h2 h3 h4 => rw [prtT_shS _ h1 h2, prtT_shS _ h1 h2]
  | bit h1 h2 h3 => rw [prtT_shB _ h1, prtT_shB _ h1]
  | con h1 h2 h3 => rw [prtT_co, prtT_co]; rw [← he'.fldR (by omega)]
  | @uni lo ids h1 h2 h3 =>
    rw [prtT_un, prtT_un]
    have e : lo + ids.length - lo = ids.length := by omega
    rw [e, ← he'.optR h1]
theorem biR_prt (T : TS) (i : Nat) : prtT T (biR i) = [] := by
  have hk : (biR i).kind < 3 := by unfold biR; simp only; split <;> (try split) <;> decide
  unfold prtT
  rw [if_neg (by omega), if_neg (by omega), if_neg (by omega)]
theorem TI.prI {B : BS} {T : TS} (h : TI B) (he : ExtV B.T T) {i : Nat} (hi : i < B.T.types.length) : prI T i = prI B.T i := by
  obtain ⟨x, hx⟩ : ∃ x, B.T.types[i]? = some x := ⟨_, List.getElem?_eq_getElem hi⟩
  have hx' : T.types[i]? = some x := he.ext.typ hx
  rw [prI_get hx, prI_get hx']
  by_cases h8 : i < 8
  · rw [h.hd i h8] at hx
    cases hx
    rw [biR_prt, biR_prt]
  · exact (h.ty i x (by omega) hx).prt he
theorem TI.prLt {B : BS} (h : TI B) : PrLt B.T := by
  intro i j hj
  unfold Go.Proofs.Qxb6500883aGreatDoor.prI at hj
  cases hx : B.T.types[i]? with
  | none => rw [hx] at hj; cases hj
  | some x =>
    rw [hx] at hj
    have hj : j ∈ prtT B.T x := hj
    by_cases h8 : i < 8
    · rw [h.hd i h8] at hx
      cases hx
      rw [biR_prt] at hj
      cases hj
    · cases h.ty i x (by omega) hx with
      | ser h1 h2 h3 h4 => rw [prtT_shS _ h1 h2] at hj; simp at hj; omega
      | bit h1 h2 h3 => rw [prtT_shB _ h1] at hj; cases hj
      | @con nm lo hi h1 h2 h3 =>
        rw [prtT_co] at hj
        obtain ⟨f, hf, rfl⟩ := List.mem_map.1 hj
        obtain ⟨q, hq⟩ := List.mem_iff_getElem?.1 hf
        have hq1 := (List.getElem?_eq_some_iff.1 hq).1
        rw [List.length_take, List.length_drop] at hq1
        rw [List.getElem?_take, if_pos (by omega), List.getElem?_drop] at hq
        exact h3 (lo + q) f (by omega) (by omega) hq
      | @uni lo ids h1 h2 h3 =>
        rw [prtT_un] at hj
        have e : lo + ids.length - lo = ids.length := by omega
        rw [e, h2] at hj
        exact h3 j hj
theorem fdZ_typs : ∀ {fs : List FN} {ids : List Nat}, fs.length = ids.length → (fdZ fs ids).map (·.typ) = ids
  | [], [], _ => rfl
  | [], _ :: _, h => by simp at h
  | _ :: _, [], h => by simp at h
  | a :: fs, b :: ids, h => by
    have ih := fdZ_typs (fs := fs) (ids := ids) (by simpa using h)
    unfold fdZ at ih ⊢
    rw [List.zipWith_cons_cons, List.map_cons, ih]
theorem fdZ_names : ∀ {fs : List FN} {ids : List Nat}, fs.length = ids.length → (fdZ fs ids).map (·.name) = fs.map (·.name)
  | [], [], _ => rfl
  | [], _ :: _, h => by simp at h
  | _ :: _, [], h => by simp at h
  | a :: fs, b :: ids, h => by
    have ih := fdZ_names (fs := fs) (ids := ids) (by simpa using h)
    unfold fdZ at ih ⊢
    rw [List.zipWith_cons_cons, List.map_cons, List.map_cons, ih]
/-- Lowering comes to the types in the order of the table. -/
theorem Low.vis {F : FS} {vf : Nat → Nat} {n : Nat} (hW : FWf n F) (hv : ∀ c, vf c < 18446744073709551616) {T : TS} (hT : T.types.length ≤ 200000) {j : LJ} {B B' : BS} {ids : List Nat} (h : Low F vf j B B' ids) : TI B → ExtV B'.T T → Vis T ids B.T.types.length B'.T.types.length := by
  induction h with
  | @basic B r x hx hf =>
    intro hB he
    have := (Low.basic (vf := vf) (B := B) hx hf).ok hW hB.ok
    exact .old (this.2.2.2 _ (by simp)) .nil
  | @non B r x hx hf =>
    intro hB he
    have := (Low.non (vf := vf) (B := B) hx hf).ok hW hB.ok
    exact .old (this.2.2.2 _ (by simp)) .nil
  | name _ _ _ _ ih => exact ih
  | @ser B B1 r x e c i h1 h2 h3 h4 h5 ih =>
    intro hB he
    have he1 := (B1.shp_ext ⟨x.form, (i : Int), vf c⟩).v.trans he
    have hv1 := ih hB he1
    have hl1 : B1.T.types.length ≤ 200000 := Nat.le_trans (by have := he1.ext.len.1; exact this) hT
    have hB1 := h5.ti hW hv hB hl1
    have hi := (h5.ok hW hB.ok).2.2.2 i (by simp)
    cases hs : B1.sh ⟨x.form, (i : Int), vf c⟩ with
    | some q =>
      have e1 : B1.shp ⟨x.form, (i : Int), vf c⟩ = B1 := by unfold BS.shp; rw [hs]
      have e2 : B1.shpI ⟨x.form, (i : Int), vf c⟩ = q := by unfold BS.shpI; rw [hs]; rfl
      rw [e1, e2]
      obtain ⟨q1, q2⟩ := hB1.sh _ q hs
      have q3 := (List.getElem?_eq_some_iff.1 q2).1
      have q4 : i < q := hB1.prLt q i (by rw [prI_get q2, prtT_shS _ h2 rfl]; simp)
      rcases hv1.one with ⟨a, b⟩ | ⟨a, b⟩
      · rw [b] at q3 ⊢
        exact .old q3 .nil
      · omega
    | none =>
      have e1 : B1.shp ⟨x.form, (i : Int), vf c⟩ = { B1 with T := { B1.T with types := B1.T.types ++ [shR ⟨x.form, (i : Int), vf c⟩] }, sh := gup B1.sh ⟨x.form, (i : Int), vf c⟩ (some B1.T.types.length) } := by unfold BS.shp; rw [hs]
      have e2 : B1.shpI ⟨x.form, (i : Int), vf c⟩ = B1.T.types.length := by unfold BS.shpI; rw [hs]; rfl
      rw [e2]
      have hx9 : T.types[B1.T.types.length]? = some (shR ⟨x.form, (i : Int), vf c⟩) := he.ext.typ (by rw [e1]; show (B1.T.types ++ [_])[B1.T.types.length]? = _; simp)
      have hl : (B1.shp ⟨x.form, (i : Int), vf c⟩).T.types.length = B1.T.types.length + 1 := by rw [e1]; show (B1.T.types ++ [_]).length = _; simp
      rw [hl]
      exact .new hv1.le (by rw [prI_get hx9, prtT_shS _ h2 rfl]; exact hv1) .nil
  | @bit B r x c h1 h2 h3 =>
    intro hB he
    cases hs : B.sh ⟨x.form, -1, vf c⟩ with
    | some q =>
      have e1 : B.shp ⟨x.form, -1, vf c⟩ = B := by unfold BS.shp; rw [hs]
      have e2 : B.shpI ⟨x.form, -1, vf c⟩ = q := by unfold BS.shpI; rw [hs]; rfl
      rw [e1, e2]
      obtain ⟨q1, q2⟩ := hB.sh _ q hs
      exact .old (List.getElem?_eq_some_iff.1 q2).1 .nil
    | none =>
      have e1 : B.shp ⟨x.form, -1, vf c⟩ = { B with T := { B.T with types := B.T.types ++ [shR ⟨x.form, -1, vf c⟩] }, sh := gup B.sh ⟨x.form, -1, vf c⟩ (some B.T.types.length) } := by unfold BS.shp; rw [hs]
      have e2 : B.shpI ⟨x.form, -1, vf c⟩ = B.T.types.length := by unfold BS.shpI; rw [hs]; rfl
      rw [e2]
      have hx9 : T.types[B.T.types.length]? = some (shR ⟨x.form, -1, vf c⟩) := he.ext.typ (by rw [e1]; show (B.T.types ++ [_])[B.T.types.length]? = _; simp)
      have hl : (B.shp ⟨x.form, -1, vf c⟩).T.types.length = B.T.types.length + 1 := by rw [e1]; show (B.T.types ++ [_]).length = _; simp
      rw [hl]
      exact .new (Nat.le_refl _) (by rw [prI_get hx9, prtT_shB _ h2]; exact .nil) .nil
  | @uni B B1 r x ids h1 h2 h3 ih =>
    intro hB he
    have he1 := (B1.uni_ext ids).v.trans he
    have hv1 := ih hB he1
    have hl1 : B1.T.types.length ≤ 200000 := Nat.le_trans (by have := he1.ext.len.1; exact this) hT
    have hB1 := h3.ti hW hv hB hl1
    have hi := (h3.ok hW hB.ok).2.2.2
    cases hs : B1.un (ukB ids) with
    | some q =>
      have e1 : B1.uni ids = B1 := by unfold BS.uni; rw [hs]
      have e2 : B1.uniI ids = q := by unfold BS.uniI; rw [hs]; rfl
      rw [e1, e2]
      obtain ⟨q1, lo, q2, q5, q6⟩ := hB1.un _ q (fun o ho => by have := hi o ho; omega) hs
      have q3 := (List.getElem?_eq_some_iff.1 q2).1
      have q4 : ∀ o ∈ ids, o < q := fun o ho => hB1.prLt q o (by
        rw [prI_get q2, prtT_un]
        have e : lo + ids.length - lo = ids.length := by omega
        rw [e, q6]
        exact ho)
      rcases hv1.last with b | ⟨o, a, b, _⟩
      · rw [b] at q3 ⊢
        exact .old q3 .nil
      · have := q4 o a; omega
    | none =>
      have e1 : B1.uni ids = { B1 with T := { B1.T with types := B1.T.types ++ [unR B1.T.opts.length (B1.T.opts.length + ids.length)], opts := B1.T.opts ++ ids }, un := gup B1.un (ukB ids) (some B1.T.types.length) } := by unfold BS.uni; rw [hs]
      have e2 : B1.uniI ids = B1.T.types.length := by unfold BS.uniI; rw [hs]; rfl
      rw [e2]
      have hx9 : T.types[B1.T.types.length]? = some (unR B1.T.opts.length (B1.T.opts.length + ids.length)) := he.ext.typ (by rw [e1]; show (B1.T.types ++ [_])[B1.T.types.length]? = _; simp)
      have hl : (B1.uni ids).T.types.length = B1.T.types.length + 1 := by rw [e1]; show (B1.T.types ++ [_]).length = _; simp
      have ho : (B1.uni ids).T.opts = B1.T.opts ++ ids := by rw [e1]
      have hp : (T.opts.drop B1.T.opts.length).take ids.length = ids := by
        rw [he.ext.optR (T := (B1.uni ids).T) (lo := B1.T.opts.length) (n := ids.length) (by rw [ho]; simp), ho]
        simp
      rw [hl]
      refine .new hv1.le ?_ .nil
      rw [prI_get hx9, prtT_un]
      have e : B1.T.opts.length + ids.length - B1.T.opts.length = ids.length := by omega
      rw [e, hp]
      exact hv1
  | nil => intro _ _; exact .nil
  | @snoc B B1 B2 rs ids r id h1 h2 ih1 ih2 =>
    intro hB he
    have hl1 : B1.T.types.length ≤ 200000 := Nat.le_trans (by have := (h2.ext.v.trans he).ext.len.1; exact this) hT
    exact (ih1 hB (h2.ext.v.trans he)).append (ih2 (h1.ti hW hv hB hl1) he)
  | @done B d id hd =>
    intro hB he
    have := (Low.done (F := F) (vf := vf) hd).ok hW hB.ok
    exact .old (this.2.2.2 _ (by simp)) .nil
  | ali _ _ _ _ _ ih => exact ih
  | @cnt B B1 d x ids h1 h2 h3 h4 ih =>
    intro hB he
    have he0 : ExtV (B1.con x.name (fdZ (fldsOf F x) ids)).T T := he
    have he1 := (B1.con_ext x.name (fdZ (fldsOf F x) ids)).v.trans he0
    have hv1 := ih hB he1
    have hlen := (h4.ok hW hB.ok).2.2.1
    have hlen : (fldsOf F x).length = ids.length := by have e : ids.length = ((fldsOf F x).map (·.typ)).length := hlen; rw [List.length_map] at e; exact e.symm
    have hzl : (fdZ (fldsOf F x) ids).length = ids.length := by rw [fdZ_len, hlen, Nat.min_self]
    have hx9 : T.types[B1.T.types.length]? = some (coR x.name B1.T.flds.length (B1.T.flds.length + (fdZ (fldsOf F x) ids).length)) := he0.ext.typ (by show (B1.T.types ++ [_])[B1.T.types.length]? = _; simp)
    have hp : (T.flds.drop B1.T.flds.length).take (fdZ (fldsOf F x) ids).length = fdZ (fldsOf F x) ids := by
      rw [he0.ext.fldR (lo := B1.T.flds.length) (n := (fdZ (fldsOf F x) ids).length) (by show _ ≤ (B1.T.flds ++ _).length; simp)]
      show ((B1.T.flds ++ fdZ (fldsOf F x) ids).drop B1.T.flds.length).take _ = _
      simp
    have hl : (B1.con x.name (fdZ (fldsOf F x) ids)).T.types.length = B1.T.types.length + 1 := by show (B1.T.types ++ [_]).length = _; simp
    show Vis T [B1.T.types.length] B.T.types.length (B1.con x.name (fdZ (fldsOf F x) ids)).T.types.length
    rw [hl]
    refine .new hv1.le ?_ .nil
    rw [prI_get hx9, prtT_co]
    have e : ∀ a b : Nat, a + b - a = b := fun a b => by omega
    rw [e, hp, fdZ_typs hlen]
    exact hv1
/-- The declared types. -/
def dty (ds : List DC) : List Nat := (ds.filter (fun d => d.sort != 0)).map (fun d => d.typ.toNat)
theorem Bld.vis {F : FS} {vf : Nat → Nat} {n : Nat} (hW : FWf n F) (hv : ∀ c, vf c < 18446744073709551616) {T : TS} (hT : T.types.length ≤ 200000) {i : Nat} {B : BS} {bn : ByteArray → Option Nat} (h : Bld F vf i B bn) : ExtV B.T T → Vis T (dty B.T.decls) 8 B.T.types.length := by
  induction h with
  | zero => intro _; exact .nil
  | @con i B bn y e h1 h2 h3 h4 ih =>
    intro he
    have := ih ⟨he.t, he.f, he.o⟩
    show Vis T (dty (B.T.decls ++ [_])) 8 B.T.types.length
    unfold dty at this ⊢
    rw [List.filter_append, List.map_append]
    simpa using this
  | @typ i B B' bn y id h1 h2 h3 h4 ih =>
    intro he
    have he : ExtV B'.T T := ⟨he.t, he.f, he.o⟩
    have hl1 : B.T.types.length ≤ 200000 := Nat.le_trans (by have := (h4.ext.v.trans he).ext.len.1; exact this) hT
    have a := ih (h4.ext.v.trans he)
    have b := h4.vis hW hv hT (h1.ti hW hv hl1) he
    have := a.append b
    show Vis T (dty (B'.T.decls ++ [⟨y.sort, y.name, 0, (id : Int)⟩])) 8 B'.T.types.length
    rw [h4.ext.d]
    unfold dty at this ⊢
    rw [List.filter_append, List.map_append]
    have e : List.map (fun d : DC => d.typ.toNat) (List.filter (fun d : DC => d.sort != 0) [⟨y.sort, y.name, 0, (id : Int)⟩]) = [id] := by
      rw [List.filter_cons, if_pos (by simpa using h3)]
      simp
    rw [e]
    exact this
end Go.Proofs.Qxb6500883aGreatDoor
