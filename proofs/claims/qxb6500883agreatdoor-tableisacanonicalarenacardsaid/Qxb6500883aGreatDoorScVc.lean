/- Containers and declarations of the built table. No Go here. -/
import Derived.Test.Qxb6500883aGreatDoorScVb
namespace Go.Proofs.Qxb6500883aGreatDoor
open Go.RowKit
set_option linter.unusedSimpArgs false
set_option linter.unusedVariables false
/-- Containers are the declarations of their sort. -/
structure CnI (F : FS) (B : BS) : Prop where
  c : ∀ (i : Nat) (x : TR), B.T.types[i]? = some x → x.kind = 7 → ∃ (d : Nat) (y : DN), F.decls[d]? = some y ∧ y.sort = 2 ∧ x.name = y.name ∧ B.dt d = (i : Int) ∧ (flT B.T x).map (·.name) = (fldsOf F y).map (·.name)
  d : ∀ (d : Nat) (y : DN) (i : Nat), F.decls[d]? = some y → y.sort = 2 → B.dt d = (i : Int) → ∃ x, B.T.types[i]? = some x ∧ x.kind = 7 ∧ x.name = y.name
theorem TI.flR {B : BS} (h : TI B) {i : Nat} {x : TR} (hx : B.T.types[i]? = some x) (hk : x.kind = 7) : x.lo ≤ x.hi ∧ x.hi ≤ B.T.flds.length ∧ 8 ≤ i := by
  by_cases h8 : i < 8
  · rw [h.hd i h8] at hx
    cases hx
    unfold biR at hk
    simp only at hk
    split at hk
    · cases hk
    · split at hk <;> cases hk
  · cases h.ty i x (by omega) hx with
    | @ser k e h1 _ _ _ => have hk : k.kind = 7 := hk; omega
    | @bit k h1 _ _ => have hk : k.kind = 7 := hk; omega
    | con h1 h2 h3 => exact ⟨h1, h2, by omega⟩
    | uni h1 h2 h3 => cases hk
theorem flT_ext {T T' : TS} (he : Ext T T') {x : TR} (h1 : x.lo ≤ x.hi) (h2 : x.hi ≤ T.flds.length) : flT T' x = flT T x := by
  unfold flT
  exact he.fldR (by omega)
section
variable {F : FS} {B B' : BS} {vf rk : Nat → Nat} {n : Nat}
theorem CnI.grow (h : CnI F B) (hB : TI B) (he : Ext B.T B'.T) (hdt : B'.dt = B.dt) (hn : ∀ i x, B.T.types.length ≤ i → B'.T.types[i]? = some x → x.kind ≠ 7) : CnI F B' := by
  refine ⟨fun i x hx hk => ?_, fun d y i hd hs hi => ?_⟩
  · by_cases hl : i < B.T.types.length
    · rw [he.typ' hl] at hx
      obtain ⟨d, y, h1, h2, h3, h4, h5⟩ := h.c i x hx hk
      obtain ⟨f1, f2, _⟩ := hB.flR hx hk
      exact ⟨d, y, h1, h2, h3, by rw [hdt]; exact h4, by rw [flT_ext he f1 f2]; exact h5⟩
    · exact absurd hk (hn i x (by omega) hx)
  · rw [hdt] at hi
    obtain ⟨x, h1, h2⟩ := h.d d y i hd hs hi
    exact ⟨x, he.typ h1, h2⟩
theorem CnI.setA {d : Nat} {y : DN} {v : Int} (h : CnI F B) (hd : B.dt d = -1) (hy : F.decls[d]? = some y) (hs : y.sort ≠ 2) : CnI F (B.set d v) := by
  refine ⟨fun i x hx hk => ?_, fun d' y' i hd' hs' hi => ?_⟩
  · obtain ⟨d', y', h1, h2, h3, h4, h5⟩ := h.c i x hx hk
    refine ⟨d', y', h1, h2, h3, ?_, h5⟩
    show fup B.dt d v d' = _
    rw [fup_ne _ _ (fun e => by subst e; rw [hd] at h4; omega)]
    exact h4
  · have hi : fup B.dt d v d' = (i : Int) := hi
    rw [fup_ne _ _ (fun e => by subst e; rw [hy] at hd'; cases hd'; exact hs hs')] at hi
    exact h.d d' y' i hd' hs' hi
theorem CnI.conS {d : Nat} {y : DN} {fs : List FD} (h : CnI F B) (hB : TI B) (hd : B.dt d = -1) (hy : F.decls[d]? = some y) (hs : y.sort = 2) (hf : fs.map (·.name) = (fldsOf F y).map (·.name)) : CnI F ((B.con y.name fs).set d (B.T.types.length : Int)) := by
  have he := B.con_ext y.name fs
  have hn : (B.con y.name fs).T.types[B.T.types.length]? = some (coR y.name B.T.flds.length (B.T.flds.length + fs.length)) := by show (B.T.types ++ [_])[B.T.types.length]? = _; simp
  refine ⟨fun i x hx hk => ?_, fun d' y' i hd' hs' hi => ?_⟩
  · have hx : (B.con y.name fs).T.types[i]? = some x := hx
    by_cases hl : i < B.T.types.length
    · rw [he.typ' hl] at hx
      obtain ⟨d', y', h1, h2, h3, h4, h5⟩ := h.c i x hx hk
      obtain ⟨f1, f2, _⟩ := hB.flR hx hk
      refine ⟨d', y', h1, h2, h3, ?_, by show (flT (B.con y.name fs).T x).map _ = _; rw [flT_ext he f1 f2]; exact h5⟩
      show fup B.dt d _ d' = _
      rw [fup_ne _ _ (fun e => by subst e; rw [hd] at h4; omega)]
      exact h4
    · have hi : i = B.T.types.length := by
        have := (List.getElem?_eq_some_iff.1 hx).1
        have hl2 : (B.con y.name fs).T.types.length = B.T.types.length + 1 := by show (B.T.types ++ [_]).length = _; simp
        omega
      subst hi
      rw [hn] at hx
      cases hx
      refine ⟨d, y, hy, hs, rfl, fup_self _ _ _, ?_⟩
      show (((B.T.flds ++ fs).drop B.T.flds.length).take (B.T.flds.length + fs.length - B.T.flds.length)).map _ = _
      rw [List.drop_left, show B.T.flds.length + fs.length - B.T.flds.length = fs.length by omega, List.take_length]
      exact hf
  · have hi : fup B.dt d (B.T.types.length : Int) d' = (i : Int) := hi
    by_cases e : d' = d
    · subst e
      rw [fup_self] at hi
      rw [hy] at hd'
      cases hd'
      have : i = B.T.types.length := by omega
      subst this
      exact ⟨_, hn, rfl, rfl⟩
    · rw [fup_ne _ _ e] at hi
      obtain ⟨x, h1, h2⟩ := h.d d' y' i hd' hs' hi
      exact ⟨x, he.typ h1, h2⟩
theorem shp_new (B : BS) (k : SK) {i : Nat} {x : TR} (hi : B.T.types.length ≤ i) (hx : (B.shp k).T.types[i]? = some x) : x = shR k := by
  unfold BS.shp at hx
  cases hs : B.sh k with
  | some q => rw [hs] at hx; have := (List.getElem?_eq_some_iff.1 hx).1; simp at this; omega
  | none =>
    rw [hs] at hx
    have hx : (B.T.types ++ [shR k])[i]? = some x := hx
    have hl := (List.getElem?_eq_some_iff.1 hx).1
    simp at hl
    have : i = B.T.types.length := by omega
    subst this
    simp at hx
    exact hx.symm
theorem uni_new (B : BS) (ids : List Nat) {i : Nat} {x : TR} (hi : B.T.types.length ≤ i) (hx : (B.uni ids).T.types[i]? = some x) : x.kind = 8 := by
  unfold BS.uni at hx
  cases hs : B.un (ukB ids) with
  | some q => rw [hs] at hx; have := (List.getElem?_eq_some_iff.1 hx).1; simp at this; omega
  | none =>
    rw [hs] at hx
    have hx : (B.T.types ++ [unR B.T.opts.length (B.T.opts.length + ids.length)])[i]? = some x := hx
    have hl := (List.getElem?_eq_some_iff.1 hx).1
    simp at hl
    have : i = B.T.types.length := by omega
    subst this
    simp at hx
    rw [← hx]
    rfl
theorem Low.cn (hW : FWf n F) (hv : ∀ c, vf c < 18446744073709551616) (hk : Rank (grF F) rk) {j : LJ} {ids : List Nat} (h : Low F vf j B B' ids) : ∀ R, JR F rk R j → TI B → B'.T.types.length ≤ 200000 → CnI F B → CnI F B' := by
  induction h with
  | basic _ _ => intro R _ _ _ h; exact h
  | non _ _ => intro R _ _ _ h; exact h
  | @name B B' r x d id hx hf hd _ ih =>
    intro R hj
    obtain ⟨i, y, hy, h1, h2, h3⟩ := hj
    have := less hk hd hy h1 h2
    obtain ⟨z, hz⟩ := tDA_dcl hd
    exact ih R ⟨z, hz, by omega⟩
  | @ser B B1 r x e c i hx hf he hc h5 ih =>
    intro R hj hB hl hC
    have hl1 := Nat.le_trans (shp_len B1 _) hl
    have h1 := ih R (JT.elem hW hj hx hf he) hB hl1 hC
    refine h1.grow (h5.ti hW hv hB hl1) (BS.shp_ext _ _) (BS.shp_dt _ _) (fun i x hi hx h7 => ?_)
    rw [shp_new _ _ hi hx] at h7
    have h7 : _ = 7 := h7
    simp only [shR] at h7
    omega
  | @bit B r x c hx hf hc =>
    intro R hj hB hl hC
    refine hC.grow hB (BS.shp_ext _ _) (BS.shp_dt _ _) (fun i x hi hx h7 => ?_)
    rw [shp_new _ _ hi hx] at h7
    simp only [shR] at h7
    omega
  | @uni B B1 r x ids hx hf h5 ih =>
    intro R hj hB hl hC
    have hl1 := Nat.le_trans (uni_len B1 _) hl
    have h1 := ih R (JT.kid hW hj hx) hB hl1 hC
    exact h1.grow (h5.ti hW hv hB hl1) (BS.uni_ext _ _) (BS.uni_dt _ _) (fun i x hi hx h7 => by have := uni_new _ _ hi hx; omega)
  | nil => intro R _ _ _ h; exact h
  | @snoc B B1 B2 rs ids r id h1 h2 ih1 ih2 =>
    intro R hj hB hl hC
    have hl1 := Nat.le_trans h2.ext.len.1 hl
    exact ih2 R (hj r (by simp)) (h1.ti hW hv hB hl1) hl (ih1 R (fun q hq => hj q (List.mem_append_left _ hq)) hB hl1 hC)
  | done _ => intro R _ _ _ h; exact h
  | @ali B B1 d x r id hx hs hd hr h5 ih =>
    intro R hj hB hl hC
    have h1 := ih (rk d) (JR.ali hW hx hs hr) hB hl hC
    have h2 := (h5.fix hW hk (rk d) (JR.ali hW hx hs hr)).1 d (Nat.le_refl _)
    exact h1.setA (h2.trans hd) hx (by omega)
  | @cnt B B1 d x ids hx hs hd h5 ih =>
    intro R hj hB hl hC
    have hl0 : (B1.con x.name (fdZ (fldsOf F x) ids)).T.types.length ≤ 200000 := hl
    have hl1 := Nat.le_trans (hB1c B1 x.name (fdZ (fldsOf F x) ids)) hl0
    have h1 := ih (rk d) (JR.cnt hW hx hs) hB hl1 hC
    have h2 := (h5.fix hW hk (rk d) (JR.cnt hW hx hs)).1 d (Nat.le_refl _)
    have hlen := (h5.ok hW hB.ok).2.2.1
    have hlen : (fldsOf F x).length = ids.length := by have e : ids.length = ((fldsOf F x).map (·.typ)).length := hlen; rw [List.length_map] at e; exact e.symm
    exact h1.conS (h5.ti hW hv hB hl1) (h2.trans hd) hx hs (fdZ_names hlen)
theorem CnI.zero : CnI F B0 := by
  refine ⟨fun i x hx hk => ?_, fun d y i _ _ hi => by have hi : (-1 : Int) = (i : Int) := hi; omega⟩
  have := TI.zero.flR hx hk
  have hl : B0.T.types.length = 8 := by show ((List.range 8).map biR).length = 8; simp
  have := (List.getElem?_eq_some_iff.1 hx).1
  omega
theorem CnI.dcl (h : CnI F B) (d : DC) : CnI F (B.dcl d) := ⟨h.c, h.d⟩
theorem Low.dt_dcl {d id : Nat} (h : Low F vf (.dcl d) B B' [id]) : B'.dt d = (id : Int) := by
  cases h with
  | done h => exact h
  | ali _ _ _ _ _ => exact fup_self _ _ _
  | cnt _ _ _ _ => exact fup_self _ _ _
theorem Bld.cn (hW : FWf n F) (hv : ∀ c, vf c < 18446744073709551616) (hk : Rank (grF F) rk) {i : Nat} {bn : ByteArray → Option Nat} (h : Bld F vf i B bn) : B.T.types.length ≤ 200000 → CnI F B := by
  induction h with
  | zero => exact fun _ => CnI.zero
  | con _ _ _ _ ih => exact fun hl => (ih hl).dcl _
  | @typ i B B' bn y id h1 h2 h3 h4 ih =>
    intro hl
    have hl0 : B'.T.types.length ≤ 200000 := hl
    have hl1 := Nat.le_trans h4.ext.len.1 hl0
    exact (h4.cn hW hv hk (rk i + 1) ⟨y, h2, by omega⟩ (h1.ti hW hv hl1) hl0 (ih hl1)).dcl _
/-- The declarations of the table, as far as k. -/
structure DcI (F : FS) (vf : Nat → Nat) (k : Nat) (B : BS) (bn : ByteArray → Option Nat) : Prop where
  len : B.T.decls.length = k
  g : ∀ (i : Nat) (y : DN), i < k → F.decls[i]? = some y → (y.sort = 0 ∧ ∃ e : Nat, y.expr = (e : Int) ∧ B.T.decls[i]? = some ⟨0, y.name, vf e, -1⟩) ∨ (y.sort ≠ 0 ∧ ∃ id : Nat, B.dt i = (id : Int) ∧ B.T.decls[i]? = some ⟨y.sort, y.name, 0, (id : Int)⟩)
  n : ∀ (i : Nat) (y : DN), i < k → F.decls[i]? = some y → bn y.name = some i
theorem Bld.dc (hW : FWf n F) (hk : Rank (grF F) rk) (hd : DclD F F.decls.length) {i : Nat} {bn : ByteArray → Option Nat} (h : Bld F vf i B bn) : DcI F vf i B bn := by
  induction h with
  | zero => exact ⟨rfl, fun i y hi => by omega, fun i y hi => by omega⟩
  | @con i B bn y e h1 h2 h3 h4 ih =>
    have hlt := (List.getElem?_eq_some_iff.1 h2).1
    refine ⟨by show (B.T.decls ++ [_]).length = _; rw [List.length_append, ih.len]; rfl, fun j z hj hz => ?_, fun j z hj hz => ?_⟩
    · by_cases e' : j = i
      · subst e'
        rw [h2] at hz
        cases hz
        exact .inl ⟨h3, e, h4, by show (B.T.decls ++ [_])[j]? = _; rw [List.getElem?_append_right (by rw [ih.len]; exact Nat.le_refl _), ih.len]; simp⟩
      · have := ih.g j z (by omega) hz
        have ea : (B.dcl ⟨0, y.name, vf e, -1⟩).T.decls[j]? = B.T.decls[j]? := by show (B.T.decls ++ [_])[j]? = _; rw [List.getElem?_append_left (by rw [ih.len]; omega)]
        rw [ea]
        exact this
    · by_cases e' : j = i
      · subst e'
        rw [h2] at hz
        cases hz
        exact gup_self _ _ _
      · rw [gup_ne _ _ (hd j i z y (by omega) hlt hz h2)]
        exact ih.n j z (by omega) hz
  | @typ i B B' bn y id h1 h2 h3 h4 ih =>
    have hlt := (List.getElem?_eq_some_iff.1 h2).1
    have hde : B'.T.decls = B.T.decls := h4.ext.d
    have hfx := (h4.fix hW hk (rk i + 1) ⟨y, h2, by omega⟩).2
    refine ⟨by show (B'.T.decls ++ [_]).length = _; rw [List.length_append, hde, ih.len]; rfl, fun j z hj hz => ?_, fun j z hj hz => ?_⟩
    · by_cases e' : j = i
      · subst e'
        rw [h2] at hz
        cases hz
        exact .inr ⟨h3, id, h4.dt_dcl, by show (B'.T.decls ++ [_])[j]? = _; rw [List.getElem?_append_right (by rw [hde, ih.len]; exact Nat.le_refl _), hde, ih.len]; simp⟩
      · have := ih.g j z (by omega) hz
        have ea : (B'.dcl ⟨y.sort, y.name, 0, (id : Int)⟩).T.decls[j]? = B.T.decls[j]? := by show (B'.T.decls ++ [_])[j]? = _; rw [hde, List.getElem?_append_left (by rw [ih.len]; omega)]
        rw [ea]
        rcases this with h | ⟨h5, id', h6, h7⟩
        · exact .inl h
        · exact .inr ⟨h5, id', by show B'.dt j = _; rw [hfx j (by rw [h6]; omega)]; exact h6, h7⟩
    · by_cases e' : j = i
      · subst e'
        rw [h2] at hz
        cases hz
        exact gup_self _ _ _
      · rw [gup_ne _ _ (hd j i z y (by omega) hlt hz h2)]
        exact ih.n j z (by omega) hz
end
end Go.Proofs.Qxb6500883aGreatDoor
