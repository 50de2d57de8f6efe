/- Printed types are covered by written ones. No Go here. -/
import Derived.Test.Qxb6500883aGreatDoorScVd
namespace Go.Proofs.Qxb6500883aGreatDoor
open Go.RowKit
set_option linter.unusedSimpArgs false
set_option linter.unusedVariables false
/-- The kind that a form makes. -/
def frm (f : Nat) : Nat := if f = 7 then 8 else f
/-- Types as they are printed, each against a node: by a name, or bracket for bracket. -/
inductive CovL (F : FS) (T : TS) (al : Nat → Int) : List Nat → List Nat → Prop
  | nil : CovL F T al [] []
  | wd {r i : Nat} {u : List UInt8} {rs is : List Nat} : nmd T al i = some u → CovL F T al rs is → CovL F T al (r :: rs) (i :: is)
  | nod {r i : Nat} {x : TN} {y : TR} {rs is : List Nat} : F.types[r]? = some x → T.types[i]? = some y → 8 ≤ i → nmd T al i = none → brk y.kind = true → y.kind = frm x.form → CovL F T al (kids F x) (prtT T y) → CovL F T al rs is → CovL F T al (r :: rs) (i :: is)
/-- A type written out in full, against a node. -/
def CovF (F : FS) (T : TS) (al : Nat → Int) (r i : Nat) : Prop := ∃ x y, F.types[r]? = some x ∧ T.types[i]? = some y ∧ 8 ≤ i ∧ brk y.kind = true ∧ y.kind = frm x.form ∧ CovL F T al (kids F x) (prtT T y)
section
variable {F : FS} {T : TS} {al : Nat → Int} {vf rk : Nat → Nat} {n : Nat}
theorem CovF.one {r i : Nat} (h : CovF F T al r i) : CovL F T al [r] [i] := by
  obtain ⟨x, y, h1, h2, h3, h4, h5, h6⟩ := h
  cases hn : nmd T al i with
  | some u => exact .wd hn .nil
  | none => exact .nod h1 h2 h3 hn h4 h5 h6 .nil
theorem CovL.append {rs is qs js : List Nat} (h : CovL F T al rs is) (g : CovL F T al qs js) : CovL F T al (rs ++ qs) (is ++ js) := by
  induction h with
  | nil => exact g
  | wd h1 _ ih => exact .wd h1 ih
  | nod h1 h2 h3 h4 h5 h6 h7 _ _ ih => exact .nod h1 h2 h3 h4 h5 h6 h7 ih
/-- Aliased types are written out in full in some alias. -/
def AlC (F : FS) (T : TS) (al : Nat → Int) (B : BS) : Prop := ∀ (d i : Nat) (y : DN) (x : TR), F.decls[d]? = some y → y.sort = 1 → B.dt d = (i : Int) → 8 ≤ i → T.types[i]? = some x → x.kind ≠ 7 → ∃ (d' : Nat) (y' : DN) (r : Nat), F.decls[d']? = some y' ∧ y'.sort = 1 ∧ B.dt d' = (i : Int) ∧ y'.typ = (r : Int) ∧ CovF F T al r i
/-- Declared types go by names. -/
def DtN (T : TS) (al : Nat → Int) (B : BS) : Prop := ∀ (d i : Nat), B.dt d = (i : Int) → ∃ u, nmd T al i = some u
def CvJ (F : FS) (T : TS) (al : Nat → Int) (B' : BS) (ids : List Nat) : LJ → Prop
  | .typ r => CovL F T al [r] ids ∧ AlC F T al B' ∧ ∀ x, F.types[r]? = some x → 3 ≤ x.form → ∀ i ∈ ids, CovF F T al r i
  | .typs rs => CovL F T al rs ids ∧ AlC F T al B'
  | .dcl d => AlC F T al B'
theorem AlC.same {B B' : BS} (h : AlC F T al B) (e : B'.dt = B.dt) : AlC F T al B' := fun d i y x h1 h2 h3 h4 h5 h6 => by
  rw [e] at h3 ⊢
  exact h d i y x h1 h2 h3 h4 h5 h6
theorem nmd_low {i : Nat} (h : i < 8) : nmd T al i = some (bwB i).data.toList := by unfold nmd; rw [if_pos h]
theorem shp_cov {B : BS} {k : SK} (hB : TI (B.shp k)) (he : ExtV (B.shp k).T T) : 8 ≤ B.shpI k ∧ T.types[B.shpI k]? = some (shR k) := by
  have key2 : (B.shp k).sh k = some (B.shpI k) := by
    unfold BS.shp BS.shpI
    cases e : B.sh k with
    | some j => exact e
    | none => exact gup_self _ _ _
  obtain ⟨h8, ht⟩ := hB.sh _ _ key2
  exact ⟨h8, he.ext.typ ht⟩
theorem Low.cov (hW : FWf n F) (hk : Rank (grF F) rk) (hv : ∀ c, vf c < 18446744073709551616) {j : LJ} {B B' : BS} {ids : List Nat} (h : Low F vf j B B' ids) : ∀ R, JR F rk R j → TI B → CnI F B → B'.T.types.length ≤ 200000 → ExtV B'.T T → DtN T al B' → AlC F T al B → CvJ F T al B' ids j := by
  induction h with
  | @basic B r x hx hf =>
    intro R _ hB hN hl hE hD hA
    have := (Low.basic (vf := vf) (B := B) hx hf).ok hW hB.ok
    obtain ⟨y, hy, h1, h2⟩ := hW.tc r (List.getElem?_eq_some_iff.1 hx).1
    have hb := ((hW.d y hy).tw r x h1 h2 hx).basic hf
    exact ⟨.wd (nmd_low (by omega)) .nil, hA, fun x' hx' h3 => by rw [hx] at hx'; cases hx'; omega⟩
  | @non B r x hx hf =>
    intro R _ hB hN hl hE hD hA
    exact ⟨.wd (nmd_low (by omega)) .nil, hA, fun x' hx' h3 => by rw [hx] at hx'; cases hx'; omega⟩
  | @name B B' r x d id hx hf hd hlow ih =>
    intro R hj hB hN hl hE hD hA
    obtain ⟨i, y, hy, h1, h2, h3⟩ := hj
    have hlt := less hk hd hy h1 h2
    obtain ⟨z, hz⟩ := tDA_dcl hd
    obtain ⟨u, hu⟩ := hD d id hlow.dcl_dt
    exact ⟨.wd hu .nil, ih R ⟨z, hz, by omega⟩ hB hN hl hE hD hA, fun x' hx' h3 => by rw [hx] at hx'; cases hx'; omega⟩
  | @ser B B1 r x e c i hx hf he hc h5 ih =>
    intro R hj hB hN hl hE hD hA
    have hE1 := (BS.shp_ext B1 ⟨x.form, (i : Int), vf c⟩).v.trans hE
    have hB2 : TI (B1.shp ⟨x.form, (i : Int), vf c⟩) := (Low.ser hx hf he hc h5).ti hW hv hB hl
    have hkd : kids F x = [e] := by unfold kids; rw [if_pos hf, he]; simp
    obtain ⟨c1, c2, _⟩ := ih R (JT.elem hW hj hx hf he) hB hN (Nat.le_trans (shp_len _ _) hl) hE1 (fun d i hd => hD d i (by rw [BS.shp_dt]; exact hd)) hA
    obtain ⟨h8, ht⟩ := shp_cov hB2 hE
    have hcf : CovF F T al r (B1.shpI ⟨x.form, (i : Int), vf c⟩) := ⟨x, _, hx, ht, h8, by show brk x.form = true; rcases hf with h | h <;> rw [h] <;> rfl, by show x.form = frm x.form; unfold frm; rw [if_neg (by omega)], by rw [hkd, prtT_shS T (k := ⟨x.form, (i : Int), vf c⟩) hf rfl]; exact c1⟩
    refine ⟨hcf.one, c2.same (BS.shp_dt _ _), fun x' hx' h3 q hq => ?_⟩
    simp at hq
    subst hq
    exact hcf
  | @bit B r x c hx hf hc =>
    intro R hj hB hN hl hE hD hA
    have hB2 : TI (B.shp ⟨x.form, -1, vf c⟩) := (Low.bit hx hf hc).ti hW hv hB hl
    have hkd : kids F x = [] := by unfold kids; rw [if_neg (by omega), if_neg (by omega)]
    obtain ⟨h8, ht⟩ := shp_cov hB2 hE
    have hcf : CovF F T al r (B.shpI ⟨x.form, -1, vf c⟩) := ⟨x, _, hx, ht, h8, by show brk x.form = true; rcases hf with h | h <;> rw [h] <;> rfl, by show x.form = frm x.form; unfold frm; rw [if_neg (by omega)], by rw [hkd, prtT_shB T (k := ⟨x.form, -1, vf c⟩) hf]; exact .nil⟩
    refine ⟨hcf.one, hA.same (BS.shp_dt _ _), fun x' hx' h3 q hq => ?_⟩
    simp at hq
    subst hq
    exact hcf
  | @uni B B1 r x ids hx hf h5 ih =>
    intro R hj hB hN hl hE hD hA
    have hE1 := (BS.uni_ext B1 ids).v.trans hE
    have hl1 := Nat.le_trans (uni_len B1 ids) hl
    have hB2 : TI (B1.uni ids) := (Low.uni hx hf h5).ti hW hv hB hl
    obtain ⟨c1, c2⟩ := ih R (JT.kid hW hj hx) hB hN hl1 hE1 (fun d i hd => hD d i (by rw [BS.uni_dt]; exact hd)) hA
    have hid := (h5.ok hW hB.ok).2.2.2
    have key2 : (B1.uni ids).un (ukB ids) = some (B1.uniI ids) := by
      unfold BS.uni BS.uniI
      cases e : B1.un (ukB ids) with
      | some j => exact e
      | none => exact gup_self _ _ _
    obtain ⟨h8, lo, ht, ho1, ho2⟩ := hB2.un ids _ (fun o ho => by have := hid o ho; omega) key2
    have hp : prtT T (unR lo (lo + ids.length)) = ids := by
      rw [prtT_un, Nat.add_sub_cancel_left, hE.ext.optR ho1]
      exact ho2
    have hcf : CovF F T al r (B1.uniI ids) := ⟨x, _, hx, hE.ext.typ ht, h8, rfl, by show 8 = frm x.form; rw [hf]; rfl, by rw [hp]; exact c1⟩
    refine ⟨hcf.one, c2.same (BS.uni_dt _ _), fun x' hx' h3 q hq => ?_⟩
    simp at hq
    subst hq
    exact hcf
  | nil => intro R hj hB hN hl hE hD hA; exact ⟨.nil, hA⟩
  | @snoc B B1 B2 rs ids r id h1 h2 ih1 ih2 =>
    intro R hj hB hN hl hE hD hA
    have hl1 := Nat.le_trans h2.ext.len.1 hl
    have hj2 : JR F rk R (.typ r) := hj r (by simp)
    have hj1 : JR F rk R (.typs rs) := fun q hq => hj q (List.mem_append_left _ hq)
    obtain ⟨f1, f2⟩ := h2.fix hW hk R hj2
    have hD1 : DtN T al B1 := fun d id hd => hD d id (by rw [f2 d (by rw [hd]; omega)]; exact hd)
    obtain ⟨p1, p2⟩ := ih1 R hj1 hB hN hl1 (h2.ext.v.trans hE) hD1 hA
    obtain ⟨q1, q2, _⟩ := ih2 R hj2 (h1.ti hW hv hB hl1) (h1.cn hW hv hk R hj1 hB hl1 hN) hl hE hD p2
    exact ⟨p1.append q1, q2⟩
  | done _ => intro R hj hB hN hl hE hD hA; exact hA
  | @ali B B1 d x r id hx hs hd hr h5 ih =>
    intro R hj hB hN hl hE hD hA
    have hj1 : JR F rk (rk d) (.typ r) := JR.ali hW hx hs hr
    obtain ⟨f1, f2⟩ := h5.fix hW hk (rk d) hj1
    have hd1 : B1.dt d = -1 := (f1 d (Nat.le_refl _)).trans hd
    have hset : ∀ q (v : Nat), B1.dt q = (v : Int) → (B1.set d (id : Int)).dt q = (v : Int) := fun q v hq => by
      show fup B1.dt d (id : Int) q = _
      rw [fup_ne _ _ (fun e => by subst e; rw [hd1] at hq; omega)]
      exact hq
    have hD1 : DtN T al B1 := fun q i2 hq => hD q i2 (hset q i2 hq)
    obtain ⟨c1, c2, c3⟩ := ih (rk d) hj1 hB hN hl hE hD1 hA
    have hN1 := h5.cn hW hv hk (rk d) hj1 hB hl hN
    intro d1 i y z hy hys hdt h8 hz h7
    have hdt : fup B1.dt d (id : Int) d1 = (i : Int) := hdt
    by_cases e : d1 = d
    · subst e
      rw [hx] at hy
      cases hy
      rw [fup_self] at hdt
      have hid : id = i := by omega
      subst hid
      have hrn : ∃ nd, F.types[r]? = some nd := by
        cases h5 with
        | basic h _ => exact ⟨_, h⟩
        | non h _ => exact ⟨_, h⟩
        | name h _ _ _ => exact ⟨_, h⟩
        | ser h _ _ _ _ => exact ⟨_, h⟩
        | bit h _ _ => exact ⟨_, h⟩
        | uni h _ _ => exact ⟨_, h⟩
      obtain ⟨nd, hnd⟩ := hrn
      by_cases h3 : 3 ≤ nd.form
      · exact ⟨d1, x, r, hx, hs, fup_self _ _ _, hr, c3 nd hnd h3 id (by simp)⟩
      · cases h5 with
        | @basic _ _ x1 h hf =>
          exfalso
          obtain ⟨y1, hy1, g1, g2⟩ := hW.tc r (List.getElem?_eq_some_iff.1 h).1
          have hb := ((hW.d y1 hy1).tw r x1 g1 g2 h).basic hf
          omega
        | non h _ => omega
        | @name _ _ _ x1 d2 _ h hf hd2 hlow =>
          obtain ⟨y2, hy2, hn2, hs2⟩ : ∃ y2, F.decls[d2]? = some y2 ∧ y2.name = x1.name ∧ y2.sort ≠ 0 := tDof_ok (by rw [← tDA_get h]; exact hd2)
          have hdt2 := hlow.dcl_dt
          by_cases hs3 : y2.sort = 2
          · exfalso
            obtain ⟨x3, g1, g2, _⟩ := hN1.d d2 y2 id hy2 hs3 hdt2
            have := hE.ext.typ g1
            rw [this] at hz
            cases hz
            exact h7 g2
          · have hle := (hW.d y2 (List.mem_of_getElem? hy2)).sort
            obtain ⟨d', y', r', g1, g2, g3, g4, g5⟩ := c2 d2 id y2 z hy2 (by omega) hdt2 h8 hz h7
            exact ⟨d', y', r', g1, g2, hset d' id g3, g4, g5⟩
        | ser h hf _ _ _ => rw [hnd] at h; cases h; omega
        | bit h hf _ => rw [hnd] at h; cases h; omega
        | uni h hf _ => rw [hnd] at h; cases h; omega
    · rw [fup_ne _ _ e] at hdt
      obtain ⟨d', y', r', g1, g2, g3, g4, g5⟩ := c2 d1 i y z hy hys hdt h8 hz h7
      exact ⟨d', y', r', g1, g2, hset d' i g3, g4, g5⟩
  | @cnt B B1 d x ids hx hs hd h5 ih =>
    intro R hj hB hN hl hE hD hA
    have hj1 : JR F rk (rk d) (.typs ((fldsOf F x).map (·.typ))) := JR.cnt hW hx hs
    obtain ⟨f1, f2⟩ := h5.fix hW hk (rk d) hj1
    have hd1 : B1.dt d = -1 := (f1 d (Nat.le_refl _)).trans hd
    have hE0 : ExtV (B1.con x.name (fdZ (fldsOf F x) ids)).T T := hE
    have hset : ∀ q (v : Nat), B1.dt q = (v : Int) → ((B1.con x.name (fdZ (fldsOf F x) ids)).set d (B1.T.types.length : Int)).dt q = (v : Int) := fun q v hq => by
      show fup B1.dt d _ q = _
      rw [fup_ne _ _ (fun e => by subst e; rw [hd1] at hq; omega)]
      exact hq
    have hl0 : (B1.con x.name (fdZ (fldsOf F x) ids)).T.types.length ≤ 200000 := hl
    obtain ⟨c1, c2⟩ := ih (rk d) hj1 hB hN (Nat.le_trans (hB1c B1 x.name (fdZ (fldsOf F x) ids)) hl0) ((BS.con_ext B1 x.name (fdZ (fldsOf F x) ids)).v.trans hE0) (fun q i2 hq => hD q i2 (hset q i2 hq)) hA
    intro d1 i y z hy hys hdt h8 hz h7
    have hdt : fup B1.dt d _ d1 = (i : Int) := hdt
    rw [fup_ne _ _ (fun e => by subst e; rw [hx] at hy; cases hy; omega)] at hdt
    obtain ⟨d', y', r', g1, g2, g3, g4, g5⟩ := c2 d1 i y z hy hys hdt h8 hz h7
    exact ⟨d', y', r', g1, g2, hset d' i g3, g4, g5⟩
theorem Bld.cov (hW : FWf n F) (hk : Rank (grF F) rk) (hv : ∀ c, vf c < 18446744073709551616) {i : Nat} {B : BS} {bn : ByteArray → Option Nat} (h : Bld F vf i B bn) : B.T.types.length ≤ 200000 → ExtV B.T T → DtN T al B → AlC F T al B := by
  induction h with
  | zero => intro _ _ _ d i y x _ _ hd; have hd : (-1 : Int) = (i : Int) := hd; omega
  | con _ _ _ _ ih => intro hl hE hD; exact ih hl ⟨hE.t, hE.f, hE.o⟩ hD
  | @typ i B B' bn y id h1 h2 h3 h4 ih =>
    intro hl hE hD
    have hE : ExtV B'.T T := ⟨hE.t, hE.f, hE.o⟩
    have hD : DtN T al B' := hD
    have hl : B'.T.types.length ≤ 200000 := hl
    have hl1 := Nat.le_trans h4.ext.len.1 hl
    obtain ⟨f1, f2⟩ := h4.fix hW hk (rk i + 1) ⟨y, h2, Nat.lt_succ_self _⟩
    have hD1 : DtN T al B := fun d id hd => hD d id (by rw [f2 d (by rw [hd]; omega)]; exact hd)
    have := h4.cov hW hk hv (rk i + 1) ⟨y, h2, Nat.lt_succ_self _⟩ (h1.ti hW hv hl1) (h1.cn hW hv hk hl1) hl hE hD (ih hl1 (h4.ext.v.trans hE) hD1)
    exact this
end
end Go.Proofs.Qxb6500883aGreatDoor
