/- What lowering keeps: the table grows, its maps tell its types, every node denotes a type. No Go here. -/
import Derived.Test.Qxb6500883aGreatDoorScHa
namespace Go.Proofs.Qxb6500883aGreatDoor
open Go.RowKit
set_option linter.unusedSimpArgs false
set_option linter.unusedVariables false
/-- A union's key tells its options. -/
theorem uk1_inj {a b : Nat} (ha : a < 4294967296) (hb : b < 4294967296) {s t : List UInt8} (h : uk1 a ++ s = uk1 b ++ t) : a = b ∧ s = t := by
  unfold uk1 at h
  simp only [List.cons_append, List.nil_append, List.cons.injEq] at h
  obtain ⟨h1, h2, h3, h4, h5⟩ := h
  refine ⟨?_, h5⟩
  have e : ∀ x y : Nat, UInt8.ofNat x = UInt8.ofNat y → x % 256 = y % 256 := fun x y hxy => by
    have := congrArg UInt8.toNat hxy
    simpa using this
  have e1 := e _ _ h1
  have e2 := e _ _ h2
  have e3 := e _ _ h3
  have e4 := e _ _ h4
  omega
theorem ukL_inj : ∀ {a b : List Nat}, (∀ x ∈ a, x < 4294967296) → (∀ x ∈ b, x < 4294967296) → ukL a = ukL b → a = b
  | [], [], _, _, _ => rfl
  | [], y :: b, _, _, h => by unfold ukL uk1 at h; simp at h
  | x :: a, [], _, _, h => by unfold ukL uk1 at h; simp at h
  | x :: a, y :: b, ha, hb, h => by
    have h : uk1 x ++ ukL a = uk1 y ++ ukL b := by unfold ukL at h ⊢; simpa using h
    obtain ⟨h1, h2⟩ := uk1_inj (ha x (by simp)) (hb y (by simp)) h
    rw [h1, ukL_inj (fun z hz => ha z (by simp [hz])) (fun z hz => hb z (by simp [hz])) h2]
theorem ukB_inj {a b : List Nat} (ha : ∀ x ∈ a, x < 4294967296) (hb : ∀ x ∈ b, x < 4294967296) (h : ukB a = ukB b) : a = b := by
  refine ukL_inj ha hb ?_
  have := congrArg (fun s : ByteArray => s.data.toList) h
  simpa [ukB] using this
/-- A table has grown. -/
structure Ext (T T' : TS) : Prop where
  t : ∃ l, T'.types = T.types ++ l
  f : ∃ l, T'.flds = T.flds ++ l
  o : ∃ l, T'.opts = T.opts ++ l
  d : T'.decls = T.decls
theorem Ext.refl (T : TS) : Ext T T := ⟨⟨[], by simp⟩, ⟨[], by simp⟩, ⟨[], by simp⟩, rfl⟩
theorem Ext.trans {T T' T'' : TS} (h : Ext T T') (k : Ext T' T'') : Ext T T'' := by
  obtain ⟨⟨a, a1⟩, ⟨b, b1⟩, ⟨c, c1⟩, d1⟩ := h
  obtain ⟨⟨a', a2⟩, ⟨b', b2⟩, ⟨c', c2⟩, d2⟩ := k
  exact ⟨⟨a ++ a', by rw [a2, a1, List.append_assoc]⟩, ⟨b ++ b', by rw [b2, b1, List.append_assoc]⟩, ⟨c ++ c', by rw [c2, c1, List.append_assoc]⟩, by rw [d2, d1]⟩
theorem Ext.len {T T' : TS} (h : Ext T T') : T.types.length ≤ T'.types.length ∧ T.flds.length ≤ T'.flds.length ∧ T.opts.length ≤ T'.opts.length := by
  obtain ⟨⟨a, a1⟩, ⟨b, b1⟩, ⟨c, c1⟩, _⟩ := h
  rw [a1, b1, c1]
  simp
theorem Ext.typ {T T' : TS} (h : Ext T T') {i : Nat} {x : TR} (hx : T.types[i]? = some x) : T'.types[i]? = some x := by
  obtain ⟨⟨a, a1⟩, _⟩ := h
  rw [a1, List.getElem?_append_left (List.getElem?_eq_some_iff.1 hx).1]; exact hx
theorem Ext.typ' {T T' : TS} (h : Ext T T') {i : Nat} (hi : i < T.types.length) : T'.types[i]? = T.types[i]? := by
  obtain ⟨⟨a, a1⟩, _⟩ := h
  rw [a1, List.getElem?_append_left hi]
theorem Ext.opt {T T' : TS} (h : Ext T T') {i : Nat} (hi : i < T.opts.length) : T'.opts[i]? = T.opts[i]? := by
  obtain ⟨_, _, ⟨a, a1⟩, _⟩ := h
  rw [a1, List.getElem?_append_left hi]
theorem Ext.fld {T T' : TS} (h : Ext T T') {i : Nat} (hi : i < T.flds.length) : T'.flds[i]? = T.flds[i]? := by
  obtain ⟨_, ⟨a, a1⟩, _⟩ := h
  rw [a1, List.getElem?_append_left hi]
/-- A part of a row that was there stays. -/
theorem Ext.optR {T T' : TS} (h : Ext T T') {lo n : Nat} (hi : lo + n ≤ T.opts.length) : (T'.opts.drop lo).take n = (T.opts.drop lo).take n := by
  obtain ⟨_, _, ⟨a, a1⟩, _⟩ := h
  rw [a1, List.drop_append_of_le_length (by omega), List.take_append_of_le_length (by rw [List.length_drop]; omega)]
theorem Ext.fldR {T T' : TS} (h : Ext T T') {lo n : Nat} (hi : lo + n ≤ T.flds.length) : (T'.flds.drop lo).take n = (T.flds.drop lo).take n := by
  obtain ⟨_, ⟨a, a1⟩, _⟩ := h
  rw [a1, List.drop_append_of_le_length (by omega), List.take_append_of_le_length (by rw [List.length_drop]; omega)]
theorem BS.shp_ext (B : BS) (k : SK) : Ext B.T (B.shp k).T := by
  unfold BS.shp
  split
  · exact Ext.refl _
  · exact ⟨⟨_, rfl⟩, ⟨[], by simp⟩, ⟨[], by simp⟩, rfl⟩
theorem BS.uni_ext (B : BS) (ids : List Nat) : Ext B.T (B.uni ids).T := by
  unfold BS.uni
  split
  · exact Ext.refl _
  · exact ⟨⟨_, rfl⟩, ⟨[], by simp⟩, ⟨_, rfl⟩, rfl⟩
theorem BS.con_ext (B : BS) (nm : ByteArray) (fs : List FD) : Ext B.T (B.con nm fs).T := ⟨⟨_, rfl⟩, ⟨_, rfl⟩, ⟨[], by show B.T.opts = B.T.opts ++ []; simp⟩, rfl⟩
theorem Low.ext {F : FS} {vf : Nat → Nat} {j : LJ} {B B' : BS} {ids : List Nat} (h : Low F vf j B B' ids) : Ext B.T B'.T := by
  induction h with
  | basic _ _ => exact Ext.refl _
  | non _ _ => exact Ext.refl _
  | name _ _ _ _ ih => exact ih
  | ser _ _ _ _ _ ih => exact ih.trans (BS.shp_ext _ _)
  | bit _ _ _ => exact BS.shp_ext _ _
  | uni _ _ _ ih => exact ih.trans (BS.uni_ext _ _)
  | nil => exact Ext.refl _
  | snoc _ _ ih1 ih2 => exact ih1.trans ih2
  | done _ => exact Ext.refl _
  | ali _ _ _ _ _ ih => exact ih
  | cnt _ _ _ _ ih => exact ih.trans (BS.con_ext _ _ _)
/-- Nodes inside declarations of rank R at most. -/
def JT (F : FS) (rk : Nat → Nat) (R r : Nat) : Prop := ∃ i y, F.decls[i]? = some y ∧ y.tLo ≤ r ∧ r < y.tHi ∧ rk i ≤ R
def JR (F : FS) (rk : Nat → Nat) (R : Nat) : LJ → Prop
  | .typ r => JT F rk R r
  | .typs rs => ∀ r ∈ rs, JT F rk R r
  | .dcl d => ∃ y, F.decls[d]? = some y ∧ rk d < R
section
variable {F : FS} {vf rk : Nat → Nat} {n R : Nat}
theorem less (hk : Rank (grF F) rk) {r i d : Nat} {y : DN} (hd : tDA F r = (d : Int)) (hy : F.decls[i]? = some y) (h3 : y.tLo ≤ r) (h4 : r < y.tHi) : rk d < rk i := by
  refine hk i d ?_
  rw [suc_get (grF_get hy)]
  unfold adjF
  refine List.mem_append_left _ (ptT_mem.2 ⟨r - y.tLo, by omega, ?_⟩)
  have : y.tLo + (r - y.tLo) = r := by omega
  rw [this, hd]
theorem tDA_dcl {r d : Nat} (h : tDA F r = (d : Int)) : ∃ y, F.decls[d]? = some y := by
  unfold tDA at h
  split at h
  · unfold tDof at h
    split at h
    · split at h
      · omega
      · rename_i d' hf
        obtain ⟨_, z, hz, _⟩ := fstI_some hf
        split at h
        · omega
        · have : d' = d := by omega
          subst this
          exact ⟨z, hz⟩
    · omega
  · omega
theorem JT.kid (hW : FWf n F) {r : Nat} {x : TN} (hj : JT F rk R r) (hx : F.types[r]? = some x) : ∀ e ∈ kids F x, JT F rk R e := by
  obtain ⟨i, y, hy, h1, h2, h3⟩ := hj
  have hw := (hW.d y (List.mem_of_getElem? hy)).tw r x h1 h2 hx
  intro e he
  unfold kids at he
  split at he
  · rename_i hf
    obtain ⟨a, ha, h4, h5⟩ := hw.elem hf
    rw [ha] at he
    simp at he
    subst he
    exact ⟨i, y, hy, h4, by omega, h3⟩
  · split at he
    · rename_i hf
      obtain ⟨h4, h5, h6⟩ := hw.uni hf
      obtain ⟨j, hj⟩ := List.mem_iff_getElem?.1 he
      have hj1 : j < x.hi - x.lo := by
        have := (List.getElem?_eq_some_iff.1 hj).1
        rw [List.length_take] at this
        omega
      rw [List.getElem?_take, if_pos hj1, List.getElem?_drop] at hj
      obtain ⟨h7, h8⟩ := h6 (x.lo + j) e (by omega) (by omega) hj
      exact ⟨i, y, hy, h7, by omega, h3⟩
    · cases he
theorem JT.elem (hW : FWf n F) {r e : Nat} {x : TN} (hj : JT F rk R r) (hx : F.types[r]? = some x) (hf : x.form = 3 ∨ x.form = 4) (he : x.elem = (e : Int)) : JT F rk R e := by
  refine hj.kid hW hx e ?_
  unfold kids
  rw [if_pos hf, he]
  simp
theorem JR.ali (hW : FWf n F) {d r : Nat} {x : DN} (hx : F.decls[d]? = some x) (hs : x.sort = 1) (hr : x.typ = (r : Int)) : JR F rk (rk d) (.typ r) := by
  obtain ⟨a, h1, h2, h3⟩ := (hW.d x (List.mem_of_getElem? hx)).ali hs
  have : a = r := by omega
  subst this
  exact ⟨d, x, hx, h2, h3, Nat.le_refl _⟩
theorem mem_fldsOf {x : DN} {f : FN} (h : f ∈ fldsOf F x) : ∃ j, x.fLo ≤ j ∧ j < x.fHi ∧ F.fields[j]? = some f := by
  unfold fldsOf at h
  obtain ⟨j, hj⟩ := List.mem_iff_getElem?.1 h
  have hj1 : j < x.fHi - x.fLo := by
    have := (List.getElem?_eq_some_iff.1 hj).1
    rw [List.length_take] at this
    omega
  rw [List.getElem?_take, if_pos hj1, List.getElem?_drop] at hj
  exact ⟨x.fLo + j, by omega, by omega, hj⟩
theorem JR.cnt (hW : FWf n F) {d : Nat} {x : DN} (hx : F.decls[d]? = some x) (hs : x.sort = 2) : JR F rk (rk d) (.typs ((fldsOf F x).map (·.typ))) := by
  intro r hr
  obtain ⟨f, hf, rfl⟩ := List.mem_map.1 hr
  obtain ⟨j, h1, h2, h3⟩ := mem_fldsOf hf
  obtain ⟨h4, h5⟩ := (hW.d x (List.mem_of_getElem? hx)).cnt hs j f h1 h2 h3
  exact ⟨d, x, hx, h4, h5, Nat.le_refl _⟩
/-- Lowering sets declarations of lesser rank only, and each once. -/
theorem Low.fix (hW : FWf n F) (hk : Rank (grF F) rk) {j : LJ} {B B' : BS} {ids : List Nat} (h : Low F vf j B B' ids) : ∀ R, JR F rk R j → (∀ d, R ≤ rk d → B'.dt d = B.dt d) ∧ ∀ d, B.dt d ≠ -1 → B'.dt d = B.dt d := by
  induction h with
  | basic _ _ => intro R _; exact ⟨fun _ _ => rfl, fun _ _ => rfl⟩
  | non _ _ => intro R _; exact ⟨fun _ _ => rfl, fun _ _ => rfl⟩
  | @name B B' r x d id hx hf hd _ ih =>
    intro R hj
    obtain ⟨i, y, hy, h1, h2, h3⟩ := hj
    have := less hk hd hy h1 h2
    obtain ⟨z, hz⟩ := tDA_dcl hd
    exact ih R ⟨z, hz, by omega⟩
  | @ser B B1 r x e c i hx hf he hc _ ih =>
    intro R hj
    have := ih R (JT.elem hW hj hx hf he)
    rw [BS.shp_dt]
    exact this
  | bit _ _ _ => intro R _; rw [BS.shp_dt]; exact ⟨fun _ _ => rfl, fun _ _ => rfl⟩
  | @uni B B1 r x ids hx hf _ ih =>
    intro R hj
    have := ih R (JT.kid hW hj hx)
    rw [BS.uni_dt]
    exact this
  | nil => intro R _; exact ⟨fun _ _ => rfl, fun _ _ => rfl⟩
  | @snoc B B1 B2 rs ids r id _ _ ih1 ih2 =>
    intro R hj
    obtain ⟨a1, a2⟩ := ih1 R (fun q hq => hj q (List.mem_append_left _ hq))
    obtain ⟨b1, b2⟩ := ih2 R (hj r (by simp))
    exact ⟨fun d hd => (b1 d hd).trans (a1 d hd), fun d hd => by
      have := a2 d hd
      rw [b2 d (by rw [this]; exact hd), this]⟩
  | done _ => intro R _; exact ⟨fun _ _ => rfl, fun _ _ => rfl⟩
  | @ali B B1 d x r id hx hs hd hr _ ih =>
    intro R hj
    obtain ⟨_, _, hlt⟩ := hj
    obtain ⟨a1, a2⟩ := ih (rk d) (JR.ali hW hx hs hr)
    refine ⟨fun q hq => ?_, fun q hq => ?_⟩
    · show fup B1.dt d (id : Int) q = B.dt q
      rw [fup_ne _ _ (by intro e; subst e; omega)]
      exact a1 q (by omega)
    · show fup B1.dt d (id : Int) q = B.dt q
      rw [fup_ne _ _ (by intro e; subst e; exact hq hd)]
      exact a2 q hq
  | @cnt B B1 d x ids hx hs hd _ ih =>
    intro R hj
    obtain ⟨_, _, hlt⟩ := hj
    obtain ⟨a1, a2⟩ := ih (rk d) (JR.cnt hW hx hs)
    refine ⟨fun q hq => ?_, fun q hq => ?_⟩
    · show fup B1.dt d _ q = B.dt q
      rw [fup_ne _ _ (by intro e; subst e; omega)]
      exact a1 q (by omega)
    · show fup B1.dt d _ q = B.dt q
      rw [fup_ne _ _ (by intro e; subst e; exact hq hd)]
      exact a2 q hq
end
/-- A type's record is in order. -/
inductive RecOk (T : TS) (i : Nat) : TR → Prop
  | ser {k : SK} {e : Nat} : k.kind = 3 ∨ k.kind = 4 → k.elem = (e : Int) → e < i → k.length < 18446744073709551616 → RecOk T i (shR k)
  | bit {k : SK} : k.kind = 5 ∨ k.kind = 6 → k.elem = -1 → k.length < 18446744073709551616 → RecOk T i (shR k)
  | con {nm : ByteArray} {lo hi : Nat} : lo ≤ hi → hi ≤ T.flds.length → (∀ j f, lo ≤ j → j < hi → T.flds[j]? = some f → f.typ < i) → RecOk T i (coR nm lo hi)
  | uni {lo : Nat} {ids : List Nat} : lo + ids.length ≤ T.opts.length → (T.opts.drop lo).take ids.length = ids → (∀ o ∈ ids, o < i) → RecOk T i (unR lo (lo + ids.length))
theorem RecOk.ext {T T' : TS} {i : Nat} {x : TR} (h : RecOk T i x) (he : Ext T T') : RecOk T' i x := by
  have hl := he.len
  cases h with
  | ser h1 h2 h3 h4 => exact .ser h1 h2 h3 h4
  | bit h1 h2 h3 => exact .bit h1 h2 h3
  | con h1 h2 h3 => exact .con h1 (by omega) (fun j f h4 h5 h6 => h3 j f h4 h5 (by rw [← he.fld (by omega)]; exact h6))
  | uni h1 h2 h3 => exact .uni (by omega) (by rw [he.optR h1]; exact h2) h3
/-- A built-in type's record. -/
def biR (i : Nat) : TR :=
  ⟨if i = 0 then 0 else if i = 1 then 1 else 2, true, 0, -1, 0, 0, if i < 2 then 0 else 2 ^ (i + 1), ⟨#[]⟩, if i = 0 then 0 else if i = 1 then 1 else 2 ^ (i - 2), if i = 0 then 0 else if i = 1 then 1 else 2 ^ (i - 2), if i = 0 then 0 else if i = 1 then 1 else 2 ^ (i - 2), if i = 0 then 0 else 1⟩
/-- The table and its maps are in order. -/
structure TI (B : BS) : Prop where
  ok : BOk B
  hd : ∀ i, i < 8 → B.T.types[i]? = some (biR i)
  ty : ∀ i x, 8 ≤ i → B.T.types[i]? = some x → RecOk B.T i x
  sh : ∀ k i, B.sh k = some i → 8 ≤ i ∧ B.T.types[i]? = some (shR k)
  hs : ∀ k i, (k.kind = 3 ∨ k.kind = 4 ∨ k.kind = 5 ∨ k.kind = 6) → 8 ≤ i → B.T.types[i]? = some (shR k) → B.sh k = some i
  un : ∀ ids i, (∀ o ∈ ids, o < 4294967296) → B.un (ukB ids) = some i → 8 ≤ i ∧ ∃ lo, B.T.types[i]? = some (unR lo (lo + ids.length)) ∧ lo + ids.length ≤ B.T.opts.length ∧ (B.T.opts.drop lo).take ids.length = ids
  nu : ∀ ids i lo, 8 ≤ i → B.T.types[i]? = some (unR lo (lo + ids.length)) → (B.T.opts.drop lo).take ids.length = ids → B.un (ukB ids) = some i
theorem shR_inj {k q : SK} (h : shR k = shR q) : k = q := by
  cases k; cases q
  unfold shR at h
  simp at h
  simp [h]
end Go.Proofs.Qxb6500883aGreatDoor
