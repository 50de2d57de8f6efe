/- Lowering, plainly: what lowerType and lowerDecl do to the table. No Go here. -/
import Derived.Test.Qxb6500883aGreatDoorScGg
import Derived.Test.Qxb6500883aGreatDoorScBe
namespace Go.Proofs.Qxb6500883aGreatDoor
open Go.RowKit
set_option linter.unusedSimpArgs false
set_option linter.unusedVariables false
/-- The builder's state. -/
structure BS where
  T : TS
  sh : SK → Option Nat
  un : ByteArray → Option Nat
  dt : Nat → Int
/-- A shape: found, or added. -/
def BS.shp (B : BS) (k : SK) : BS := match B.sh k with
  | some _ => B
  | none => { B with T := { B.T with types := B.T.types ++ [shR k] }, sh := gup B.sh k (some B.T.types.length) }
def BS.shpI (B : BS) (k : SK) : Nat := (B.sh k).getD B.T.types.length
/-- A union: found, or added. -/
def BS.uni (B : BS) (ids : List Nat) : BS := match B.un (ukB ids) with
  | some _ => B
  | none => { B with T := { B.T with types := B.T.types ++ [unR B.T.opts.length (B.T.opts.length + ids.length)], opts := B.T.opts ++ ids }, un := gup B.un (ukB ids) (some B.T.types.length) }
def BS.uniI (B : BS) (ids : List Nat) : Nat := (B.un (ukB ids)).getD B.T.types.length
/-- A container, added. -/
def BS.con (B : BS) (nm : ByteArray) (fs : List FD) : BS := { B with T := { B.T with types := B.T.types ++ [coR nm B.T.flds.length (B.T.flds.length + fs.length)], flds := B.T.flds ++ fs } }
def BS.set (B : BS) (d : Nat) (i : Int) : BS := { B with dt := fup B.dt d i }
def BS.size (B : BS) : Nat := B.T.types.length + B.T.opts.length + B.T.flds.length
/-- A container's fields as written. -/
def fldsOf (F : FS) (x : DN) : List FN := (F.fields.drop x.fLo).take (x.fHi - x.fLo)
def fdZ (fs : List FN) (ids : List Nat) : List FD := List.zipWith (fun f i => ⟨f.name, i⟩) fs ids
inductive LJ
  | typ (r : Nat)
  | typs (rs : List Nat)
  | dcl (d : Nat)
inductive Low (F : FS) (vf : Nat → Nat) : LJ → BS → BS → List Nat → Prop
  | basic {B r x} : F.types[r]? = some x → x.form = 0 → Low F vf (.typ r) B B [x.basic]
  | non {B r x} : F.types[r]? = some x → x.form = 1 → Low F vf (.typ r) B B [0]
  | name {B B' r x} {d id : Nat} : F.types[r]? = some x → x.form = 2 → tDA F r = (d : Int) → Low F vf (.dcl d) B B' [id] → Low F vf (.typ r) B B' [id]
  | ser {B B1 r x} {e c i : Nat} : F.types[r]? = some x → x.form = 3 ∨ x.form = 4 → x.elem = (e : Int) → x.count = (c : Int) → Low F vf (.typ e) B B1 [i] → Low F vf (.typ r) B (B1.shp ⟨x.form, (i : Int), vf c⟩) [B1.shpI ⟨x.form, (i : Int), vf c⟩]
  | bit {B r x} {c : Nat} : F.types[r]? = some x → x.form = 5 ∨ x.form = 6 → x.count = (c : Int) → Low F vf (.typ r) B (B.shp ⟨x.form, -1, vf c⟩) [B.shpI ⟨x.form, -1, vf c⟩]
  | uni {B B1 r x ids} : F.types[r]? = some x → x.form = 7 → Low F vf (.typs (kids F x)) B B1 ids → Low F vf (.typ r) B (B1.uni ids) [B1.uniI ids]
  | nil {B} : Low F vf (.typs []) B B []
  | snoc {B B1 B2 rs ids} {r id : Nat} : Low F vf (.typs rs) B B1 ids → Low F vf (.typ r) B1 B2 [id] → Low F vf (.typs (rs ++ [r])) B B2 (ids ++ [id])
  | done {B} {d id : Nat} : B.dt d = (id : Int) → Low F vf (.dcl d) B B [id]
  | ali {B B1 d x} {r id : Nat} : F.decls[d]? = some x → x.sort = 1 → B.dt d = -1 → x.typ = (r : Int) → Low F vf (.typ r) B B1 [id] → Low F vf (.dcl d) B (B1.set d (id : Int)) [id]
  | cnt {B B1 d x ids} : F.decls[d]? = some x → x.sort = 2 → B.dt d = -1 → Low F vf (.typs ((fldsOf F x).map (·.typ))) B B1 ids → Low F vf (.dcl d) B ((B1.con x.name (fdZ (fldsOf F x) ids)).set d (B1.T.types.length : Int)) [B1.T.types.length]
/-- Indices are in range. -/
structure BOk (B : BS) : Prop where
  t : 8 ≤ B.T.types.length
  d : ∀ d, B.dt d = -1 ∨ ∃ i : Nat, B.dt d = (i : Int) ∧ i < B.T.types.length
  s : ∀ k i, B.sh k = some i → i < B.T.types.length
  u : ∀ k i, B.un k = some i → i < B.T.types.length
def LJ.len : LJ → Nat
  | .typ _ => 1
  | .typs rs => rs.length
  | .dcl _ => 1
theorem BOk.shp {B : BS} (h : BOk B) (k : SK) : BOk (B.shp k) ∧ B.shpI k < (B.shp k).T.types.length := by
  unfold BS.shp BS.shpI
  cases e : B.sh k with
  | some i => exact ⟨h, h.s k i e⟩
  | none =>
    have hl : (B.T.types ++ [shR k]).length = B.T.types.length + 1 := by simp
    refine ⟨⟨?_, fun d => ?_, fun k' i hi => ?_, fun k' i hi => ?_⟩, ?_⟩
    · show 8 ≤ (B.T.types ++ [shR k]).length; have := h.t; omega
    · rcases h.d d with h1 | ⟨i, h1, h2⟩
      · exact .inl h1
      · exact .inr ⟨i, h1, by show i < (B.T.types ++ [shR k]).length; omega⟩
    · show i < (B.T.types ++ [shR k]).length
      have hi : gup B.sh k (some B.T.types.length) k' = some i := hi
      by_cases hk : k' = k
      · subst hk; rw [gup_self] at hi; cases hi; omega
      · rw [gup_ne _ _ hk] at hi; have := h.s k' i hi; omega
    · show i < (B.T.types ++ [shR k]).length; have := h.u k' i hi; omega
    · show B.T.types.length < (B.T.types ++ [shR k]).length; omega
theorem BOk.uni {B : BS} (h : BOk B) (ids : List Nat) : BOk (B.uni ids) ∧ B.uniI ids < (B.uni ids).T.types.length := by
  unfold BS.uni BS.uniI
  cases e : B.un (ukB ids) with
  | some i => exact ⟨h, h.u _ i e⟩
  | none =>
    have hl : (B.T.types ++ [unR B.T.opts.length (B.T.opts.length + ids.length)]).length = B.T.types.length + 1 := by simp
    refine ⟨⟨?_, fun d => ?_, fun k' i hi => ?_, fun k' i hi => ?_⟩, ?_⟩
    · show 8 ≤ (B.T.types ++ [_]).length; have := h.t; omega
    · rcases h.d d with h1 | ⟨i, h1, h2⟩
      · exact .inl h1
      · exact .inr ⟨i, h1, by show i < (B.T.types ++ [_]).length; omega⟩
    · show i < (B.T.types ++ [_]).length; have := h.s k' i hi; omega
    · show i < (B.T.types ++ [_]).length
      have hi : gup B.un (ukB ids) (some B.T.types.length) k' = some i := hi
      by_cases hk : k' = ukB ids
      · subst hk; rw [gup_self] at hi; cases hi; omega
      · rw [gup_ne _ _ hk] at hi; have := h.u k' i hi; omega
    · show B.T.types.length < (B.T.types ++ [_]).length; omega
theorem BOk.con {B : BS} (h : BOk B) (nm : ByteArray) (fs : List FD) : BOk (B.con nm fs) ∧ B.T.types.length < (B.con nm fs).T.types.length := by
  have hl : (B.con nm fs).T.types.length = B.T.types.length + 1 := by show (B.T.types ++ [_]).length = _; simp
  refine ⟨⟨?_, fun d => ?_, fun k' i hi => ?_, fun k' i hi => ?_⟩, by omega⟩
  · have := h.t; omega
  · rcases h.d d with h1 | ⟨i, h1, h2⟩
    · exact .inl h1
    · exact .inr ⟨i, h1, by omega⟩
  · have := h.s k' i hi; omega
  · have := h.u k' i hi; omega
theorem BOk.set {B : BS} (h : BOk B) {d i : Nat} (hi : i < B.T.types.length) : BOk (B.set d (i : Int)) := by
  refine ⟨h.t, fun d' => ?_, h.s, h.u⟩
  by_cases hd : d' = d
  · subst hd; exact .inr ⟨i, fup_self _ _ _, hi⟩
  · show fup B.dt d (i : Int) d' = -1 ∨ ∃ j : Nat, fup B.dt d (i : Int) d' = (j : Int) ∧ j < B.T.types.length
    rw [fup_ne _ _ hd]; exact h.d d'
theorem BS.shp_dt (B : BS) (k : SK) : (B.shp k).dt = B.dt := by unfold BS.shp; split <;> rfl
theorem BS.uni_dt (B : BS) (ids : List Nat) : (B.uni ids).dt = B.dt := by unfold BS.uni; split <;> rfl
theorem BS.shp_len (B : BS) (k : SK) : B.T.types.length ≤ (B.shp k).T.types.length ∧ (B.shp k).size ≤ B.size + 1 := by
  unfold BS.shp BS.size
  split
  · omega
  · simp only [List.length_append, List.length_singleton]; omega
theorem BS.uni_len (B : BS) (ids : List Nat) : B.T.types.length ≤ (B.uni ids).T.types.length ∧ (B.uni ids).size ≤ B.size + ids.length + 1 := by
  unfold BS.uni BS.size
  split
  · omega
  · simp only [List.length_append, List.length_singleton]; omega
theorem fdZ_len (fs : List FN) (ids : List Nat) : (fdZ fs ids).length = min fs.length ids.length := by unfold fdZ; simp
/-- Lowering keeps indices in range. -/
theorem Low.ok {F : FS} {vf : Nat → Nat} {n : Nat} (hW : FWf n F) {j : LJ} {B B' : BS} {ids : List Nat} (h : Low F vf j B B' ids) : BOk B → BOk B' ∧ B.T.types.length ≤ B'.T.types.length ∧ ids.length = j.len ∧ ∀ i ∈ ids, i < B'.T.types.length := by
  induction h with
  | @basic B r x hx hf =>
    intro hB
    refine ⟨hB, Nat.le_refl _, rfl, fun i hi => ?_⟩
    simp at hi
    subst hi
    obtain ⟨y, hy, h1, h2⟩ := hW.tc r (List.getElem?_eq_some_iff.1 hx).1
    have := ((hW.d y hy).tw r x h1 h2 hx).basic hf
    have := hB.t
    omega
  | @non B r x hx hf =>
    intro hB
    refine ⟨hB, Nat.le_refl _, rfl, fun i hi => ?_⟩
    simp at hi
    subst hi
    have := hB.t
    omega
  | @name B B' r x d id hx hf hd _ ih => intro hB; exact ih hB
  | @ser B B1 r x e c i hx hf he hc _ ih =>
    intro hB
    obtain ⟨a1, a2, a3, a4⟩ := ih hB
    obtain ⟨b1, b2⟩ := a1.shp ⟨x.form, (i : Int), vf c⟩
    exact ⟨b1, by have := (B1.shp_len ⟨x.form, (i : Int), vf c⟩).1; omega, rfl, fun q hq => by simp at hq; subst hq; exact b2⟩
  | @bit B r x c hx hf hc =>
    intro hB
    obtain ⟨b1, b2⟩ := hB.shp ⟨x.form, -1, vf c⟩
    exact ⟨b1, (B.shp_len ⟨x.form, -1, vf c⟩).1, rfl, fun q hq => by simp at hq; subst hq; exact b2⟩
  | @uni B B1 r x ids hx hf _ ih =>
    intro hB
    obtain ⟨a1, a2, a3, a4⟩ := ih hB
    obtain ⟨b1, b2⟩ := a1.uni ids
    exact ⟨b1, by have := (B1.uni_len ids).1; omega, rfl, fun q hq => by simp at hq; subst hq; exact b2⟩
  | nil => intro hB; exact ⟨hB, Nat.le_refl _, rfl, fun i hi => by cases hi⟩
  | @snoc B B1 B2 rs ids r id _ _ ih1 ih2 =>
    intro hB
    obtain ⟨a1, a2, a3, a4⟩ := ih1 hB
    obtain ⟨b1, b2, b3, b4⟩ := ih2 a1
    refine ⟨b1, by omega, ?_, fun i hi => ?_⟩
    · show (ids ++ [id]).length = (rs ++ [r]).length
      have a3 : ids.length = rs.length := a3
      simp [a3]
    · rcases List.mem_append.1 hi with h | h
      · have := a4 i h; omega
      · exact b4 i h
  | @done B d id hd =>
    intro hB
    refine ⟨hB, Nat.le_refl _, rfl, fun i hi => ?_⟩
    simp at hi
    subst hi
    rcases hB.d d with h1 | ⟨j, h1, h2⟩
    · omega
    · omega
  | @ali B B1 d x r id hx hs hd hr _ ih =>
    intro hB
    obtain ⟨a1, a2, a3, a4⟩ := ih hB
    exact ⟨a1.set (a4 id (by simp)), a2, rfl, a4⟩
  | @cnt B B1 d x ids hx hs hd _ ih =>
    intro hB
    obtain ⟨a1, a2, a3, a4⟩ := ih hB
    obtain ⟨b1, b2⟩ := a1.con x.name (fdZ (fldsOf F x) ids)
    refine ⟨b1.set b2, by show B.T.types.length ≤ (B1.con x.name (fdZ (fldsOf F x) ids)).T.types.length; omega, rfl, fun i hi => ?_⟩
    simp at hi
    subst hi
    exact b2
/-- What is still to be lowered: the weights of the declarations of rank under R that are not lowered. -/
def wtD (F : FS) (d : Nat) : Nat := match F.decls[d]? with
  | some x => 2 * (x.tHi - x.tLo) + 1
  | none => 0
def phi (F : FS) (rk : Nat → Nat) (dt : Nat → Int) (R : Nat) : Nat := ((List.range F.decls.length).map fun d => if dt d = -1 ∧ rk d < R then wtD F d else 0).sum
theorem sum_map_le {f g : Nat → Nat} {l : List Nat} (h : ∀ d ∈ l, f d ≤ g d) : (l.map f).sum ≤ (l.map g).sum := by
  induction l with
  | nil => exact Nat.le_refl _
  | cons a b ih =>
    simp only [List.map_cons, List.sum_cons]
    have := h a (by simp)
    have := ih (fun d hd => h d (by simp [hd]))
    omega
theorem sum_map_add2 {f g p q : Nat → Nat} {l : List Nat} (h : ∀ d ∈ l, f d + g d = p d + q d) : (l.map f).sum + (l.map g).sum = (l.map p).sum + (l.map q).sum := by
  induction l with
  | nil => rfl
  | cons a b ih =>
    simp only [List.map_cons, List.sum_cons]
    have := h a (by simp)
    have := ih (fun d hd => h d (by simp [hd]))
    omega
theorem sum_map_one {f g : Nat → Nat} {l : List Nat} {d c : Nat} (hd : d ∈ l) (h : ∀ e ∈ l, f e ≤ g e) (hc : f d + c ≤ g d) : (l.map f).sum + c ≤ (l.map g).sum := by
  induction l with
  | nil => cases hd
  | cons a b ih =>
    simp only [List.map_cons, List.sum_cons]
    rcases List.mem_cons.1 hd with h1 | h1
    · subst h1
      have := sum_map_le (l := b) (f := f) (g := g) (fun e he => h e (by simp [he]))
      omega
    · have := ih h1 (fun e he => h e (by simp [he]))
      have := h a (by simp)
      omega
section
variable {F : FS} {rk : Nat → Nat} {dt dt' : Nat → Int} {R R' : Nat}
theorem phi_mono (h : R' ≤ R) : phi F rk dt R' ≤ phi F rk dt R := sum_map_le fun d _ => by
  by_cases h1 : dt d = -1 ∧ rk d < R'
  · rw [if_pos h1, if_pos ⟨h1.1, by omega⟩]; exact Nat.le_refl _
  · rw [if_neg h1]; exact Nat.zero_le _
/-- One declaration, under way. -/
theorem phi_in {d : Nat} (hd : d < F.decls.length) (h : dt d = -1) (hR : rk d < R) : phi F rk dt (rk d) + wtD F d ≤ phi F rk dt R := by
  refine sum_map_one (d := d) (List.mem_range.2 hd) (fun e _ => ?_) ?_
  · by_cases h1 : dt e = -1 ∧ rk e < rk d
    · rw [if_pos h1, if_pos ⟨h1.1, by omega⟩]; exact Nat.le_refl _
    · rw [if_neg h1]; exact Nat.zero_le _
  · rw [if_neg (fun h1 => Nat.lt_irrefl _ h1.2), if_pos ⟨h, hR⟩, Nat.zero_add]; exact Nat.le_refl _
/-- One declaration is done. -/
theorem phi_set {d : Nat} {i : Int} (hd : d < F.decls.length) (h : dt d = -1) (hR : rk d < R) (hi : i ≠ -1) : phi F rk (fup dt d i) R + wtD F d ≤ phi F rk dt R := by
  refine sum_map_one (d := d) (List.mem_range.2 hd) (fun e _ => ?_) ?_
  · by_cases he : e = d
    · subst he; rw [fup_self, if_neg (fun h1 => hi h1.1)]; exact Nat.zero_le _
    · rw [fup_ne _ _ he]; exact Nat.le_refl _
  · rw [fup_self, if_neg (fun h1 => hi h1.1), if_pos ⟨h, hR⟩, Nat.zero_add]; exact Nat.le_refl _
/-- What changes lies under R'. -/
theorem phi_diff (h : ∀ j, R' ≤ rk j → dt' j = dt j) (hR : R' ≤ R) : phi F rk dt' R + phi F rk dt R' = phi F rk dt R + phi F rk dt' R' := sum_map_add2 fun d _ => by
  by_cases h1 : rk d < R'
  · have h2 : rk d < R := by omega
    simp only [h1, h2, and_true]
    omega
  · have e := h d (by omega)
    simp only [h1, and_false, if_false, e]
theorem phi_all (hg : RgF F) : phi F rk dt R ≤ 2 * F.types.length + F.decls.length := by
  have h1 : ∀ (l : List DN), ((List.range l.length).map (fun d => match l[d]? with | some x => 2 * (x.tHi - x.tLo) + 1 | none => 0)).sum = 2 * (l.map (fun x => x.tHi - x.tLo)).sum + l.length := by
    intro l
    induction l with
    | nil => rfl
    | cons a b ih =>
      rw [List.length_cons, List.range_succ_eq_map, List.map_cons, List.map_map, List.sum_cons, List.map_cons, List.sum_cons]
      have e : ((fun d => match (a :: b)[d]? with | some x => 2 * (x.tHi - x.tLo) + 1 | none => 0) ∘ Nat.succ) = (fun d => match b[d]? with | some x => 2 * (x.tHi - x.tLo) + 1 | none => 0) := by
        funext d
        simp
      rw [e, ih]
      show 2 * (a.tHi - a.tLo) + 1 + (2 * (b.map (fun x => x.tHi - x.tLo)).sum + b.length) = 2 * (a.tHi - a.tLo + (b.map (fun x => x.tHi - x.tLo)).sum) + (b.length + 1)
      generalize (b.map (fun x => x.tHi - x.tLo)).sum = q
      omega
  have h2 : phi F rk dt R ≤ ((List.range F.decls.length).map (wtD F)).sum := sum_map_le fun d _ => by
    split
    · exact Nat.le_refl _
    · exact Nat.zero_le _
  have h3 := h1 F.decls
  have h4 : ((List.range F.decls.length).map (wtD F)).sum = 2 * (F.decls.map (fun x => x.tHi - x.tLo)).sum + F.decls.length := h3
  rw [h4, hg.1] at h2
  exact h2
end
end Go.Proofs.Qxb6500883aGreatDoor
