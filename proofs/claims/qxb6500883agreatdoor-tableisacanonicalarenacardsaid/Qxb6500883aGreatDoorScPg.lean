/- How long a type's text can be. No Go here. -/
import Derived.Test.Qxb6500883aGreatDoorScPf
namespace Go.Proofs.Qxb6500883aGreatDoor
open Go.RowKit
set_option linter.unusedSimpArgs false
set_option linter.unusedVariables false
theorem CstL.split {F : FS} {qs : List Nat} : ∀ {rs : List Nat} {k : Nat}, CstL F (rs ++ qs) k → ∃ a b, CstL F rs a ∧ CstL F qs b ∧ k = a + b
  | [], k, h => ⟨0, k, .nil, h, (Nat.zero_add k).symm⟩
  | r :: rs, k, h => by
    rw [List.cons_append] at h
    cases h with
    | @cons _ x _ a b hx h7 ha hb =>
      obtain ⟨c, d, h1, h2, rfl⟩ := CstL.split hb
      exact ⟨a + c + 1, d, .cons hx h7 ha h1, h2, by omega⟩
/-- A table's types and options have grown. -/
structure ExtW (T T' : TS) : Prop where
  t : ∃ l, T'.types = T.types ++ l
  o : ∃ l, T'.opts = T.opts ++ l
theorem Ext.w {T T' : TS} (h : Ext T T') : ExtW T T' := ⟨h.t, h.o⟩
theorem Ext.tw {T T' T'' : TS} (h : Ext T T') (k : ExtW T' T'') : ExtW T T'' := by
  obtain ⟨⟨a, a1⟩, _, ⟨c, c1⟩, _⟩ := h
  obtain ⟨⟨a', a2⟩, ⟨c', c2⟩⟩ := k
  exact ⟨⟨a ++ a', by rw [a2, a1, List.append_assoc]⟩, ⟨c ++ c', by rw [c2, c1, List.append_assoc]⟩⟩
theorem ExtW.typ {T T' : TS} (h : ExtW T T') {i : Nat} {x : TR} (hx : T.types[i]? = some x) : T'.types[i]? = some x := by
  obtain ⟨⟨a, a1⟩, _⟩ := h
  rw [a1, List.getElem?_append_left (List.getElem?_eq_some_iff.1 hx).1]; exact hx
theorem ExtW.optR {T T' : TS} (h : ExtW T T') {lo n : Nat} (hi : lo + n ≤ T.opts.length) : (T'.opts.drop lo).take n = (T.opts.drop lo).take n := by
  obtain ⟨_, ⟨a, a1⟩⟩ := h
  rw [a1, List.drop_append_of_le_length (by omega), List.take_append_of_le_length (by rw [List.length_drop]; omega)]
def szS (r : Nat → List UInt8) (os : List Nat) : Nat := (os.map fun o => (r o).length + 2).sum
theorem jnL_len (r : Nat → List UInt8) (os : List Nat) : (jnL r os).length ≤ szS r os := by
  have key : ∀ (l : List (Nat × Nat)), (l.flatMap fun p => (if p.2 = 0 then [] else [44, 32]) ++ r p.1).length ≤ szS r (l.map (·.1)) := by
    intro l
    induction l with
    | nil => exact Nat.le_refl _
    | cons a b ih =>
      unfold szS at ih ⊢
      simp only [List.flatMap_cons, List.length_append, List.map_cons, List.sum_cons]
      have : (if a.2 = 0 then ([] : List UInt8) else [44, 32]).length ≤ 2 := by split <;> simp
      omega
  have := key os.zipIdx
  unfold jnL
  have e : os.zipIdx.map (·.1) = os := by simp
  rw [e] at this
  exact this
/-- The declared names in a table. -/
structure NmT (N : Nat) (T : TS) : Prop where
  d : ∀ y ∈ T.decls, y.name.size ≤ N
  c : ∀ x ∈ T.types, x.kind = 7 → x.name.size ≤ N
section
variable {F : FS} {vf rk : Nat → Nat} {n N : Nat} {T : TS} {al : Nat → Int}
theorem NmT.dnm (h : NmT N T) (d : Nat) : (dnm T d).length ≤ N := by
  unfold Go.Proofs.Qxb6500883aGreatDoor.dnm
  cases hd : T.decls[d]? with
  | none => exact Nat.zero_le _
  | some y => exact h.d y (List.mem_of_getElem? hd)
/-- A shape's text. -/
theorem shp_rf (hT : TStr T) (hN : NmT N T) {k : SK} {i e m : Nat} (h8 : 8 ≤ i) (hx : T.types[i]? = some (shR k)) (hk : k.kind = 3 ∨ k.kind = 4) (he : k.elem = (e : Int)) (hl : k.length < 18446744073709551616) (hm : (rf T al e).length + 2 ≤ (N + 40) * m) : (rf T al i).length + 2 ≤ (N + 40) * (m + 1) := by
  rw [Nat.mul_succ]
  have hd := dgL_len 19 k.length (Nat.lt_of_lt_of_le hl (by decide))
  have hk7 : (shR k).kind ≠ 7 := by show k.kind ≠ 7; omega
  by_cases ha : 0 ≤ al i
  · rw [rf_alias (by omega) hx hk7 ha]
    have := hN.dnm (al i).toNat
    omega
  · rw [rf_full hT (by omega) hx hk7 ha]
    unfold fl flW
    rw [if_pos (show (shR k).kind = 3 ∨ (shR k).kind = 4 from hk)]
    have e1 : (shR k).elem.toNat = e := by show k.elem.toNat = e; omega
    have e2 : (shR k).length = k.length := rfl
    rw [e1, e2]
    have e3 : (if (shR k).kind = 4 then ([76, 105, 115, 116, 91] : List UInt8) else [86, 101, 99, 116, 111, 114, 91]).length ≤ 7 := by split <;> simp
    simp only [List.length_append]
    simp only [List.length_cons, List.length_nil]
    omega
theorem bit_rf (hT : TStr T) (hN : NmT N T) {k : SK} {i m : Nat} (h8 : 8 ≤ i) (hx : T.types[i]? = some (shR k)) (hk : k.kind = 5 ∨ k.kind = 6) (hl : k.length < 18446744073709551616) : (rf T al i).length + 2 ≤ (N + 40) * (m + 1) := by
  rw [Nat.mul_succ]
  have hd := dgL_len 19 k.length (Nat.lt_of_lt_of_le hl (by decide))
  have hk7 : (shR k).kind ≠ 7 := by show k.kind ≠ 7; omega
  by_cases ha : 0 ≤ al i
  · rw [rf_alias (by omega) hx hk7 ha]
    have := hN.dnm (al i).toNat
    omega
  · rw [rf_full hT (by omega) hx hk7 ha]
    unfold fl flW
    rw [if_neg (show ¬ ((shR k).kind = 3 ∨ (shR k).kind = 4) by show ¬ (k.kind = 3 ∨ k.kind = 4); omega), if_pos (show (shR k).kind = 5 ∨ (shR k).kind = 6 from hk)]
    have e2 : (shR k).length = k.length := rfl
    rw [e2]
    have e3 : (if (shR k).kind = 6 then ([66, 105, 116, 108, 105, 115, 116, 91] : List UInt8) else [66, 105, 116, 118, 101, 99, 116, 111, 114, 91]).length ≤ 10 := by split <;> simp
    simp only [List.length_append]
    simp only [List.length_cons, List.length_nil]
    omega
theorem uni_rf (hT : TStr T) (hN : NmT N T) {ids : List Nat} {lo i m : Nat} (h8 : 8 ≤ i) (hx : T.types[i]? = some (unR lo (lo + ids.length))) (ho : (T.opts.drop lo).take ids.length = ids) (hm : szS (rf T al) ids ≤ (N + 40) * m) : (rf T al i).length + 2 ≤ (N + 40) * (m + 1) := by
  rw [Nat.mul_succ]
  have hk7 : (unR lo (lo + ids.length)).kind ≠ 7 := by show (8 : Nat) ≠ 7; decide
  by_cases ha : 0 ≤ al i
  · rw [rf_alias (by omega) hx hk7 ha]
    have := hN.dnm (al i).toNat
    omega
  · rw [rf_full hT (by omega) hx hk7 ha]
    unfold fl flW
    rw [if_neg (show ¬ ((unR lo (lo + ids.length)).kind = 3 ∨ (unR lo (lo + ids.length)).kind = 4) by show ¬ ((8 : Nat) = 3 ∨ (8 : Nat) = 4); decide), if_neg (show ¬ ((unR lo (lo + ids.length)).kind = 5 ∨ (unR lo (lo + ids.length)).kind = 6) by show ¬ ((8 : Nat) = 5 ∨ (8 : Nat) = 6); decide), if_pos (show (unR lo (lo + ids.length)).kind = 8 from rfl)]
    have e1 : opT T (unR lo (lo + ids.length)) = ids := by
      unfold opT
      show (T.opts.drop lo).take (lo + ids.length - lo) = ids
      rw [Nat.add_sub_cancel_left]
      exact ho
    rw [e1]
    have := jnL_len (rf T al) ids
    simp only [List.length_append]
    simp only [List.length_cons, List.length_nil]
    omega
/-- Every type so far has a text of so many bytes at most. -/
def RfP (N K : Nat) (T : TS) (al : Nat → Int) (B : BS) : Prop := ∀ i, i < B.T.types.length → (rf T al i).length ≤ (N + 40) * (K + 1)
/-- Every lowered declaration goes by a word or a name. -/
def DtP (N : Nat) (T : TS) (al : Nat → Int) (B : BS) : Prop := ∀ d (id : Nat), B.dt d = (id : Int) → (rf T al id).length ≤ N + 7
def RfJ (F : FS) (N K : Nat) (T : TS) (al : Nat → Int) (B B' : BS) (ids : List Nat) : LJ → Prop
  | .typ r => ∀ k, CstL F [r] k → k ≤ K → RfP N K T al B' ∧ ∀ id ∈ ids, (rf T al id).length + 2 ≤ (N + 40) * k
  | .typs rs => ∀ k, CstL F rs k → k ≤ K → RfP N K T al B' ∧ szS (rf T al) ids ≤ (N + 40) * k
  | .dcl d => RfP N K T al B'
theorem rf_low {T : TS} {al : Nat → Int} {i : Nat} (h : i < 8) : (rf T al i).length ≤ 7 := by
  rw [rf_basic h]
  have := bwB_size i
  exact this
theorem RfP.shp {K k : Nat} {B : BS} {q : SK} (h : RfP N K T al B) (hi : B.sh q = none → (rf T al B.T.types.length).length + 2 ≤ (N + 40) * k) (hk : k ≤ K) : RfP N K T al (B.shp q) := by
  unfold BS.shp
  cases e : B.sh q with
  | some j => exact h
  | none =>
    intro i hlt
    have hlt : i < (B.T.types ++ [shR q]).length := hlt
    rw [List.length_append, List.length_singleton] at hlt
    by_cases e2 : i = B.T.types.length
    · subst e2
      have := hi e
      have : (N + 40) * k ≤ (N + 40) * (K + 1) := Nat.mul_le_mul_left _ (by omega)
      omega
    · exact h i (by omega)
theorem RfP.uni {K k : Nat} {B : BS} {q : List Nat} (h : RfP N K T al B) (hi : B.un (ukB q) = none → (rf T al B.T.types.length).length + 2 ≤ (N + 40) * k) (hk : k ≤ K) : RfP N K T al (B.uni q) := by
  unfold BS.uni
  cases e : B.un (ukB q) with
  | some j => exact h
  | none =>
    intro i hlt
    have hlt : i < (B.T.types ++ [unR B.T.opts.length (B.T.opts.length + q.length)]).length := hlt
    rw [List.length_append, List.length_singleton] at hlt
    by_cases e2 : i = B.T.types.length
    · subst e2
      have := hi e
      have : (N + 40) * k ≤ (N + 40) * (K + 1) := Nat.mul_le_mul_left _ (by omega)
      omega
    · exact h i (by omega)
theorem cst_one {r k : Nat} (h : CstL F [r] k) : ∃ x a, F.types[r]? = some x ∧ CstL F (kids F x) a ∧ k = a + 1 := by
  cases h with
  | @cons _ x _ a b hx h7 ha hb =>
    cases hb
    exact ⟨x, a, hx, ha, rfl⟩
theorem Low.dcl_dt {d : Nat} {B B' : BS} {id : Nat} (h : Low F vf (.dcl d) B B' [id]) : B'.dt d = (id : Int) := by
  cases h with
  | done h => exact h
  | ali _ _ _ _ _ => exact fup_self _ _ _
  | cnt _ _ _ _ => exact fup_self _ _ _
theorem Low.rfp (hW : FWf n F) (hk : Rank (grF F) rk) (hv : ∀ c, vf c < 18446744073709551616) (hF : FCst F) (hT : TStr T) (hN : NmT N T) {K : Nat} (hK : ∀ (d : Nat) (x : DN), F.decls[d]? = some x → x.tHi - x.tLo ≤ K) {j : LJ} {B B' : BS} {ids : List Nat} (h : Low F vf j B B' ids) : ∀ R, JR F rk R j → TI B → B'.T.types.length ≤ 200000 → ExtW B'.T T → DtP N T al B' → RfP N K T al B → RfJ F N K T al B B' ids j := by
  induction h with
  | @basic B r x hx hf =>
    intro R _ hB hl hE hD hP k hc hkK
    refine ⟨hP, fun i hi => ?_⟩
    simp at hi
    subst hi
    obtain ⟨y, hy, h1, h2⟩ := hW.tc r (List.getElem?_eq_some_iff.1 hx).1
    have hb := ((hW.d y hy).tw r x h1 h2 hx).basic hf
    have := rf_low (T := T) (al := al) (i := x.basic) (by omega)
    obtain ⟨_, a, _, _, rfl⟩ := cst_one hc
    rw [Nat.mul_succ]
    omega
  | @non B r x hx hf =>
    intro R _ hB hl hE hD hP k hc hkK
    refine ⟨hP, fun i hi => ?_⟩
    simp at hi
    subst hi
    have := rf_low (T := T) (al := al) (i := 0) (by omega)
    obtain ⟨_, a, _, _, rfl⟩ := cst_one hc
    rw [Nat.mul_succ]
    omega
  | @name B B' r x d id hx hf hd hlow ih =>
    intro R hj hB hl hE hD hP k hc hkK
    obtain ⟨i, y, hy, h1, h2, h3⟩ := hj
    have hlt := less hk hd hy h1 h2
    obtain ⟨z, hz⟩ := tDA_dcl hd
    refine ⟨ih R ⟨z, hz, by omega⟩ hB hl hE hD hP, fun i hi => ?_⟩
    simp at hi
    subst hi
    have := hD d _ hlow.dcl_dt
    obtain ⟨_, a, _, _, rfl⟩ := cst_one hc
    rw [Nat.mul_succ]
    omega
  | @ser B B1 r x e c i hx hf he hc h5 ih =>
    intro R hj hB hl hE hD hP k hk2 hkK
    have hE1 := (BS.shp_ext B1 ⟨x.form, (i : Int), vf c⟩).tw hE
    have hB1 := h5.ti hW hv hB (Nat.le_trans (shp_len _ _) hl)
    have hB2 : TI (B1.shp ⟨x.form, (i : Int), vf c⟩) := (Low.ser hx hf he hc h5).ti hW hv hB hl
    obtain ⟨x', a, hx', ha, rfl⟩ := cst_one hk2
    rw [hx] at hx'
    cases hx'
    have hkd : kids F x = [e] := by unfold kids; rw [if_pos hf, he]; simp
    rw [hkd] at ha
    have hD1 : DtP N T al B1 := fun d id hd => hD d id (by rw [BS.shp_dt]; exact hd)
    obtain ⟨hP1, hm⟩ := ih R (JT.elem hW hj hx hf he) hB (Nat.le_trans (shp_len _ _) hl) hE1 hD1 hP a ha (by omega)
    have hm := hm i (by simp)
    have key : ∀ p, (B1.shp ⟨x.form, (i : Int), vf c⟩).sh ⟨x.form, (i : Int), vf c⟩ = some p → (rf T al p).length + 2 ≤ (N + 40) * (a + 1) := fun p hp => by
      obtain ⟨h8, ht⟩ := hB2.sh _ p hp
      exact shp_rf hT hN h8 (hE.typ ht) hf rfl (hv c) hm
    have key2 : (B1.shp ⟨x.form, (i : Int), vf c⟩).sh ⟨x.form, (i : Int), vf c⟩ = some (B1.shpI ⟨x.form, (i : Int), vf c⟩) := by
      unfold BS.shp BS.shpI
      cases e : B1.sh ⟨x.form, (i : Int), vf c⟩ with
      | some j => exact e
      | none => exact gup_self _ _ _
    have key3 := key _ key2
    refine ⟨hP1.shp (k := a + 1) (fun e => ?_) hkK, fun q hq => by simp at hq; subst hq; exact key3⟩
    have e2 : B1.shpI ⟨x.form, (i : Int), vf c⟩ = B1.T.types.length := by unfold BS.shpI; rw [e]; rfl
    rw [e2] at key3
    exact key3
  | @bit B r x c hx hf hc =>
    intro R hj hB hl hE hD hP k hk2 hkK
    have hB2 : TI (B.shp ⟨x.form, -1, vf c⟩) := (Low.bit hx hf hc).ti hW hv hB hl
    obtain ⟨x', a, hx', ha, rfl⟩ := cst_one hk2
    have key : ∀ p, (B.shp ⟨x.form, -1, vf c⟩).sh ⟨x.form, -1, vf c⟩ = some p → (rf T al p).length + 2 ≤ (N + 40) * (a + 1) := fun p hp => by
      obtain ⟨h8, ht⟩ := hB2.sh _ p hp
      exact bit_rf hT hN h8 (hE.typ ht) hf (hv c)
    have key2 : (B.shp ⟨x.form, -1, vf c⟩).sh ⟨x.form, -1, vf c⟩ = some (B.shpI ⟨x.form, -1, vf c⟩) := by
      unfold BS.shp BS.shpI
      cases e : B.sh ⟨x.form, -1, vf c⟩ with
      | some j => exact e
      | none => exact gup_self _ _ _
    have key3 := key _ key2
    refine ⟨hP.shp (k := a + 1) (fun e => ?_) hkK, fun q hq => by simp at hq; subst hq; exact key3⟩
    have e2 : B.shpI ⟨x.form, -1, vf c⟩ = B.T.types.length := by unfold BS.shpI; rw [e]; rfl
    rw [e2] at key3
    exact key3
  | @uni B B1 r x ids hx hf h5 ih =>
    intro R hj hB hl hE hD hP k hk2 hkK
    have hE1 := (BS.uni_ext B1 ids).tw hE
    have hl1 := Nat.le_trans (uni_len B1 ids) hl
    have hB1 := h5.ti hW hv hB hl1
    have hB2 : TI (B1.uni ids) := (Low.uni hx hf h5).ti hW hv hB hl
    obtain ⟨x', a, hx', ha, rfl⟩ := cst_one hk2
    rw [hx] at hx'
    cases hx'
    have hD1 : DtP N T al B1 := fun d id hd => hD d id (by rw [BS.uni_dt]; exact hd)
    obtain ⟨hP1, hm⟩ := ih R (JT.kid hW hj hx) hB hl1 hE1 hD1 hP a ha (by omega)
    have hid := (h5.ok hW hB.ok).2.2.2
    have key : ∀ p, (B1.uni ids).un (ukB ids) = some p → (rf T al p).length + 2 ≤ (N + 40) * (a + 1) := fun p hp => by
      obtain ⟨h8, lo, ht, ho1, ho2⟩ := hB2.un ids p (fun o ho => by have := hid o ho; omega) hp
      exact uni_rf hT hN h8 (hE.typ ht) (by rw [hE.optR ho1]; exact ho2) hm
    have key2 : (B1.uni ids).un (ukB ids) = some (B1.uniI ids) := by
      unfold BS.uni BS.uniI
      cases e : B1.un (ukB ids) with
      | some j => exact e
      | none => exact gup_self _ _ _
    have key3 := key _ key2
    refine ⟨hP1.uni (k := a + 1) (fun e => ?_) hkK, fun q hq => by simp at hq; subst hq; exact key3⟩
    have e2 : B1.uniI ids = B1.T.types.length := by unfold BS.uniI; rw [e]; rfl
    rw [e2] at key3
    exact key3
  | nil =>
    intro R hj hB hl hE hD hP k hc hkK
    exact ⟨hP, Nat.zero_le _⟩
  | @snoc B B1 B2 rs ids r id h1 h2 ih1 ih2 =>
    intro R hj hB hl hE hD hP k hc hkK
    have hl1 := Nat.le_trans h2.ext.len.1 hl
    have hj2 : JR F rk R (.typ r) := hj r (by simp)
    obtain ⟨f1, f2⟩ := h2.fix hW hk R hj2
    have hD1 : DtP N T al B1 := fun d id hd => hD d id (by rw [f2 d (by rw [hd]; omega)]; exact hd)
    obtain ⟨a, b, c1, c2, rfl⟩ := CstL.split hc
    obtain ⟨p1, p2⟩ := ih1 R (fun q hq => hj q (List.mem_append_left _ hq)) hB hl1 (h2.ext.tw hE) hD1 hP a c1 (by omega)
    obtain ⟨q1, q2⟩ := ih2 R hj2 (h1.ti hW hv hB hl1) hl hE hD p1 b c2 (by omega)
    refine ⟨q1, ?_⟩
    have := q2 id (by simp)
    unfold szS at p2 ⊢
    rw [List.map_append, List.sum_append, Nat.mul_add]
    simp only [List.map_cons, List.map_nil, List.sum_cons, List.sum_nil]
    omega
  | done _ => intro R _ hB hl hE hD hP; exact hP
  | @ali B B1 d x r id hx hs hd hr h5 ih =>
    intro R hj hB hl hE hD hP
    have hj1 : JR F rk (rk d) (.typ r) := JR.ali hW hx hs hr
    obtain ⟨f1, f2⟩ := h5.fix hW hk (rk d) hj1
    have hD1 : DtP N T al B1 := fun q id2 hq => by
      refine hD q id2 ?_
      show fup B1.dt d (id : Int) q = (id2 : Int)
      have : q ≠ d := by
        intro e
        subst e
        have := f1 q (Nat.le_refl _)
        omega
      rw [fup_ne _ _ this]
      exact hq
    obtain ⟨k, c1, c2⟩ := (hF x (List.mem_of_getElem? hx)).ali hs
    have er : x.typ.toNat = r := by omega
    rw [er] at c1
    exact (ih (rk d) hj1 hB hl hE hD1 hP k c1 (Nat.le_trans c2 (hK d x hx))).1
  | @cnt B B1 d x ids hx hs hd h5 ih =>
    intro R hj hB hl hE hD hP
    have hj1 : JR F rk (rk d) (.typs ((fldsOf F x).map (·.typ))) := JR.cnt hW hx hs
    obtain ⟨f1, f2⟩ := h5.fix hW hk (rk d) hj1
    have hD1 : DtP N T al B1 := fun q id2 hq => by
      refine hD q id2 ?_
      show fup B1.dt d _ q = (id2 : Int)
      have : q ≠ d := by
        intro e
        subst e
        have := f1 q (Nat.le_refl _)
        omega
      rw [fup_ne _ _ this]
      exact hq
    have hlen : (B1.con x.name (fdZ (fldsOf F x) ids)).T.types.length ≤ 200000 := hl
    have hc := hB1c B1 x.name (fdZ (fldsOf F x) ids)
    obtain ⟨k, c1, c2⟩ := (hF x (List.mem_of_getElem? hx)).cnt hs
    have p := (ih (rk d) hj1 hB (Nat.le_trans hc hlen) ((BS.con_ext B1 x.name (fdZ (fldsOf F x) ids)).tw hE) hD1 hP k c1 (Nat.le_trans c2 (hK d x hx))).1
    intro i hlt
    have hlt : i < (B1.T.types ++ [coR x.name B1.T.flds.length (B1.T.flds.length + (fdZ (fldsOf F x) ids).length)]).length := hlt
    rw [List.length_append, List.length_singleton] at hlt
    by_cases e2 : i = B1.T.types.length
    · have := hD d i (by subst e2; exact fup_self _ _ _)
      have e3 : (N + 40) * 1 ≤ (N + 40) * (K + 1) := Nat.mul_le_mul_left _ (by omega)
      omega
    · exact p i (by omega)
end
/-- What is lowered, and from what. -/
structure DtS (F : FS) (N : Nat) (B : BS) : Prop where
  d : ∀ d (id : Nat), B.dt d = (id : Int) → ∃ y, F.decls[d]? = some y ∧ (y.sort = 1 ∨ ∃ x, B.T.types[id]? = some x ∧ x.kind = 7)
  c : ∀ x ∈ B.T.types, x.kind = 7 → x.name.size ≤ N
section
variable {F : FS} {vf rk : Nat → Nat} {n N : Nat} {T : TS} {al : Nat → Int}
theorem DtS.grow {B B' : BS} {a : TR} (h : DtS F N B) (ht : B'.T.types = B.T.types ++ [a]) (hd : B'.dt = B.dt) (ha : a.kind = 7 → a.name.size ≤ N) : DtS F N B' := by
  refine ⟨fun d id hq => ?_, fun x hx hk => ?_⟩
  · rw [hd] at hq
    obtain ⟨y, h1, h2⟩ := h.d d id hq
    refine ⟨y, h1, h2.imp (fun e => e) fun ⟨x, h3, h4⟩ => ⟨x, ?_, h4⟩⟩
    rw [ht, List.getElem?_append_left (List.getElem?_eq_some_iff.1 h3).1]
    exact h3
  · rw [ht, List.mem_append] at hx
    rcases hx with h1 | h1
    · exact h.c x h1 hk
    · simp at h1
      subst h1
      exact ha hk
theorem Low.dts (hn : ∀ (d : Nat) (y : DN), F.decls[d]? = some y → y.name.size ≤ N) {j : LJ} {B B' : BS} {ids : List Nat} (h : Low F vf j B B' ids) : DtS F N B → DtS F N B' := by
  have hshp : ∀ (B : BS) (k : SK), (k.kind = 3 ∨ k.kind = 4 ∨ k.kind = 5 ∨ k.kind = 6) → DtS F N B → DtS F N (B.shp k) := fun B k hk hB => by
    unfold BS.shp
    cases B.sh k with
    | some i => exact hB
    | none => exact hB.grow (a := shR k) rfl rfl (fun hc => by have hc : k.kind = 7 := hc; omega)
  induction h with
  | basic _ _ => exact fun h => h
  | non _ _ => exact fun h => h
  | name _ _ _ _ ih => exact ih
  | @ser B B1 r x e c i h1 h2 h3 h4 h5 ih => exact fun hB => hshp _ _ (by rcases h2 with h2 | h2 <;> simp [h2]) (ih hB)
  | @bit B r x c h1 h2 h3 => exact fun hB => hshp _ _ (by rcases h2 with h2 | h2 <;> simp [h2]) hB
  | @uni B B1 r x ids h1 h2 h3 ih =>
    intro hB
    have hB1 := ih hB
    unfold BS.uni
    cases B1.un (ukB ids) with
    | some i => exact hB1
    | none => exact hB1.grow (a := unR B1.T.opts.length (B1.T.opts.length + ids.length)) rfl rfl (fun hc => by cases hc)
  | nil => exact fun h => h
  | snoc _ _ ih1 ih2 => exact fun h => ih2 (ih1 h)
  | done _ => exact fun h => h
  | @ali B B1 d x r id hx hs hd hr h5 ih =>
    intro hB
    have hB1 := ih hB
    refine ⟨fun q i hq => ?_, hB1.c⟩
    by_cases e : q = d
    · subst e; exact ⟨x, hx, .inl hs⟩
    · have hq : fup B1.dt d (id : Int) q = (i : Int) := hq
      rw [fup_ne _ _ e] at hq
      exact hB1.d q i hq
  | @cnt B B1 d x ids hx hs hd h5 ih =>
    intro hB
    have hB1 := ih hB
    have hB2 : DtS F N (B1.con x.name (fdZ (fldsOf F x) ids)) := hB1.grow (a := coR x.name B1.T.flds.length (B1.T.flds.length + (fdZ (fldsOf F x) ids).length)) rfl rfl (fun _ => hn d x hx)
    refine ⟨fun q i hq => ?_, hB2.c⟩
    have hq : fup B1.dt d (B1.T.types.length : Int) q = (i : Int) := hq
    by_cases e : q = d
    · subst e
      rw [fup_self] at hq
      refine ⟨x, hx, .inr ⟨coR x.name B1.T.flds.length (B1.T.flds.length + (fdZ (fldsOf F x) ids).length), ?_, rfl⟩⟩
      have : i = B1.T.types.length := by omega
      subst this
      show (B1.T.types ++ [_])[B1.T.types.length]? = _
      simp
    · rw [fup_ne _ _ e] at hq
      exact hB2.d q i hq
/-- The declarations so far, in the table. -/
structure DcT (F : FS) (N i : Nat) (B : BS) : Prop where
  l : B.T.decls.length = i
  s : DtS F N B
  n : ∀ y ∈ B.T.decls, y.name.size ≤ N
  d : ∀ k y, k < i → F.decls[k]? = some y → y.sort ≠ 0 → ∃ id : Nat, B.T.decls[k]? = some ⟨y.sort, y.name, 0, (id : Int)⟩ ∧ B.dt k = (id : Int)
theorem Low.dec {j : LJ} {B B' : BS} {ids : List Nat} (h : Low F vf j B B' ids) : B'.T.decls = B.T.decls := h.ext.d
theorem Bld.dct (hW : FWf n F) (hk : Rank (grF F) rk) (hn : ∀ (d : Nat) (y : DN), F.decls[d]? = some y → y.name.size ≤ N) {i : Nat} {B : BS} {bn : ByteArray → Option Nat} (h : Bld F vf i B bn) : DcT F N i B := by
  induction h with
  | zero =>
    refine ⟨rfl, ⟨fun d id hd => ?_, fun x hx hk => ?_⟩, fun y hy => (by cases hy), fun k y hk => absurd hk (Nat.not_lt_zero _)⟩
    · have hd : (-1 : Int) = (id : Int) := hd
      omega
    · have hx : x ∈ (List.range 8).map biR := hx
      obtain ⟨a, _, rfl⟩ := List.mem_map.1 hx
      unfold biR at hk
      simp only at hk
      split at hk
      · cases hk
      · split at hk <;> cases hk
  | @con i B bn y e h1 h2 h3 h4 ih =>
    refine ⟨by show (B.T.decls ++ [_]).length = i + 1; rw [List.length_append, ih.l]; rfl, ⟨ih.s.d, ih.s.c⟩, fun z hz => ?_, fun k z hk hz hs => ?_⟩
    · have hz : z ∈ B.T.decls ++ [⟨0, y.name, vf e, -1⟩] := hz
      rcases List.mem_append.1 hz with h | h
      · exact ih.n z h
      · simp at h; subst h; exact hn i y h2
    · by_cases e2 : k = i
      · subst e2
        rw [h2] at hz
        cases hz
        exact absurd h3 hs
      · obtain ⟨id, a1, a2⟩ := ih.d k z (by omega) hz hs
        refine ⟨id, ?_, a2⟩
        show (B.T.decls ++ [_])[k]? = _
        rw [List.getElem?_append_left (by have := ih.l; omega)]
        exact a1
  | @typ i B B' bn y id h1 h2 h3 h4 ih =>
    have hd := h4.dec
    have hs := h4.dts hn ih.s
    refine ⟨by show (B'.T.decls ++ [_]).length = i + 1; rw [List.length_append, hd, ih.l]; rfl, ⟨hs.d, hs.c⟩, fun z hz => ?_, fun k z hk2 hz hs => ?_⟩
    · have hz : z ∈ B'.T.decls ++ [⟨y.sort, y.name, 0, (id : Int)⟩] := hz
      rw [hd] at hz
      rcases List.mem_append.1 hz with h | h
      · exact ih.n z h
      · simp at h; subst h; exact hn i y h2
    · by_cases e2 : k = i
      · subst e2
        rw [h2] at hz
        cases hz
        refine ⟨id, ?_, h4.dcl_dt⟩
        show (B'.T.decls ++ [_])[k]? = _
        rw [hd, List.getElem?_append_right (by have := ih.l; omega)]
        have := ih.l
        simp [this]
      · obtain ⟨id2, a1, a2⟩ := ih.d k z (by omega) hz hs
        obtain ⟨f1, f2⟩ := h4.fix hW hk (rk i + 1) ⟨y, h2, Nat.lt_succ_self _⟩
        refine ⟨id2, ?_, ?_⟩
        · show (B'.T.decls ++ [_])[k]? = _
          rw [hd, List.getElem?_append_left (by have := ih.l; omega)]
          exact a1
        · show B'.dt k = _
          rw [f2 k (by rw [a2]; omega)]
          exact a2
/-- Every declared bracketed type has an alias. -/
theorem alK_pos {T : TS} {d : Nat} {D : DC} (hD : T.decls[d]? = some D) (hs : D.sort = 1) (hb : brk (knd T D.typ.toNat) = true) : ∀ k, d < k → 0 ≤ alK T k D.typ.toNat
  | 0, h => absurd h (Nat.not_lt_zero _)
  | k + 1, h => by
    by_cases e : d = k
    · subst e
      rw [alK_succ hD]
      by_cases hn : alK T d D.typ.toNat < 0
      · rw [if_pos ⟨hs, hn, hb⟩, fup_self]; omega
      · rw [if_neg (fun c => hn c.2.1)]; omega
    · have ih := alK_pos hD hs hb k (by omega)
      cases hk : T.decls[k]? with
      | none => rw [alK, hk]; exact ih
      | some z =>
        rw [alK_succ hk]
        split
        · by_cases e2 : D.typ.toNat = z.typ.toNat
          · rw [e2, fup_self]; omega
          · rw [fup_ne _ _ e2]; exact ih
        · exact ih
theorem DcT.dtp {B : BS} (h : DcT F N F.decls.length B) (hI : TI B) : DtP N B.T (alK B.T F.decls.length) B := by
  intro d id hd
  obtain ⟨y, hy, hc⟩ := h.s.d d id hd
  have hlt : id < B.T.types.length := by
    rcases hI.ok.d d with h1 | ⟨j, h1, h2⟩
    · omega
    · omega
  have hN : NmT N B.T := ⟨h.n, h.s.c⟩
  by_cases h8 : id < 8
  · have := rf_low (T := B.T) (al := alK B.T F.decls.length) h8; omega
  · obtain ⟨x, hx⟩ : ∃ x, B.T.types[id]? = some x := ⟨_, List.getElem?_eq_getElem hlt⟩
    by_cases h7 : x.kind = 7
    · rw [rf_con h8 hx h7]
      have := h.s.c x (List.mem_of_getElem? hx) h7
      exact Nat.le_trans this (Nat.le_add_right _ _)
    · have hs : y.sort = 1 := by
        rcases hc with hc | ⟨x', h1, h2⟩
        · exact hc
        · rw [hx] at h1; cases h1; exact absurd h2 h7
      obtain ⟨i2, a1, a2⟩ := h.d d y (List.getElem?_eq_some_iff.1 hy).1 hy (by omega)
      have e : i2 = id := by omega
      subst e
      have hb : brk (knd B.T i2) = true := by
        unfold knd
        rw [hx]
        cases hI.ty i2 x (by omega) hx with
        | ser h1 _ _ _ => rcases h1 with h1 | h1 <;> (show brk _ = true; simp only [shR]; rw [h1]; rfl)
        | bit h1 _ _ => rcases h1 with h1 | h1 <;> (show brk _ = true; simp only [shR]; rw [h1]; rfl)
        | con _ _ _ => exact absurd rfl h7
        | uni _ _ _ => rfl
      have ha := alK_pos a1 hs hb F.decls.length (List.getElem?_eq_some_iff.1 hy).1
      rw [rf_alias h8 hx h7 ha]
      have := hN.dnm (alK B.T F.decls.length i2).toNat
      omega
theorem Bld.rfp (hW : FWf n F) (hk : Rank (grF F) rk) (hv : ∀ c, vf c < 18446744073709551616) (hF : FCst F) (hT : TStr T) (hN : NmT N T) {K : Nat} (hK : ∀ (d : Nat) (x : DN), F.decls[d]? = some x → x.tHi - x.tLo ≤ K) {i : Nat} {B : BS} {bn : ByteArray → Option Nat} (h : Bld F vf i B bn) : B.T.types.length ≤ 200000 → ExtW B.T T → DtP N T al B → RfP N K T al B := by
  induction h with
  | zero =>
    intro _ _ _ i hi
    have hi : i < ((List.range 8).map biR).length := hi
    have := rf_low (T := T) (al := al) (i := i) (by simpa using hi)
    have e3 : (N + 40) * 1 ≤ (N + 40) * (K + 1) := Nat.mul_le_mul_left _ (by omega)
    omega
  | con _ _ _ _ ih => intro hl hE hD; exact ih hl ⟨hE.t, hE.o⟩ hD
  | @typ i B B' bn y id h1 h2 h3 h4 ih =>
    intro hl hE hD
    have hE : ExtW B'.T T := ⟨hE.t, hE.o⟩
    have hD : DtP N T al B' := hD
    have hl : B'.T.types.length ≤ 200000 := hl
    have hl1 := Nat.le_trans h4.ext.len.1 hl
    obtain ⟨f1, f2⟩ := h4.fix hW hk (rk i + 1) ⟨y, h2, Nat.lt_succ_self _⟩
    have hD1 : DtP N T al B := fun d id hd => hD d id (by rw [f2 d (by rw [hd]; omega)]; exact hd)
    have := h4.rfp hW hk hv hF hT hN hK (rk i + 1) ⟨y, h2, Nat.lt_succ_self _⟩ (h1.ti hW hv hl1) hl hE hD (ih hl1 (h4.ext.tw hE) hD1)
    exact this
/-- THE BOUND: every type's text. -/
theorem Bld.rf_len (hW : FWf n F) (hk : Rank (grF F) rk) (hv : ∀ c, vf c < 18446744073709551616) (hF : FCst F) (hn : ∀ (d : Nat) (y : DN), F.decls[d]? = some y → y.name.size ≤ N) {K : Nat} (hK : ∀ (d : Nat) (x : DN), F.decls[d]? = some x → x.tHi - x.tLo ≤ K) {B : BS} {bn : ByteArray → Option Nat} (h : Bld F vf F.decls.length B bn) (hl : B.T.types.length ≤ 200000) (hT : TStr B.T) : ∀ i, i < B.T.types.length → (rf B.T (alK B.T F.decls.length) i).length ≤ (N + 40) * (K + 1) := by
  have hI := h.ti hW hv hl
  have hc := h.dct hW hk hn
  exact h.rfp hW hk hv hF hT ⟨hc.n, hc.s.c⟩ hK hl ⟨⟨[], by simp⟩, ⟨[], by simp⟩⟩ (hc.dtp hI)
end
end Go.Proofs.Qxb6500883aGreatDoor
