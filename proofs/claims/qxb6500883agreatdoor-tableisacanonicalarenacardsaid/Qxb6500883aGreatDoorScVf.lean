/- The accepted table, plainly: names, structure, declarations. No Go here. -/
import Derived.Test.Qxb6500883aGreatDoorScVe
namespace Go.Proofs.Qxb6500883aGreatDoor
open Go.RowKit
set_option linter.unusedSimpArgs false
set_option linter.unusedVariables false
theorem alK_spec {T : TS} : ∀ (k i d : Nat), alK T k i = (d : Int) → d < k ∧ ∃ y, T.decls[d]? = some y ∧ y.sort = 1 ∧ y.typ.toNat = i ∧ brk (knd T i) = true
  | 0, i, d, h => by have h : (-1 : Int) = (d : Int) := h; omega
  | k + 1, i, d, h => by
    cases hk : T.decls[k]? with
    | none =>
      rw [alK, hk] at h
      obtain ⟨h1, h2⟩ := alK_spec k i d h
      exact ⟨by omega, h2⟩
    | some z =>
      rw [alK_succ hk] at h
      split at h
      · rename_i hc
        by_cases e : i = z.typ.toNat
        · subst e
          rw [fup_self] at h
          have : k = d := by omega
          subst this
          exact ⟨by omega, z, hk, hc.1, rfl, hc.2.2⟩
        · rw [fup_ne _ _ e] at h
          obtain ⟨h1, h2⟩ := alK_spec k i d h
          exact ⟨by omega, h2⟩
      · obtain ⟨h1, h2⟩ := alK_spec k i d h
        exact ⟨by omega, h2⟩
theorem alK_keep {T : TS} {i d : Nat} : ∀ (m k : Nat), alK T k i = (d : Int) → alK T (k + m) i = (d : Int)
  | 0, k, h => h
  | m + 1, k, h => by
    have ih := alK_keep m k h
    have e : k + (m + 1) = (k + m) + 1 := by omega
    rw [e]
    cases hk : T.decls[k + m]? with
    | none => rw [alK, hk]; exact ih
    | some z =>
      rw [alK_succ hk]
      split
      · rename_i hc
        rw [fup_ne _ _ (fun e => by rw [← e, ih] at hc; omega)]
        exact ih
      · exact ih
theorem kwOf_bw {i : Nat} (h : i < 8) : kwOf (bwB i) ≠ 0 := by
  rcases (by omega : i = 0 ∨ i = 1 ∨ i = 2 ∨ i = 3 ∨ i = 4 ∨ i = 5 ∨ i = 6 ∨ i = 7) with rfl | rfl | rfl | rfl | rfl | rfl | rfl | rfl <;> decide
theorem bwB_wd {i : Nat} (h : i < 8) : (bwB i).data.toList ≠ [] ∧ ∀ b ∈ (bwB i).data.toList, wdB b.toNat = true := by
  rcases (by omega : i = 0 ∨ i = 1 ∨ i = 2 ∨ i = 3 ∨ i = 4 ∨ i = 5 ∨ i = 6 ∨ i = 7) with rfl | rfl | rfl | rfl | rfl | rfl | rfl | rfl <;> decide
theorem bwB_inj {i j : Nat} (hi : i < 8) (hj : j < 8) (h : (bwB i).data.toList = (bwB j).data.toList) : i = j := by
  rcases (by omega : i = 0 ∨ i = 1 ∨ i = 2 ∨ i = 3 ∨ i = 4 ∨ i = 5 ∨ i = 6 ∨ i = 7) with rfl | rfl | rfl | rfl | rfl | rfl | rfl | rfl <;>
  rcases (by omega : j = 0 ∨ j = 1 ∨ j = 2 ∨ j = 3 ∨ j = 4 ∨ j = 5 ∨ j = 6 ∨ j = 7) with rfl | rfl | rfl | rfl | rfl | rfl | rfl | rfl <;> first | rfl | exact absurd h (by decide)
theorem ba_ext {a b : ByteArray} (h : a.data.toList = b.data.toList) : a = b := by
  cases a with | mk a =>
  cases b with | mk b =>
  have : a = b := Array.toList_inj.1 h
  rw [this]
/-- All that is known of a built table. -/
structure BtA (n : Nat) (F : FS) (vf rk : Nat → Nat) (B : BS) (bn : ByteArray → Option Nat) : Prop where
  c : DgC n F
  i : NmI F
  d : DgF F vf rk
  b : BtP F vf B bn
section
variable {n : Nat} {F : FS} {vf rk : Nat → Nat} {B : BS} {bn : ByteArray → Option Nat}
def BS.al (B : BS) (F : FS) : Nat → Int := alK B.T F.decls.length
theorem BtA.len (h : BtA n F vf rk B bn) : B.T.types.length ≤ 200000 := by have := h.b.sz; unfold BS.size at this; omega
theorem BtA.cn (h : BtA n F vf rk B bn) : CnI F B := h.b.bd.cn h.c.wf h.d.vo.lt h.d.rk h.len
theorem BtA.dc (h : BtA n F vf rk B bn) : DcI F vf F.decls.length B bn := h.b.bd.dc h.c.wf h.d.rk h.d.nm.d
theorem BtA.ts (h : BtA n F vf rk B bn) : TStr B.T := h.b.ti.tstr h.b.ne
theorem BtA.dct (h : BtA n F vf rk B bn) : DcT F 450000000 F.decls.length B := h.b.bd.dct h.c.wf h.d.rk (fun d y hy => h.c.nb y (List.mem_of_getElem? hy))
theorem BtA.brk (h : BtA n F vf rk B bn) {i : Nat} {x : TR} (h8 : 8 ≤ i) (hx : B.T.types[i]? = some x) (h7 : x.kind ≠ 7) : brk x.kind = true := by
  cases h.b.ti.ty i x h8 hx with
  | ser h1 _ _ _ => rcases h1 with h1 | h1 <;> (show Go.Proofs.Qxb6500883aGreatDoor.brk _ = true; simp only [shR]; rw [h1]; rfl)
  | bit h1 _ _ => rcases h1 with h1 | h1 <;> (show Go.Proofs.Qxb6500883aGreatDoor.brk _ = true; simp only [shR]; rw [h1]; rfl)
  | con _ _ _ => exact absurd rfl h7
  | uni _ _ _ => rfl
theorem BtA.dtl (h : BtA n F vf rk B bn) {d i : Nat} (hd : B.dt d = (i : Int)) : i < B.T.types.length := by
  rcases h.b.ti.ok.d d with h1 | ⟨j, h1, h2⟩ <;> omega
/-- A declared type goes by a name. -/
theorem BtA.dtn (h : BtA n F vf rk B bn) : DtN B.T (B.al F) B := by
  intro d id hd
  obtain ⟨y, hy, hc⟩ := h.dct.s.d d id hd
  have hlt := h.dtl hd
  by_cases h8 : id < 8
  · exact ⟨_, nmd_low h8⟩
  · obtain ⟨x, hx⟩ : ∃ x, B.T.types[id]? = some x := ⟨_, List.getElem?_eq_getElem hlt⟩
    unfold nmd
    rw [if_neg h8, hx]
    simp only
    by_cases h7 : x.kind = 7
    · rw [if_pos h7]; exact ⟨_, rfl⟩
    · rw [if_neg h7]
      have hs : y.sort = 1 := by
        rcases hc with hc | ⟨x', h1, h2⟩
        · exact hc
        · rw [hx] at h1; cases h1; exact absurd h2 h7
      obtain ⟨i2, a1, a2⟩ := h.dct.d d y (List.getElem?_eq_some_iff.1 hy).1 hy (by omega)
      have e : i2 = id := by omega
      subst e
      have hb : Go.Proofs.Qxb6500883aGreatDoor.brk (knd B.T i2) = true := by
        unfold knd
        rw [hx]
        exact h.brk (by omega) hx h7
      have ha := alK_pos a1 hs hb F.decls.length (List.getElem?_eq_some_iff.1 hy).1
      have ha : 0 ≤ B.al F i2 := ha
      rw [if_pos ha]
      exact ⟨_, rfl⟩
/-- An alias is a declaration of its type. -/
theorem BtA.als (h : BtA n F vf rk B bn) {i d : Nat} (ha : B.al F i = (d : Int)) : ∃ y, F.decls[d]? = some y ∧ y.sort = 1 ∧ B.dt d = (i : Int) ∧ B.T.decls[d]? = some ⟨1, y.name, 0, (i : Int)⟩ ∧ dnm B.T d = y.name.data.toList := by
  obtain ⟨h1, z, h2, h3, h4, h5⟩ := alK_spec F.decls.length i d ha
  obtain ⟨y, hy⟩ : ∃ y, F.decls[d]? = some y := ⟨_, List.getElem?_eq_getElem h1⟩
  rcases h.dc.g d y h1 hy with ⟨g1, e, g2, g3⟩ | ⟨g1, id, g2, g3⟩
  · rw [h2] at g3; cases g3; cases h3
  · rw [h2] at g3
    cases g3
    have h3 : y.sort = 1 := h3
    have h4 : ((id : Int)).toNat = i := h4
    have : id = i := by omega
    subst this
    refine ⟨y, hy, h3, g2, by rw [h2, h3], ?_⟩
    unfold dnm
    rw [h2]
/-- A name past the built-in words is a declaration's. -/
theorem BtA.nmD (h : BtA n F vf rk B bn) {i : Nat} {u : List UInt8} (h8 : ¬ i < 8) (hu : nmd B.T (B.al F) i = some u) : ∃ d y, F.decls[d]? = some y ∧ y.sort ≠ 0 ∧ u = y.name.data.toList ∧ B.dt d = (i : Int) := by
  unfold nmd at hu
  rw [if_neg h8] at hu
  cases hx : B.T.types[i]? with
  | none => rw [hx] at hu; cases hu
  | some x =>
    rw [hx] at hu
    simp only at hu
    by_cases h7 : x.kind = 7
    · rw [if_pos h7] at hu
      obtain ⟨d, y, g1, g2, g3, g4, _⟩ := h.cn.c i x hx h7
      exact ⟨d, y, g1, by omega, by rw [← g3]; exact (Option.some.inj hu).symm, g4⟩
    · rw [if_neg h7] at hu
      by_cases ha : 0 ≤ B.al F i
      · rw [if_pos ha] at hu
        obtain ⟨d, hd⟩ : ∃ d : Nat, B.al F i = (d : Int) := ⟨(B.al F i).toNat, by omega⟩
        obtain ⟨y, g1, g2, g3, _, g4⟩ := h.als hd
        rw [hd] at hu
        simp only [Int.toNat_natCast] at hu
        rw [g4] at hu
        exact ⟨d, y, g1, by omega, (Option.some.inj hu).symm, g3⟩
      · rw [if_neg ha] at hu; cases hu
theorem BtA.nmu (h : BtA n F vf rk B bn) : NmU B.T (B.al F) := by
  refine ⟨fun i u hu => ?_, fun i j u hi hj hui huj => ?_⟩
  · by_cases h8 : i < 8
    · rw [nmd_low h8] at hu
      cases hu
      exact bwB_wd h8
    · obtain ⟨d, y, g1, _, g3, _⟩ := h.nmD h8 hu
      have := h.i.d y (List.mem_of_getElem? g1)
      rw [g3]
      exact ⟨this.ne, this.wd⟩
  · have kw : ∀ (a b : Nat), a < 8 → ¬ b < 8 → nmd B.T (B.al F) a = some u → nmd B.T (B.al F) b = some u → False := fun a b ha hb hua hub => by
      rw [nmd_low ha] at hua
      cases hua
      obtain ⟨d, y, g1, _, g3, _⟩ := h.nmD hb hub
      have := (h.i.d y (List.mem_of_getElem? g1)).kw
      rw [← ba_ext g3] at this
      exact kwOf_bw ha this
    by_cases h8 : i < 8
    · by_cases h8' : j < 8
      · rw [nmd_low h8] at hui
        rw [nmd_low h8'] at huj
        exact bwB_inj h8 h8' ((Option.some.inj hui).trans (Option.some.inj huj).symm)
      · exact (kw i j h8 h8' hui huj).elim
    · by_cases h8' : j < 8
      · exact (kw j i h8' h8 huj hui).elim
      · obtain ⟨d, y, g1, _, g3, g4⟩ := h.nmD h8 hui
        obtain ⟨d', y', g1', _, g3', g4'⟩ := h.nmD h8' huj
        have hn : y.name = y'.name := ba_ext (g3.symm.trans g3')
        have hd : d = d' := by
          have l1 := (List.getElem?_eq_some_iff.1 g1).1
          have l2 := (List.getElem?_eq_some_iff.1 g1').1
          rcases Nat.lt_trichotomy d d' with hlt | heq | hgt
          · exact absurd hn (h.d.nm.d d d' y y' hlt l2 g1 g1')
          · exact heq
          · exact absurd hn.symm (h.d.nm.d d' d y' y hgt l1 g1' g1)
        subst hd
        omega
theorem BtA.stu (h : BtA n F vf rk B bn) : StU B.T := by
  refine ⟨fun i j x y hi hj hx hy hk hkk hne h8 => ?_⟩
  have hti := h.b.ti
  have sh1 : ∀ (a : Nat) (z : TR), 8 ≤ a → B.T.types[a]? = some z → (z.kind = 3 ∨ z.kind = 4 ∨ z.kind = 5 ∨ z.kind = 6) → z = shR ⟨z.kind, z.elem, z.length⟩ ∧ B.sh ⟨z.kind, z.elem, z.length⟩ = some a := fun a z ha hz hkz => by
    have e : z = shR ⟨z.kind, z.elem, z.length⟩ := by
      cases hti.ty a z ha hz with
      | ser _ _ _ _ => rfl
      | bit _ _ _ => rfl
      | con _ _ _ => simp [coR] at hkz
      | uni _ _ _ => simp [unR] at hkz
    exact ⟨e, hti.hs _ a hkz ha (by rw [← e]; exact hz)⟩
  by_cases hu : x.kind = 8
  · have u1 : ∀ (a : Nat) (z : TR), 8 ≤ a → B.T.types[a]? = some z → z.kind = 8 → B.un (ukB (opT B.T z)) = some a := fun a z ha hz hkz => by
      cases hti.ty a z ha hz with
      | @ser k e h1 _ _ _ => have hkz : k.kind = 8 := hkz; omega
      | @bit k h1 _ _ => have hkz : k.kind = 8 := hkz; omega
      | con _ _ _ => simp [coR] at hkz
      | @uni lo ids h1 h2 h3 =>
        have e : opT B.T (unR lo (lo + ids.length)) = ids := by
          unfold opT
          show (B.T.opts.drop lo).take (lo + ids.length - lo) = ids
          rw [Nat.add_sub_cancel_left]
          exact h2
        rw [e]
        exact hti.nu ids a lo ha hz h2
    have a1 := u1 i x hi hx hu
    have a2 := u1 j y hj hy (by omega)
    rw [h8 hu] at a1
    rw [a1] at a2
    exact Option.some.inj a2
  · have hk4 : x.kind = 3 ∨ x.kind = 4 ∨ x.kind = 5 ∨ x.kind = 6 := by unfold Go.Proofs.Qxb6500883aGreatDoor.brk at hk; simp at hk; omega
    obtain ⟨_, a1⟩ := sh1 i x hi hx hk4
    obtain ⟨_, a2⟩ := sh1 j y hj hy (by omega)
    obtain ⟨e1, e2⟩ := hne hu
    rw [hkk, e1, e2] at a1
    rw [a1] at a2
    exact Option.some.inj a2
/-- Where a type is written out in full. -/
theorem BtA.alc (h : BtA n F vf rk B bn) : AlC F B.T (B.al F) B := h.b.bd.cov h.c.wf h.d.rk h.d.vo.lt h.len (ExtV.refl _) h.dtn
end
/-- How long a text of covered types is. -/
theorem fl_len {T : TS} {al : Nat → Int} {y : TR} (hk : brk y.kind = true) (hl : y.length < 18446744073709551616) : (fl T al y).length + 2 ≤ szS (rf T al) (prtT T y) + 40 := by
  have hd := dgL_len 19 y.length (Nat.lt_of_lt_of_le hl (by decide))
  have hk4 : y.kind = 3 ∨ y.kind = 4 ∨ y.kind = 5 ∨ y.kind = 6 ∨ y.kind = 8 := by unfold brk at hk; simp at hk; omega
  have hw : (kwd y.kind).length ≤ 9 := by unfold kwd; repeat' split
                                          all_goals decide
  unfold fl
  rw [flW_eq hk, List.length_append, List.length_cons]
  unfold bdy prtT szS
  by_cases h3 : y.kind = 3 ∨ y.kind = 4
  · rw [if_pos h3, if_pos h3]
    simp
    omega
  · rw [if_neg h3, if_neg h3]
    by_cases h5 : y.kind = 5 ∨ y.kind = 6
    · rw [if_pos h5]
      simp
      omega
    · have h8 : y.kind = 8 := by omega
      have h7 : ¬ y.kind = 7 := by omega
      rw [if_neg h5, if_neg h7, if_pos h8]
      have := jnL_len (rf T al) (opT T y)
      unfold szS at this
      simp
      omega
theorem CovL.len {F : FS} {T : TS} {al : Nat → Int} {N : Nat} (hT : TStr T) (hN : ∀ i u, nmd T al i = some u → u.length ≤ N) (hl : ∀ x ∈ T.types, x.length < 18446744073709551616) {rs is : List Nat} (h : CovL F T al rs is) : ∀ k, CstL F rs k → szS (rf T al) is ≤ (N + 40) * k := by
  induction h with
  | nil => intro k _; exact Nat.zero_le _
  | @wd r i u rs is hn _ ih =>
    intro k hk
    cases hk with
    | @cons _ x _ a b h1 h2 h3 h4 =>
      have := ih b h4
      have h5 := hN i u hn
      have e : (N + 40) * (a + b + 1) = (N + 40) * a + (N + 40) * b + (N + 40) := by rw [Nat.mul_add, Nat.mul_add, Nat.mul_one]
      unfold szS at this ⊢
      rw [List.map_cons, List.sum_cons, rf_nmd hn, e]
      omega
  | @nod r i x y rs is hx hy h8 hn hb hf _ _ ih1 ih2 =>
    intro k hk
    cases hk with
    | @cons _ x' _ a b h1 h2 h3 h4 =>
      rw [hx] at h1
      cases h1
      have i1 := ih1 a h3
      have i2 := ih2 b h4
      obtain ⟨_, y', hy', _, e'⟩ := rf_none hT (List.getElem?_eq_some_iff.1 hy).1 hn
      rw [hy] at hy'
      cases hy'
      have := fl_len (T := T) (al := al) hb (hl y (List.mem_of_getElem? hy))
      have e : (N + 40) * (a + b + 1) = (N + 40) * a + (N + 40) * b + (N + 40) := by rw [Nat.mul_add, Nat.mul_add, Nat.mul_one]
      unfold szS at i2 ⊢
      rw [List.map_cons, List.sum_cons, e', e]
      omega
end Go.Proofs.Qxb6500883aGreatDoor
