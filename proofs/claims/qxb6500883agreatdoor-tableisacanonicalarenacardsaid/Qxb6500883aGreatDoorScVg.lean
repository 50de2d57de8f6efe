/- The accepted table, plainly: all that the law of the canonical arena asks. No Go here. -/
import Derived.Test.Qxb6500883aGreatDoorScVf
namespace Go.Proofs.Qxb6500883aGreatDoor
open Go.RowKit
set_option linter.unusedSimpArgs false
set_option linter.unusedVariables false
structure ArP (T : TS) (al : Nat → Int) (bn : ByteArray → Option Nat) : Prop where
  n8 : 8 ≤ T.types.length
  n2 : T.types.length ≤ 200000
  nf : T.flds.length ≤ 200000
  no : T.opts.length ≤ 200000
  nd : T.decls.length ≤ 200000
  st : TStr T
  lo : ∀ (i : Nat) (x : TR), i < 8 → T.types[i]? = some x → x.kind < 3 ∧ x.elem = -1
  hi : ∀ (i : Nat) (x : TR), 8 ≤ i → T.types[i]? = some x → 3 ≤ x.kind ∧ x.kind < 9 ∧ (x.kind ≠ 3 → x.kind ≠ 4 → x.elem = -1)
  pl : PrLt T
  fn : ∀ (i : Nat) (x : TR), T.types[i]? = some x → x.kind = 7 → ((flT T x).map FD.name).Nodup ∧ ∀ f ∈ flT T x, Idn f.name
  sl : ∀ (i : Nat) (x : TR), T.types[i]? = some x → (strB T al i x).length ≤ 70368744177664
  si : ∀ (i j : Nat) (x y : TR), T.types[i]? = some x → T.types[j]? = some y → strB T al i x = strB T al j y → i = j
  rl : ∀ i, i < T.types.length → (rf T al i).length ≤ 70368744177664
  dc : ∀ (i : Nat) (d : DC), T.decls[i]? = some d → bn d.name = some i ∧ d.name.data.toList ≠ [] ∧ (d.sort ≠ 0 → ∃ t : Nat, d.typ = (t : Int) ∧ t < T.types.length ∧ (d.sort = 2 → ∃ x, T.types[t]? = some x ∧ x.kind = 7 ∧ x.name = d.name))
  us : ∀ j, 8 ≤ j → j < T.types.length → (∃ (i : Nat) (d : DC), T.decls[i]? = some d ∧ d.sort ≠ 0 ∧ d.typ = (j : Int)) ∨ ∃ i, i < T.types.length ∧ j ∈ prI T i
  ae : al = alK T T.decls.length
  ab : ∀ i, al i = -1 ∨ ∃ j : Nat, al i = (j : Int) ∧ j < T.decls.length
  ln : ∀ x ∈ T.types, x.length < 18446744073709551616
theorem alK_same {T T' : TS} (h : SameS T T') : ∀ k, alK T' k = alK T k
  | 0 => rfl
  | k + 1 => by
    have ih := alK_same h k
    have hk : ∀ i, knd T' i = knd T i := fun i => by
      unfold knd
      cases hx : T'.types[i]? with
      | none =>
        have : T.types[i]? = none := by
          rw [List.getElem?_eq_none_iff] at hx ⊢
          rw [h.n] at hx
          exact hx
        rw [this]
      | some y =>
        obtain ⟨x, h1, h2⟩ := h.get hx
        rw [h1]
        exact h2.kind
    rw [alK, alK, h.d]
    cases T.decls[k]? with
    | none => exact ih
    | some d => simp only [ih, hk]
theorem prtT_same {T T' : TS} (h : SameS T T') {x y : TR} (hr : SameR x y) : prtT T' y = prtT T x := by
  unfold prtT
  rw [h.flE hr, h.opE hr, hr.kind, hr.elem]
theorem prI_same {T T' : TS} (h : SameS T T') (i : Nat) : prI T' i = prI T i := by
  unfold prI
  cases hx : T'.types[i]? with
  | none =>
    have : T.types[i]? = none := by
      rw [List.getElem?_eq_none_iff] at hx ⊢
      rw [h.n] at hx
      exact hx
    rw [this]
  | some y =>
    obtain ⟨x, h1, h2⟩ := h.get hx
    rw [h1]
    exact prtT_same h h2
theorem strB_same {T T' : TS} (h : SameS T T') (al : Nat → Int) (i : Nat) {x y : TR} (hr : SameR x y) : strB T' al i y = strB T al i x := by
  unfold strB fl
  rw [hr.kind, h.rf1 al i, h.flw hr (rf T' al)]
  have : rf T' al = rf T al := funext (h.rf1 al)
  rw [this]
section
variable {n : Nat} {F : FS} {vf rk : Nat → Nat} {B : BS} {bn : ByteArray → Option Nat}
theorem BtA.nmL (h : BtA n F vf rk B bn) : ∀ i u, nmd B.T (B.al F) i = some u → u.length ≤ 450000000 := fun i u hu => by
  by_cases h8 : i < 8
  · rw [nmd_low h8] at hu
    cases hu
    have := bwB_size i
    exact Nat.le_trans this (by decide)
  · obtain ⟨d, y, g1, _, g3, _⟩ := h.nmD h8 hu
    rw [g3]
    exact h.c.nb y (List.mem_of_getElem? g1)
theorem BtA.lnB (h : BtA n F vf rk B bn) : ∀ x ∈ B.T.types, x.length < 18446744073709551616 := fun x hx => (h.b.ti.allB.b x hx).length
theorem BtA.strL (h : BtA n F vf rk B bn) {i : Nat} {x : TR} (hx : B.T.types[i]? = some x) : (strB B.T (B.al F) i x).length ≤ 70368744177664 := by
  have hi := (List.getElem?_eq_some_iff.1 hx).1
  have hK : ∀ (d : Nat) (x : DN), F.decls[d]? = some x → x.tHi - x.tLo ≤ 65536 := fun d x hx => by
    have h1 := (h.c.wf.d x (List.mem_of_getElem? hx)).t
    have h2 := h.c.sz.t
    omega
  have hrf := h.b.bd.rf_len (N := 450000000) h.c.wf h.d.rk h.d.vo.lt h.c.ct (fun d y hy => h.c.nb y (List.mem_of_getElem? hy)) hK h.len h.ts i hi
  have hrf : (rf B.T (B.al F) i).length ≤ 70368744177664 := Nat.le_trans hrf (by decide)
  unfold strB
  by_cases hk : x.kind < 3 ∨ x.kind = 7
  · rw [if_pos hk]; exact hrf
  · rw [if_neg hk]
    by_cases h8 : i < 8
    · exfalso
      rw [h.b.ti.hd i h8] at hx
      cases hx
      apply hk
      left
      unfold biR
      simp only
      split <;> (try split) <;> decide
    by_cases ha : 0 ≤ B.al F i
    · obtain ⟨d, hd⟩ : ∃ d : Nat, B.al F i = (d : Int) := ⟨(B.al F i).toNat, by omega⟩
      obtain ⟨y, g1, g2, g3, _⟩ := h.als hd
      obtain ⟨d', y', r, e1, e2, e3, e4, e5⟩ := h.alc d i y x g1 g2 g3 (by omega) hx (by omega)
      obtain ⟨k, c1, c2⟩ := (h.c.ct y' (List.mem_of_getElem? e1)).ali e2
      rw [e4, Int.toNat_natCast] at c1
      obtain ⟨x', a, hx', ha', hka⟩ := cst_one c1
      obtain ⟨p, z, f1, f2, f3, f4, f5, f6⟩ := e5
      rw [hx] at f2
      cases f2
      rw [hx'] at f1
      cases f1
      have l1 := f6.len h.ts h.nmL h.lnB a ha'
      have l2 := fl_len (T := B.T) (al := B.al F) f4 (h.lnB x (List.mem_of_getElem? hx))
      have l3 := hK d' y' e1
      have l4 : (450000000 + 40) * a ≤ (450000000 + 40) * 65536 := Nat.mul_le_mul_left _ (by omega)
      omega
    · rw [← rf_full h.ts h8 hx (by omega) ha]
      exact hrf
theorem BtA.strI (h : BtA n F vf rk B bn) {i j : Nat} {x y : TR} (hx : B.T.types[i]? = some x) (hy : B.T.types[j]? = some y) (e : strB B.T (B.al F) i x = strB B.T (B.al F) j y) : i = j := by
  have hi := (List.getElem?_eq_some_iff.1 hx).1
  have hj := (List.getElem?_eq_some_iff.1 hy).1
  have low : ∀ (a : Nat) (z : TR), B.T.types[a]? = some z → ¬ (z.kind < 3 ∨ z.kind = 7) → 8 ≤ a ∧ Go.Proofs.Qxb6500883aGreatDoor.brk z.kind = true := fun a z hz hk => by
    have h8 : 8 ≤ a := by
      by_cases h8 : a < 8
      · exfalso
        rw [h.b.ti.hd a h8] at hz
        cases hz
        apply hk
        left
        unfold biR
        simp only
        split <;> (try split) <;> decide
      · omega
    exact ⟨h8, h.brk h8 hz (by omega)⟩
  have nam : ∀ (a : Nat) (z : TR), B.T.types[a]? = some z → (z.kind < 3 ∨ z.kind = 7) → ∃ u, nmd B.T (B.al F) a = some u := fun a z hz hk => by
    by_cases h8 : a < 8
    · exact ⟨_, nmd_low h8⟩
    · unfold nmd
      rw [if_neg h8, hz]
      simp only
      have h7 : z.kind = 7 := by
        rcases hk with hk | hk
        · exfalso
          cases h.ts a z (by omega) hz with
          | ser g _ _ => omega
          | bit g _ => omega
          | con g _ _ _ => omega
          | uni g _ _ _ => omega
        · exact hk
      rw [if_pos h7]
      exact ⟨_, rfl⟩
  have mix : ∀ (a b : Nat) (z v : TR), B.T.types[a]? = some z → B.T.types[b]? = some v → (z.kind < 3 ∨ z.kind = 7) → ¬ (v.kind < 3 ∨ v.kind = 7) → rf B.T (B.al F) a = fl B.T (B.al F) v → False := fun a b z v hz hv hk1 hk2 he => by
    obtain ⟨u, hu⟩ := nam a z hz hk1
    rw [rf_nmd hu] at he
    unfold fl at he
    rw [flW_eq (low b v hv hk2).2] at he
    have := (h.nmu.w a u hu).2 91 (by rw [he]; simp)
    exact absurd this (by decide)
  unfold strB at e
  by_cases hk : x.kind < 3 ∨ x.kind = 7
  · rw [if_pos hk] at e
    by_cases hk' : y.kind < 3 ∨ y.kind = 7
    · rw [if_pos hk'] at e
      obtain ⟨u, hu⟩ := nam i x hx hk
      obtain ⟨v, hv⟩ := nam j y hy hk'
      rw [rf_nmd hu, rf_nmd hv] at e
      subst e
      exact h.nmu.u i j u hi hj hu hv
    · rw [if_neg hk'] at e
      exact (mix i j x y hx hy hk hk' e).elim
  · rw [if_neg hk] at e
    by_cases hk' : y.kind < 3 ∨ y.kind = 7
    · rw [if_pos hk'] at e
      exact (mix j i y x hy hx hk' hk e.symm).elim
    · rw [if_neg hk'] at e
      exact (fl_inj h.ts h.stu (low i x hx hk).1 (low j y hy hk').1 hx hy (low i x hx hk).2 (low j y hy hk').2 (rf_inj h.ts h.stu h.nmu i) (s := []) (s' := []) (by rw [e])).1
theorem BtA.fnB (h : BtA n F vf rk B bn) {i : Nat} {x : TR} (hx : B.T.types[i]? = some x) (hk : x.kind = 7) : ((flT B.T x).map FD.name).Nodup ∧ ∀ f ∈ flT B.T x, Idn f.name := by
  obtain ⟨d, y, g1, g2, g3, g4, g5⟩ := h.cn.c i x hx hk
  have hd := h.d.nm.f d y (List.getElem?_eq_some_iff.1 g1).1 g1 g2
  have hf := (h.c.wf.d y (List.mem_of_getElem? g1)).f
  refine ⟨?_, fun f hf2 => ?_⟩
  · have g5 : (flT B.T x).map FD.name = (fldsOf F y).map (·.name) := g5
    rw [g5, List.Nodup, List.pairwise_iff_getElem]
    intro a b ha hb hab
    rw [List.length_map] at ha hb
    have hl : (fldsOf F y).length = y.fHi - y.fLo := by unfold fldsOf; rw [List.length_take, List.length_drop]; omega
    have ga : ∀ c (hc : c < (fldsOf F y).length), F.fields[y.fLo + c]? = some (fldsOf F y)[c] := fun c hc => by
      have e : (fldsOf F y)[c]? = some (fldsOf F y)[c] := List.getElem?_eq_getElem hc
      unfold fldsOf at e
      rw [List.getElem?_take, if_pos (by omega), List.getElem?_drop] at e
      exact e
    rw [List.getElem_map, List.getElem_map]
    exact hd a b _ _ hab (by omega) (ga a ha) (ga b hb)
  · have h1 : f.name ∈ (flT B.T x).map FD.name := List.mem_map_of_mem hf2
    have g5 : (flT B.T x).map FD.name = (fldsOf F y).map (·.name) := g5
    rw [g5] at h1
    obtain ⟨g, hg, hgn⟩ := List.mem_map.1 h1
    obtain ⟨j, _, _, h3⟩ := mem_fldsOf hg
    rw [← hgn]
    exact h.i.f g (List.mem_of_getElem? h3)
theorem AcT.ar {T : TS} {al : Nat → Int} (h : AcT F T al bn) (hc : DgC n F) (hi : NmI F) : ArP T al bn := by
  obtain ⟨vf, rk, B, vd, hd, hb, hm, rfl⟩ := h.m
  have hA : BtA n F vf rk B bn := ⟨hc, hi, hd, hb⟩
  have hs := hm.s
  have hal : alK B.T F.decls.length = B.al F := rfl
  have hsz := hb.sz
  unfold BS.size at hsz
  have hdl : T.decls.length = F.decls.length := by rw [hs.d]; exact hb.dl
  have hfs := hc.sz.d
  refine ⟨?_, ?_, ?_, ?_, ?_, ?_, ?_, ?_, ?_, ?_, ?_, ?_, ?_, ?_, ?_, ?_, ?_, ?_⟩
  · rw [hs.n]; exact hb.ti.ok.t
  · rw [hs.n]; omega
  · rw [hs.f]; omega
  · rw [hs.o]; omega
  · rw [hdl]; omega
  · exact hs.tstr hA.ts
  · intro i y h8 hy
    obtain ⟨x, hx, hr⟩ := hs.get hy
    rw [hb.ti.hd i h8] at hx
    cases hx
    rw [hr.kind, hr.elem]
    refine ⟨?_, rfl⟩
    unfold biR
    simp only
    split <;> (try split) <;> decide
  · intro i y h8 hy
    obtain ⟨x, hx, hr⟩ := hs.get hy
    rw [hr.kind, hr.elem]
    cases hb.ti.ty i x h8 hx with
    | @ser k e h1 h2 _ _ => have e : (shR k).kind = k.kind := rfl; rw [e]; exact ⟨by omega, by omega, fun a b => by omega⟩
    | @bit k h1 h2 _ => have e : (shR k).kind = k.kind := rfl; rw [e]; exact ⟨by omega, by omega, fun a b => h2⟩
    | con _ _ _ => exact ⟨show 3 ≤ 7 by decide, show 7 < 9 by decide, fun _ _ => rfl⟩
    | uni _ _ _ => exact ⟨show 3 ≤ 8 by decide, show 8 < 9 by decide, fun _ _ => rfl⟩
  · intro i j hj
    rw [prI_same hs] at hj
    exact hb.ti.prLt i j hj
  · intro i y hy h7
    obtain ⟨x, hx, hr⟩ := hs.get hy
    rw [hs.flE hr]
    exact hA.fnB hx (by rw [← hr.kind]; exact h7)
  · intro i y hy
    obtain ⟨x, hx, hr⟩ := hs.get hy
    rw [strB_same hs _ _ hr]
    exact hA.strL hx
  · intro i j y z hy hz e
    obtain ⟨x, hx, hr⟩ := hs.get hy
    obtain ⟨x', hx', hr'⟩ := hs.get hz
    rw [strB_same hs _ _ hr, strB_same hs _ _ hr'] at e
    exact hA.strI hx hx' e
  · intro i hi
    rw [hs.rf1]
    rw [hs.n] at hi
    have hK : ∀ (d : Nat) (x : DN), F.decls[d]? = some x → x.tHi - x.tLo ≤ 65536 := fun d x hx => by
      have h1 := (hc.wf.d x (List.mem_of_getElem? hx)).t
      have h2 := hc.sz.t
      omega
    exact Nat.le_trans (hb.bd.rf_len (N := 450000000) hc.wf hd.rk hd.vo.lt hc.ct (fun d y hy => hc.nb y (List.mem_of_getElem? hy)) hK hA.len hA.ts i hi) (by decide)
  · intro i z hz
    rw [hs.d] at hz
    have hil : i < F.decls.length := by have := (List.getElem?_eq_some_iff.1 hz).1; rw [hb.dl] at this; exact this
    obtain ⟨y, hy⟩ : ∃ y, F.decls[i]? = some y := ⟨_, List.getElem?_eq_getElem hil⟩
    have hn := hA.dc.n i y hil hy
    have hid := hi.d y (List.mem_of_getElem? hy)
    rcases hA.dc.g i y hil hy with ⟨g1, e, g2, g3⟩ | ⟨g1, id, g2, g3⟩
    · rw [hz] at g3
      cases g3
      exact ⟨hn, hid.ne, fun h => absurd rfl h⟩
    · rw [hz] at g3
      cases g3
      refine ⟨hn, hid.ne, fun _ => ⟨id, rfl, by rw [hs.n]; exact hA.dtl g2, fun h2 => ?_⟩⟩
      obtain ⟨x, x1, x2, x3⟩ := hA.cn.d i y id hy h2 g2
      obtain ⟨z, hz⟩ : ∃ z, T.types[id]? = some z := ⟨_, List.getElem?_eq_getElem (by rw [hs.n]; exact hA.dtl g2)⟩
      have hr := hs.r id x z x1 hz
      exact ⟨z, hz, by rw [hr.kind]; exact x2, by rw [hr.name]; exact x3⟩
  · intro j h8 hj
    rw [hs.n] at hj
    have hv := hb.bd.vis hc.wf hd.vo.lt hA.len (ExtV.refl _)
    rcases hv.used j h8 hj with h1 | ⟨i, h1, h2⟩
    · left
      unfold dty at h1
      obtain ⟨d, hd1, hd2⟩ := List.mem_map.1 h1
      rw [List.mem_filter] at hd1
      have hs0 : d.sort ≠ 0 := by simpa using hd1.2
      obtain ⟨t, ht, _⟩ := hb.dt d hd1.1 hs0
      obtain ⟨i, hi2⟩ := List.mem_iff_getElem?.1 hd1.1
      exact ⟨i, d, by rw [hs.d]; exact hi2, hs0, by rw [ht] at hd2 ⊢; simp at hd2; rw [hd2]⟩
    · right
      exact ⟨i, by rw [hs.n]; exact h1, by rw [prI_same hs]; exact h2⟩
  · rw [hdl, alK_same hs]
  · intro i
    rw [hdl]
    exact alK_rng B.T _ i
  · intro y hy
    exact (hm.b.b y hy).length
end
end Go.Proofs.Qxb6500883aGreatDoor
