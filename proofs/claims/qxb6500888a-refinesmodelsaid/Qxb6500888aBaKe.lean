/- The pause: the model's harvest is the machine's, as bags; again alike (plain). -/
import Derived.Test.Qxb6500888aBaKa
namespace Go.Proofs.Qxb6500888a
open Go.RowKit
set_option linter.unusedSimpArgs false
set_option linter.unusedVariables false
attribute [local irreducible] nz

/-- What the model's pause harvests ahead of the increments; W: the written fields in some order. -/
def wDe (atp : Nat → Nat) (W : List Nat) : List Nat := (W.map fun f => atp (offA f)).filter fun x => decide (x ≠ 0)
def wIn (G : GS) (W : List Nat) : List Nat := (W.map fun f => G.word (offA f)).filter fun x => decide (x ≠ 0)
def mroots (M : MS) : List Nat := (List.range 4).flatMap M.roots
def mhv0 (G : GS) (M : MS) (W : List Nat) : Nat → List Nat := fun i =>
  if i = 0 then wIn G W else if i = 1 then wDe M.atp W else if i = 2 then mroots M else if i = 3 then M.last else if i = 7 then (if M.st = true then mroots M else if M.tr = true then wDe M.atp W else []) else []
def mpa2 (G : GS) (M : MS) (W F : List Nat) : GS × (Nat → List Nat) := reaps (applyP (G, mhv0 G M W)) F
def mpaG (G : GS) (M : MS) (W F : List Nat) : GS := decs (decs (mpa2 G M W F).1 ((mpa2 G M W F).2 1)) ((mpa2 G M W F).2 3)
def mpaM (G : GS) (M : MS) (W F : List Nat) : MS := { roots := M.roots, last := mroots M, atp := (mpaG G M W F).word, wr := fun _ => false, fr := fun _ => false, st := false, tr := if M.st = true then true else M.tr }
section
variable {G : GS} {hv0 : Nat → List Nat} {A : Nat → Prop}
theorem apply_gen (ok : GOk G) (h4 : hv0 4 = []) (h5 : hv0 5 = []) (hr0 : ∀ o ∈ hv0 0, 65536 ≤ o ∧ o < 98304) (hr2 : ∀ o ∈ hv0 2, 65536 ≤ o ∧ o < 98304) (hA : ∀ o, A o → G.cnt o = 0 → ∀ r ∈ refL G o, A r) (h0 : ∀ o ∈ hv0 0, A o) (h2 : ∀ o ∈ hv0 2, A o) :
    ApI G hv0 A (hv0 0 ++ hv0 2 ++ (applyP (G, hv0)).2 4) (applyP (G, hv0)) := by
  have a0 : ApS hv0 G.calls.length G hv0 := ⟨ok, Nat.le_refl _, by rw [h5]; simp, by rw [h4]; simp, fun _ _ _ => rfl, fun o ho => by rw [h4] at ho; cases ho⟩
  have a1 := a0.incs (p := (G, hv0)) (hv0 0) hr0
  have a2 := a1.incs (hv0 2) hr2
  have hct := ok.ct
  have i0 : ApI G hv0 A [] (G, hv0) := by
    refine ⟨by simp, fun x => ?_, ?_, fun x => ?_, ?_, fun _ _ _ => rfl, fun x hx => (by cases hx)⟩
    · have := hct x; simp; omega
    · show (hv0 5).Nodup
      rw [h5]; exact List.nodup_nil
    · show x ∈ hv0 5 ↔ _
      rw [h5]; simp
    · show hv0 4 = (hv0 5).flatMap (refL G)
      rw [h4, h5]; rfl
  have i1 := i0.incs hct (hv0 0) h0
  have i2 := i1.incs hct (hv0 2) h2
  rw [List.nil_append] at i2
  exact births_spec0 hct hA (I0 := hv0 0 ++ hv0 2) 400000000 0 a2 (by rw [List.take_zero, List.append_nil]; exact i2) (Nat.zero_le _) (by have h4 := a2.b4; have h5 := nz_le (incs (incs (G, hv0) (hv0 0)) (hv0 2)).1.cnt; dsimp only at h4 h5 ⊢; omega)
/-- A word of an object that is freed. -/
def inF (G : GS) (l : List Nat) (i : Nat) : Prop := ∃ x ∈ l, G.cnt x = 0 ∧ offA x ≤ i ∧ i < offA x + (szOf G x + 1)
structure RpW (G4 : GS) (l : List Nat) (p : GS × (Nat → List Nat)) : Prop where
  wd : ∀ i, (inF G4 l i → p.1.word i = 0) ∧ (¬ inF G4 l i → p.1.word i = G4.word i)
  tk : ∀ i, (inF G4 l i → p.1.tk i = false) ∧ (¬ inF G4 l i → p.1.tk i = G4.tk i)
theorem inF_add {G4 : GS} {l : List Nat} {o i : Nat} : inF G4 (l ++ [o]) i ↔ inF G4 l i ∨ (G4.cnt o = 0 ∧ offA o ≤ i ∧ i < offA o + (szOf G4 o + 1)) := by
  unfold inF
  constructor
  · rintro ⟨x, hx, h⟩
    rcases List.mem_append.1 hx with h1 | h1
    · exact .inl ⟨x, h1, h⟩
    · simp at h1; subst h1; exact .inr h
  · rintro (⟨x, hx, h⟩ | h)
    · exact ⟨x, by simp [hx], h⟩
    · exact ⟨o, by simp, h⟩
theorem RpW.step {G4 : GS} {hv : Nat → List Nat} {l : List Nat} {p : GS × (Nat → List Nat)} (h : RpW G4 l p) (hp : RpI G4 hv l p) {o : Nat} (hn : o ∉ l) : RpW G4 (l ++ [o]) (reap1 p o) := by
  have hcc : p.1.cnt o = G4.cnt o := by rw [hp.cn]
  have hsz : szOf p.1 o = szOf G4 o := by unfold szOf; rw [hp.hd, if_neg (fun hc => hn hc.1)]
  unfold reap1
  by_cases h0 : p.1.cnt o = 0
  · rw [if_pos h0]
    have h0' : G4.cnt o = 0 := by rw [← hcc]; exact h0
    refine ⟨fun i => ?_, fun i => ?_⟩
    · show (inF G4 (l ++ [o]) i → fillF p.1.word (offA o) (szOf p.1 o + 1) 0 i = 0) ∧ (¬ inF G4 (l ++ [o]) i → fillF p.1.word (offA o) (szOf p.1 o + 1) 0 i = G4.word i)
      rw [hsz, inF_add]
      by_cases hi : offA o ≤ i ∧ i < offA o + (szOf G4 o + 1)
      · rw [fillF_in _ _ hi]
        exact ⟨fun _ => rfl, fun hc => absurd (.inr ⟨h0', hi⟩) hc⟩
      · rw [fillF_out _ _ hi]
        exact ⟨fun hc => hc.elim (h.wd i).1 (fun hc => absurd hc.2 hi), fun hc => (h.wd i).2 (fun hc2 => hc (.inl hc2))⟩
    · show (inF G4 (l ++ [o]) i → fillF p.1.tk (offA o) (szOf p.1 o + 1) false i = false) ∧ (¬ inF G4 (l ++ [o]) i → fillF p.1.tk (offA o) (szOf p.1 o + 1) false i = G4.tk i)
      rw [hsz, inF_add]
      by_cases hi : offA o ≤ i ∧ i < offA o + (szOf G4 o + 1)
      · rw [fillF_in _ _ hi]
        exact ⟨fun _ => rfl, fun hc => absurd (.inr ⟨h0', hi⟩) hc⟩
      · rw [fillF_out _ _ hi]
        exact ⟨fun hc => hc.elim (h.tk i).1 (fun hc => absurd hc.2 hi), fun hc => (h.tk i).2 (fun hc2 => hc (.inl hc2))⟩
  · rw [if_neg h0]
    have h0' : ¬ G4.cnt o = 0 := by rw [← hcc]; exact h0
    have e : ∀ i, inF G4 (l ++ [o]) i ↔ inF G4 l i := fun i => by
      rw [inF_add]
      exact ⟨fun hc => hc.elim id (fun hc => absurd hc.1 h0'), .inl⟩
    exact ⟨fun i => by rw [e]; exact h.wd i, fun i => by rw [e]; exact h.tk i⟩
theorem reaps_both {G4 : GS} {hv : Nat → List Nat} (dj : ∀ a b n q n' q', a ≠ b → G4.head a = some (n, q) → G4.head b = some (n', q') → offA a + n < offA b ∨ offA b + n' < offA a) :
    ∀ (l : List Nat) {pre : List Nat} {p : GS × (Nat → List Nat)}, RpI G4 hv pre p → RpW G4 pre p → (pre ++ l).Nodup → (∀ x ∈ l, (G4.head x).isSome = true) → RpI G4 hv (pre ++ l) (reaps p l) ∧ RpW G4 (pre ++ l) (reaps p l)
  | [], pre, p, h, h2, _, _ => by rw [List.append_nil]; exact ⟨h, h2⟩
  | o :: l, pre, p, h, h2, hnd, hst => by
    have hno : o ∉ pre := by
      have := (List.nodup_append.1 hnd).2.2
      exact fun hc => this o hc o (by simp) rfl
    have h1 := h.step (hst o (by simp)) hno dj
    have h3 := h2.step h hno
    have e : pre ++ o :: l = (pre ++ [o]) ++ l := by simp
    rw [e] at hnd ⊢
    exact reaps_both dj l h1 h3 hnd (fun x hx => hst x (by simp [hx]))
theorem reaps_all {G4 : GS} {hv : Nat → List Nat} (dj : ∀ a b n q n' q', a ≠ b → G4.head a = some (n, q) → G4.head b = some (n', q') → offA a + n < offA b ∨ offA b + n' < offA a) (l : List Nat) (hnd : l.Nodup) (hst : ∀ x ∈ l, (G4.head x).isSome = true) : RpI G4 hv l (reaps (G4, hv) l) ∧ RpW G4 l (reaps (G4, hv) l) := by
  have h0 : RpI G4 hv [] (G4, hv) := ⟨fun x => (by rw [if_neg (fun hc => by cases hc.1)]), rfl, rfl, rfl, rfl, fun _ _ _ _ _ _ _ => ⟨rfl, rfl⟩, fun _ _ _ _ hc => (by cases hc), by simp, fun _ _ => rfl⟩
  have h1 : RpW G4 [] (G4, hv) := ⟨fun i => ⟨fun ⟨x, hx, _⟩ => (by cases hx), fun _ => rfl⟩, fun i => ⟨fun ⟨x, hx, _⟩ => (by cases hx), fun _ => rfl⟩⟩
  have := reaps_both dj l h0 h1 (by rw [List.nil_append]; exact hnd) hst
  rw [List.nil_append] at this
  exact this
end
section
variable {G G2 : GS} {B : BS} {M : MS} {atp : Nat → Nat} {Z : Nat → Prop} {t : Nat}
theorem GSim.ref (h : GSim G G2) (o : Nat) : refL G2 o = refL G o := by
  unfold refL refP rfOf
  rw [h.hd, h.wd]
theorem mpause_rel (hI : InvM t G B) (hc : CI G B atp Z) (hr : RelM G B atp G2 M) (ok2 : GOk G2) {W F : List Nat} (hW : W.Nodup) (hW2 : ∀ x, x ∈ W ↔ M.wr x = true) (hF : F.Nodup) (hF2 : ∀ x, x ∈ F ↔ M.fr x = true) :
    (∀ i, i < 8 → ((mpa2 G2 M W F).2 i).Perm ((pauseP G B).2.2 i)) ∧ RelM (pauseP G B).1 (pauseP G B).2.1 (pauseP G B).1.word (mpaG G2 M W F) (mpaM G2 M W F) := by
  obtain ⟨I, hIA, f⟩ := pause_facts hI hc
  have hls := pause_least hI hc
  have hsd := pause_seeds hI
  -- the written fields
  have pW : W.Perm ((lgL B).map Prod.fst) := by
    rw [List.perm_ext_iff_of_nodup hW hc.l1]
    intro x
    rw [hW2, hr.wr, List.mem_map]
  have pF : F.Perm (frL B) := by
    rw [List.perm_ext_iff_of_nodup hF hc.nd]
    intro x
    rw [hF2, hr.fr]
  have p0 : (wIn G2 W).Perm ((pauseP G B).2.2 0) := by
    rw [f.h0]
    unfold wIn
    rw [hr.gs.wd]
    have := ((pW.map fun f => G.word (offA f)).filter fun x => decide (x ≠ 0))
    rw [List.map_map] at this
    exact this
  have p1 : (wDe M.atp W).Perm ((pauseP G B).2.2 1) := by
    rw [f.h1]
    unfold wDe
    rw [hr.ap]
    have h1 := ((pW.map fun f => atp (offA f)).filter fun x => decide (x ≠ 0))
    rw [List.map_map] at h1
    have e : ((lgL B).map fun e => e.2) = (lgL B).map ((fun f => atp (offA f)) ∘ Prod.fst) := by
      refine List.map_congr_left (fun e he => ?_)
      obtain ⟨o, _, s, _, e1, e2, _⟩ := hc.l2 e he
      show e.2 = atp (offA e.1)
      rw [e1, offA_add, e2]
    show List.Perm _ (List.filter _ ((lgL B).map fun e => e.2))
    rw [e]
    exact h1
  have e2 : mroots M = (pauseP G B).2.2 2 := by
    rw [f.h2]
    unfold mroots
    rw [hr.rt]
    rfl
  -- the increments
  have hLx : ∀ x, Lx G B x → x ∈ I := fun x hx => by
    induction hx with
    | @log e he h0 =>
      rw [f.i, List.mem_append, List.mem_append]
      left; left
      rw [f.h0]
      exact List.mem_filter.2 ⟨List.mem_map.2 ⟨e, he, rfl⟩, by simp [h0]⟩
    | root hr =>
      rw [f.i, List.mem_append, List.mem_append]
      left; right
      rw [f.h2]; exact hr
    | @fld p r hp hc0 hr ih =>
      have hpf : p ∈ frL B := by
        rcases hc.lx_Ac hp with h1 | h1
        · have := (hc.ce1 p (hc.z1 p h1)).1; omega
        · exact h1
      rw [f.i, List.mem_append, f.b4]
      exact .inr (List.mem_flatMap.2 ⟨p, (f.b5 p).2 ⟨hpf, ih⟩, hr⟩)
  have hL0 : ∀ o ∈ mhv0 G2 M W 0, Lx G B o := fun o ho => hls o (List.mem_append.2 (.inl (List.mem_append.2 (.inl (p0.mem_iff.1 ho)))))
  have hL2 : ∀ o ∈ mhv0 G2 M W 2, Lx G B o := fun o ho => hls o (List.mem_append.2 (.inl (List.mem_append.2 (.inr (by rw [← e2]; exact ho)))))
  have hin : ∀ o, Lx G B o → 65536 ≤ o ∧ o < 98304 := fun o ho => hc.ok.head_in (hc.Ac_st (hc.lx_Ac ho))
  have hap := apply_gen (G := G2) (hv0 := mhv0 G2 M W) (A := Lx G B) ok2 rfl rfl (fun o ho => hin o (hL0 o ho)) (fun o ho => hin o (hL2 o ho)) (fun o ho h0 r hrr => by
    rw [hr.gs.cn] at h0
    rw [hr.gs.ref] at hrr
    exact .fld ho h0 hrr) hL0 hL2
  have hmpa : mpa2 G2 M W F = reaps (applyP (G2, mhv0 G2 M W)) F := rfl
  obtain ⟨q, hq⟩ : ∃ q, applyP (G2, mhv0 G2 M W) = q := ⟨_, rfl⟩
  rw [hq] at hap hmpa
  have hI2 : ∀ x, Lx G B x → x ∈ mhv0 G2 M W 0 ++ mhv0 G2 M W 2 ++ q.2 4 := fun x hx => by
    induction hx with
    | @log e he h0 =>
      refine List.mem_append.2 (.inl (List.mem_append.2 (.inl (p0.mem_iff.2 ?_))))
      rw [f.h0]
      exact List.mem_filter.2 ⟨List.mem_map.2 ⟨e, he, rfl⟩, by simp [h0]⟩
    | root hr =>
      refine List.mem_append.2 (.inl (List.mem_append.2 (.inr ?_)))
      show _ ∈ mroots M
      rw [e2, f.h2]; exact hr
    | @fld p r hp hc0 hrr ih =>
      refine List.mem_append.2 (.inr ?_)
      rw [hap.b4]
      refine List.mem_flatMap.2 ⟨p, (hap.b5 p).2 ⟨by rw [hr.gs.cn]; exact hc0, ih⟩, ?_⟩
      rw [hr.gs.ref]
      exact hrr
  have p5 : (q.2 5).Perm ((pauseP G B).2.2 5) := by
    rw [List.perm_ext_iff_of_nodup hap.n5 f.n5]
    intro x
    rw [hap.b5, f.b5, hr.gs.cn]
    constructor
    · rintro ⟨h1, h2⟩
      have hx := hap.a x h2
      refine ⟨?_, hLx x hx⟩
      rcases hc.lx_Ac hx with h3 | h3
      · have := (hc.ce1 x (hc.z1 x h3)).1; omega
      · exact h3
    · rintro ⟨h1, h2⟩
      refine ⟨(hc.fr_cnt h1).1, hI2 x (hls x ?_)⟩
      rw [← f.i]; exact h2
  have p4 : (q.2 4).Perm ((pauseP G B).2.2 4) := by
    rw [hap.b4, f.b4]
    have e : (q.2 5).flatMap (refL G2) = (q.2 5).flatMap (refL G) := flatMap_congr' (fun x _ => hr.gs.ref x)
    rw [e]
    exact p5.flatMap_right _
  have pI : (mhv0 G2 M W 0 ++ mhv0 G2 M W 2 ++ q.2 4).Perm I := by
    rw [f.i]
    refine List.Perm.append (List.Perm.append p0 ?_) p4
    show (mroots M).Perm _
    rw [e2]
  -- the machine's own, told exactly
  have hcn : ∀ x, q.1.cnt x = (pauseP G B).1.cnt x := fun x => by rw [hap.c, f.cn, hr.gs.cn, pI.count_eq]
  obtain ⟨p4', hp4⟩ : ∃ p, applyP (G, hv3P G B) = p := ⟨_, rfl⟩
  have hap0 := apply_spec hI hc.ref_Ac (fun o ho => by
    rw [hv3_0l] at ho
    obtain ⟨h1, h2⟩ := List.mem_filter.1 ho
    obtain ⟨e, he, rfl⟩ := List.mem_map.1 h1
    rcases hc.log_Ac e he with h3 | h3
    · simp [h3] at h2
    · exact h3) (fun o ho => by
    rw [hv3_2] at ho
    obtain ⟨m, hm, hmo⟩ := rootsK_mem ho
    exact hc.y1 m hm o hmo)
  rw [hp4] at hap0
  have hg := hap0.g
  have hhd4 : p4'.1.head = G.head := by rw [hg]
  have hw4 : p4'.1.word = G.word := by rw [hg]
  have htk4 : p4'.1.tk = G.tk := by rw [hg]
  obtain ⟨r1, r2⟩ := reaps_all (G4 := p4'.1) (hv := p4'.2) (by rw [hhd4]; exact hc.dj) (frL B) hc.nd (fun x hx => by rw [hhd4]; exact hc.fz x hx)
  have e1 : (pauseP G B).1 = { decs (decs (reaps p4' (frL B)).1 ((reaps p4' (frL B)).2 1)) ((reaps p4' (frL B)).2 3) with lg := fillF (decs (decs (reaps p4' (frL B)).1 ((reaps p4' (frL B)).2 1)) ((reaps p4' (frL B)).2 3)).lg 0 32768 false } := by
    unfold pauseP
    dsimp only
    rw [show seedH (drK B 4) (hroots (drK B 4) (hvK G B hv00 4)) = hv3P G B from rfl, hp4, reapK_fr]
  have hdw : ∀ (X : GS) (l1 l2 : List Nat), (decs (decs X l1) l2).word = X.word ∧ (decs (decs X l1) l2).tk = X.tk ∧ (decs (decs X l1) l2).cnt = X.cnt ∧ (decs (decs X l1) l2).head = X.head ∧ (decs (decs X l1) l2).errs = X.errs ∧ ∀ x, (decs (decs X l1) l2).pend x = X.pend x + l1.count x + l2.count x := fun X l1 l2 => by
    have h1 := decs_all l1 X
    have h2 := decs_all l2 (decs X l1)
    refine ⟨by rw [h2.1, h1.1], by rw [h2.1, h1.1], by rw [h2.1, h1.1], by rw [h2.1, h1.1], by rw [h2.1, h1.1], fun x => by rw [h2.2, h1.2]⟩
  have hx1 := hdw (reaps p4' (frL B)).1 ((reaps p4' (frL B)).2 1) ((reaps p4' (frL B)).2 3)
  have gw : (pauseP G B).1.word = (reaps p4' (frL B)).1.word := by rw [e1]; exact hx1.1
  have gt : (pauseP G B).1.tk = (reaps p4' (frL B)).1.tk := by rw [e1]; exact hx1.2.1
  -- the model's
  have hg2 := hap.g
  have mhd : q.1.head = G.head := by rw [hg2]; exact hr.gs.hd
  have mwd : q.1.word = G.word := by rw [hg2]; exact hr.gs.wd
  have mtk : q.1.tk = G.tk := by rw [hg2]; exact hr.gs.tk
  obtain ⟨m1, m2⟩ := reaps_all (G4 := q.1) (hv := q.2) (by rw [mhd]; exact hc.dj) F hF (fun x hx => by rw [mhd]; exact hc.fz x (pF.mem_iff.1 hx))
  have hy1 := hdw (mpa2 G2 M W F).1 ((mpa2 G2 M W F).2 1) ((mpa2 G2 M W F).2 3)
  have hcn4 : ∀ x, q.1.cnt x = p4'.1.cnt x := fun x => by
    rw [hcn]
    have : (pauseP G B).1.cnt = (reaps p4' (frL B)).1.cnt := by rw [e1]; exact hx1.2.2.1
    rw [this, r1.cn]
  have hinF : ∀ i, inF q.1 F i ↔ inF p4'.1 (frL B) i := fun i => by
    unfold inF szOf
    rw [mhd, hhd4]
    constructor
    · rintro ⟨x, hx, h1, h2⟩; exact ⟨x, pF.mem_iff.1 hx, by rw [← hcn4]; exact h1, h2⟩
    · rintro ⟨x, hx, h1, h2⟩; exact ⟨x, pF.mem_iff.2 hx, by rw [hcn4]; exact h1, h2⟩
  have k1 : (reaps q F).2 1 = wDe M.atp W := by rw [m1.k 1 (by decide), hap.k 1 (by decide) (by decide)]; rfl
  have k3 : (reaps q F).2 3 = M.last := by rw [m1.k 3 (by decide), hap.k 3 (by decide) (by decide)]; rfl
  rw [hmpa] at hy1 ⊢
  have hP : ∀ i, i < 8 → ((reaps q F).2 i).Perm ((pauseP G B).2.2 i) := fun i hi => by
    rcases (by omega : i = 0 ∨ i = 1 ∨ i = 2 ∨ i = 3 ∨ i = 4 ∨ i = 5 ∨ i = 6 ∨ i = 7) with rfl | rfl | rfl | rfl | rfl | rfl | rfl | rfl
    · rw [m1.k 0 (by decide), hap.k 0 (by decide) (by decide)]; exact p0
    · rw [k1]; exact p1
    · rw [m1.k 2 (by decide), hap.k 2 (by decide) (by decide)]
      show (mroots M).Perm _
      rw [e2]
    · rw [k3, hr.la, f.h3]
    · rw [m1.k 4 (by decide)]; exact p4
    · rw [m1.k 5 (by decide)]; exact p5
    · rw [m1.h6, hap.k 6 (by decide) (by decide)]
      show ([] ++ F.filter _).Perm _
      rw [List.nil_append, f.h6]
      refine (pF.filter _).trans ?_
      have e : (frL B).filter (fun x => decide (q.1.cnt x = 0)) = (frL B).filter (fun x => decide (x ∉ (pauseP G B).2.2 5)) := by
        refine List.filter_congr (fun x hx => ?_)
        have h4 : G2.cnt x = 0 := by rw [hr.gs.cn]; exact (hc.fr_cnt hx).1
        have : q.1.cnt x = 0 ↔ x ∉ (pauseP G B).2.2 5 := by
          rw [hap.c, h4]
          constructor
          · intro h1 h5
            have h6 := (hap.b5 x).1 (p5.mem_iff.2 h5)
            have := List.count_pos_iff.2 h6.2
            omega
          · intro h1
            have : ¬ x ∈ mhv0 G2 M W 0 ++ mhv0 G2 M W 2 ++ q.2 4 := fun h5 => h1 (p5.mem_iff.1 ((hap.b5 x).2 ⟨h4, h5⟩))
            rw [List.count_eq_zero.2 this]
            rfl
        simp [this]
      rw [e]
    · rw [m1.k 7 (by decide), hap.k 7 (by decide) (by decide), hsd]
      show (if M.st = true then mroots M else if M.tr = true then wDe M.atp W else []).Perm _
      rw [hr.st, hr.tr]
      by_cases t1 : B.tr = 1
      · rw [if_pos (by simp [t1]), if_pos t1, e2]
      · rw [if_neg (by simp [t1]), if_neg t1]
        by_cases t2 : B.tr = 2
        · rw [if_pos (by simp [t2]), if_pos t2]; exact p1
        · rw [if_neg (by simp [t2]), if_neg t2]
  have e2x : (pauseP G B).2.2 = (reaps p4' (frL B)).2 := by
    unfold pauseP
    dsimp only
    rw [show seedH (drK B 4) (hroots (drK B 4) (hvK G B hv00 4)) = hv3P G B from rfl, hp4, reapK_fr]
  have fR := fin_calls (G := G) (hv0 := hv3P G B) hc.ok (hv3_mid G B (by decide) (by decide)) (hv3_mid G B (by decide) (by decide)) (hv3_mid G B (by decide) (by decide)) (fun o ho => by
    rw [hv3_0l] at ho
    obtain ⟨h1, h2⟩ := List.mem_filter.1 ho
    obtain ⟨e, he, rfl⟩ := List.mem_map.1 h1
    rcases hc.log_Ac e he with h3 | h3
    · simp [h3] at h2
    · exact hc.ok.head_in (hc.Ac_st h3)) (fun o ho => by
    rw [hv3_2] at ho
    obtain ⟨m, hm, hmo⟩ := rootsK_mem ho
    exact hc.ok.head_in (hc.Ac_st (hc.y1 m hm o hmo))) (frL B) (by rw [hp4])
  have fM := fin_calls (G := G2) (hv0 := mhv0 G2 M W) ok2 rfl rfl rfl (fun o ho => hin o (hL0 o ho)) (fun o ho => hin o (hL2 o ho)) F (by rw [hq])
  have hln : ∀ i, i < 8 → ((reaps q F).2 i).length = ((reaps p4' (frL B)).2 i).length := fun i hi => by rw [← e2x]; exact (hP i hi).length_eq
  have hGS : GSim (pauseP G B).1 (mpaG G2 M W F) := by
    have eG : mpaG G2 M W F = decs (decs (reaps q F).1 ((reaps q F).2 1)) ((reaps q F).2 3) := by unfold mpaG; rw [hmpa]
    rw [eG]
    refine ⟨?_, ?_, ?_, ?_, ?_, ?_, ?_, ?_⟩
    · rw [hy1.2.2.2.1]
      funext x
      rw [m1.hd, f.hd, mhd]
      have hiff : (x ∈ F ∧ q.1.cnt x = 0) ↔ x ∈ (pauseP G B).2.2 6 := by
        rw [f.h6, List.mem_filter, pF.mem_iff]
        constructor
        · rintro ⟨h1, h2⟩
          refine ⟨h1, ?_⟩
          have h3 : ¬ x ∈ (pauseP G B).2.2 5 := fun h4 => by
            have h5 := p5.mem_iff.2 h4
            have h6 := (hap.b5 x).1 h5
            rw [hap.c, h6.1] at h2
            have := List.count_pos_iff.2 h6.2
            omega
          simpa using h3
        · rintro ⟨h1, h2⟩
          refine ⟨h1, ?_⟩
          have h3 : ¬ x ∈ q.2 5 := fun h4 => (by simpa using h2 : ¬ x ∈ (pauseP G B).2.2 5) (p5.mem_iff.1 h4)
          have h4 : G2.cnt x = 0 := by rw [hr.gs.cn]; exact (hc.fr_cnt h1).1
          rw [hap.c, h4]
          have : ¬ x ∈ mhv0 G2 M W 0 ++ mhv0 G2 M W 2 ++ q.2 4 := fun h5 => h3 ((hap.b5 x).2 ⟨h4, h5⟩)
          rw [List.count_eq_zero.2 this]
          rfl
      by_cases hh : x ∈ (pauseP G B).2.2 6
      · rw [if_pos hh, if_pos (hiff.2 hh)]
      · rw [if_neg hh, if_neg (fun h => hh (hiff.1 h))]
    · rw [hy1.1, gw]
      funext i
      by_cases hi : inF q.1 F i
      · rw [(m2.wd i).1 hi, (r2.wd i).1 ((hinF i).1 hi)]
      · rw [(m2.wd i).2 hi, (r2.wd i).2 (fun h => hi ((hinF i).2 h)), mwd, hw4]
    · rw [hy1.2.1, gt]
      funext i
      by_cases hi : inF q.1 F i
      · rw [(m2.tk i).1 hi, (r2.tk i).1 ((hinF i).1 hi)]
      · rw [(m2.tk i).2 hi, (r2.tk i).2 (fun h => hi ((hinF i).2 h)), mtk, htk4]
    · rw [hy1.2.2.1, m1.cn]
      funext x
      exact hcn x
    · funext x
      rw [hy1.2.2.2.2.2, f.pd, m1.pd, k1, k3, p1.count_eq, hr.la]
      have : q.1.pend = G.pend := by rw [hg2]; exact hr.gs.pd
      rw [this]
    · rw [hy1.2.2.2.2.1, m1.er, f.er]
      have : q.1.errs = G2.errs := by rw [hg2]
      rw [this]
      exact hr.gs.er
    · rw [e1]
      show _ = (decs (decs (reaps p4' (frL B)).1 ((reaps p4' (frL B)).2 1)) ((reaps p4' (frL B)).2 3)).calls.length
      rw [fM.1, fR.1, hr.gs.cl, hln 0 (by decide), hln 1 (by decide), hln 2 (by decide), hln 3 (by decide), hln 4 (by decide)]
    · rw [e1]
      show _ = (decs (decs (reaps p4' (frL B)).1 ((reaps p4' (frL B)).2 1)) ((reaps p4' (frL B)).2 3)).deaths.length
      rw [fM.2, fR.2, hr.gs.de, hln 6 (by decide)]
  refine ⟨hP, hGS, ?_, ?_, ?_, fun x => ?_, fun x => ?_, ?_, ?_⟩
  · show M.roots = _
    rw [f.br, hr.rt]
  · show mroots M = _
    rw [f.bq, e2, f.h2]
  · show (mpaG G2 M W F).word = _
    rw [hGS.wd]
  · show false = true ↔ _
    rw [show lgL (pauseP G B).2.1 = [] from four_nil f.bl]
    simp
  · show false = true ↔ _
    rw [show frL (pauseP G B).2.1 = [] from four_nil f.bf]
    simp
  · show false = _
    rw [pause_tr]
    have := hI.bo.tr
    split
    · rfl
    · next h => simp [h]
  · show (if M.st = true then true else M.tr) = _
    rw [pause_tr, hr.st, hr.tr]
    by_cases t1 : B.tr = 1
    · rw [if_pos (by simp [t1]), if_pos t1]; rfl
    · rw [if_neg (by simp [t1]), if_neg t1]
end
end Go.Proofs.Qxb6500888a
