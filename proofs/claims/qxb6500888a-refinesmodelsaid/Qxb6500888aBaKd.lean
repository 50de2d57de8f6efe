/- The steps that name an object: the model answers as the machine does (plain). -/
import Derived.Test.Qxb6500888aBaKc
namespace Go.Proofs.Qxb6500888a
open Go.RowKit
set_option linter.unusedSimpArgs false
set_option linter.unusedVariables false
section
variable {G G2 : GS} {B : BS} {M : MS} {atp : Nat → Nat} {Z : Nat → Prop} {t : Nat}
/-- namedS with the numbers read. -/
def nmS (G : GS) (B : BS) (kind m c : Nat) (na nb nc : Int) : (Nat × Nat) × GS × BS :=
  let r := rootS B (m : Int) na
  if r.2 ≠ 0 then ((r.2, 0), G, B)
  else if kind = 3 then (((pushS G B (m : Int) r.1).1, 0), G, (pushS G B (m : Int) r.1).2)
  else if kind = 5 then (((pushS G B nb r.1).1, 0), G, (pushS G B nb r.1).2)
  else if kind = 2 then
    (let q := readS G r.1 nb
     if q.2 ≠ 0 ∨ q.1 = 0 then ((q.2, 0), G, B) else (giv q.1 (pushS G B (m : Int) q.1).1, G, (pushS G B (m : Int) q.1).2))
  else
    let t := if c ≠ 0 then rootS B (m : Int) nc else (0, 0)
    if t.2 ≠ 0 then ((t.2, 0), G, B)
    else (((writeS G B (m : Int) r.1 nb t.1).1, 0), (writeS G B (m : Int) r.1 nb t.1).2)
theorem namedS_nm (o : OpP) : namedS G B o = nmS G B o.kind o.m o.c (numX o.a) (numX o.b) (numX (o.c - 1)) := rfl
theorem root_st (hc : CI G B atp Z) {m obj : Nat} (hm : m < 4) (h : obj ∈ B.roots m) : (G.head obj).isSome = true := hc.Ac_st (hc.y1 m hm obj h)
theorem RelM.write (hc : CI G B atp Z) (hr : RelM G B atp G2 M) {m obj f s ref : Nat} (hm : m < 4) (hA : Ac B Z obj) (hf : f = 65536 + s) (hs : s ∈ slots G obj) : RelM (wrG G s ref) (wrB G B m f s) atp (mwrS G2 M obj f ref).1 (mwrS G2 M obj f ref).2 := by
  have hoff : offA f = s := by rw [hf]; exact offA_add s
  have hgs : GSim (wrG G s ref) (mwrS G2 M obj f ref).1 := by
    unfold mwrS wrG
    dsimp only
    rw [hoff]
    exact ⟨hr.gs.hd, by dsimp only; rw [hr.gs.wd], hr.gs.tk, hr.gs.cn, hr.gs.pd, hr.gs.er, hr.gs.cl, hr.gs.de⟩
  have key : ∀ B' : BS, B'.roots = B.roots → B'.last = B.last → B'.fresh = B.fresh → B'.tr = B.tr → (∀ x, (mwrS G2 M obj f ref).2.wr x = true ↔ ∃ e ∈ lgL B', e.1 = x) → RelM (wrG G s ref) B' atp (mwrS G2 M obj f ref).1 (mwrS G2 M obj f ref).2 := fun B' e1 e2 e3 e4 hw => by
    have hM : (mwrS G2 M obj f ref).2.roots = M.roots ∧ (mwrS G2 M obj f ref).2.last = M.last ∧ (mwrS G2 M obj f ref).2.atp = M.atp ∧ (mwrS G2 M obj f ref).2.fr = M.fr ∧ (mwrS G2 M obj f ref).2.st = M.st ∧ (mwrS G2 M obj f ref).2.tr = M.tr := by
      unfold mwrS
      dsimp only
      split <;> exact ⟨rfl, rfl, rfl, rfl, rfl, rfl⟩
    refine ⟨hgs, by rw [hM.1, hr.rt, e1], by rw [hM.2.1, hr.la, e2], by rw [hM.2.2.1, hr.ap], hw, fun x => ?_, by rw [hM.2.2.2.2.1, hr.st, e4], by rw [hM.2.2.2.2.2, hr.tr, e4]⟩
    rw [hM.2.2.2.1, hr.fr]
    unfold frL
    rw [e3]
  have hwr : (mwrS G2 M obj f ref).2 = if M.fr obj = true then M else { M with wr := fup M.wr f true } := rfl
  unfold wrB
  by_cases hfr : obj ∈ frL B
  · have h4 := hc.l4 obj hfr s hs
    rw [if_pos h4]
    refine key B rfl rfl rfl rfl (fun x => ?_)
    rw [hwr, if_pos ((hr.fr obj).2 hfr)]
    exact hr.wr x
  · have hnf : ¬ M.fr obj = true := fun h => hfr ((hr.fr obj).1 h)
    have hold : oldB G B obj = true := by
      rcases hA with h1 | h1
      · exact hc.z1 obj h1
      · exact absurd h1 hfr
    cases hl : G.lg s with
    | true =>
      rw [if_pos rfl]
      refine key B rfl rfl rfl rfl (fun x => ?_)
      rw [hwr, if_neg hnf]
      dsimp only
      by_cases e : x = f
      · subst e
        rw [fup_self]
        obtain ⟨en, he, h1⟩ := (hc.l3 obj hold s hs).1 hl
        exact ⟨fun _ => ⟨en, he, by rw [h1, hf]⟩, fun _ => rfl⟩
      · rw [fup_ne _ _ e]; exact hr.wr x
    | false =>
      rw [if_neg (by decide)]
      refine key (addB B m (f, G.word s)) rfl rfl rfl rfl (fun x => ?_)
      rw [hwr, if_neg hnf]
      dsimp only
      have hp := lgL_add B hm (f, G.word s)
      by_cases e : x = f
      · subst e
        rw [fup_self]
        exact ⟨fun _ => ⟨(x, G.word s), hp.mem_iff.2 (by simp), rfl⟩, fun _ => rfl⟩
      · rw [fup_ne _ _ e, hr.wr]
        constructor
        · rintro ⟨en, he, h1⟩
          exact ⟨en, hp.mem_iff.2 (by simp [he]), h1⟩
        · rintro ⟨en, he, h1⟩
          rcases List.mem_cons.1 (hp.mem_iff.1 he) with h2 | h2
          · rw [h2] at h1; exact absurd h1.symm e
          · exact ⟨en, h2, h1⟩
theorem mfield_slot (ok : GOk G) {obj i : Nat} (h : (mfieldS G obj i).2 = 0) : ∃ s, (mfieldS G obj i).1 = 65536 + s ∧ s ∈ slots G obj ∧ s < 32768 ∧ (G.head obj).isSome = true := by
  unfold mfieldS at h ⊢
  cases hh : G.head obj with
  | none => rw [hh] at h; cases h
  | some p =>
    obtain ⟨n, q⟩ := p
    rw [hh] at h
    dsimp only at h ⊢
    have h1 := ok.hd obj n q hh
    have h2 := offA_in h1.1
    by_cases hq : q ≤ i
    · rw [if_pos hq] at h; cases h
    · rw [if_neg hq]
      refine ⟨offA obj + 1 + i, by dsimp only; omega, mem_slots.2 ⟨i, by rw [(stand_rf hh).1]; omega, rfl⟩, by omega, rfl⟩
theorem agr_nam (hI : InvM t G B) (hc : CI G B atp Z) (hr : RelM G B atp G2 M) (o : OpP) (hob : OpB o) (hk : o.kind = 1 ∨ o.kind = 2 ∨ o.kind = 3 ∨ o.kind = 5) (hm : o.m < 4) : Agr (playS G B o).2.2.1 (playS G B o).2.2.2 (playS G B o).1 atp (mstepS G2 M o) := by
  have e2 : mstepS G2 M o = mnamS G2 M o := by unfold mstepS; rw [if_neg (by omega), if_neg (by omega), if_neg (by omega), if_neg (by omega), if_neg (by omega), if_neg (by omega), if_neg (by omega)]
  have e1 : playS G B o = ((namedS G B o).1, hv00, (namedS G B o).2) := by unfold playS; rw [if_neg (by omega), if_neg (by omega), if_neg (by omega), if_neg (by omega), if_neg (by omega), if_neg (by omega), if_pos (by omega)]
  rw [e1, e2, namedS_nm]
  have hl := hI.bo.nr o.m
  have ha := rootS_nat (B := B) hm hob.a hl
  have hcn : o.c ≠ 0 → rootS B (o.m : Int) (numX (o.c - 1)) = if o.c - 1 < (B.roots o.m).length then ((B.roots o.m).getD ((B.roots o.m).length - 1 - (o.c - 1)) 0, 0) else (0, 10) := fun _ => rootS_nat hm (by have := hob.c; omega) hl
  have hb := numX_two hob.b
  have hfn := fun obj => fieldS_nat hI.ok obj hob.b
  generalize numX o.a = na at ha
  generalize numX o.b = nb at hb hfn
  generalize numX (o.c - 1) = nc at hcn
  unfold mnamS
  rw [hr.rt]
  dsimp only
  by_cases h1 : o.a < (B.roots o.m).length
  rotate_left
  · rw [if_pos h1]
    rw [if_neg h1] at ha
    have e : nmS G B o.kind o.m o.c na nb nc = ((10, 0), G, B) := by unfold nmS; rw [ha]; exact if_pos (by decide)
    rw [e]
    exact ⟨rfl, hr⟩
  rw [if_neg (show ¬ ¬ o.a < (B.roots o.m).length from fun h => h h1)]
  rw [if_pos h1] at ha
  obtain ⟨obj, hobj⟩ : ∃ x, (B.roots o.m).getD ((B.roots o.m).length - 1 - o.a) 0 = x := ⟨_, rfl⟩
  have hin : obj ∈ B.roots o.m := by rw [← hobj]; exact getD_mem (by omega)
  have hst := root_st hc hm hin
  have hA := hc.y1 o.m hm obj hin
  rw [hobj] at ha
  rw [hobj, hr.gs.field, hr.gs.wd]
  have en : nmS G B o.kind o.m o.c na nb nc = if o.kind = 3 then (((pushS G B (o.m : Int) obj).1, 0), G, (pushS G B (o.m : Int) obj).2) else if o.kind = 5 then (((pushS G B nb obj).1, 0), G, (pushS G B nb obj).2) else if o.kind = 2 then (if (readS G obj nb).2 ≠ 0 ∨ (readS G obj nb).1 = 0 then (((readS G obj nb).2, 0), G, B) else (giv (readS G obj nb).1 (pushS G B (o.m : Int) (readS G obj nb).1).1, G, (pushS G B (o.m : Int) (readS G obj nb).1).2)) else if (if o.c ≠ 0 then rootS B (o.m : Int) nc else (0, 0)).2 ≠ 0 then (((if o.c ≠ 0 then rootS B (o.m : Int) nc else (0, 0)).2, 0), G, B) else (((writeS G B (o.m : Int) obj nb (if o.c ≠ 0 then rootS B (o.m : Int) nc else (0, 0)).1).1, 0), (writeS G B (o.m : Int) obj nb (if o.c ≠ 0 then rootS B (o.m : Int) nc else (0, 0)).1).2) := by
    unfold nmS
    rw [ha]
    exact if_neg (fun h => h rfl)
  rw [en]
  clear en ha
  have hpush : ∀ x ref : Nat, x < 4 → (G.head ref).isSome = true → Agr G (pushS G B (x : Int) ref).2 ((pushS G B (x : Int) ref).1, 0) atp (((mpuS M x ref).1, 0), G2, (mpuS M x ref).2) := fun x ref hx hs => by
    rw [pushS_nat x ref hx hs]
    unfold mpuS
    rw [hr.rt]
    by_cases h : (B.roots x).length = 64
    · rw [if_pos h, if_pos h]; exact ⟨rfl, hr⟩
    · rw [if_neg h, if_neg h]; exact ⟨rfl, hr.push x ref⟩
  by_cases k3 : o.kind = 3
  · rw [if_pos k3, if_pos k3]
    exact hpush o.m obj hm hst
  rw [if_neg k3, if_neg k3]
  by_cases k5 : o.kind = 5
  · rw [if_pos k5, if_pos k5]
    by_cases hb4 : 4 ≤ o.b
    · rw [if_pos hb4]
      have e : pushS G B nb obj = (1, B) := by unfold pushS; rw [if_pos (by unfold badM; omega)]
      rw [e]
      exact ⟨rfl, hr⟩
    · rw [if_neg hb4]
      have e : nb = (o.b : Int) := by omega
      rw [e]
      exact hpush o.b obj (by omega) hst
  rw [if_neg k5, if_neg k5]
  by_cases k2 : o.kind = 2
  · rw [if_pos k2, if_pos k2]
    have hrd : readS G obj nb = if (mfieldS G obj o.b).2 = 0 then (G.word (offA (mfieldS G obj o.b).1), 0) else (0, (mfieldS G obj o.b).2) := by unfold readS; rw [hfn]
    by_cases hf0 : (mfieldS G obj o.b).2 = 0
    · rw [if_pos hf0] at hrd
      rw [hrd, if_neg (show ¬ (mfieldS G obj o.b).2 ≠ 0 from fun h => h hf0)]
      obtain ⟨s, hs1, hs2, hs3, _⟩ := mfield_slot hI.ok hf0
      have hoff : offA (mfieldS G obj o.b).1 = s := by rw [hs1]; exact offA_add s
      rw [hoff]
      dsimp only
      by_cases hx : G.word s = 0
      · rw [if_pos hx, if_pos (Or.inr hx)]
        exact ⟨rfl, hr⟩
      · rw [if_neg hx, if_neg (show ¬ ((0 : Nat) ≠ 0 ∨ G.word s = 0) from fun h => h.elim (fun h => h rfl) hx)]
        have hsx : (G.head (G.word s)).isSome = true := by
          rcases hc.y2 obj hA s hs2 with h | h
          · exact absurd h hx
          · exact hc.Ac_st h
        rw [pushS_nat o.m (G.word s) hm hsx]
        by_cases h64 : (B.roots o.m).length = 64
        · rw [if_pos h64, if_pos h64]
          exact ⟨rfl, hr⟩
        · rw [if_neg h64, if_neg h64]
          exact ⟨rfl, hr.push o.m (G.word s)⟩
    · rw [if_neg hf0] at hrd
      rw [hrd, if_pos (show (mfieldS G obj o.b).2 ≠ 0 from hf0), if_pos (Or.inl hf0)]
      exact ⟨rfl, hr⟩
  rw [if_neg k2, if_neg k2]
  have hwrite : ∀ ref, (ref = 0 ∨ (G.head ref).isSome = true) → Agr (writeS G B (o.m : Int) obj nb ref).2.1 (writeS G B (o.m : Int) obj nb ref).2.2 ((writeS G B (o.m : Int) obj nb ref).1, 0) atp (if (mfieldS G obj o.b).2 ≠ 0 then (((mfieldS G obj o.b).2, 0), G2, M) else ((0, 0), mwrS G2 M obj (mfieldS G obj o.b).1 ref)) := fun ref href => by
    by_cases hf0 : (mfieldS G obj o.b).2 = 0
    · rw [if_neg (fun h => h hf0)]
      obtain ⟨s, hs1, hs2, hs3, _⟩ := mfield_slot hI.ok hf0
      have hoff : offA (mfieldS G obj o.b).1 = s := by rw [hs1]; exact offA_add s
      have e : writeS G B (o.m : Int) obj nb ref = (0, wrG G s ref, wrB G B o.m (mfieldS G obj o.b).1 s) := by
        unfold writeS
        rw [if_neg (not_bad hm), hfn, if_neg (fun h => h hf0), if_neg (fun h => by
          rcases href with h2 | h2
          · exact h.2 h2
          · rw [h2] at h; exact absurd h.1 (by decide)), hoff, Int.toNat_natCast]
      rw [e]
      exact ⟨rfl, hr.write hc hm hA hs1 hs2⟩
    · rw [if_pos hf0]
      have e : writeS G B (o.m : Int) obj nb ref = ((mfieldS G obj o.b).2, G, B) := by
        unfold writeS
        rw [if_neg (not_bad hm), hfn, if_pos hf0]
      rw [e]
      exact ⟨rfl, hr⟩
  by_cases hc0 : o.c = 0
  · rw [if_neg (show ¬ o.c ≠ 0 from fun h => h hc0), if_neg (show ¬ (o.c ≠ 0 ∧ ¬ o.c - 1 < (B.roots o.m).length) from fun h => h.1 hc0), if_pos hc0]
    rw [if_neg (show ¬ (((0, 0) : Nat × Nat)).2 ≠ 0 from fun h => h rfl)]
    exact hwrite 0 (.inl rfl)
  · rw [if_pos (show o.c ≠ 0 from hc0), if_neg hc0, hcn hc0]
    by_cases h2 : o.c - 1 < (B.roots o.m).length
    · rw [if_pos h2, if_neg (show ¬ (o.c ≠ 0 ∧ ¬ o.c - 1 < (B.roots o.m).length) from fun h => h.2 h2)]
      dsimp only
      rw [if_neg (show ¬ (0 : Nat) ≠ 0 from fun h => h rfl)]
      exact hwrite _ (.inr (root_st hc hm (getD_mem (by omega))))
    · rw [if_neg h2, if_pos (show o.c ≠ 0 ∧ ¬ o.c - 1 < (B.roots o.m).length from ⟨hc0, h2⟩)]
      dsimp only
      rw [if_pos (by decide)]
      exact ⟨rfl, hr⟩
/-- Every step but the pause. -/
theorem RelM.step (hI : InvM t G B) (hc : CI G B atp Z) (hr : RelM G B atp G2 M) (o : OpP) (hob : OpB o) (h7 : o.kind ≠ 7) : Agr (playS G B o).2.2.1 (playS G B o).2.2.2 (playS G B o).1 atp (mstepS G2 M o) := by
  by_cases h8 : o.kind = 8
  · exact agr_8 hr o h8
  by_cases h9 : o.kind = 9
  · exact agr_9 hI hr o h9
  by_cases h10 : 10 ≤ o.kind
  · exact agr_hi hr o h10
  by_cases hm : 4 ≤ o.m
  · exact agr_m hr o (by omega) hm
  have hm' : o.m < 4 := by omega
  by_cases h0 : o.kind = 0
  · exact agr_0 hI hc hr o hob h0 hm'
  by_cases h4 : o.kind = 4
  · exact agr_4 hI hr o h4 hm'
  by_cases h6 : o.kind = 6
  · exact agr_6 hI hr o hob h6 hm'
  exact agr_nam hI hc hr o hob (by omega) hm'
end
end Go.Proofs.Qxb6500888a
