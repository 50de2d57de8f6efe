/- The machine and its model side by side: one step of both. -/
import Derived.Test.Qxb6500888aBaKi
import Derived.Test.Qxb6500888aBaKj
import Derived.Test.Qxb6500888aBaL8
namespace Go.Proofs.Qxb6500888a
open Go.RowKit
set_option linter.unusedSimpArgs false
set_option linter.unusedVariables false
attribute [local irreducible] wdC

section
variable {G G2 : GS} {B : BS} {M : MS} {atp : Nat → Nat} {Z : Nat → Prop} {t : Nat}
theorem playS_hv {o : OpP} (h : o.kind ≠ 7) : (playS G B o).2.1 = hv00 := by
  unfold playS
  rw [if_neg h]
  dsimp only
  repeat' split
  all_goals rfl
theorem GSim.ok (h : GSim G G2) (ok : GOk G) : GOk G2 := ⟨by rw [h.hd]; exact ok.hd, by rw [h.wd]; exact ok.wd, by rw [h.pd]; exact ok.pd, by rw [h.cn]; exact ok.ct⟩
theorem GSim.gb {N : Nat} (h : GSim G G2) (gb : GB G N) : GB G2 N := ⟨by rw [h.cl]; exact gb.calls, by rw [h.de]; exact gb.deaths, by rw [h.pd]; exact gb.pend, by rw [h.er]; exact gb.errs⟩
theorem GSim.geq (h : GSim G G2) : GEq false G G2 := ⟨h.hd, fun i _ => by rw [h.wd], fun i _ => by rw [h.tk], fun e => (by cases e), h.cn, h.pd, h.er⟩
theorem rel_step (hI : InvM t G B) (hc : CI G B atp Z) (hr : RelM G B atp G2 M) (o : OpP) (hob : OpB o) {W F : List Nat} (hW : W.Nodup ∧ ∀ x, x ∈ W ↔ M.wr x = true) (hF : F.Nodup ∧ ∀ x, x ∈ F ↔ M.fr x = true) :
    (msS G2 M o W F).1 = (playS G B o).1 ∧ (∀ i, i < 8 → ((playS G B o).2.1 i).Perm ((msS G2 M o W F).2.1 i)) ∧ RelM (playS G B o).2.2.1 (playS G B o).2.2.2 (if o.kind = 7 then (playS G B o).2.2.1.word else atp) (msS G2 M o W F).2.2.1 (msS G2 M o W F).2.2.2 := by
  by_cases h7 : o.kind = 7
  · have e1 : msS G2 M o W F = ((0, 0), (mpa2 G2 M W F).2, mpaG G2 M W F, mpaM G2 M W F) := if_pos h7
    have e2 : playS G B o = ((0, 0), (pauseP G B).2.2, (pauseP G B).1, (pauseP G B).2.1) := if_pos h7
    obtain ⟨h1, h2⟩ := mpause_rel hI hc hr (hr.gs.ok hI.ok) hW.1 hW.2 hF.1 hF.2
    rw [if_pos h7, e1, e2]
    exact ⟨rfl, fun i hi => (h1 i hi).symm, h2⟩
  · have e1 : msS G2 M o W F = ((mstepS G2 M o).1, hv00, (mstepS G2 M o).2.1, (mstepS G2 M o).2.2) := if_neg h7
    have h := hr.step hI hc o hob h7
    rw [if_neg h7, e1]
    exact ⟨h.1, fun i hi => by rw [playS_hv h7], h.2⟩
theorem rel_wf (hI : InvM t G B) (hc : CI G B atp Z) (hr : RelM G B atp G2 M) : (∀ m obj, obj ∈ M.roots m → 65536 ≤ obj ∧ obj < 98304) ∧ (∀ x, M.wr x = true → 65536 ≤ x ∧ x < 98304) ∧ (∀ x, M.fr x = true → 65536 ≤ x ∧ x < 98304) ∧ M.last.length ≤ 1000000 ∧ (∃ W : List Nat, W.Nodup ∧ ∀ x, x ∈ W ↔ M.wr x = true) ∧ ∃ F : List Nat, F.Nodup ∧ ∀ x, x ∈ F ↔ M.fr x = true := by
  refine ⟨fun m obj ho => ?_, fun x hx => ?_, fun x hx => ?_, ?_, ⟨(lgL B).map Prod.fst, hc.l1, fun x => ?_⟩, ⟨frL B, hc.nd, fun x => (hr.fr x).symm⟩⟩
  · rw [hr.rt] at ho
    by_cases hm : m < 4
    · exact hI.bo.ro m hm obj ho
    · rw [(hI.bo.hi m (by omega)).2.1] at ho; cases ho
  · obtain ⟨e, he, rfl⟩ := (hr.wr x).1 hx
    have he' : e ∈ (List.range 4).flatMap B.logs := he
    obtain ⟨m, hm, hme⟩ := List.mem_flatMap.1 he'
    exact hI.bo.lf m (List.mem_range.1 hm) e hme
  · have hx' : x ∈ (List.range 4).flatMap B.fresh := (hr.fr x).1 hx
    obtain ⟨m, hm, hmo⟩ := List.mem_flatMap.1 hx'
    exact hI.bo.fr m (List.mem_range.1 hm) x hmo
  · rw [hr.la]; have := hI.bo.na; omega
  · rw [hr.wr, List.mem_map]
end
end Go.Proofs.Qxb6500888a
