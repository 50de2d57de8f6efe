/- Walk: what Next answers, in one; the invariant. -/
import Derived.Test.Qxb6500891aPtWkE
import Derived.Test.Qxb6500891aPtCEq
import Derived.Test.Qxb6500891aPtWkZ
namespace Go.Proofs.Qxb6500891a
open Go.RowKit
set_option linter.unusedSimpArgs false
set_option linter.unusedVariables false

/-- What Next answers, read off. -/
structure NextF (S : WS) (C : List Value) (b : Bool) (S' : WS) (la nd : Bool) : Prop where
  len : C.length = 37
  one : ∀ v ∈ C, v.oneCell' = true
  neq : ∀ w, (binOp .neq 40 (.agg C.toArray) (.agg C.toArray)).run Try.prog w = .ok (.bool false) w
  inv : WInv S'
  be : b = !S.lv.isEmpty
  lk : S'.links = S.links
  c36 : C[36]? = some (.bool la)
  c35 : C[35]? = some (.bool nd)
  last : b = true → la = S'.lv.isEmpty
  ndir : b = true → la = false → nd = true
  st : b = true → S'.steps = S.steps + 1 ∧ leftL S'.lv + 1 = leftL S.lv
  stf : b = false → S'.lv = S.lv ∧ S'.steps = S.steps ∧ leftL S.lv = 0
theorem left_next {ls : List Lvl} {L : Lvl} (hlt : L.nx < L.sp.length) : leftL (lvOf ls L) + 1 = leftL (ls ++ [L]) := by
  unfold lvOf
  rw [leftL_snoc]
  split
  · omega
  · rw [leftL_snoc]
    show leftL ls + (L.sp.length - (L.nx + 1)) + 1 = _
    omega
theorem WInv.next {S : WS} {ls : List Lvl} {L : Lvl} {s : Sp} (h : WInv S) (hv : S.lv = ls ++ [L]) (hlt : L.nx < L.sp.length) (hsl : L.nx + 1 < L.sp.length → s.sl = true) : WInv (nextS S ls L s) := by
  have h1 := h.dl
  have h2 := h.sum
  have hl := left_next (ls := ls) hlt
  rw [hv] at h1 h2
  simp at h1
  refine ⟨?_, h.l8, ?_, fun k M hk hM => ?_, fun _ hne => ?_⟩
  · show (lvOf ls L).length ≤ S.links + 1
    unfold lvOf
    split
    · omega
    · simp; omega
  · show S.steps + 1 + leftL (lvOf ls L) ≤ _
    show S.steps + 1 + leftL (lvOf ls L) ≤ 128 * (S.links + 1)
    omega
  · have hM' : (lvOf ls L)[k]? = some M := hM
    unfold lvOf at hM'
    split at hM'
    · exact h.nd k M hk (by rw [hv, List.getElem?_append_left (List.getElem?_eq_some_iff.1 hM').1]; exact hM')
    · by_cases hkl : k < ls.length
      · rw [List.getElem?_append_left hkl] at hM'
        exact h.nd k M hk (by rw [hv, List.getElem?_append_left hkl]; exact hM')
      · have hlt2 := (List.getElem?_eq_some_iff.1 hM').1
        simp at hlt2
        have hke : k = ls.length := by omega
        subst hke
        rw [List.getElem?_append_right (by omega)] at hM'
        simp at hM'
        have := h.nd ls.length L hk (by rw [hv, List.getElem?_append_right (by omega)]; simp)
        rw [← hM']
        exact this
  · show ndOf L s = true
    have hne' : lvOf ls L ≠ [] := hne
    unfold ndOf
    unfold lvOf at hne'
    split
    · rename_i he
      rw [if_pos he] at hne'
      have h1 : 1 ≤ ls.length := by cases ls with | nil => exact absurd rfl hne' | cons _ _ => simp
      have := h.nd ls.length L h1 (by rw [hv, List.getElem?_append_right (by omega)]; simp)
      rw [this, Bool.or_true]
    · exact hsl (by omega)
theorem next_any {cs : List Value} {S : WS} (hk : WOk cs S) (hi : WInv S) : ∃ C b S' la nd, NextF S C b S' la nd ∧ ∀ g t ds w, Blk w g t ds → WOk ds S →
    Calls Try.prog 37 #[.pointer (some ⟨g, 0, none⟩)] w (fun e w' => NextP g t C b S' w e w') ∧
    Calls Try.prog 36 #[.pointer (some ⟨g, 0, none⟩)] w (fun e w' => e = .returned (.tuple #[.agg C.toArray, .bool b]) ∧ Below w.heap.size w w') := by
  rcases List.eq_nil_or_concat S.lv with hv | ⟨ls, L, hv⟩
  · refine ⟨compC [] 0 0 false false, false, { S with tk := false }, false, false, ⟨rfl, one_comp _ _ _ _ _, fun w => neq_comp [] (by simp) 0 0 false false w, ?_, by rw [hv]; rfl, rfl, rfl, rfl, fun h => (by cases h), fun h => (by cases h), fun h => (by cases h), fun _ => ⟨rfl, rfl, by rw [hv]; rfl⟩⟩,
      fun g t ds w hb hd => ⟨next_nil g t ds S w hb hd hv, peek_nil g t ds S w hb hd hv⟩⟩
    exact ⟨hi.dl, hi.l8, hi.sum, hi.nd, fun h => (by cases h)⟩
  · rw [List.concat_eq_append] at hv
    have hL : S.lv[ls.length]? = some L := by rw [hv, List.getElem?_append_right (by omega)]; simp
    have hlo := hk.lv _ L hL
    have hlt := hlo.lt
    obtain ⟨s, hs⟩ : ∃ s, L.sp[L.nx]? = some s := ⟨_, List.getElem?_eq_getElem hlt⟩
    have hso := hlo.path.cp.ok s (List.mem_of_getElem? hs)
    have hsub : (sub L.l s.a s.b).length ≤ 32 := by rw [sub_len hso.le]; exact hso.sh
    have hsl : L.nx + 1 < L.sp.length → s.sl = true := fun h => hlo.path.slash L.nx s hs h
    have hinv := hi.next hv hlt hsl
    have h9 := hi.d9
    have hst : S.steps ≤ 1152 := by have := hi.sum; have := hi.l8; omega
    refine ⟨cOf ls L s, true, nextS S ls L s, decide (L.nx + 1 = L.sp.length) && ls.isEmpty, ndOf L s, ⟨compC_len hsub _ _ _ _, one_comp _ _ _ _ _, fun w => neq_comp _ hsub _ _ _ _ w, hinv, ?_, rfl, comp_36 hsub _ _ _ _, comp_35 hsub _ _ _ _, fun _ => ?_, fun _ hla => ?_, fun _ => ⟨rfl, ?_⟩, fun h => (by cases h)⟩,
      fun g t ds w hb hd => ⟨next_walk g t ds S w hb hd ls L s hv hs h9 hst, peek_walk g t ds S w hb hd ls L s hv hs h9⟩⟩
    · rw [hv]; simp
    · show _ = (lvOf ls L).isEmpty
      unfold lvOf
      split
      · rename_i h; rw [decide_eq_true h, Bool.true_and]
      · rename_i h; rw [decide_eq_false h, Bool.false_and]; simp
    · by_cases hne : lvOf ls L = []
      · unfold lvOf at hne
        split at hne
        · rename_i h
          rw [decide_eq_true h, Bool.true_and, hne] at hla
          cases hla
        · simp at hne
      · exact hinv.tn rfl hne
    · show leftL (lvOf ls L) + 1 = leftL S.lv
      rw [hv]
      exact left_next hlt
theorem zwalk_ok : WOk zWalk ⟨[], 0, 0, false, false⟩ :=
  ⟨⟨zWalk_len, zWalk_one⟩, fun k L h => by have h' : ([] : List Lvl)[k]? = some L := h; simp at h', zWalk_tail.1, zWalk_tail.2.1, zWalk_tail.2.2.1, zWalk_tail.2.2.2.1, zWalk_tail.2.2.2.2⟩
theorem zwalk_inv : WInv ⟨[], 0, 0, false, false⟩ := ⟨by simp, by simp, by simp [leftL], fun k L _ h => by have h' : ([] : List Lvl)[k]? = some L := h; simp at h', fun h => by cases h⟩
theorem left_zero {cs : List Value} {S : WS} (hk : WOk cs S) : (leftL S.lv = 0) ↔ S.lv = [] := by
  constructor
  · intro h
    rcases List.eq_nil_or_concat S.lv with hv | ⟨ls, L, hv⟩
    · exact hv
    · rw [List.concat_eq_append] at hv
      have hL : S.lv[ls.length]? = some L := by rw [hv, List.getElem?_append_right (by omega)]; simp
      have hlt := (hk.lv _ L hL).lt
      rw [hv, leftL_snoc] at h
      omega
  · intro h; rw [h]; rfl
end Go.Proofs.Qxb6500891a
