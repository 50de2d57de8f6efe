/- The plain machine: what the reaping, the logs' harvest and the decrements of a pause come to. -/
import Derived.Test.Qxb6500888aBaT4
namespace Go.Proofs.Qxb6500888a
open Go.RowKit
set_option linter.unusedSimpArgs false
set_option linter.unusedVariables false
/-- The new objects of l have been reaped. -/
structure RpI (G4 : GS) (hv : Nat → List Nat) (l : List Nat) (p : GS × (Nat → List Nat)) : Prop where
  hd : ∀ x, p.1.head x = if x ∈ l ∧ G4.cnt x = 0 then none else G4.head x
  cn : p.1.cnt = G4.cnt
  pd : p.1.pend = G4.pend
  er : p.1.errs = G4.errs
  ca : p.1.calls = G4.calls
  kp : ∀ x n q, G4.head x = some (n, q) → ¬ (x ∈ l ∧ G4.cnt x = 0) → ∀ j, j ≤ n → p.1.word (offA x + j) = G4.word (offA x + j) ∧ p.1.tk (offA x + j) = G4.tk (offA x + j)
  kd : ∀ x n q, G4.head x = some (n, q) → x ∈ l → G4.cnt x = 0 → ∀ j, j ≤ n → p.1.tk (offA x + j) = false
  h6 : p.2 6 = hv 6 ++ l.filter fun x => decide (G4.cnt x = 0)
  k : ∀ i, i ≠ 6 → p.2 i = hv i
theorem RpI.step {G4 : GS} {hv : Nat → List Nat} {l : List Nat} {p : GS × (Nat → List Nat)} (h : RpI G4 hv l p) {o : Nat} (hst : (G4.head o).isSome = true) (hn : o ∉ l)
    (dj : ∀ a b n q n' q', a ≠ b → G4.head a = some (n, q) → G4.head b = some (n', q') → offA a + n < offA b ∨ offA b + n' < offA a) : RpI G4 hv (l ++ [o]) (reap1 p o) := by
  obtain ⟨n, q, hh⟩ := st_some hst
  have hcc : p.1.cnt o = G4.cnt o := by rw [h.cn]
  unfold reap1
  by_cases h0 : p.1.cnt o = 0
  · rw [if_pos h0]
    have h0' : G4.cnt o = 0 := by rw [← hcc]; exact h0
    have hho : p.1.head o = some (n, q) := by rw [h.hd, if_neg (fun hc => hn hc.1)]; exact hh
    have hsz : szOf p.1 o = n := (stand_rf hho).2
    have fw : (freeG p.1 o).word = fillF p.1.word (offA o) (n + 1) 0 := by rw [← hsz]; rfl
    have ft : (freeG p.1 o).tk = fillF p.1.tk (offA o) (n + 1) false := by rw [← hsz]; rfl
    refine ⟨fun x => ?_, ?_, h.pd, h.er, h.ca, fun x n' q' hx hx2 j hj => ?_, fun x n' q' hx hx2 hx3 j hj => ?_, ?_, fun i hi => ?_⟩
    · show fup p.1.head o none x = _
      by_cases e : x = o
      · subst e
        rw [fup_self, if_pos ⟨by simp, h0'⟩]
      · rw [fup_ne _ _ e, h.hd]
        simp [e]
    · show fup p.1.cnt o 0 = _
      rw [← h0, fup_same, h.cn]
    · have hxo : x ≠ o := fun e => hx2 ⟨by rw [e]; simp, by rw [e]; exact h0'⟩
      have hd := dj x o n' q' n q hxo hx hh
      dsimp only
      rw [fw, ft, fillF_out _ _ (by omega), fillF_out _ _ (by omega)]
      exact h.kp x n' q' hx (fun hc => hx2 ⟨List.mem_append.2 (.inl hc.1), hc.2⟩) j hj
    · dsimp only
      rw [ft]
      by_cases e : x = o
      · subst e
        rw [hh] at hx
        cases hx
        rw [fillF_in _ _ (by omega)]
      · have hd := dj x o n' q' n q e hx hh
        rw [fillF_out _ _ (by omega)]
        refine h.kd x n' q' hx ?_ hx3 j hj
        rcases List.mem_append.1 hx2 with h1 | h1
        · exact h1
        · exact absurd (List.mem_singleton.1 h1) e
    · show hput p.2 6 o 6 = _
      unfold hput
      rw [fup_self, h.h6, List.filter_append, List.append_assoc]
      congr 2
      simp [h0']
    · show hput p.2 6 o i = _
      unfold hput
      rw [fup_ne _ _ hi]
      exact h.k i hi
  · rw [if_neg h0]
    have h0' : ¬ G4.cnt o = 0 := by rw [← hcc]; exact h0
    refine ⟨fun x => ?_, h.cn, h.pd, h.er, h.ca, fun x n' q' hx hx2 j hj => ?_, fun x n' q' hx hx2 hx3 j hj => ?_, ?_, h.k⟩
    · rw [h.hd]
      by_cases e : x = o
      · subst e
        rw [if_neg (fun hc => h0' hc.2), if_neg (fun hc => h0' hc.2)]
      · simp [e]
    · exact h.kp x n' q' hx (fun hc => hx2 ⟨List.mem_append.2 (.inl hc.1), hc.2⟩) j hj
    · refine h.kd x n' q' hx ?_ hx3 j hj
      rcases List.mem_append.1 hx2 with h1 | h1
      · exact h1
      · rw [List.mem_singleton.1 h1] at hx3; exact absurd hx3 h0'
    · rw [h.h6, List.filter_append]
      simp [h0']
theorem RpI.many {G4 : GS} {hv : Nat → List Nat} (dj : ∀ a b n q n' q', a ≠ b → G4.head a = some (n, q) → G4.head b = some (n', q') → offA a + n < offA b ∨ offA b + n' < offA a) :
    ∀ (l : List Nat) {pre : List Nat} {p : GS × (Nat → List Nat)}, RpI G4 hv pre p → (pre ++ l).Nodup → (∀ x ∈ l, (G4.head x).isSome = true) → RpI G4 hv (pre ++ l) (reaps p l)
  | [], pre, p, h, _, _ => by rw [List.append_nil]; exact h
  | o :: l, pre, p, h, hnd, hst => by
    have hno : o ∉ pre := by
      have := (List.nodup_append.1 hnd).2.2
      exact fun hc => this o hc o (by simp) rfl
    have h1 := h.step (hst o (by simp)) hno dj
    have e : pre ++ o :: l = (pre ++ [o]) ++ l := by simp
    rw [e] at hnd ⊢
    exact RpI.many dj l h1 hnd (fun x hx => hst x (by simp [hx]))
theorem reapK_fr (B : BS) (p : GS × (Nat → List Nat)) : reapK B p 4 = reaps p (frL B) := by
  unfold reapK reaps frL
  rw [List.foldl_flatMap]
theorem reap_spec {G4 : GS} {hv : Nat → List Nat} (B : BS) (dj : ∀ a b n q n' q', a ≠ b → G4.head a = some (n, q) → G4.head b = some (n', q') → offA a + n < offA b ∨ offA b + n' < offA a) (hnd : (frL B).Nodup) (hst : ∀ x ∈ frL B, (G4.head x).isSome = true) :
    RpI G4 hv (frL B) (reapK B (G4, hv) 4) := by
  rw [reapK_fr]
  have h0 : RpI G4 hv [] (G4, hv) := ⟨fun x => (by rw [if_neg (fun hc => by cases hc.1)]), rfl, rfl, rfl, rfl, fun _ _ _ _ _ _ _ => ⟨rfl, rfl⟩, fun _ _ _ _ hc => (by cases hc), by simp, fun _ _ => rfl⟩
  have := RpI.many dj (frL B) h0 (by rw [List.nil_append]; exact hnd) hst
  rw [List.nil_append] at this
  exact this
/-- The harvest of the logs, told by the list of all entries. -/
theorem hlogs_0 (G : GS) : ∀ (l : List (Nat × Nat)) (hv : Nat → List Nat), hlogs G hv l 0 = hv 0 ++ (l.map fun e => G.word (offA e.1)).filter (fun x => decide (x ≠ 0))
  | [], hv => by simp [hlogs]
  | e :: l, hv => by
    show hlogs G (hlog G hv e) l 0 = _
    rw [hlogs_0 G l, List.map_cons, List.filter_cons]
    unfold hlog hlog2 hlog1 hput
    by_cases h1 : G.word (offA e.1) = 0
    · rw [if_pos h1]
      simp only [h1]
      split <;> simp [fup]
    · rw [if_neg h1, fup_self]
      simp only [ne_eq, h1, not_false_eq_true, decide_true, if_true]
      split <;> simp [fup]
theorem hlogs_1 (G : GS) : ∀ (l : List (Nat × Nat)) (hv : Nat → List Nat), hlogs G hv l 1 = hv 1 ++ (l.map Prod.snd).filter (fun x => decide (x ≠ 0))
  | [], hv => by simp [hlogs]
  | e :: l, hv => by
    show hlogs G (hlog G hv e) l 1 = _
    rw [hlogs_1 G l, List.map_cons, List.filter_cons]
    unfold hlog hlog2 hlog1 hput
    by_cases h1 : e.2 = 0
    · rw [if_pos h1]
      simp only [h1]
      split <;> simp [fup]
    · rw [if_neg h1]
      simp only [ne_eq, h1, not_false_eq_true, decide_true, if_true]
      split <;> simp [fup]
theorem hvK_lg (G : GS) (B : BS) (hv : Nat → List Nat) : hvK G B hv 4 = hlogs G hv (lgL B) := by
  unfold hvK hlogs lgL
  rw [List.foldl_flatMap]
theorem hv3_0l (G : GS) (B : BS) : hv3P G B 0 = ((lgL B).map fun e => G.word (offA e.1)).filter (fun x => decide (x ≠ 0)) := by
  rw [hv3_lo G B (by decide), hvK_lg, hlogs_0]
  rfl
theorem hv3_1l (G : GS) (B : BS) : hv3P G B 1 = ((lgL B).map Prod.snd).filter (fun x => decide (x ≠ 0)) := by
  rw [hv3_lo G B (by decide), hvK_lg, hlogs_1]
  rfl
theorem decs_all : ∀ (l : List Nat) (G : GS), decs G l = { G with calls := G.calls ++ l.map (fun x => (false, x)), pend := (decs G l).pend } ∧ ∀ x, (decs G l).pend x = G.pend x + l.count x
  | [], G => ⟨by simp [decs], fun x => by simp [decs]⟩
  | o :: l, G => by
    have h := decs_all l (decG G o)
    have e : decs G (o :: l) = decs (decG G o) l := rfl
    rw [e]
    refine ⟨?_, fun x => ?_⟩
    · rw [h.1]
      simp [decG]
    · rw [h.2]
      show fup G.pend o (G.pend o + 1) x + _ = _
      rw [List.count_cons]
      by_cases e : x = o
      · subst e; rw [fup_self]; simp; omega
      · rw [fup_ne _ _ e]
        have : (o == x) = false := by simp; exact fun h => e h.symm
        rw [this]; simp
theorem count_filter0 {l : List Nat} {x : Nat} (hx : x ≠ 0) : (l.filter fun y => decide (y ≠ 0)).count x = l.count x := List.count_filter (by simp [hx])
end Go.Proofs.Qxb6500888a
