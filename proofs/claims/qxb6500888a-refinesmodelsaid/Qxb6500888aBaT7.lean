/- The plain machine: a pause keeps the invariant; every step does. -/
import Derived.Test.Qxb6500888aBaT6
import Derived.Test.Qxb6500888aBaN2
namespace Go.Proofs.Qxb6500888a
open Go.RowKit
set_option linter.unusedSimpArgs false
set_option linter.unusedVariables false
section
variable {G G' : GS} {B B' : BS} {atp : Nat → Nat} {Z : Nat → Prop} {t : Nat} {hv : Nat → List Nat} {I : List Nat}
theorem CI.pause' (h : CI G B atp Z) (hok : GOk G') (hA : ∀ x ∈ I, Ac B Z x) (f : PaF G B G' B' hv I) : CI G' B' G'.word (Rch G' (rootsK B 4)) := by
  have hfr : frL B' = [] := four_nil f.bf
  have hlg : lgL B' = [] := four_nil f.bl
  have h5f : ∀ x ∈ hv 5, x ∈ frL B := fun x hx => ((f.b5 x).1 hx).1
  have h6f : ∀ x ∈ hv 6, x ∈ frL B ∧ x ∉ hv 5 := fun x hx => by
    rw [f.h6] at hx
    obtain ⟨h1, h2⟩ := List.mem_filter.1 hx
    exact ⟨h1, by simpa using h2⟩
  have hold6 : ∀ x, oldB G B x = true → x ∉ hv 6 := fun x hx hc => (oldB_t.1 hx).2 (h6f x hc).1
  have h56 : ∀ x ∈ hv 5, x ∉ hv 6 := fun x hx hc => (h6f x hc).2 hx
  have hold' : ∀ x, oldB G' B' x = true ↔ (oldB G B x = true ∨ x ∈ hv 5) := fun x => by
    rw [oldB_t, oldB_t, hfr, f.hd]
    constructor
    · rintro ⟨h1, _⟩
      by_cases e : x ∈ hv 6
      · rw [if_pos e] at h1; cases h1
      · rw [if_neg e] at h1
        by_cases e2 : x ∈ frL B
        · right
          apply Classical.byContradiction
          intro hn
          refine e ?_
          rw [f.h6]
          exact List.mem_filter.2 ⟨e2, by simp [hn]⟩
        · exact .inl ⟨h1, e2⟩
    · rintro (h1 | h1)
      · rw [if_neg (hold6 x (oldB_t.2 h1))]
        exact ⟨h1.1, by simp⟩
      · rw [if_neg (h56 x h1)]
        exact ⟨h.fz x (h5f x h1), by simp⟩
  have hn6 : ∀ x, oldB G' B' x = true → x ∉ hv 6 := fun x hx hc => by
    have := (oldB_t.1 hx).1
    rw [f.hd, if_pos hc] at this
    cases this
  have hsl : ∀ x, x ∉ hv 6 → slots G' x = slots G x := fun x hx => by unfold slots rfOf; rw [f.hd, if_neg hx]
  have hw : ∀ x, (G.head x).isSome = true → x ∉ hv 6 → ∀ s ∈ slots G x, G'.word s = G.word s := fun x hx hx6 s hs => by
    obtain ⟨n, q, e⟩ := st_some hx
    have h1 := h.slot_in e hs
    have h2 := (f.kp x n q e hx6 (s - offA x) (by omega)).1
    rw [show offA x + (s - offA x) = s by omega] at h2
    exact h2
  have hst' : ∀ x, oldB G' B' x = true → (G.head x).isSome = true := fun x hx => by
    have := (oldB_t.1 hx).1
    rw [f.hd, if_neg (hn6 x hx)] at this
    exact this
  -- what can be reached stands
  have hI0 : ∀ s ∈ lsL B, G.word s ≠ 0 → G.word s ∈ I := fun s hs h0 => by
    obtain ⟨e, he, rfl⟩ := List.mem_map.1 hs
    rw [f.i, List.mem_append, List.mem_append]
    left; left
    rw [f.h0]
    exact List.mem_filter.2 ⟨List.mem_map.2 ⟨e, he, rfl⟩, by simp [h0]⟩
  have hsv : ∀ o, Rch G' (rootsK B 4) o → Z o ∨ o ∈ hv 5 := fun o ho => by
    have key : ∀ r, r ∈ I → Z r ∨ r ∈ hv 5 := fun r hr => by
      rcases hA r hr with h1 | h1
      · exact .inl h1
      · exact .inr ((f.b5 r).2 ⟨h1, hr⟩)
    induction ho with
    | @root r hr =>
      refine key r ?_
      rw [f.i, List.mem_append, List.mem_append, f.h2]
      exact .inl (.inr hr)
    | @fld p s hp hs h0 ih =>
      have hp6 : p ∉ hv 6 := by
        rcases ih with h1 | h1
        · exact hold6 p (h.z1 p h1)
        · exact h56 p h1
      have hpst : (G.head p).isSome = true := by
        rcases ih with h1 | h1
        · exact (oldB_t.1 (h.z1 p h1)).1
        · exact h.fz p (h5f p h1)
      rw [hsl p hp6] at hs
      have hwe := hw p hpst hp6 s hs
      rw [hwe] at h0 ⊢
      rcases ih with h1 | h1
      · by_cases e : s ∈ lsL B
        · exact key _ (hI0 s e h0)
        · have h2 := h.ls.2.2.1 s ((mem_FS h.ok).2 ⟨p, h.z1 p h1, hs⟩) e
          rw [h2] at h0 ⊢
          rcases h.z4 p h1 s hs with h3 | h3
          · exact absurd h3 h0
          · exact .inl h3
      · refine key _ ?_
        rw [f.i, List.mem_append, f.b4]
        right
        refine List.mem_flatMap.2 ⟨p, h1, ?_⟩
        obtain ⟨i, hi, rfl⟩ := mem_slots.1 hs
        unfold refL refP
        exact List.mem_filter.2 ⟨List.mem_map.2 ⟨i, List.mem_range.2 hi, rfl⟩, by simp [h0]⟩
  -- the fields of the older objects
  have hOL : (OL G' B').Perm (OL G B ++ hv 5) := by
    rw [List.perm_ext_iff_of_nodup (OL_nd G' B')]
    · intro x
      rw [List.mem_append, mem_OL hok, mem_OL h.ok, hold']
    · rw [List.nodup_append]
      refine ⟨OL_nd G B, f.n5, fun a ha b hb e => ?_⟩
      subst e
      exact (oldB_t.1 ((mem_OL h.ok).1 ha)).2 (h5f a hb)
  have hFn : ∀ x, x ≠ 0 → Fn G' B' G'.word x = (FS G B).countP (fun s => decide (G.word s = x)) + (hv 4).count x := fun x hx => by
    have e1 : FS G' B' = (OL G' B').flatMap (slots G) := flatMap_congr' (fun y hy => hsl y (hn6 y ((mem_OL hok).1 hy)))
    have e2 : Fn G' B' G'.word x = ((OL G' B').flatMap (slots G)).countP (fun s => decide (G.word s = x)) := by
      unfold Fn
      rw [e1]
      refine List.countP_congr (fun s hs => ?_)
      obtain ⟨y, hy, hsy⟩ := List.mem_flatMap.1 hs
      have hyo := (mem_OL hok).1 hy
      rw [hw y (hst' y hyo) (hn6 y hyo) s hsy]
    rw [e2, (hOL.flatMap_right (slots G)).countP_eq, List.flatMap_append, List.countP_append, f.b4, count_flat_ref G hx]
    rfl
  have htot : ∀ x, x ≠ 0 → tot G' B' G'.word x = tot G B atp x + I.count x := fun x hx => by
    have h1 := h.fields hx
    have h2 := hFn x hx
    unfold tot
    rw [h2, f.bq, f.pd, f.i, List.count_append, List.count_append, f.h2, f.h0, f.h1]
    omega
  refine ⟨hok, fun x n q hx j hj => ?_, fun x y n1 q1 n2 q2 hxy hx hy => ?_, fun x hx => (by rw [hfr] at hx; cases hx), (by rw [hfr]; exact List.nodup_nil), fun x hx => ?_, fun x h0 hx => ?_, (by rw [f.er]; exact h.er), fun x hx => ?_, fun x hx => ?_, fun x hx => ?_, fun p hp s hs => ?_, fun m hm r hr => ?_, fun x hx s hs => ?_, (by rw [hlg]; exact List.nodup_nil), fun e he => (by rw [hlg] at he; cases he), fun x hx s hs => ⟨fun hc => ?_, fun _ => rfl⟩, fun x hx => (by rw [hfr] at hx; cases hx)⟩
  · have hx6 : x ∉ hv 6 := fun hc => by rw [f.hd, if_pos hc] at hx; cases hx
    rw [f.hd, if_neg hx6] at hx
    rw [(f.kp x n q hx hx6 j hj).2]
    exact h.tk x n q hx j hj
  · have hx6 : x ∉ hv 6 := fun hc => by rw [f.hd, if_pos hc] at hx; cases hx
    have hy6 : y ∉ hv 6 := fun hc => by rw [f.hd, if_pos hc] at hy; cases hy
    rw [f.hd, if_neg hx6] at hx
    rw [f.hd, if_neg hy6] at hy
    exact h.dj x y n1 q1 n2 q2 hxy hx hy
  · have hx0 : x ≠ 0 := fun e => by
      subst e
      have := hok.head_in (oldB_t.1 hx).1
      omega
    rw [f.cn, htot x hx0]
    rcases (hold' x).1 hx with h1 | h1
    · have h2 := h.ce1 x h1
      omega
    · have h2 := h.fr_cnt (h5f x h1)
      have h3 := List.count_pos_iff.2 ((f.b5 x).1 h1).2
      omega
  · have h1 : oldB G B x = false ∧ x ∉ hv 5 := by
      constructor
      · cases e : oldB G B x with
        | false => rfl
        | true => rw [(hold' x).2 (.inl e)] at hx; cases hx
      · intro hc
        rw [(hold' x).2 (.inr hc)] at hx
        cases hx
    have h2 := h.ce0 x h0 h1.1
    have h3 : I.count x = 0 := List.count_eq_zero.2 (fun hc => by
      rcases hA x hc with h4 | h4
      · rw [h.z1 x h4] at h1; cases h1.1
      · exact h1.2 ((f.b5 x).2 ⟨h4, hc⟩))
    rw [f.cn, htot x h0, h2.1, h2.2, h3]
    exact ⟨rfl, rfl⟩
  · refine (hold' x).2 ?_
    rcases hsv x hx with h1 | h1
    · exact .inl (h.z1 x h1)
    · exact .inr h1
  · cases hx with
    | root hr => exact .inl (by rw [f.bq]; exact hr)
    | @fld p s hp hs h0 => exact .inr ⟨p, hp, s, hs, rfl⟩
  · rw [f.bq] at hx
    exact .root hx
  · by_cases e : G'.word s = 0
    · exact .inl e
    · exact .inr (.fld hp hs e)
  · rw [f.br] at hr
    refine .inl (.root ?_)
    rw [rootsK_four]
    exact mem_four.2 ⟨m, hm, hr⟩
  · have hx' : Rch G' (rootsK B 4) x := by
      rcases hx with h1 | h1
      · exact h1
      · rw [hfr] at h1; cases h1
    by_cases e : G'.word s = 0
    · exact .inl e
    · exact .inr (.inl (.fld hx' hs e))
  · obtain ⟨n, q, e⟩ := st_some (oldB_t.1 hx).1
    have h1 := hok.hd x n q e
    obtain ⟨i, hi, rfl⟩ := mem_slots.1 hs
    rw [(stand_rf e).1] at hi
    rw [f.lg _ (by omega)] at hc
    cases hc
theorem CI.pause (hI : InvM t G B) (ht : t ≤ 65536) (h : CI G B atp Z) : CI (pauseP G B).1 (pauseP G B).2.1 (pauseP G B).1.word (Rch (pauseP G B).1 (rootsK B 4)) := by
  obtain ⟨I, hA, f⟩ := pause_facts hI h
  exact h.pause' (hI.pause ht).ok hA f
theorem CI.zero (atp : Nat → Nat) : CI G0 B0 atp (fun _ => False) := by
  have hfr : frL B0 = [] := rfl
  have hlg : lgL B0 = [] := rfl
  have hold : ∀ x, oldB G0 B0 x = false := fun x => rfl
  have hOL : OL G0 B0 = [] := by unfold OL; rw [List.filter_eq_nil_iff]; exact fun x _ => by rw [hold]; decide
  refine ⟨GOk.zero, fun _ _ _ hc => (by cases hc), fun _ _ _ _ _ _ _ hc => (by cases hc), fun _ hc => (by cases hc), List.nodup_nil, fun x hx => (by rw [hold] at hx; cases hx), fun x _ _ => ⟨rfl, ?_⟩, rfl, fun _ hc => hc.elim, fun _ hc => hc.elim, fun _ hc => (by cases hc), fun _ hc => hc.elim, fun _ _ _ hc => (by cases hc), fun x hx => ?_, List.nodup_nil, fun _ hc => (by cases hc), fun x hx => (by rw [hold] at hx; cases hx), fun _ hc => (by cases hc)⟩
  · unfold tot Fn FS
    rw [hOL]
    rfl
  · rcases hx with h1 | h1
    · exact h1.elim
    · cases h1
/-- Every step keeps it; at a pause the words are taken anew. -/
theorem CI.play (hI : InvM t G B) (ht : t ≤ 65536) (h : CI G B atp Z) (o : OpP) : ∃ Z', CI (playS G B o).2.2.1 (playS G B o).2.2.2 (if o.kind = 7 then (playS G B o).2.2.1.word else atp) Z' := by
  by_cases h7 : o.kind = 7
  · rw [if_pos h7, playS_7 h7]
    exact ⟨_, h.pause hI ht⟩
  · rw [if_neg h7]
    refine ⟨Z, ?_⟩
    by_cases h8 : o.kind = 8
    · rw [playS_8 h8]
      exact CI.many _ h
    · by_cases h9 : o.kind = 9
      · rw [playS_9 h9]
        exact h.trace _
      · exact h.mv (playS_mv hI.ok hI.bo.nr o h7 h8 h9)
end
end Go.Proofs.Qxb6500888a
