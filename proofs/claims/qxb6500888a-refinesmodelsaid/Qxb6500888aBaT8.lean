/- The plain machine: what becomes of a count. -/
import Derived.Test.Qxb6500888aBaT7
import Derived.Test.Qxb6500888aBaL4
namespace Go.Proofs.Qxb6500888a
open Go.RowKit
set_option linter.unusedSimpArgs false
set_option linter.unusedVariables false
section
variable {G G' : GS} {B B' : BS} {atp : Nat → Nat} {Z : Nat → Prop} {t : Nat} {hv : Nat → List Nat} {I : List Nat}
theorem CI.pause_tot (h : CI G B atp Z) (hok : GOk G') (f : PaF G B G' B' hv I) : ∀ x, x ≠ 0 → tot G' B' G'.word x = tot G B atp x + I.count x := by
  have hfr : frL B' = [] := four_nil f.bf
  have hlg : lgL B' = [] := four_nil f.bl
  have h5f : ∀ x ∈ hv 5, x ∈ frL B := fun x hx => ((f.b5 x).1 hx).1
  have h6f : ∀ x ∈ hv 6, x ∈ frL B ∧ x ∉ hv 5 := fun x hx => by
    rw [f.h6] at hx
    obtain ⟨h1, h2⟩ := List.mem_filter.1 hx
    exact ⟨h1, by simpa using h2⟩
  have hold6 : ∀ x, oldB G B x = true → x ∉ hv 6 := fun x hx hc => (oldB_t.1 hx).2 (h6f x hc).1
  have h56 : ∀ x ∈ hv 5, x ∉ hv 6 := fun x hx hc => (h6f x hc).2 hx
  have hold' : ∀ x, oldB G' B' x = true ↔ (oldB G B x = true ∨ x ∈ hv 5) := fun x => by
    rw [oldB_t, oldB_t, hfr, f.hd]
    constructor
    · rintro ⟨h1, _⟩
      by_cases e : x ∈ hv 6
      · rw [if_pos e] at h1; cases h1
      · rw [if_neg e] at h1
        by_cases e2 : x ∈ frL B
        · right
          apply Classical.byContradiction
          intro hn
          refine e ?_
          rw [f.h6]
          exact List.mem_filter.2 ⟨e2, by simp [hn]⟩
        · exact .inl ⟨h1, e2⟩
    · rintro (h1 | h1)
      · rw [if_neg (hold6 x (oldB_t.2 h1))]
        exact ⟨h1.1, by simp⟩
      · rw [if_neg (h56 x h1)]
        exact ⟨h.fz x (h5f x h1), by simp⟩
  have hn6 : ∀ x, oldB G' B' x = true → x ∉ hv 6 := fun x hx hc => by
    have := (oldB_t.1 hx).1
    rw [f.hd, if_pos hc] at this
    cases this
  have hsl : ∀ x, x ∉ hv 6 → slots G' x = slots G x := fun x hx => by unfold slots rfOf; rw [f.hd, if_neg hx]
  have hw : ∀ x, (G.head x).isSome = true → x ∉ hv 6 → ∀ s ∈ slots G x, G'.word s = G.word s := fun x hx hx6 s hs => by
    obtain ⟨n, q, e⟩ := st_some hx
    have h1 := h.slot_in e hs
    have h2 := (f.kp x n q e hx6 (s - offA x) (by omega)).1
    rw [show offA x + (s - offA x) = s by omega] at h2
    exact h2
  have hst' : ∀ x, oldB G' B' x = true → (G.head x).isSome = true := fun x hx => by
    have := (oldB_t.1 hx).1
    rw [f.hd, if_neg (hn6 x hx)] at this
    exact this
  -- the fields of the older objects
  have hOL : (OL G' B').Perm (OL G B ++ hv 5) := by
    rw [List.perm_ext_iff_of_nodup (OL_nd G' B')]
    · intro x
      rw [List.mem_append, mem_OL hok, mem_OL h.ok, hold']
    · rw [List.nodup_append]
      refine ⟨OL_nd G B, f.n5, fun a ha b hb e => ?_⟩
      subst e
      exact (oldB_t.1 ((mem_OL h.ok).1 ha)).2 (h5f a hb)
  have hFn : ∀ x, x ≠ 0 → Fn G' B' G'.word x = (FS G B).countP (fun s => decide (G.word s = x)) + (hv 4).count x := fun x hx => by
    have e1 : FS G' B' = (OL G' B').flatMap (slots G) := flatMap_congr' (fun y hy => hsl y (hn6 y ((mem_OL hok).1 hy)))
    have e2 : Fn G' B' G'.word x = ((OL G' B').flatMap (slots G)).countP (fun s => decide (G.word s = x)) := by
      unfold Fn
      rw [e1]
      refine List.countP_congr (fun s hs => ?_)
      obtain ⟨y, hy, hsy⟩ := List.mem_flatMap.1 hs
      have hyo := (mem_OL hok).1 hy
      rw [hw y (hst' y hyo) (hn6 y hyo) s hsy]
    rw [e2, (hOL.flatMap_right (slots G)).countP_eq, List.flatMap_append, List.countP_append, f.b4, count_flat_ref G hx]
    rfl
  have htot : ∀ x, x ≠ 0 → tot G' B' G'.word x = tot G B atp x + I.count x := fun x hx => by
    have h1 := h.fields hx
    have h2 := hFn x hx
    unfold tot
    rw [h2, f.bq, f.pd, f.i, List.count_append, List.count_append, f.h2, f.h0, f.h1]
    omega
  exact htot
theorem Mv.cnt (h : Mv G B G' B') : G'.cnt = G.cnt := by
  cases h <;> rfl
theorem dropG_cnt (hc : ∀ a, G.cnt a ≤ 3) (o x : Nat) : (dropG G o).cnt x = 3 ↔ G.cnt x = 3 := by
  have hx := hc x
  unfold dropG
  split
  · exact Iff.rfl
  · split
    · exact Iff.rfl
    · split
      · next h1 h2 h3 =>
        show fup G.cnt o 0 x = 3 ↔ _
        by_cases e : x = o
        · subst e; rw [fup_self]; omega
        · rw [fup_ne _ _ e]
      · next h1 h2 h3 =>
        show fup G.cnt o (G.cnt o - 1) x = 3 ↔ _
        by_cases e : x = o
        · subst e; rw [fup_self]; omega
        · rw [fup_ne _ _ e]
theorem decN_cnt : ∀ (n : Nat) {G : GS}, CI G B atp Z → ∀ x, (decN n G).2.cnt x = 3 ↔ G.cnt x = 3
  | 0, G, h, x => Iff.rfl
  | n + 1, G, h, x => by
    unfold decN
    cases hs : stepF G with
    | none => exact Iff.rfl
    | some G' =>
      obtain ⟨o, h1, rfl⟩ := stepF_inv hs
      exact (decN_cnt n (h.drop h1.at_) x).trans (dropG_cnt h.ok.ct o x)
/-- What becomes of a count in one step. -/
theorem CI.exact (hI : InvM t G B) (ht : t ≤ 65536) (h : CI G B atp Z) (o : OpP) {x : Nat} (hx : x ≠ 0) :
    (G.cnt x = 3 → (playS G B o).2.2.1.cnt x = 3) ∧ (G.cnt x ≠ 3 → (playS G B o).2.2.1.cnt x = 3 → 3 ≤ tot (playS G B o).2.2.1 (playS G B o).2.2.2 (if o.kind = 7 then (playS G B o).2.2.1.word else atp) x) := by
  by_cases h7 : o.kind = 7
  · rw [if_pos h7, playS_7 h7]
    obtain ⟨I, hA, f⟩ := pause_facts hI h
    have h1 := h.pause_tot (hI.pause ht).ok f x hx
    have h2 := f.cn x
    dsimp only
    refine ⟨fun h3 => by omega, fun h3 h4 => ?_⟩
    have h5 : G.cnt x = tot G B atp x := by
      cases e : oldB G B x with
      | true =>
        rcases (h.ce1 x e).2 with h6 | h6
        · exact absurd h6 h3
        · exact h6
      | false =>
        have := h.ce0 x hx e
        omega
    omega
  · rw [if_neg h7]
    have key : (playS G B o).2.2.1.cnt x = 3 ↔ G.cnt x = 3 := by
      by_cases h8 : o.kind = 8
      · rw [playS_8 h8]
        exact decN_cnt _ h x
      · by_cases h9 : o.kind = 9
        · rw [playS_9 h9]
        · rw [(playS_mv hI.ok hI.bo.nr o h7 h8 h9).cnt]
    exact ⟨key.2, fun h3 h4 => absurd (key.1 h4) h3⟩
/-- The stuck objects, as the law knows them. -/
structure StK (G : GS) (B : BS) (atp : Nat → Nat) (T : List Nat) (S : Nat → Bool) : Prop where
  a : ∀ x, S x = true → x ≠ 0 ∧ G.cnt x = 3
  b : ∀ x, (G.head x).isSome = true → x ∉ T → G.cnt x = 3 → S x = true
  c : ∀ x, x ≠ 0 → G.cnt x = 3 → S x = false → 3 ≤ tot G B atp x
theorem StK.play (hI : InvM t G B) (ht : t ≤ 65536) (h : CI G B atp Z) {S : Nat → Bool} (hs : StK G B atp [] S) (o : OpP) {T : List Nat} (hT : ∀ x, ((playS G B o).2.2.1.head x).isSome = true → x ∈ T) : StK (playS G B o).2.2.1 (playS G B o).2.2.2 (if o.kind = 7 then (playS G B o).2.2.1.word else atp) T S := by
  refine ⟨fun x hx => ⟨(hs.a x hx).1, (h.exact hI ht o (hs.a x hx).1).1 (hs.a x hx).2⟩, fun x hx hn => absurd (hT x hx) hn, fun x h0 hx hS => ?_⟩
  refine (h.exact hI ht o h0).2 (fun h3 => ?_) hx
  have hst : (G.head x).isSome = true := by
    cases e : oldB G B x with
    | true => exact (oldB_t.1 e).1
    | false => have := (h.ce0 x h0 e).1; omega
  have := hs.b x hst (by simp) h3
  rw [hS] at this
  cases this
/-- What the law wants a count to be. -/
def sumX (G : GS) (B : BS) (atp : Nat → Nat) (S : Nat → Bool) (x : Nat) : Nat := if x ∈ frL B then 0 else if 3 < tot G B atp x ∨ S x = true then 3 else tot G B atp x
theorem StK.sum {T : List Nat} {S : Nat → Bool} (hs : StK G B atp T S) (h : CI G B atp Z) {x : Nat} (hx : (G.head x).isSome = true) : G.cnt x = sumX G B atp S x := by
  have h0 : x ≠ 0 := fun e => by subst e; have := h.ok.head_in hx; omega
  unfold sumX
  by_cases e1 : x ∈ frL B
  · rw [if_pos e1]
    exact (h.fr_cnt e1).1
  · rw [if_neg e1]
    have hold : oldB G B x = true := oldB_t.2 ⟨hx, e1⟩
    have h1 := (h.ce1 x hold).2
    have h2 := h.ok.ct x
    by_cases e2 : 3 < tot G B atp x ∨ S x = true
    · rw [if_pos e2]
      rcases e2 with e2 | e2
      · omega
      · exact (hs.a x e2).2
    · rw [if_neg e2]
      have e3 : S x = false := by
        cases e : S x with
        | false => rfl
        | true => exact absurd (.inr e) e2
      have h3 := hs.c x h0
      have e4 : ¬ 3 < tot G B atp x := fun hc => e2 (.inl hc)
      rcases h1 with h1 | h1
      · have := h3 h1 e3
        omega
      · exact h1
theorem StK.visit {T : List Nat} {S : Nat → Bool} (hs : StK G B atp T S) (h : CI G B atp Z) {x : Nat} (hx : (G.head x).isSome = true) : StK G B atp (T.filter fun k => decide (k ≠ x)) (if sumX G B atp S x = 3 then fup S x true else S) := by
  have hsum := hs.sum h hx
  have h0 : x ≠ 0 := fun e => by subst e; have := h.ok.head_in hx; omega
  by_cases e : sumX G B atp S x = 3
  · rw [if_pos e]
    refine ⟨fun y hy => ?_, fun y hy hn hc => ?_, fun y hy hc hS => ?_⟩
    · by_cases e2 : y = x
      · subst e2; exact ⟨h0, by omega⟩
      · rw [fup_ne _ _ e2] at hy; exact hs.a y hy
    · by_cases e2 : y = x
      · subst e2; exact fup_self _ _ _
      · rw [fup_ne _ _ e2]
        exact hs.b y hy (fun hT => hn (List.mem_filter.2 ⟨hT, decide_eq_true e2⟩)) hc
    · by_cases e2 : y = x
      · subst e2; rw [fup_self] at hS; cases hS
      · rw [fup_ne _ _ e2] at hS; exact hs.c y hy hc hS
  · rw [if_neg e]
    refine ⟨hs.a, fun y hy hn hc => ?_, hs.c⟩
    by_cases e2 : y = x
    · subst e2; omega
    · exact hs.b y hy (fun hT => hn (List.mem_filter.2 ⟨hT, decide_eq_true e2⟩)) hc
/-- The older objects among those visited. -/
structure Vis (G : GS) (T V : List Nat) : Prop where
  nd : V.Nodup
  st : ∀ x ∈ V, (G.head x).isSome = true
  nt : ∀ x ∈ V, x ∉ T
  al : ∀ x, (G.head x).isSome = true → x ∈ V ∨ x ∈ T
theorem Vis.visit {T V : List Nat} (h : Vis G T V) {x : Nat} (hx : (G.head x).isSome = true) (hT : x ∈ T) : Vis G (T.filter fun k => decide (k ≠ x)) (V ++ [x]) := by
  refine ⟨?_, fun y hy => ?_, fun y hy hc => ?_, fun y hy => ?_⟩
  · rw [List.nodup_append]
    exact ⟨h.nd, by simp, fun a ha b hb e => by simp at hb; subst hb; subst e; exact h.nt a ha hT⟩
  · rcases List.mem_append.1 hy with h1 | h1
    · exact h.st y h1
    · simp at h1; subst h1; exact hx
  · obtain ⟨h2, h3⟩ := List.mem_filter.1 hc
    rcases List.mem_append.1 hy with h1 | h1
    · exact h.nt y h1 h2
    · simp at h1; simp [h1] at h3
  · by_cases e : y = x
    · subst e; left; simp
    · rcases h.al y hy with h1 | h1
      · left; simp [h1]
      · right; exact List.mem_filter.2 ⟨h1, decide_eq_true e⟩
def vFn (G : GS) (B : BS) (atp : Nat → Nat) (V : List Nat) (y : Nat) : Nat := ((V.filter (oldB G B)).flatMap (slots G)).countP fun s => decide (atp s = y)
theorem Vis.all {V : List Nat} (h : Vis G [] V) (hc : CI G B atp Z) (y : Nat) : vFn G B atp V y = Fn G B atp y := by
  unfold vFn Fn FS
  have hp : (V.filter (oldB G B)).Perm (OL G B) := by
    rw [List.perm_ext_iff_of_nodup (h.nd.filter _) (OL_nd G B)]
    intro x
    rw [List.mem_filter, mem_OL hc.ok]
    constructor
    · exact fun h => h.2
    · intro h1
      refine ⟨?_, h1⟩
      rcases h.al x (oldB_t.1 h1).1 with h2 | h2
      · exact h2
      · cases h2
  exact (hp.flatMap_right (slots G)).countP_eq _
theorem vFn_old {V : List Nat} {x : Nat} (h : oldB G B x = true) (y : Nat) : vFn G B atp (V ++ [x]) y = vFn G B atp V y + (slots G x).countP fun s => decide (atp s = y) := by
  unfold vFn
  rw [List.filter_append, List.flatMap_append, List.countP_append]
  simp [h]
theorem vFn_new {V : List Nat} {x : Nat} (h : oldB G B x = false) (y : Nat) : vFn G B atp (V ++ [x]) y = vFn G B atp V y := by
  unfold vFn
  rw [List.filter_append, List.flatMap_append, List.countP_append]
  simp [h]
/-- The first fields of an object. -/
def slK (atp : Nat → Nat) (x j y : Nat) : Nat := ((List.range j).map fun i => offA x + 1 + i).countP fun s => decide (atp s = y)
theorem slK_0 (x y : Nat) : slK atp x 0 y = 0 := rfl
theorem slK_s (x j y : Nat) : slK atp x (j + 1) y = slK atp x j y + if y = atp (offA x + 1 + j) then 1 else 0 := by
  unfold slK
  rw [List.range_succ, List.map_append, List.countP_append]
  congr 1
  by_cases e : y = atp (offA x + 1 + j)
  · rw [if_pos e]; simp [e]
  · rw [if_neg e]; simp [Ne.symm e]
theorem slK_all {x n q : Nat} (h : G.head x = some (n, q)) (y : Nat) : slK atp x q y = (slots G x).countP fun s => decide (atp s = y) := by
  unfold slK slots
  rw [(stand_rf h).1]
theorem slK_le (x j y : Nat) : slK atp x j y ≤ j := by
  unfold slK
  refine Nat.le_trans List.countP_le_length ?_
  rw [List.length_map, List.length_range]
  exact Nat.le_refl _
theorem vFn_le (h : GOk G) {V : List Nat} (hV : ∀ x ∈ V, (G.head x).isSome = true) (y : Nat) : vFn G B atp V y ≤ V.length * 8192 := by
  unfold vFn
  refine Nat.le_trans List.countP_le_length ?_
  induction V with
  | nil => simp
  | cons a V ih =>
    have h1 := ih (fun x hx => hV x (by simp [hx]))
    have h2 : (slots G a).length ≤ 8192 := by
      obtain ⟨n, q, e⟩ := st_some (hV a (by simp))
      have := h.hd a n q e
      unfold slots
      rw [List.length_map, List.length_range, (stand_rf e).1]
      omega
    rw [List.length_cons, List.filter_cons]
    split
    · rw [List.flatMap_cons, List.length_append]
      refine Nat.le_trans (Nat.add_le_add h2 h1) ?_
      rw [Nat.add_mul, Nat.one_mul, Nat.add_comm]
      exact Nat.le_refl _
    · rw [Nat.add_mul]
      exact Nat.le_trans h1 (Nat.le_add_right _ _)
end
end Go.Proofs.Qxb6500888a
