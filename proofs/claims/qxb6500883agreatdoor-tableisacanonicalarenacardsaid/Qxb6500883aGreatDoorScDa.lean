/- Strongly connected components, plainly: Tarjan's algorithm with its own stack. No Go here. -/
import Derived.Test.Qxb6500883aGreatDoorMapF
namespace Go.Proofs.Qxb6500883aGreatDoor
open Go.RowKit
set_option linter.unusedSimpArgs false
set_option linter.unusedVariables false
/-- A graph: the successors of each node. -/
abbrev Gr := List (List Nat)
def suc (A : Gr) (v : Nat) : List Nat := A.getD v []
/-- A graph with a rank. -/
def Rank (A : Gr) (r : Nat → Nat) : Prop := ∀ v w, w ∈ suc A v → r w < r v
def Acy (A : Gr) : Prop := ∃ r : Nat → Nat, Rank A r
/-- All edges lead to nodes. -/
def GrOk (A : Gr) : Prop := ∀ v w, w ∈ suc A v → w < A.length
/-- The finder's plain state. -/
structure TJ where
  ix : Nat → Nat
  lw : Nat → Nat
  st : List Nat
  cp : Nat → Nat
  sz : List Nat
  od : List Nat
  nx : Nat
def TJ.zero : TJ := ⟨fun _ => 0, fun _ => 0, [], fun _ => 0, [], [], 0⟩
def TJ.enter (T : TJ) (v : Nat) : TJ := { T with ix := fup T.ix v (T.nx + 1), lw := fup T.lw v (T.nx + 1), st := T.st ++ [v], nx := T.nx + 1 }
def TJ.low (T : TJ) (v x : Nat) : TJ := { T with lw := fup T.lw v x }
def TJ.close (T : TJ) (a b : List Nat) (v : Nat) : TJ := { T with st := a, od := T.od ++ (b.reverse ++ [v]), cp := fun u => if u ∈ v :: b then T.sz.length else T.cp u, sz := T.sz ++ [b.length + 1] }
/-- What a search keeps; fr: the suspended visits, a node and how many of its edges are done. -/
structure JI (A : Gr) (T : TJ) (fr : List (Nat × Nat)) : Prop where
  rng : ∀ v, v ∈ T.st ∨ v ∈ T.od → v < A.length
  ndS : T.st.Nodup
  ndO : T.od.Nodup
  dis : ∀ v, v ∈ T.st → v ∉ T.od
  vis : ∀ v, v < A.length → (T.ix v ≠ 0 ↔ v ∈ T.st ∨ v ∈ T.od)
  inc : T.st.Pairwise (fun a b => T.ix a < T.ix b)
  nx : ∀ v, v < A.length → T.ix v ≤ T.nx
  mem : ∀ p ∈ fr, p.1 ∈ T.st
  fin : (fr.map (·.1)).Pairwise (fun a b => T.ix a < T.ix b)
  edg : ∀ p ∈ fr, p.2 ≤ (suc A p.1).length
  low : ∀ v ∈ T.st, T.lw v ≤ T.ix v
  bot : ∀ r, T.st.head? = some r → ∀ v ∈ T.st, T.ix r ≤ T.lw v
  frh : ∀ p, fr.head? = some p → T.st.head? = some p.1
  emp : fr = [] → T.st = []
  done : ∀ p ∈ fr, ∀ j : Nat, j < p.2 → ∀ w, (suc A p.1)[j]? = some w → w ∈ T.od ∨ (w ∈ T.st ∧ T.lw p.1 ≤ T.ix w)
  cmp : ∀ v ∈ T.od, T.cp v < T.sz.length
  rep : ∀ id, id < T.sz.length → ∃ v ∈ T.od, T.cp v = id
  pos : ∀ s ∈ T.sz, 0 < s
  cnt : T.sz.length ≤ T.od.length
  nxe : T.nx = T.st.length + T.od.length
  topo : (∀ s ∈ T.sz, s = 1) → ∀ (p v : Nat), T.od[p]? = some v → ∀ w ∈ suc A v, w = v ∨ ∃ q : Nat, q < p ∧ T.od[q]? = some w
  acy : ∀ r : Nat → Nat, Rank A r → T.st = fr.map (·.1) ∧ (fr.map (·.1)).Pairwise (fun a b => r b < r a) ∧ (∀ v ∈ T.st, T.lw v = T.ix v) ∧ ∀ s ∈ T.sz, s = 1
theorem nodup_le : ∀ (n : Nat) (l : List Nat), l.Nodup → (∀ v ∈ l, v < n) → l.length ≤ n
  | 0, l, _, h => by
    cases l with
    | nil => exact Nat.le_refl _
    | cons a b => exact absurd (h a (by simp)) (Nat.not_lt_zero _)
  | n + 1, l, hd, h => by
    by_cases hn : n ∈ l
    · obtain ⟨a, b, rfl⟩ := List.append_of_mem hn
      rw [List.nodup_append, List.nodup_cons] at hd
      obtain ⟨d1, ⟨d2, d3⟩, d4⟩ := hd
      have := nodup_le n (a ++ b) (by rw [List.nodup_append]; exact ⟨d1, d3, fun x hx y hy => d4 x hx y (List.mem_cons_of_mem _ hy)⟩) (fun v hv => by
        have hne : v ≠ n := fun e => by
          subst e
          rcases List.mem_append.1 hv with h1 | h1
          · exact d4 v h1 v (by simp) rfl
          · exact d2 h1
        have := h v ((List.mem_append.1 hv).elim (fun h1 => List.mem_append_left _ h1) (fun h1 => List.mem_append_right _ (List.mem_cons_of_mem _ h1)))
        omega)
      simp only [List.length_append, List.length_cons] at this ⊢
      omega
    · have := nodup_le n l hd (fun v hv => by
        have hne : v ≠ n := fun e => hn (e ▸ hv)
        have := h v hv
        omega)
      omega
section
variable {A : Gr} {T : TJ} {fr fs : List (Nat × Nat)} {v w k : Nat}
theorem JI.start (A : Gr) : JI A TJ.zero [] := by
  refine ⟨?_, List.nodup_nil, List.nodup_nil, ?_, ?_, List.Pairwise.nil, ?_, ?_, List.Pairwise.nil, ?_, ?_, ?_, ?_, fun _ => rfl, ?_, ?_, ?_, ?_, Nat.le_refl _, rfl, ?_, ?_⟩
  · intro v h; rcases h with h | h <;> cases h
  · intro v h; cases h
  · intro v _; simp [TJ.zero]
  · intro v _; exact Nat.zero_le _
  · intro p h; cases h
  · intro p h; cases h
  · intro p h; cases h
  · intro r h; cases h
  · intro p h; cases h
  · intro p h; cases h
  · intro p h; cases h
  · intro id h; cases h
  · intro s h; cases h
  · intro _ p v h; cases h
  · intro r _; exact ⟨rfl, List.Pairwise.nil, (fun v h => by cases h), (fun s h => by cases h)⟩
theorem JI.nx_le (h : JI A T fr) : T.nx ≤ A.length := by
  rw [h.nxe]
  have := nodup_le A.length (T.st ++ T.od) (by rw [List.nodup_append]; exact ⟨h.ndS, h.ndO, fun a ha b hb e => h.dis a ha (e ▸ hb)⟩) (fun v hv => h.rng v (List.mem_append.1 hv))
  rwa [List.length_append] at this
/-- One node is new: fewer than all were entered. -/
theorem JI.nx_lt (h : JI A T fr) {w : Nat} (hw : w < A.length) (h0 : T.ix w = 0) : T.nx < A.length := by
  have n1 : w ∉ T.st := fun hs => (h.vis w hw).2 (.inl hs) h0
  have n2 : w ∉ T.od := fun hs => (h.vis w hw).2 (.inr hs) h0
  rw [h.nxe]
  have := nodup_le A.length (w :: (T.st ++ T.od)) (by
    rw [List.nodup_cons, List.nodup_append]
    exact ⟨fun hm => (List.mem_append.1 hm).elim n1 n2, h.ndS, h.ndO, fun a ha b hb e => h.dis a ha (e ▸ hb)⟩) (fun v hv => by
    rcases List.mem_cons.1 hv with e | hv
    · subst e; exact hw
    · exact h.rng v (List.mem_append.1 hv))
  simp only [List.length_cons, List.length_append] at this
  omega
/-- A node not seen yet is in neither row. -/
theorem JI.new (h : JI A T fr) (hw : w < A.length) (h0 : T.ix w = 0) : w ∉ T.st ∧ w ∉ T.od :=
  ⟨fun hs => (h.vis w hw).2 (.inl hs) h0, fun hs => (h.vis w hw).2 (.inr hs) h0⟩
/-- A node is entered: what both ways share. -/
theorem JI.enterG (h : JI A T fr) (hw : w < A.length) (h0 : T.ix w = 0) (fr1 : List (Nat × Nat)) (hm : fr1.map (·.1) = fr.map (·.1)) (he : ∀ p ∈ fr1, p.2 ≤ (suc A p.1).length)
    (hd : ∀ p ∈ fr1, ∀ j : Nat, j < p.2 → ∀ u, (suc A p.1)[j]? = some u → u = w ∨ u ∈ T.od ∨ (u ∈ T.st ∧ T.lw p.1 ≤ T.ix u)) (hr : ∀ r : Nat → Nat, Rank A r → ∀ p ∈ fr, r w < r p.1) : JI A (T.enter w) (fr1 ++ [(w, 0)]) := by
  obtain ⟨n1, n2⟩ := h.new hw h0
  have hne : ∀ u, u ∈ T.st → u ≠ w := fun u hu e => n1 (e ▸ hu)
  have hno : ∀ u, u ∈ T.od → u ≠ w := fun u hu e => n2 (e ▸ hu)
  have ix_ne : ∀ u, u ≠ w → (T.enter w).ix u = T.ix u := fun u hu => fup_ne _ _ hu
  have ix_w : (T.enter w).ix w = T.nx + 1 := fup_self _ _ _
  have lw_ne : ∀ u, u ≠ w → (T.enter w).lw u = T.lw u := fun u hu => fup_ne _ _ hu
  have lw_w : (T.enter w).lw w = T.nx + 1 := fup_self _ _ _
  have hst : (T.enter w).st = T.st ++ [w] := rfl
  have hod : (T.enter w).od = T.od := rfl
  have hnx : (T.enter w).nx = T.nx + 1 := rfl
  have hmem1 : ∀ p ∈ fr1, p.1 ∈ T.st := fun p hp => by
    have : p.1 ∈ fr1.map (·.1) := List.mem_map_of_mem hp
    rw [hm] at this
    obtain ⟨q, hq, e⟩ := List.mem_map.1 this
    rw [← e]
    exact h.mem q hq
  have hlt : ∀ u ∈ T.st, u < A.length := fun u hu => h.rng u (.inl hu)
  refine ⟨?_, ?_, h.ndO, ?_, ?_, ?_, ?_, ?_, ?_, ?_, ?_, ?_, ?_, ?_, ?_, h.cmp, h.rep, h.pos, h.cnt, by rw [hst, hod, hnx, List.length_append, List.length_singleton, h.nxe]; omega, h.topo, ?_⟩
  · intro u hu
    rw [hst, hod] at hu
    rcases hu with hu | hu
    · rcases List.mem_append.1 hu with hu | hu
      · exact h.rng u (.inl hu)
      · simp at hu; subst hu; exact hw
    · exact h.rng u (.inr hu)
  · rw [hst, List.nodup_append]
    exact ⟨h.ndS, by simp, fun a ha b hb => by simp at hb; subst hb; exact hne a ha⟩
  · intro u hu
    rw [hst] at hu
    rcases List.mem_append.1 hu with hu | hu
    · exact h.dis u hu
    · simp at hu; subst hu; exact n2
  · intro u hu
    rw [hst, hod]
    by_cases e : u = w
    · subst e
      rw [ix_w]
      exact ⟨fun _ => .inl (by simp), fun _ => by omega⟩
    · rw [ix_ne u e, h.vis u hu]
      constructor
      · rintro (h1 | h1)
        · exact .inl (List.mem_append_left _ h1)
        · exact .inr h1
      · rintro (h1 | h1)
        · rcases List.mem_append.1 h1 with h1 | h1
          · exact .inl h1
          · simp at h1; exact absurd h1 e
        · exact .inr h1
  · rw [hst, List.pairwise_append]
    refine ⟨h.inc.imp_of_mem (fun ha hb hab => ?_), List.pairwise_singleton _ _, fun a ha b hb => ?_⟩
    · rw [ix_ne _ (hne _ ha), ix_ne _ (hne _ hb)]; exact hab
    · simp at hb; subst hb
      rw [ix_ne _ (hne _ ha), ix_w]
      have := h.nx a (hlt a ha)
      omega
  · intro u hu
    rw [hnx]
    by_cases e : u = w
    · subst e; rw [ix_w]; exact Nat.le_refl _
    · rw [ix_ne u e]; have := h.nx u hu; omega
  · intro p hp
    rw [hst]
    rcases List.mem_append.1 hp with hp | hp
    · exact List.mem_append_left _ (hmem1 p hp)
    · simp at hp; subst hp; simp
  · rw [List.map_append, hm, List.pairwise_append]
    refine ⟨h.fin.imp_of_mem (fun ha hb hab => ?_), List.pairwise_singleton _ _, fun a ha b hb => ?_⟩
    · obtain ⟨q1, hq1, e1⟩ := List.mem_map.1 ha
      obtain ⟨q2, hq2, e2⟩ := List.mem_map.1 hb
      rw [← e1, ← e2] at hab ⊢
      rw [ix_ne _ (hne _ (h.mem _ hq1)), ix_ne _ (hne _ (h.mem _ hq2))]; exact hab
    · simp at hb; subst hb
      obtain ⟨q1, hq1, e1⟩ := List.mem_map.1 ha
      rw [← e1, ix_ne _ (hne _ (h.mem _ hq1)), ix_w]
      have := h.nx _ (hlt _ (h.mem _ hq1))
      omega
  · intro p hp
    rcases List.mem_append.1 hp with hp | hp
    · exact he p hp
    · simp at hp; subst hp; exact Nat.zero_le _
  · intro u hu
    rw [hst] at hu
    rcases List.mem_append.1 hu with hu | hu
    · rw [ix_ne _ (hne _ hu), lw_ne _ (hne _ hu)]; exact h.low u hu
    · simp at hu; subst hu; rw [ix_w, lw_w]; exact Nat.le_refl _
  · intro r hr u hu
    rw [hst] at hr hu
    have hub : (T.enter w).ix r ≤ T.nx + 1 := by
      by_cases e : r = w
      · subst e; rw [ix_w]; exact Nat.le_refl _
      · rw [ix_ne _ e]
        have hrm : r ∈ T.st := by
          have : r ∈ T.st ++ [w] := List.mem_of_head? hr
          rcases List.mem_append.1 this with h1 | h1
          · exact h1
          · simp at h1; exact absurd h1 e
        have := h.nx r (hlt r hrm)
        omega
    rcases List.mem_append.1 hu with hu | hu
    · cases hs : T.st with
      | nil => rw [hs] at hu; cases hu
      | cons s0 ss =>
        rw [hs] at hr
        simp at hr
        subst hr
        rw [ix_ne _ (hne s0 (by rw [hs]; simp)), lw_ne _ (hne _ hu)]
        exact h.bot s0 (by rw [hs]; rfl) u hu
    · simp at hu; subst hu; rw [lw_w]; exact hub
  · intro p hp
    rw [hst]
    cases hf : fr1 with
    | nil =>
      rw [hf] at hp hm
      simp at hp
      subst hp
      have : fr = [] := by simpa using hm.symm
      rw [h.emp this]
      rfl
    | cons f0 ff =>
      rw [hf] at hp hm
      simp at hp
      subst hp
      cases hg : fr with
      | nil => rw [hg] at hm; simp at hm
      | cons g0 gg =>
        rw [hg] at hm
        simp at hm
        have := h.frh g0 (by rw [hg]; rfl)
        rw [hm.1]
        rw [List.head?_append, this]
        rfl
  · intro e; simp at e
  · intro p hp j hj u hu
    rw [hst, hod]
    rcases List.mem_append.1 hp with hp | hp
    · have hps := hmem1 p hp
      rcases hd p hp j hj u hu with h1 | h1 | h1
      · subst h1
        refine .inr ⟨by simp, ?_⟩
        rw [lw_ne _ (hne _ hps), ix_w]
        have := h.low _ hps
        have := h.nx _ (hlt _ hps)
        omega
      · exact .inl h1
      · refine .inr ⟨List.mem_append_left _ h1.1, ?_⟩
        rw [lw_ne _ (hne _ (hmem1 p hp)), ix_ne _ (hne _ h1.1)]
        exact h1.2
    · simp at hp; subst hp; cases hj
  · intro r hrk
    obtain ⟨a1, a2, a3, a4⟩ := h.acy r hrk
    refine ⟨by rw [hst, List.map_append, hm, a1]; rfl, ?_, fun u hu => ?_, a4⟩
    · rw [List.map_append, hm, List.pairwise_append]
      refine ⟨a2, List.pairwise_singleton _ _, fun a ha b hb => ?_⟩
      simp at hb; subst hb
      obtain ⟨q1, hq1, e1⟩ := List.mem_map.1 ha
      rw [← e1]
      exact hr r hrk q1 hq1
    · rw [hst] at hu
      rcases List.mem_append.1 hu with hu | hu
      · rw [ix_ne _ (hne _ hu), lw_ne _ (hne _ hu)]; exact a3 u hu
      · simp at hu; subst hu; rw [ix_w, lw_w]
theorem JI.root (h : JI A T []) (hw : w < A.length) (h0 : T.ix w = 0) : JI A (T.enter w) [(w, 0)] :=
  h.enterG hw h0 [] rfl (fun p hp => by cases hp) (fun p hp => by cases hp) (fun r _ p hp => by cases hp)
theorem mem_snoc {p q : Nat × Nat} : p ∈ fs ++ [q] ↔ p ∈ fs ∨ p = q := by simp
/-- In a graph with a rank the top's rank is the least. -/
theorem JI.rank_top (h : JI A T (fs ++ [(v, k)])) {r : Nat → Nat} (hr : Rank A r) : ∀ p ∈ fs ++ [(v, k)], r v ≤ r p.1 := by
  obtain ⟨_, a2, _, _⟩ := h.acy r hr
  rw [List.map_append, List.pairwise_append] at a2
  intro p hp
  rcases mem_snoc.1 hp with h1 | h1
  · have := a2.2.2 p.1 (List.mem_map_of_mem h1) v (by simp)
    omega
  · subst h1; exact Nat.le_refl _
/-- An edge to a new node. -/
theorem JI.child (hA : GrOk A) (h : JI A T (fs ++ [(v, k)])) (hk : (suc A v)[k]? = some w) (h0 : T.ix w = 0) : JI A (T.enter w) (fs ++ [(v, k + 1)] ++ [(w, 0)]) := by
  have hwm : w ∈ suc A v := List.mem_of_getElem? hk
  have hlt := (List.getElem?_eq_some_iff.1 hk).1
  refine h.enterG (hA v w hwm) h0 _ (by simp) (fun p hp => ?_) (fun p hp j hj u hu => ?_) (fun r hr p hp => ?_)
  · rcases mem_snoc.1 hp with h1 | h1
    · exact h.edg p (List.mem_append_left _ h1)
    · subst h1; exact hlt
  · rcases mem_snoc.1 hp with h1 | h1
    · exact .inr (h.done p (List.mem_append_left _ h1) j hj u hu)
    · subst h1
      by_cases e : j = k
      · subst e
        have hu : (suc A v)[j]? = some u := hu
        rw [hk] at hu
        cases hu
        exact .inl rfl
      · have hj : j < k + 1 := hj
        exact .inr (h.done (v, k) (by simp) j (by show j < k; omega) u hu)
  · have := hr v w hwm
    have := h.rank_top hr p hp
    omega
/-- An edge done without a visit. -/
theorem JI.skipG (h : JI A T (fs ++ [(v, k)])) (hk : (suc A v)[k]? = some w) (T' : TJ) (hT : T' = T ∨ ∃ x, T' = T.low v x ∧ x ≤ T.lw v ∧ (∀ r, T.st.head? = some r → T.ix r ≤ x) ∧ ∀ r, ¬ Rank A r)
    (hd : w ∈ T.od ∨ (w ∈ T.st ∧ T'.lw v ≤ T.ix w)) : JI A T' (fs ++ [(v, k + 1)]) := by
  have hlt := (List.getElem?_eq_some_iff.1 hk).1
  have hfm : (fs ++ [(v, k + 1)]).map (·.1) = (fs ++ [(v, k)]).map (·.1) := by simp
  have hix : T'.ix = T.ix ∧ T'.st = T.st ∧ T'.od = T.od ∧ T'.cp = T.cp ∧ T'.sz = T.sz ∧ T'.nx = T.nx := by
    rcases hT with rfl | ⟨x, rfl, _⟩ <;> exact ⟨rfl, rfl, rfl, rfl, rfl, rfl⟩
  obtain ⟨e1, e2, e3, e4, e5, e6⟩ := hix
  have hlw : ∀ u, T'.lw u ≤ T.lw u := by
    rcases hT with rfl | ⟨x, rfl, hx, _⟩
    · exact fun _ => Nat.le_refl _
    · intro u
      show fup T.lw v x u ≤ _
      by_cases e : u = v
      · subst e; rw [fup_self]; exact hx
      · rw [fup_ne _ _ e]; exact Nat.le_refl _
  have hmm : ∀ p ∈ fs ++ [(v, k + 1)], ∃ q ∈ fs ++ [(v, k)], q.1 = p.1 := fun p hp => by
    rcases mem_snoc.1 hp with h1 | h1
    · exact ⟨p, List.mem_append_left _ h1, rfl⟩
    · subst h1; exact ⟨(v, k), by simp, rfl⟩
  refine ⟨by rw [e2, e3]; exact h.rng, by rw [e2]; exact h.ndS, by rw [e3]; exact h.ndO, by rw [e2, e3]; exact h.dis, by rw [e1, e2, e3]; exact h.vis, by rw [e1, e2]; exact h.inc, by rw [e1, e6]; exact h.nx, fun p hp => ?_, by rw [e1, hfm]; exact h.fin, fun p hp => ?_, fun u hu => ?_, fun r hr u hu => ?_, fun p hp => ?_, fun e => by simp at e, fun p hp j hj u hu => ?_, by rw [e3, e4, e5]; exact h.cmp, by rw [e3, e4, e5]; exact h.rep, by rw [e5]; exact h.pos, by rw [e3, e5]; exact h.cnt, by rw [e2, e3, e6]; exact h.nxe, by rw [e3, e5]; exact h.topo, fun r hr => ?_⟩
  · obtain ⟨q, hq, e⟩ := hmm p hp
    rw [e2, ← e]; exact h.mem q hq
  · rcases mem_snoc.1 hp with h1 | h1
    · exact h.edg p (List.mem_append_left _ h1)
    · subst h1; exact hlt
  · rw [e2] at hu; rw [e1]; exact Nat.le_trans (hlw u) (h.low u hu)
  · rw [e2] at hr hu; rw [e1]
    rcases hT with rfl | ⟨x, rfl, hx, hb, _⟩
    · exact h.bot r hr u hu
    · show T.ix r ≤ fup T.lw v x u
      by_cases e : u = v
      · subst e; rw [fup_self]; exact hb r hr
      · rw [fup_ne _ _ e]; exact h.bot r hr u hu
  · rw [e2]
    cases hf : fs with
    | nil =>
      rw [hf] at hp
      simp at hp
      subst hp
      exact h.frh (v, k) (by rw [hf]; rfl)
    | cons f0 ff =>
      rw [hf] at hp
      simp at hp
      subst hp
      exact h.frh f0 (by rw [hf]; rfl)
  · rw [e1, e2, e3]
    have old : ∀ q ∈ fs ++ [(v, k)], j < q.2 → (suc A q.1)[j]? = some u → q.1 = p.1 → u ∈ T.od ∨ (u ∈ T.st ∧ T'.lw p.1 ≤ T.ix u) := fun q hq hj2 hu2 e => by
      rcases h.done q hq j hj2 u hu2 with h2 | h2
      · exact .inl h2
      · refine .inr ⟨h2.1, ?_⟩
        have := hlw p.1
        rw [e] at h2
        omega
    rcases mem_snoc.1 hp with h1 | h1
    · exact old p (List.mem_append_left _ h1) hj hu rfl
    · subst h1
      by_cases e : j = k
      · subst e
        have hu : (suc A v)[j]? = some u := hu
        rw [hk] at hu
        cases hu
        exact hd
      · have hj : j < k + 1 := hj
        exact old (v, k) (by simp) (by show j < k; omega) hu rfl
  · rcases hT with rfl | ⟨x, rfl, hx, hb, hno⟩
    · rw [hfm]; exact h.acy r hr
    · exact (hno r hr).elim
/-- An edge to a node on the stack, below what was known. -/
theorem JI.back (h : JI A T (fs ++ [(v, k)])) (hk : (suc A v)[k]? = some w) (hw : w ∈ T.st) (hl : T.ix w < T.lw v) : JI A (T.low v (T.ix w)) (fs ++ [(v, k + 1)]) := by
  have hvs : v ∈ T.st := h.mem (v, k) (by simp)
  refine h.skipG hk _ (.inr ⟨T.ix w, rfl, Nat.le_of_lt hl, fun r hr => ?_, fun r hr => ?_⟩) (.inr ⟨hw, ?_⟩)
  · have := h.bot r hr w hw
    have := h.low w hw
    omega
  · obtain ⟨a1, _, _, _⟩ := h.acy r hr
    rw [a1] at hw
    obtain ⟨q, hq, e⟩ := List.mem_map.1 hw
    have := h.rank_top hr q hq
    have := hr v w (List.mem_of_getElem? hk)
    rw [← e] at this
    omega
  · show fup T.lw v (T.ix w) v ≤ _
    rw [fup_self]
    exact Nat.le_refl _
/-- Any other edge. -/
theorem JI.skip (hA : GrOk A) (h : JI A T (fs ++ [(v, k)])) (hk : (suc A v)[k]? = some w) (h0 : T.ix w ≠ 0) (hn : ¬ (w ∈ T.st ∧ T.ix w < T.lw v)) : JI A T (fs ++ [(v, k + 1)]) := by
  refine h.skipG hk _ (.inl rfl) ?_
  have hw : w < A.length := hA v w (List.mem_of_getElem? hk)
  rcases (h.vis w hw).1 h0 with h1 | h1
  · exact .inr ⟨h1, Nat.le_of_not_lt (fun h2 => hn ⟨h1, h2⟩)⟩
  · exact .inl h1
/-- All edges done, the node stays on the stack: its parent learns of its low. -/
theorem JI.pop (h : JI A T (fs ++ [(v, k)])) (hne : T.lw v ≠ T.ix v) : ∃ f0 p j, fs = f0 ++ [(p, j)] ∧ JI A (if T.lw v < T.lw p then T.low p (T.lw v) else T) fs := by
  have hvs : v ∈ T.st := h.mem (v, k) (by simp)
  have hfs : fs ≠ [] := by
    intro e
    subst e
    have := h.frh (v, k) rfl
    have h1 := h.bot v this v hvs
    have h2 := h.low v hvs
    omega
  obtain ⟨f0, q, hq⟩ : ∃ f0 q, fs = f0 ++ [q] := ⟨fs.dropLast, fs.getLast hfs, (List.dropLast_concat_getLast hfs).symm⟩
  obtain ⟨p, j⟩ := q
  refine ⟨f0, p, j, hq, ?_⟩
  have hps : p ∈ T.st := h.mem (p, j) (List.mem_append_left _ (by rw [hq]; simp))
  obtain ⟨T', hT'⟩ : ∃ T', (if T.lw v < T.lw p then T.low p (T.lw v) else T) = T' := ⟨_, rfl⟩
  rw [hT']
  have hix : T'.ix = T.ix ∧ T'.st = T.st ∧ T'.od = T.od ∧ T'.cp = T.cp ∧ T'.sz = T.sz ∧ T'.nx = T.nx := by
    rw [← hT']; split <;> exact ⟨rfl, rfl, rfl, rfl, rfl, rfl⟩
  obtain ⟨e1, e2, e3, e4, e5, e6⟩ := hix
  have hlw : ∀ u, T'.lw u ≤ T.lw u ∧ (T'.lw u = T.lw u ∨ T'.lw u = T.lw v) := by
    intro u
    rw [← hT']
    split
    · rename_i hlt
      show fup T.lw p (T.lw v) u ≤ _ ∧ (fup T.lw p (T.lw v) u = _ ∨ fup T.lw p (T.lw v) u = _)
      by_cases e : u = p
      · subst e; rw [fup_self]; exact ⟨by omega, .inr rfl⟩
      · rw [fup_ne _ _ e]; exact ⟨Nat.le_refl _, .inl rfl⟩
    · exact ⟨Nat.le_refl _, .inl rfl⟩
  refine ⟨by rw [e2, e3]; exact h.rng, by rw [e2]; exact h.ndS, by rw [e3]; exact h.ndO, by rw [e2, e3]; exact h.dis, by rw [e1, e2, e3]; exact h.vis, by rw [e1, e2]; exact h.inc, by rw [e1, e6]; exact h.nx, fun p hp => by rw [e2]; exact h.mem p (List.mem_append_left _ hp), ?_, fun p hp => h.edg p (List.mem_append_left _ hp), fun u hu => ?_, fun r hr u hu => ?_, fun p hp => ?_, fun e => (hfs e).elim, fun p hp j hj u hu => ?_, by rw [e3, e4, e5]; exact h.cmp, by rw [e3, e4, e5]; exact h.rep, by rw [e5]; exact h.pos, by rw [e3, e5]; exact h.cnt, by rw [e2, e3, e6]; exact h.nxe, by rw [e3, e5]; exact h.topo, fun r hr => ?_⟩
  · have := h.fin
    rw [List.map_append, List.pairwise_append] at this
    rw [e1]
    exact this.1
  · rw [e2] at hu; rw [e1]; exact Nat.le_trans (hlw u).1 (h.low u hu)
  · rw [e2] at hr hu; rw [e1]
    rcases (hlw u).2 with e | e
    · rw [e]; exact h.bot r hr u hu
    · rw [e]; exact h.bot r hr v hvs
  · rw [e2]
    refine h.frh p ?_
    cases hf : fs with
    | nil => exact (hfs hf).elim
    | cons a b => rw [hf] at hp; simpa using hp
  · rw [e1, e2, e3]
    rcases h.done p (List.mem_append_left _ hp) j hj u hu with h2 | h2
    · exact .inl h2
    · exact .inr ⟨h2.1, Nat.le_trans (hlw p.1).1 h2.2⟩
  · exact (hne ((h.acy r hr).2.2.1 v hvs)).elim
/-- All edges done, a component is closed. -/
theorem JI.close (h : JI A T (fs ++ [(v, k)])) (hk : k = (suc A v).length) (he : T.lw v = T.ix v) {a b : List Nat} (hs : T.st = a ++ v :: b) : JI A (T.close a b v) fs ∧ (∀ f0 p j, fs = f0 ++ [(p, j)] → ¬ T.lw v < T.lw p) := by
  have hvs : v ∈ T.st := h.mem (v, k) (by simp)
  have hin := h.inc
  have hnd := h.ndS
  rw [hs] at hin hnd
  rw [List.pairwise_append, List.pairwise_cons] at hin
  rw [List.nodup_append, List.nodup_cons] at hnd
  obtain ⟨i1, ⟨i2, i3⟩, i4⟩ := hin
  obtain ⟨d1, ⟨d2, d3⟩, d4⟩ := hnd
  have hfin := h.fin
  rw [List.map_append, List.pairwise_append] at hfin
  have hbelow : ∀ p ∈ fs, p.1 ∈ a := fun p hp => by
    have h1 := hfin.2.2 p.1 (List.mem_map_of_mem hp) v (by simp)
    have h2 := h.mem p (List.mem_append_left _ hp)
    rw [hs] at h2
    rcases List.mem_append.1 h2 with h3 | h3
    · exact h3
    · rcases List.mem_cons.1 h3 with h4 | h4
      · rw [h4] at h1; omega
      · have := i2 _ h4; omega
  have hod : (T.close a b v).od = T.od ++ (b.reverse ++ [v]) := rfl
  have hsz : (T.close a b v).sz = T.sz ++ [b.length + 1] := rfl
  have hst : (T.close a b v).st = a := rfl
  have hcp : ∀ u, (T.close a b v).cp u = if u ∈ v :: b then T.sz.length else T.cp u := fun _ => rfl
  have hmo : ∀ u, u ∈ (T.close a b v).od ↔ u ∈ T.od ∨ u ∈ v :: b := fun u => by
    rw [hod, List.mem_append, List.mem_append, List.mem_reverse, List.mem_singleton, List.mem_cons]
    constructor
    · rintro (h1 | h1 | h1)
      · exact .inl h1
      · exact .inr (.inr h1)
      · exact .inr (.inl h1)
    · rintro (h1 | h1 | h1)
      · exact .inl h1
      · exact .inr (.inr h1)
      · exact .inr (.inl h1)
  have hvb : ∀ u, u ∈ v :: b → u ∈ T.st := fun u hu => by rw [hs]; exact List.mem_append_right _ hu
  have has : ∀ u, u ∈ a → u ∈ T.st := fun u hu => by rw [hs]; exact List.mem_append_left _ hu
  have hov : ∀ u, u ∈ T.od → u ∉ v :: b := fun u hu hv => h.dis u (hvb u hv) hu
  -- the parent knows at least as little
  have hpar : ∀ f0 p j, fs = f0 ++ [(p, j)] → ¬ T.lw v < T.lw p := fun f0 p j e hlt => by
    have hp : (p, j) ∈ fs := by rw [e]; simp
    have h1 := hfin.2.2 p (List.mem_map_of_mem (f := (·.1)) hp) v (by simp)
    have h2 := h.low p (h.mem (p, j) (List.mem_append_left _ hp))
    rw [he] at hlt
    omega
  -- alone on top: all successors are closed already
  have hclosed : b = [] → ∀ u ∈ suc A v, u = v ∨ u ∈ T.od := fun hb u hu => by
    obtain ⟨j, hj⟩ := List.mem_iff_getElem?.1 hu
    have hjl := (List.getElem?_eq_some_iff.1 hj).1
    rcases h.done (v, k) (by simp) j (by show j < k; omega) u hj with h2 | h2
    · exact .inr h2
    · have h3 := h2.1
      rw [hs, hb] at h3
      rcases List.mem_append.1 h3 with h4 | h4
      · have h5 := i4 u h4 v (by simp)
        have h6 : T.lw v ≤ T.ix u := h2.2
        omega
      · simp at h4; exact .inl h4
  refine ⟨⟨?_, d1, ?_, ?_, ?_, ?_, h.nx, hbelow, hfin.1, fun p hp => h.edg p (List.mem_append_left _ hp), ?_, ?_, ?_, ?_, ?_, ?_, ?_, ?_, ?_, ?_, ?_, ?_⟩, hpar⟩
  · intro u hu
    rw [hst, hmo] at hu
    rcases hu with hu | hu | hu
    · exact h.rng u (.inl (has u hu))
    · exact h.rng u (.inr hu)
    · exact h.rng u (.inl (hvb u hu))
  · rw [hod, List.nodup_append]
    refine ⟨h.ndO, ?_, fun x hx y hy e => ?_⟩
    · rw [List.nodup_append]
      refine ⟨by unfold List.Nodup; rw [List.pairwise_reverse]; exact d3.imp (fun h => h.symm), by simp, fun x hx y hy e => ?_⟩
      simp at hy hx
      subst hy e
      exact d2 hx
    · subst e
      refine hov x hx ?_
      rw [List.mem_append, List.mem_reverse, List.mem_singleton] at hy
      rcases hy with h1 | h1
      · exact List.mem_cons_of_mem _ h1
      · subst h1; simp
  · intro u hu hu2
    rw [hst] at hu
    rcases (hmo u).1 hu2 with h1 | h1
    · exact h.dis u (has u hu) h1
    · exact d4 u hu u h1 rfl
  · intro u hu
    rw [hst, hmo]
    have := h.vis u hu
    show T.ix u ≠ 0 ↔ _
    rw [this, hs, List.mem_append]
    constructor
    · rintro ((h1 | h1) | h1)
      · exact .inl h1
      · exact .inr (.inr h1)
      · exact .inr (.inl h1)
    · rintro (h1 | h1 | h1)
      · exact .inl (.inl h1)
      · exact .inr h1
      · exact .inl (.inr h1)
  · exact i1
  · intro u hu; exact h.low u (has u hu)
  · intro r hr u hu
    rw [hst] at hr hu
    refine h.bot r ?_ u (has u hu)
    rw [hs]
    cases ha : a with
    | nil => rw [ha] at hr; cases hr
    | cons x y => rw [ha] at hr; simpa using hr
  · intro p hp
    rw [hst]
    have h1 := h.frh p (by rw [List.head?_append, hp]; rfl)
    have h2 := hbelow p (List.mem_of_head? hp)
    rw [hs] at h1
    cases ha : a with
    | nil => rw [ha] at h2; cases h2
    | cons x y => rw [ha] at h1; simpa using h1
  · intro e
    rw [hst]
    subst e
    have h1 := h.frh (v, k) rfl
    rw [hs] at h1
    cases ha : a with
    | nil => rfl
    | cons x y =>
      rw [ha] at h1
      simp at h1
      exfalso
      exact d4 v (by rw [ha, h1]; simp) v (by simp) rfl
  · intro p hp j hj u hu
    rw [hst, hmo]
    rcases h.done p (List.mem_append_left _ hp) j hj u hu with h1 | h1
    · exact .inl (.inl h1)
    · have h2 := h1.1
      rw [hs] at h2
      rcases List.mem_append.1 h2 with h3 | h3
      · exact .inr ⟨h3, h1.2⟩
      · exact .inl (.inr h3)
  · intro u hu
    rw [hcp, hsz, List.length_append, List.length_singleton]
    rcases (hmo u).1 hu with h1 | h1
    · rw [if_neg (hov u h1)]
      have := h.cmp u h1
      omega
    · rw [if_pos h1]; omega
  · intro id hid
    rw [hsz, List.length_append, List.length_singleton] at hid
    by_cases e : id = T.sz.length
    · exact ⟨v, (hmo v).2 (.inr (by simp)), by rw [hcp, if_pos (by simp)]; exact e.symm⟩
    · obtain ⟨u, h1, h2⟩ := h.rep id (by omega)
      exact ⟨u, (hmo u).2 (.inl h1), by rw [hcp, if_neg (hov u h1)]; exact h2⟩
  · intro s hs2
    rw [hsz] at hs2
    rcases List.mem_append.1 hs2 with h1 | h1
    · exact h.pos s h1
    · simp at h1; omega
  · rw [hsz, hod, List.length_append, List.length_append, List.length_append, List.length_singleton, List.length_singleton]
    have := h.cnt
    omega
  · have h1 := h.nxe
    rw [hs] at h1
    show T.nx = _
    rw [hst, hod, h1]
    simp only [List.length_append, List.length_cons, List.length_reverse, List.length_nil]
    omega
  · intro hall p u hp w hw
    have hall' : ∀ s ∈ T.sz, s = 1 := fun s hs2 => hall s (by rw [hsz]; exact List.mem_append_left _ hs2)
    have hb1 : b.length + 1 = 1 := hall _ (by rw [hsz]; simp)
    have hb : b = [] := List.length_eq_zero_iff.1 (by omega)
    rw [hod, hb] at hp ⊢
    simp only [List.reverse_nil, List.nil_append] at hp ⊢
    by_cases hpl : p < T.od.length
    · rw [List.getElem?_append_left hpl] at hp
      rcases h.topo hall' p u hp w hw with h1 | ⟨q, h1, h2⟩
      · exact .inl h1
      · exact .inr ⟨q, h1, by rw [List.getElem?_append_left (by omega)]; exact h2⟩
    · rw [List.getElem?_append_right (by omega)] at hp
      have hp0 : p - T.od.length = 0 := by
        have := (List.getElem?_eq_some_iff.1 hp).1
        simp at this
        omega
      rw [hp0] at hp
      simp at hp
      subst hp
      rcases hclosed hb w hw with h1 | h1
      · exact .inl h1
      · obtain ⟨q, hq⟩ := List.mem_iff_getElem?.1 h1
        have hql := (List.getElem?_eq_some_iff.1 hq).1
        exact .inr ⟨q, by omega, by rw [List.getElem?_append_left hql]; exact hq⟩
  · intro r hr
    obtain ⟨a1, a2, a3, a4⟩ := h.acy r hr
    have hb : b = [] ∧ a = fs.map (·.1) := by
      rw [hs, List.map_append] at a1
      have e : a ++ v :: b = fs.map (·.1) ++ [v] := a1
      have hl : (a ++ v :: b).getLast? = some v := by rw [e]; simp
      cases hb : b with
      | nil =>
        refine ⟨rfl, ?_⟩
        rw [hb] at e
        exact List.append_inj_left' e rfl
      | cons x y =>
        exfalso
        rw [hb] at hl
        have : v ∈ b := by
          rw [hb]
          have h3 : (a ++ v :: x :: y) = (a ++ [v]) ++ (x :: y) := by simp
          rw [h3, List.getLast?_append] at hl
          obtain ⟨z, hz⟩ : ∃ z, (x :: y).getLast? = some z := ⟨_, List.getLast?_eq_some_getLast (by simp)⟩
          rw [hz] at hl
          cases hl
          exact List.mem_of_getLast? hz
        exact d2 this
    obtain ⟨hb, haf⟩ := hb
    rw [List.map_append, List.pairwise_append] at a2
    refine ⟨haf, a2.1, fun u hu => a3 u (has u hu), fun s hs2 => ?_⟩
    rw [hsz, hb] at hs2
    rcases List.mem_append.1 hs2 with h1 | h1
    · exact a4 s h1
    · simp at h1; exact h1
end
end Go.Proofs.Qxb6500883aGreatDoor
