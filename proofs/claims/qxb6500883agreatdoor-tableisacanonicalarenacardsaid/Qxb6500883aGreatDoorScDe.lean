/- visit and run. -/
import Derived.Test.Qxb6500883aGreatDoorScDd
namespace Go.Proofs.Qxb6500883aGreatDoor
open Go.RowKit
set_option linter.unusedSimpArgs false
set_option linter.unusedVariables false
def sumR : Nat → (Nat → Nat) → Nat
  | 0, _ => 0
  | n + 1, f => sumR n f + f n
theorem sumR_set (f : Nat → Nat) (v x : Nat) : ∀ n, v < n → sumR n (fup f v x) + f v = sumR n f + x
  | 0, h => absurd h (Nat.not_lt_zero _)
  | n + 1, h => by
    unfold sumR
    by_cases e : v = n
    · subst e
      rw [fup_self]
      have : ∀ m, m ≤ v → sumR m (fup f v x) = sumR m f := by
        intro m
        induction m with
        | zero => intro _; rfl
        | succ m ih => intro hm; unfold sumR; rw [ih (by omega), fup_ne _ _ (by omega)]
      rw [this v (Nat.le_refl _)]
      omega
    · rw [fup_ne _ _ (fun h => e h.symm)]
      have := sumR_set f v x n (by omega)
      omega
/-- What is left to do. -/
def unvF (A : Gr) (T : TJ) (u : Nat) : Nat := if T.ix u = 0 then (suc A u).length + 2 else 0
def Mof (A : Gr) (T : TJ) (fr : List (Nat × Nat)) : Nat := sumR A.length (unvF A T) + (fr.map (fun p => (suc A p.1).length - p.2 + 1)).sum
section
variable {A : Gr} {T : TJ} {fs : List (Nat × Nat)} {v w k : Nat}
theorem Mof_child (hw : w < A.length) (h0 : T.ix w = 0) (hk : k < (suc A v).length) : Mof A (T.enter w) (fs ++ [(v, k + 1)] ++ [(w, 0)]) < Mof A T (fs ++ [(v, k)]) := by
  have e : unvF A (T.enter w) = fup (unvF A T) w 0 := by
    funext u
    unfold unvF
    by_cases e : u = w
    · subst e
      rw [fup_self]
      show (if fup T.ix u (T.nx + 1) u = 0 then _ else _) = _
      rw [fup_self, if_neg (by omega)]
    · rw [fup_ne _ _ e]
      show (if fup T.ix w (T.nx + 1) u = 0 then _ else _) = _
      rw [fup_ne _ _ e]
  have h1 := sumR_set (unvF A T) w 0 A.length hw
  have h2 : unvF A T w = (suc A w).length + 2 := by unfold unvF; rw [if_pos h0]
  unfold Mof
  rw [e]
  simp only [List.map_append, List.map_cons, List.map_nil, List.sum_append, List.sum_cons, List.sum_nil]
  omega
theorem Mof_edge (T' : TJ) (he : T'.ix = T.ix) (hk : k < (suc A v).length) : Mof A T' (fs ++ [(v, k + 1)]) < Mof A T (fs ++ [(v, k)]) := by
  have e : unvF A T' = unvF A T := by unfold unvF; rw [he]
  unfold Mof
  rw [e]
  simp only [List.map_append, List.map_cons, List.map_nil, List.sum_append, List.sum_cons, List.sum_nil]
  omega
theorem Mof_pop (T' : TJ) (he : T'.ix = T.ix) : Mof A T' fs < Mof A T (fs ++ [(v, k)]) := by
  have e : unvF A T' = unvF A T := by unfold unvF; rw [he]
  unfold Mof
  rw [e]
  simp only [List.map_append, List.map_cons, List.map_nil, List.sum_append, List.sum_cons, List.sum_nil]
  omega
end
/-- Suspended visits in memory. -/
def rtV : RK (Nat × Nat) := ⟨237, 238, 2, 8, fun p => [.int .i32 (p.1 : Int), .int .i32 (p.2 : Int)]⟩
theorem okV : RKok Tryz.prog rtV := ⟨Tryz.underlying238, info_of' (z := .agg #[.int .i32 0, .int .i32 0]) (by kernel_rfl) rfl, by decide, by decide, fun _ => rfl, fun x u hu => by
  simp only [rtV, List.mem_cons, List.not_mem_nil, or_false] at hu
  rcases hu with rfl | rfl <;> rfl⟩
def frE (A : Gr) (p : Nat × Nat) : Nat × Nat := (p.1, stA A p.1 + p.2)
def onS (T : TJ) (u : Nat) : Bool := decide (u ∈ T.st)
def XV (r : Nat) : Bool := XF r || r == 40
/-- A visit under way. -/
def VS (σ : Rl) (w : World) (L : FL) (A : Gr) (va : Value) (T0 : TJ) (root : Nat) (v : Value) (wr : World) (M : Nat) : Prop :=
  ∃ (σ' : Rl) (vs vz vo : Value) (T : TJ) (fr : List (Nat × Nat)), FM σ' wr L A va T (onS T) vs vz vo ∧ RowX rtV wr σ' 40 v (fr.map (frE A)) ∧ Fr XV σ w σ' wr ∧ JI A T fr ∧ (∀ u, T0.ix u ≠ 0 → T.ix u ≠ 0) ∧ T.ix root ≠ 0 ∧ Mof A T fr = M
/-- What a visit leaves. -/
def VQ (σ : Rl) (w : World) (L : FL) (A : Gr) (va : Value) (T0 : TJ) (w' : World) (root : Nat) : Prop :=
  ∃ (σ' : Rl) (vs vz vo : Value) (T : TJ), FM σ' w' L A va T (onS T) vs vz vo ∧ Fr XF σ w σ' w' ∧ (∀ g, σ' g ≠ 40) ∧ JI A T [] ∧ (∀ u, T0.ix u ≠ 0 → T.ix u ≠ 0) ∧ T.ix root ≠ 0
section
variable {σ σ' σ'' : Rl} {w w' w1 w2 : World} {L : FL} {A : Gr} {va : Value} {T T' : TJ} {on on' : Nat → Bool} {vs vz vo vs' vz' vo' : Value}
theorem RowX.rho {α : Type} {K : RK α} {c : Nat} {v : Value} {xs : List α} (h : RowX K w σ c v xs) (hr : ∀ g, σ g = c → σ' g = c) : RowX K w σ' c v xs := ⟨h.own, fun g hg => hr g (h.role g hg)⟩
theorem RwK.rho {α : Type} {t : TypeId} {k : α → Value} {g n r : Nat} {f : Nat → α} (h : RwK t k g n f r σ w) (hr : ∀ g, σ g = r → σ' g = r) : RwK t k g n f r σ' w := ⟨h.1, hr g h.2⟩
theorem FM.rho (h : FM σ w L A va T on vs vz vo) (hr : ∀ g c, c ≤ 39 → σ g = c → σ' g = c) : FM σ' w L A va T on vs vz vo :=
  ⟨h.gb, hr _ _ (by decide) h.rg, h.gs.rho (fun g => hr g _ (by decide)), h.ga.rho (fun g => hr g _ (by decide)), h.b, hr _ _ (by decide) h.rb, h.i.rho (fun g => hr g _ (by decide)), h.l.rho (fun g => hr g _ (by decide)), h.o.rho (fun g => hr g _ (by decide)), h.c.rho (fun g => hr g _ (by decide)), h.s.rho (fun g => hr g _ (by decide)), h.z.rho (fun g => hr g _ (by decide)), h.d.rho (fun g => hr g _ (by decide))⟩
/-- Local rows are forgotten. -/
def noR (r : Nat) (σ : Rl) : Rl := fun g => if σ g = r then 0 else σ g
theorem noR_ne (r : Nat) (hr : r ≠ 0) (σ : Rl) (g : Nat) : noR r σ g ≠ r := by unfold noR; split <;> omega
theorem noR_keep {r c g : Nat} (hc : c ≠ r) (h : σ g = c) : noR r σ g = c := by unfold noR; rw [if_neg (by rw [h]; exact hc)]; exact h
theorem Fr.noR {X Y : Nat → Bool} {r : Nat} (h : Fr X σ w σ' w') (h0 : ∀ g, σ g ≠ r) (hX : ∀ c, c ≠ r → X c = true → Y c = true) : Fr Y σ w (noR r σ') w' :=
  ⟨h.os, h.tape, h.output, h.size, fun g hg => by unfold Go.Proofs.Qxb6500883aGreatDoor.noR; rw [if_neg (by rw [h.old g hg]; exact h0 g)]; exact h.old g hg, fun g hg => by unfold Go.Proofs.Qxb6500883aGreatDoor.noR; rw [if_neg (by rw [h.nw g hg]; exact h0 g)]; exact h.nw g hg, fun g hg hy => h.blk g hg (by
    cases e : X (σ g) with
    | false => rfl
    | true => rw [hX _ (h0 g) e] at hy; cases hy)⟩
theorem onS_enter (T : TJ) (v : Nat) : fup (onS T) v true = onS (T.enter v) := by
  funext u
  unfold onS
  show _ = decide (u ∈ T.st ++ [v])
  by_cases e : u = v
  · subst e; rw [fup_self]; simp
  · rw [fup_ne _ _ e]; simp [e]
theorem onS_close {T : TJ} {a b : List Nat} {v : Nat} (hs : T.st = a ++ v :: b) (hn : T.st.Nodup) : onH (onS T) (v :: b) = onS (T.close a b v) := by
  funext u
  unfold onS onH
  show _ = decide (u ∈ a)
  rw [hs] at hn ⊢
  rw [List.nodup_append] at hn
  by_cases e : u ∈ v :: b
  · rw [if_pos e]
    have : u ∉ a := fun h => hn.2.2 u h u e rfl
    simp [this]
  · rw [if_neg e]
    have : (u ∈ a ++ v :: b) ↔ u ∈ a := by rw [List.mem_append]; exact ⟨fun h => h.elim (fun h => h) (fun h => absurd h e), Or.inl⟩
    simp only [this]
end
end Go.Proofs.Qxb6500883aGreatDoor
