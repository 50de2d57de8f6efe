/- run. -/
import Derived.Test.Qxb6500883aGreatDoorScDf
namespace Go.Proofs.Qxb6500883aGreatDoor
open Go.RowKit
set_option linter.unusedSimpArgs false
set_option linter.unusedVariables false
section
variable {σ σ' σ'' : Rl} {w w' w1 w2 : World} {L : FL} {A : Gr} {va : Value} {T T' : TJ} {on on' : Nat → Bool} {vs vz vo vs' vz' vo' : Value}
/-- The search has come to node i. -/
def RS (σ : Rl) (w : World) (L : FL) (A : Gr) (va : Value) (i : Nat) (w' : World) : Prop :=
  ∃ (σ' : Rl) (vs vz vo : Value) (T : TJ), FM σ' w' L A va T (onS T) vs vz vo ∧ Fr XF σ w σ' w' ∧ (∀ g, σ' g ≠ 40) ∧ JI A T [] ∧ ∀ u, u < i → T.ix u ≠ 0
set_option maxRecDepth 100000 in
set_option maxHeartbeats 1000000 in
theorem runW (h : FM σ w L A va T (onS T) vs vz vo) (h40 : ∀ g, σ g ≠ 40) (hJ : JI A T []) (hA : GrOk A) (hn : A.length ≤ 65536) (hfl : A.flatten.length ≤ 200000) :
    Calls Tryz.prog 89 #[.pointer (some ⟨L.sB, 0, none⟩)] w fun e w' => e = .returned (.tuple #[]) ∧ Hid (RS σ w L A va A.length w') := by
  have HA := hid hA
  have Hfl := hid hfl
  obtain ⟨n, hn'⟩ : ∃ n, A.length = n := ⟨_, rfl⟩
  have Hn := hid hn'
  have hcl := h.cells
  rw [hn'] at hcl hn ⊢
  obtain ⟨c0, cg0, cg1, ci, cl, co⟩ := hcl
  have HS : Hid (RS σ w L A va 0 w) := hid ⟨σ, vs, vz, vo, T, h, Fr.refl _ _ _, h40, hJ, fun u hu => absurd hu (Nat.not_lt_zero _)⟩
  clear h h40 hJ hA hfl hn'
  go_enter Tryz.func89, Tryz.ntmps89
  go_upto_region 1 with fail
  clear c0 cg0 cg1 ci cl co
  go_loopw [8] (fun t wr => ∃ i : Nat, t = .int .i64 (i : Int) ∧ i ≤ n ∧ Hid (RS σ w L A va i wr)) (fun t _ => n - (intOf t).toNat)
  case atStart => exact ⟨0, rfl, Nat.zero_le _, HS⟩
  case round =>
  clear HS
  obtain ⟨i, rfl, hi, HI⟩ := hrel
  by_cases hin : i < n
  rotate_left
  · have d1 : decide ((i : Int) < (n : Int)) = false := decide_eq_false (by omega)
    have HF : Hid (RS σ w L A va n wr) := hid (by
      have := HI.out
      rw [show i = n by omega] at this
      exact this)
    clear HI
    go_wp2
    exact bodyPost_end (v := .tuple #[]) (by simp [results, Tryz.results89, go_sem]) rfl ⟨rfl, HF⟩
  have d1 : decide ((i : Int) < (n : Int)) = true := decide_eq_true (by omega)
  have i1 : (i : Int) < (n : Int) := by omega
  obtain ⟨σ1, vs1, vz1, vo1, T1, hF, hFr, h40, hJ, hvis⟩ := HI.out
  have hcl := hF.cells
  rw [Hn.out] at hcl
  obtain ⟨c0, cg0, cg1, ci, cl, co⟩ := hcl
  obtain ⟨ix, hix⟩ : ∃ k, T1.ix i = k := ⟨_, rfl⟩
  have cix : wr.cell? ⟨L.gI, i, none⟩ = some (.int .i32 (ix : Int)) := by rw [← hix]; exact hF.i.get (by rw [Hn.out]; exact hin)
  clear HI
  by_cases hz : ix = 0
  · as_aux_lemma =>
    have d2 : ((ix : Int) == 0) = true := by simp; omega
    have HV := hid (visitW hF h40 hJ HA.out (by rw [Hn.out]; exact hn) Hfl.out (root := i) (by rw [Hn.out]; exact hin) (by rw [hix]; exact hz))
    have Hvis := hid hvis
    have HFr := hid hFr
    clear hF h40 hJ hvis hix hz hFr cg0 cg1 cl co c0
    go_wp2_with fail
    refine HV.out.mono ?_
    rintro e w4 ⟨rfl, hq4⟩
    have HF : Hid (RS σ w L A va (i + 1) w4) := hid (by
      obtain ⟨σ2, vs2, vz2, vo2, T2, k1, k2, k3, k4, k5, k6⟩ := hq4.out
      refine ⟨σ2, vs2, vz2, vo2, T2, k1, HFr.out.trans k2, k3, k4, fun u hu => ?_⟩
      by_cases e : u = i
      · subst e; exact k6
      · exact k5 u (Hvis.out u (by omega)))
    clear hq4 HV
    go_wp2
    exact ⟨⟨i + 1, by go_num, by omega, HF⟩, by simp [intOf]; omega⟩
  · as_aux_lemma =>
    have d2 : ((ix : Int) == 0) = false := by simp; omega
    have HF : Hid (RS σ w L A va (i + 1) wr) := hid (by
      refine ⟨σ1, vs1, vz1, vo1, T1, hF, hFr, h40, hJ, fun u hu => ?_⟩
      by_cases e : u = i
      · subst e; rw [hix]; exact hz
      · exact hvis u (by omega))
    clear hF hFr h40 hJ hvis hix hz cg0 cg1 cl co c0
    go_wp2
    exact ⟨⟨i + 1, by go_num, by omega, HF⟩, by simp [intOf]; omega⟩
end
end Go.Proofs.Qxb6500883aGreatDoor
