/- Overlaps. -/
import Derived.Test.Qxb6500884aClRel
namespace Go.Proofs.Qxb6500884a
open Go.RowKit
set_option linter.unusedSimpArgs false
set_option linter.unusedVariables false

def ovB (c d : List (Int × Int)) : Bool := c.any fun p => d.any fun q => decide (p.1 ≤ q.2) && decide (q.1 ≤ p.2)
theorem ovB_iff {c d : List (Int × Int)} : ovB c d = true ↔ ∃ p ∈ c, ∃ q ∈ d, p.1 ≤ q.2 ∧ q.1 ≤ p.2 := by
  unfold ovB
  simp
/-- No pair up to (i, j) meets. -/
def OV (c d : List (Int × Int)) (i j : Nat) : Prop := ∀ (i' j' : Nat) (p q : Int × Int), c[i']? = some p → d[j']? = some q → (i' < i ∨ j' < j) → ¬ (p.1 ≤ q.2 ∧ q.1 ≤ p.2)
theorem OV.stepC {c d : List (Int × Int)} {i j : Nat} {p q : Int × Int} (h : OV c d i j) (hd : Nrm d) (hp : c[i]? = some p) (hq : d[j]? = some q) (hlt : p.2 < q.1) : OV c d (i + 1) j := by
  intro i' j' a b h1 h2 h3
  by_cases h4 : i' < i ∨ j' < j
  · exact h i' j' a b h1 h2 h4
  · have hi : i' = i := by omega
    subst hi
    rw [hp] at h1
    cases h1
    have hqr := hd.rng q (List.mem_of_getElem? hq)
    rcases Nat.lt_or_ge j j' with h5 | h5
    · have := hd.later h5 hq h2; omega
    · have hj : j' = j := by omega
      subst hj
      rw [hq] at h2
      cases h2
      omega
theorem OV.stepD {c d : List (Int × Int)} {i j : Nat} {p q : Int × Int} (h : OV c d i j) (hc : Nrm c) (hp : c[i]? = some p) (hq : d[j]? = some q) (hlt : q.2 < p.1) : OV c d i (j + 1) := by
  intro i' j' a b h1 h2 h3
  by_cases h4 : i' < i ∨ j' < j
  · exact h i' j' a b h1 h2 h4
  · have hj : j' = j := by omega
    subst hj
    rw [hq] at h2
    cases h2
    have hpr := hc.rng p (List.mem_of_getElem? hp)
    rcases Nat.lt_or_ge i i' with h5 | h5
    · have := hc.later h5 hp h1; omega
    · have hi : i' = i := by omega
      subst hi
      rw [hp] at h1
      cases h1
      omega
theorem OV.fin {c d : List (Int × Int)} {i j : Nat} (h : OV c d i j) (he : c.length ≤ i ∨ d.length ≤ j) : ovB c d = false := by
  rw [Bool.eq_false_iff]
  intro hm
  obtain ⟨p, h1, q, h2, h3⟩ := ovB_iff.1 hm
  obtain ⟨i', h5⟩ := List.mem_iff_getElem?.1 h1
  obtain ⟨j', h6⟩ := List.mem_iff_getElem?.1 h2
  have h7 := (List.getElem?_eq_some_iff.1 h5).1
  have h8 := (List.getElem?_eq_some_iff.1 h6).1
  exact h i' j' p q h5 h6 (by omega) h3
set_option maxRecDepth 100000 in
set_option maxHeartbeats 2000000 in
theorem overlaps_walk (a1 : Option Addr) (n1 c1 : Nat) (l1 : List (Int × Int)) (a2 : Option Addr) (n2 c2 : Nat) (l2 : List (Int × Int)) (w : World) (hr1 : IvRow w a1 n1 c1 l1) (hr2 : IvRow w a2 n2 c2 l2) (hN1 : Nrm l1) (hN2 : Nrm l2) :
    Calls Try.prog 33 #[.agg #[.slice a1 n1 c1], .agg #[.slice a2 n2 c2]] w fun e w' => e = .returned (.bool (ovB l1 l2)) ∧ Below w.heap.size w w' := by
  have HR1 := hid hr1
  have HR2 := hid hr2
  have hl1 := hr1.len
  have hl2 := hr2.len
  have hs1 := hN1.short
  have hs2 := hN2.short
  clear hr1 hr2
  obtain ⟨q, hq⟩ : ∃ q, w.heap.size = q := ⟨_, rfl⟩
  have HO0 := hid (Bb.two w (.slice a1 n1 c1) (.slice a2 n2 c2) hq)
  obtain ⟨q2, hq2⟩ : ∃ q2, q + 1 = q2 := ⟨_, rfl⟩
  rw [hq2] at HO0
  obtain ⟨K, hK⟩ : ∃ K, [(q, [Value.slice a1 n1 c1]), (q2, [.slice a2 n2 c2])] = K := ⟨_, rfl⟩
  rw [hK] at HO0
  have Hk1 : Hid ((q, [Value.slice a1 n1 c1]) ∈ K) := hid (by rw [← hK]; simp)
  have Hk2 : Hid ((q2, [Value.slice a2 n2 c2]) ∈ K) := hid (by rw [← hK]; simp)
  have Hq2 := hid hq2
  obtain ⟨B, hB⟩ : ∃ B, ovB l1 l2 = B := ⟨_, rfl⟩
  have HBv := hid hB
  rw [hB]
  clear hK hB
  go_enter Try.func33, Try.ntmps33
  go_upto_region 1 with fail
  generalize (w.alloc (.cells #[Value.slice a1 n1 c1] 30)).alloc (.cells #[Value.slice a2 n2 c2] 30) = w1 at HO0 ⊢
  clear hq2
  go_wp2_with fail
  go_loopw [5, 6] (fun i j wr => ∃ (i' j' : Nat), i' ≤ n1 ∧ j' ≤ n2 ∧ i = .int .i64 i' ∧ j = .int .i64 j' ∧ Hid (OV l1 l2 i' j') ∧ Hid (Bb w K wr)) (fun i j _ => (n1 - (intOf i).toNat) + (n2 - (intOf j).toNat))
  case atStart => exact ⟨0, 0, Nat.zero_le _, Nat.zero_le _, rfl, rfl, hid (fun i' j' p q _ _ h => by omega), HO0⟩
  case round =>
    clear HO0
    obtain ⟨i, j, hi, hj, rfl, rfl, HV, HO⟩ := hrel
    have b1 : wr.cell? ⟨q, 0, none⟩ = some (.slice a1 n1 c1) := (HO.out.keep _ Hk1.out).cell 0
    have b2 : wr.cell? ⟨q2, 0, none⟩ = some (.slice a2 n2 c2) := (HO.out.keep _ Hk2.out).cell 0
    by_cases hlt : i < n1 ∧ j < n2
    rotate_left
    · as_aux_lemma =>
      have hb0 : B = false := by rw [← HBv.out]; exact HV.out.fin (by omega)
      subst hb0
      by_cases hi1 : i < n1
      · have d1 : decide ((i : Int) < (n1 : Int)) = true := decide_eq_true (by omega)
        have d2 : decide ((j : Int) < (n2 : Int)) = false := decide_eq_false (by omega)
        go_wp2
        go_ret
        exact ⟨rfl, by have h := HO.out.bel; first | exact h | (rw [hq] at h; exact h)⟩
      · have d1 : decide ((i : Int) < (n1 : Int)) = false := decide_eq_false (by omega)
        go_wp2
        go_ret
        exact ⟨rfl, by have h := HO.out.bel; first | exact h | (rw [hq] at h; exact h)⟩
    obtain ⟨hi1, hj1⟩ := hlt
    have d1 : decide ((i : Int) < (n1 : Int)) = true := decide_eq_true (by omega)
    have d2 : decide ((j : Int) < (n2 : Int)) = true := decide_eq_true (by omega)
    have i1 : (i : Int) < (n1 : Int) := by omega
    have i2 : (j : Int) < (n2 : Int) := by omega
    obtain ⟨p, hp, f1, f2, bA, offA, rfl, hbA, e1, e2⟩ := (HR1.out.below HO.out.bel).get hi1
    obtain ⟨p', hp', g1, g2, bB, offB, rfl, hbB, e3, e4⟩ := (HR2.out.below HO.out.bel).get hj1
    obtain ⟨x, y⟩ := p
    obtain ⟨x', y'⟩ := p'
    have Hp := hid hp
    have Hp' := hid hp'
    dsimp only at e1 e2 e3 e4
    have r1 : ∀ nn, (wr.drewN nn).cell? ⟨q, 0, none⟩ = some (.slice (some ⟨bA, offA, none⟩) n1 c1) := fun nn => b1
    have r2 : ∀ nn, (wr.drewN nn).cell? ⟨q2, 0, none⟩ = some (.slice (some ⟨bB, offB, none⟩) n2 c2) := fun nn => b2
    have r3 : ∀ nn, (wr.drewN nn).cell? ⟨bA, offA + i * 2, none⟩ = some (.int .i64 x) := fun nn => e1
    have r4 : ∀ nn, (wr.drewN nn).cell? ⟨bA, offA + i * 2 + 1, none⟩ = some (.int .i64 y) := fun nn => e2
    have r5 : ∀ nn, (wr.drewN nn).cell? ⟨bB, offB + j * 2, none⟩ = some (.int .i64 x') := fun nn => e3
    have r6 : ∀ nn, (wr.drewN nn).cell? ⟨bB, offB + j * 2 + 1, none⟩ = some (.int .i64 y') := fun nn => e4
    clear hp hp'
    go_upto_region 4 with fail
    by_cases hA : y < x'
    · as_aux_lemma =>
      have dA : decide (y < x') = true := decide_eq_true hA
      have HV2 := hid (HV.out.stepC hN2 Hp.out Hp'.out hA)
      go_quiet (fail)
      have HO2 := hid (HO.out.below (Drew.below ⟨nq, rfl⟩ _))
      generalize wr.drewN nq = wd at HO2 ⊢
      clear r1 r2 r3 r4 r5 r6
      go_wp2
      exact ⟨⟨i + 1, j, by omega, by omega, by go_num, rfl, HV2, HO2⟩, by simp [intOf]; omega⟩
    have dA : decide (y < x') = false := decide_eq_false hA
    go_quiet (fail)
    have HO2 := hid (HO.out.below (Drew.below ⟨nq, rfl⟩ _))
    have z1 : ∀ nn, ((wr.drewN nq).drewN nn).cell? ⟨q, 0, none⟩ = some (.slice (some ⟨bA, offA, none⟩) n1 c1) := fun nn => b1
    have z2 : ∀ nn, ((wr.drewN nq).drewN nn).cell? ⟨q2, 0, none⟩ = some (.slice (some ⟨bB, offB, none⟩) n2 c2) := fun nn => b2
    have z3 : ∀ nn, ((wr.drewN nq).drewN nn).cell? ⟨bA, offA + i * 2, none⟩ = some (.int .i64 x) := fun nn => e1
    have z6 : ∀ nn, ((wr.drewN nq).drewN nn).cell? ⟨bB, offB + j * 2 + 1, none⟩ = some (.int .i64 y') := fun nn => e4
    generalize wr.drewN nq = wd at HO2 z1 z2 z3 z6 ⊢
    clear r1 r2 r3 r4 r5 r6 e1 e2 e3 e4 b1 b2
    go_upto_region 6 with fail
    by_cases hB : y' < x
    · as_aux_lemma =>
      have dB : decide (y' < x) = true := decide_eq_true hB
      have HV2 := hid (HV.out.stepD hN1 Hp.out Hp'.out hB)
      go_quiet (fail)
      have HO3 := hid (HO2.out.below (Drew.below ⟨nq, rfl⟩ _))
      generalize wd.drewN nq = we at HO3 ⊢
      clear z1 z2 z3 z6
      go_wp2
      exact ⟨⟨i, j + 1, by omega, by omega, rfl, by go_num, HV2, HO3⟩, by simp [intOf]; omega⟩
    · as_aux_lemma =>
      have dB : decide (y' < x) = false := decide_eq_false hB
      have hb0 : B = true := by
        rw [← HBv.out]
        exact ovB_iff.2 ⟨(x, y), List.mem_of_getElem? Hp.out, (x', y'), List.mem_of_getElem? Hp'.out, by show x ≤ y'; omega, by show x' ≤ y; omega⟩
      subst hb0
      go_quiet (fail)
      have HO3 := hid (HO2.out.below (Drew.below ⟨nq, rfl⟩ _))
      generalize wd.drewN nq = we at HO3 ⊢
      clear z1 z2 z3 z6
      go_wp2
      go_ret
      exact ⟨rfl, by have h := HO3.out.bel; first | exact h | (rw [hq] at h; exact h)⟩
end Go.Proofs.Qxb6500884a
