/- SubsetOf. -/
import Derived.Test.Qxb6500884aClDifW
import Derived.Test.Qxb6500884aClRel
namespace Go.Proofs.Qxb6500884a
open Go.RowKit
set_option linter.unusedSimpArgs false
set_option linter.unusedVariables false

def subB (c d : List (Int × Int)) : Bool := c.all fun p => d.any fun q => decide (q.1 ≤ p.1) && decide (p.2 ≤ q.2)
theorem subB_iff {c d : List (Int × Int)} : subB c d = true ↔ ∀ p ∈ c, ∃ q ∈ d, q.1 ≤ p.1 ∧ p.2 ≤ q.2 := by
  unfold subB
  simp
/-- The first k fit; the first j end before all that are still to come. -/
structure SB (c d : List (Int × Int)) (k j : Nat) : Prop where
  fit : ∀ (i : Nat) (p : Int × Int), i < k → c[i]? = some p → ∃ q ∈ d, q.1 ≤ p.1 ∧ p.2 ≤ q.2
  past : ∀ (j' : Nat) (q : Int × Int) (i : Nat) (p : Int × Int), j' < j → d[j']? = some q → k ≤ i → c[i]? = some p → q.2 < p.2
theorem SB.zero (c d : List (Int × Int)) : SB c d 0 0 := ⟨fun i p h => by omega, fun j' q i p h => by omega⟩
theorem SB.over {c d : List (Int × Int)} {k j : Nat} {r q : Int × Int} (h : SB c d k j) (hc : Nrm c) (hr : c[k]? = some r) (hq : d[j]? = some q) (hlt : q.2 < r.2) : SB c d k (j + 1) := by
  refine ⟨h.fit, fun j' q' i p h1 h2 h3 h4 => ?_⟩
  by_cases hj : j' < j
  · exact h.past j' q' i p hj h2 h3 h4
  · have : j' = j := by omega
    subst this
    rw [hq] at h2
    cases h2
    have := hc.mono h3 hr h4
    omega
theorem SB.next {c d : List (Int × Int)} {k j : Nat} {r q : Int × Int} (h : SB c d k j) (hr : c[k]? = some r) (hq : d[j]? = some q) (h1 : q.1 ≤ r.1) (h2 : r.2 ≤ q.2) : SB c d (k + 1) j := by
  refine ⟨fun i p hi hp => ?_, fun j' q' i p h3 h4 h5 h6 => h.past j' q' i p h3 h4 (by omega) h6⟩
  by_cases hik : i < k
  · exact h.fit i p hik hp
  · have : i = k := by omega
    subst this
    rw [hr] at hp
    cases hp
    exact ⟨q, List.mem_of_getElem? hq, h1, h2⟩
theorem SB.fail {c d : List (Int × Int)} {k j : Nat} {r : Int × Int} (h : SB c d k j) (hd : Nrm d) (hr : c[k]? = some r) (hlo : ∀ q, d[j]? = some q → r.1 < q.1) : subB c d = false := by
  rw [Bool.eq_false_iff]
  intro hm
  obtain ⟨q, hq, h1, h2⟩ := subB_iff.1 hm r (List.mem_of_getElem? hr)
  obtain ⟨j', hj'⟩ := List.mem_iff_getElem?.1 hq
  by_cases hlt : j' < j
  · have := h.past j' q k r hlt hj' (Nat.le_refl _) hr
    omega
  · have hl := (List.getElem?_eq_some_iff.1 hj').1
    obtain ⟨q0, hq0⟩ : ∃ q0, d[j]? = some q0 := ⟨_, List.getElem?_eq_getElem (by omega)⟩
    have h3 := hlo q0 hq0
    have h4 := hd.rng q0 (List.mem_of_getElem? hq0)
    rcases Nat.lt_or_ge j j' with h5 | h5
    · have := hd.later h5 hq0 hj'
      omega
    · have : j' = j := by omega
      subst this
      rw [hq0] at hj'
      cases hj'
      omega
theorem SB.fin {c d : List (Int × Int)} {k j : Nat} (h : SB c d k j) (hk : c.length ≤ k) : subB c d = true := by
  rw [subB_iff]
  intro p hp
  obtain ⟨i, hi⟩ := List.mem_iff_getElem?.1 hp
  exact h.fit i p (by have := (List.getElem?_eq_some_iff.1 hi).1; omega) hi
/-- Is there a j-th interval that does not begin behind x. -/
def dIn (l : List (Int × Int)) (j : Nat) (x : Int) : Bool := match l[j]? with
  | some p => decide (p.1 ≤ x)
  | none => false
theorem dIn_some {l : List (Int × Int)} {j : Nat} {x : Int} {p : Int × Int} (h : l[j]? = some p) : dIn l j x = decide (p.1 ≤ x) := by unfold dIn; rw [h]
theorem dIn_none {l : List (Int × Int)} {j : Nat} {x : Int} (h : l.length ≤ j) : dIn l j x = false := by unfold dIn; rw [List.getElem?_eq_none h]
theorem dIn_true {l : List (Int × Int)} {j : Nat} {x : Int} (h : dIn l j x = true) : ∃ p, l[j]? = some p ∧ p.1 ≤ x := by
  unfold dIn at h
  split at h
  · rename_i p hp; exact ⟨p, hp, of_decide_eq_true h⟩
  · cases h
theorem dIn_false {l : List (Int × Int)} {j : Nat} {x : Int} (h : dIn l j x = false) : ∀ q, l[j]? = some q → x < q.1 := by
  intro q hq
  rw [dIn_some hq] at h
  have := of_decide_eq_false h
  omega
set_option maxRecDepth 100000 in
set_option maxHeartbeats 4000000 in
theorem subset_walk (a1 : Option Addr) (n1 c1 : Nat) (l1 : List (Int × Int)) (a2 : Option Addr) (n2 c2 : Nat) (l2 : List (Int × Int)) (w : World) (hr1 : IvRow w a1 n1 c1 l1) (hr2 : IvRow w a2 n2 c2 l2) (hN1 : Nrm l1) (hN2 : Nrm l2) :
    Calls Try.prog 32 #[.agg #[.slice a1 n1 c1], .agg #[.slice a2 n2 c2]] w fun e w' => e = .returned (.bool (subB l1 l2)) ∧ Below w.heap.size w w' := by
  have HR1 := hid hr1
  have HR2 := hid hr2
  have hl1 := hr1.len
  have hl2 := hr2.len
  have hs1 := hN1.short
  have hs2 := hN2.short
  clear hr1 hr2
  obtain ⟨q, hq⟩ : ∃ q, w.heap.size = q := ⟨_, rfl⟩
  have HO0 := hid (Bb.two w (.slice a1 n1 c1) (.slice a2 n2 c2) hq)
  obtain ⟨q2, hq2⟩ : ∃ q2, q + 1 = q2 := ⟨_, rfl⟩
  rw [hq2] at HO0
  obtain ⟨K, hK⟩ : ∃ K, [(q, [Value.slice a1 n1 c1]), (q2, [.slice a2 n2 c2])] = K := ⟨_, rfl⟩
  rw [hK] at HO0
  have Hk1 : Hid ((q, [Value.slice a1 n1 c1]) ∈ K) := hid (by rw [← hK]; simp)
  have Hk2 : Hid ((q2, [Value.slice a2 n2 c2]) ∈ K) := hid (by rw [← hK]; simp)
  have Hq2 := hid hq2
  obtain ⟨B, hB⟩ : ∃ B, subB l1 l2 = B := ⟨_, rfl⟩
  have HBv := hid hB
  rw [hB]
  clear hK hB
  go_enter Try.func32, Try.ntmps32
  go_upto_region 1 with fail
  generalize (w.alloc (.cells #[Value.slice a1 n1 c1] 30)).alloc (.cells #[Value.slice a2 n2 c2] 30) = w1 at HO0 ⊢
  clear hq2
  have b1 : w1.cell? ⟨q, 0, none⟩ = some (.slice a1 n1 c1) := (HO0.out.keep _ Hk1.out).cell 0
  go_upto_region 3 with fail
  clear b1
  go_loopw [5, 11] (fun jj i wr => ∃ (k j : Nat), k ≤ n1 ∧ j ≤ n2 ∧ jj = .int .i64 j ∧ i = .int .i64 k ∧ Hid (SB l1 l2 k j) ∧ Hid (Bb w K wr)) (fun _ i _ => n1 - (intOf i).toNat)
  case atStart => exact ⟨0, 0, Nat.zero_le _, Nat.zero_le _, rfl, rfl, hid (SB.zero l1 l2), HO0⟩
  case round =>
    clear HO0
    obtain ⟨k, j, hk, hj, rfl, rfl, HS, HO⟩ := hrel
    by_cases hlt : k < n1
    rotate_left
    · as_aux_lemma =>
      have d1 : decide ((k : Int) < (n1 : Int)) = false := decide_eq_false (by omega)
      have hb0 : B = true := by rw [← HBv.out]; exact HS.out.fin (by omega)
      subst hb0
      go_wp2
      go_ret
      exact ⟨rfl, by have h := HO.out.bel; first | exact h | (rw [hq] at h; exact h)⟩
    have d1 : decide ((k : Int) < (n1 : Int)) = true := decide_eq_true (by omega)
    have i1 : (k : Int) < (n1 : Int) := by omega
    obtain ⟨p, hp, f1, f2, bA, offA, rfl, hbA, e1, e2⟩ := (HR1.out.below HO.out.bel).get hlt
    obtain ⟨x, y⟩ := p
    have hrg := hN1.rng _ (List.mem_of_getElem? hp)
    have Hp := hid hp
    dsimp only at e1 e2 hrg
    clear hp
    obtain ⟨p0, hp0⟩ : ∃ p0, wr.heap.size = p0 := ⟨_, rfl⟩
    have hbq := Blk.new wr [.int .i64 x, .int .i64 y] 67
    rw [hp0] at hbq
    have HO4 : Hid (Bb w K (wr.alloc (.cells #[.int .i64 x, .int .i64 y] 67))) := hid (HO.out.below (nbel wr _))
    have HB4 : Hid (Blk (wr.alloc (.cells #[.int .i64 x, .int .i64 y] 67)) p0 67 [.int .i64 x, .int .i64 y]) := hid hbq
    clear hbq
    go_upto_region 5 with fail
    generalize wr.alloc (.cells #[.int .i64 x, .int .i64 y] 67) = w4 at HO4 HB4 ⊢
    clear e1 e2 HO
    go_loopw [5] (fun jj wr => ∃ (j : Nat), j ≤ n2 ∧ jj = .int .i64 j ∧ Hid (SB l1 l2 k j) ∧ Hid (Bb w K wr) ∧ Hid (Blk wr p0 67 [.int .i64 x, .int .i64 y])) (fun jj _ => n2 - (intOf jj).toNat)
    case atStart => exact ⟨j, hj, rfl, HS, HO4, HB4⟩
    case round =>
      clear HO4 HB4 HS hj
      obtain ⟨j2, hj2, rfl, HS2, HO2, HB2⟩ := hrel
      have b2 : wr.cell? ⟨q2, 0, none⟩ = some (.slice a2 n2 c2) := (HO2.out.keep _ Hk2.out).cell 0
      have b3 : wr.cell? ⟨p0, 1, none⟩ = some (.int .i64 y) := HB2.out.cell 1
      go_upto_region 5 with fail
      go_cut [30] (fun v30 wc => v30 = .bool (dHi l2 j2 y) ∧ Hid (Bb w K wc) ∧ Hid (Blk wc p0 67 [.int .i64 x, .int .i64 y]))
      case first =>
        as_aux_lemma =>
        by_cases hj3 : j2 < n2
        · obtain ⟨p', hp', g1, g2, bB, offB, rfl, hbB, e3, e4⟩ := (HR2.out.below HO2.out.bel).get hj3
          obtain ⟨x', y'⟩ := p'
          dsimp only at e3 e4
          have d2 : decide ((j2 : Int) < (n2 : Int)) = true := decide_eq_true (by omega)
          have i2 : (j2 : Int) < (n2 : Int) := by omega
          have Hd : Hid (dHi l2 j2 y = decide (y' < y)) := hid (dHi_some hp')
          have r2 : ∀ nn, (wr.drewN nn).cell? ⟨q2, 0, none⟩ = some (.slice (some ⟨bB, offB, none⟩) n2 c2) := fun nn => b2
          have r3 : ∀ nn, (wr.drewN nn).cell? ⟨p0, 1, none⟩ = some (.int .i64 y) := fun nn => b3
          have r6 : ∀ nn, (wr.drewN nn).cell? ⟨bB, offB + j2 * 2 + 1, none⟩ = some (.int .i64 y') := fun nn => e4
          clear hp'
          obtain ⟨dA, hdA⟩ : ∃ dA, decide (y' < y) = dA := ⟨_, rfl⟩
          cases dA with
          | true =>
            go_quiet (fail)
            go_wp2_with fail
            go_meet
            case rel => exact ⟨by rw [Hd.out, hdA], hid (HO2.out.below (Drew.below ⟨nq, rfl⟩ _)), hid (HB2.out.drewN nq)⟩
          | false =>
            go_quiet (fail)
            go_wp2_with fail
            go_meet
            case rel => exact ⟨by rw [Hd.out, hdA], hid (HO2.out.below (Drew.below ⟨nq, rfl⟩ _)), hid (HB2.out.drewN nq)⟩
        · have d2 : decide ((j2 : Int) < (n2 : Int)) = false := decide_eq_false (by omega)
          have Hd : Hid (dHi l2 j2 y = false) := hid (dHi_none (by omega))
          have r2 : ∀ nn, (wr.drewN nn).cell? ⟨q2, 0, none⟩ = some (.slice a2 n2 c2) := fun nn => b2
          go_quiet (fail)
          go_wp2_with fail
          go_meet
          case rel => exact ⟨by rw [Hd.out], hid (HO2.out.below (Drew.below ⟨nq, rfl⟩ _)), hid (HB2.out.drewN nq)⟩
      case rest =>
      obtain ⟨rfl, HOc, HBc⟩ := hcut
      clear b2 b3 HO2 HB2
      cases hB : dHi l2 j2 y with
      | true =>
        as_aux_lemma =>
        obtain ⟨p', hp', hlt'⟩ := dHi_true hB
        have hj4 := (List.getElem?_eq_some_iff.1 hp').1
        have HS3 := hid (HS2.out.over hN1 Hp.out hp' hlt')
        clear hp' hB
        go_wp2
        exact ⟨⟨j2 + 1, by omega, by go_num, HS3, HOc, HBc⟩, by simp [intOf]; omega⟩
      | false =>
      have Hge := hid (dHi_false hN2 hB)
      have b2 : wc.cell? ⟨q2, 0, none⟩ = some (.slice a2 n2 c2) := (HOc.out.keep _ Hk2.out).cell 0
      have b3 : wc.cell? ⟨p0, 0, none⟩ = some (.int .i64 x) := HBc.out.cell 0
      clear hB
      go_upto_region 7 with fail
      go_cut [48] (fun v48 we => v48 = .bool (!dIn l2 j2 x) ∧ Hid (Bb w K we))
      case first =>
        as_aux_lemma =>
        by_cases hj3 : j2 < n2
        · obtain ⟨p', hp', g1, g2, bB, offB, rfl, hbB, e3, e4⟩ := (HR2.out.below HOc.out.bel).get hj3
          obtain ⟨x', y'⟩ := p'
          dsimp only at e3 e4
          have d2 : ((j2 : Int) == (n2 : Int)) = false := by simp; omega
          have d2' : (j2 == n2) = false := by simp; omega
          have i2 : (j2 : Int) < (n2 : Int) := by omega
          have Hd : Hid (dIn l2 j2 x = decide (x' ≤ x)) := hid (dIn_some hp')
          have r2 : ∀ nn, (wc.drewN nn).cell? ⟨q2, 0, none⟩ = some (.slice (some ⟨bB, offB, none⟩) n2 c2) := fun nn => b2
          have r3 : ∀ nn, (wc.drewN nn).cell? ⟨p0, 0, none⟩ = some (.int .i64 x) := fun nn => b3
          have r6 : ∀ nn, (wc.drewN nn).cell? ⟨bB, offB + j2 * 2, none⟩ = some (.int .i64 x') := fun nn => e3
          clear hp'
          obtain ⟨dA, hdA⟩ : ∃ dA, decide (x < x') = dA := ⟨_, rfl⟩
          have Hd2 : Hid ((!dIn l2 j2 x) = dA) := hid (by
            rw [Hd.out, ← hdA]
            by_cases h : x < x'
            · rw [decide_eq_true h, decide_eq_false (show ¬ x' ≤ x by omega)]; rfl
            · rw [decide_eq_false h, decide_eq_true (show x' ≤ x by omega)]; rfl)
          cases dA with
          | true =>
            go_quiet (fail)
            go_wp2_with fail
            go_meet
            case rel => exact ⟨by rw [Hd2.out], hid (HOc.out.below (Drew.below ⟨nq, rfl⟩ _))⟩
          | false =>
            go_quiet (fail)
            go_wp2_with fail
            go_meet
            case rel => exact ⟨by rw [Hd2.out], hid (HOc.out.below (Drew.below ⟨nq, rfl⟩ _))⟩
        · have d2 : ((j2 : Int) == (n2 : Int)) = true := by simp; omega
          have d2' : (j2 == n2) = true := by simp; omega
          have Hd : Hid (dIn l2 j2 x = false) := hid (dIn_none (by omega))
          have r2 : ∀ nn, (wc.drewN nn).cell? ⟨q2, 0, none⟩ = some (.slice a2 n2 c2) := fun nn => b2
          go_quiet (fail)
          go_wp2_with fail
          go_meet
          case rel => exact ⟨by rw [Hd.out]; rfl, hid (HOc.out.below (Drew.below ⟨nq, rfl⟩ _))⟩
      case rest =>
      obtain ⟨rfl, HOe⟩ := hcut
      clear b2 b3 HOc HBc
      cases hC : dIn l2 j2 x with
      | true =>
        as_aux_lemma =>
        obtain ⟨p', hp', hle'⟩ := dIn_true hC
        have HS3 := hid (HS2.out.next Hp.out hp' hle' (Hge.out j2 p' (Nat.le_refl _) hp'))
        clear hp' hC
        go_wp2
        exact ⟨⟨k + 1, j2, by omega, by omega, rfl, by go_num, HS3, HOe⟩, by simp [intOf]; omega⟩
      | false =>
        as_aux_lemma =>
        have hb0 : B = false := by rw [← HBv.out]; exact HS2.out.fail hN2 Hp.out (dIn_false hC)
        subst hb0
        clear hC
        go_wp2
        go_ret
        exact ⟨rfl, by have h := HOe.out.bel; first | exact h | (rw [hq] at h; exact h)⟩
end Go.Proofs.Qxb6500884a
