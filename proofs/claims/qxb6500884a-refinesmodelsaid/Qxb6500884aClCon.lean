/- Contains. -/
import Derived.Test.Qxb6500884aClEasy
namespace Go.Proofs.Qxb6500884a
open Go.RowKit
set_option linter.unusedSimpArgs false
set_option linter.unusedVariables false

def memB (l : List (Int × Int)) (x : Int) : Bool := l.any fun p => decide (p.1 ≤ x) && decide (x ≤ p.2)
theorem memB_iff {l : List (Int × Int)} {x : Int} : memB l x = true ↔ ∃ p ∈ l, p.1 ≤ x ∧ x ≤ p.2 := by
  unfold memB
  rw [List.any_eq_true]
  simp
theorem Nrm.far {l : List (Int × Int)} (h : Nrm l) : ∀ (d i : Nat) (p q : Int × Int), l[i]? = some p → l[i + 1 + d]? = some q → p.2 + 1 < q.1 := by
  intro d
  induction d with
  | zero => intro i p q hp hq; exact h.gap i p q hp hq
  | succ d ih =>
    intro i p q hp hq
    have hlt := (List.getElem?_eq_some_iff.1 hq).1
    obtain ⟨r, hr⟩ : ∃ r, l[i + 1 + d]? = some r := ⟨_, List.getElem?_eq_getElem (by omega)⟩
    have h1 := ih i p r hp hr
    have h2 := h.gap (i + 1 + d) r q hr (by rw [show i + 1 + d + 1 = i + 1 + (d + 1) by omega]; exact hq)
    have h3 := h.rng r (List.mem_of_getElem? hr)
    omega
/-- The search's end. -/
theorem con_end {l : List (Int × Int)} (h : Nrm l) {x : Int} {k : Nat} (h1 : ∀ (i : Nat) (p : Int × Int), i < k → l[i]? = some p → p.2 < x) (h2 : ∀ (i : Nat) (p : Int × Int), k ≤ i → l[i]? = some p → x ≤ p.2) :
    (∀ p, l[k]? = some p → memB l x = decide (p.1 ≤ x)) ∧ (l.length ≤ k → memB l x = false) := by
  constructor
  · intro p hp
    rw [Bool.eq_iff_iff, memB_iff, decide_eq_true_iff]
    constructor
    · rintro ⟨q, hq, hq1, hq2⟩
      obtain ⟨i, hi⟩ := List.mem_iff_getElem?.1 hq
      rcases Nat.lt_trichotomy i k with h3 | h3 | h3
      · have := h1 i q h3 hi; omega
      · subst h3; rw [hp] at hi; cases hi; exact hq1
      · have h4 := h.far (i - k - 1) k p q hp (by rw [show k + 1 + (i - k - 1) = i by omega]; exact hi)
        have := h2 k p (Nat.le_refl _) hp
        omega
    · intro h3
      exact ⟨p, List.mem_of_getElem? hp, h3, h2 k p (Nat.le_refl _) hp⟩
  · intro hk
    rw [Bool.eq_false_iff]
    intro hm
    obtain ⟨q, hq, hq1, hq2⟩ := memB_iff.1 hm
    obtain ⟨i, hi⟩ := List.mem_iff_getElem?.1 hq
    have := h1 i q (by have := (List.getElem?_eq_some_iff.1 hi).1; omega) hi
    omega
theorem Nrm.mono {l : List (Int × Int)} (h : Nrm l) {i j : Nat} {p q : Int × Int} (hij : i ≤ j) (hp : l[i]? = some p) (hq : l[j]? = some q) : p.2 ≤ q.2 := by
  rcases Nat.lt_or_ge i j with h1 | h1
  · have h2 := h.far (j - i - 1) i p q hp (by rw [show i + 1 + (j - i - 1) = j by omega]; exact hq)
    have h3 := h.rng q (List.mem_of_getElem? hq)
    omega
  · have : i = j := by omega
    subst this
    rw [hp] at hq
    cases hq
    omega
set_option maxRecDepth 100000 in
set_option maxHeartbeats 1000000 in
theorem contains_walk (a : Option Addr) (n c : Nat) (l : List (Int × Int)) (x : Int) (w : World) (hr : IvRow w a n c l) (hN : Nrm l) :
    Calls Try.prog 18 #[.agg #[.slice a n c], .int .i64 x] w fun e w' => e = .returned (.bool (memB l x)) ∧ Below w.heap.size w w' := by
  have hl := hr.len
  have hn := hr.1.2.2.1.1
  obtain ⟨q, hq⟩ : ∃ q, w.heap.size = q := ⟨_, rfl⟩
  have hb1 := Blk.new w [.slice a n c] 30
  rw [hq] at hb1
  have HR1 := hid (hr.below (nbel w (.cells [Value.slice a n c].toArray 30)))
  have HB1 := hid (nbel w (.cells [Value.slice a n c].toArray 30))
  obtain ⟨w1, hw1⟩ : ∃ w1, w.alloc (.cells #[.slice a n c] 30) = w1 := ⟨_, rfl⟩
  have hw1' : w.alloc (.cells [Value.slice a n c].toArray 30) = w1 := hw1
  rw [hw1'] at hb1 HR1 HB1
  have c0 : ∀ nn, (w1.drewN nn).cell? ⟨q, 0, none⟩ = some (.slice a n c) := fun nn => (hb1.drewN nn).cell 0
  have HBk := hid hb1
  obtain ⟨B, hB⟩ : ∃ B, memB l x = B := ⟨_, rfl⟩
  have HBv := hid hB
  rw [hB]
  clear hr hb1 hw1' hB
  go_enter Try.func18, Try.ntmps18
  go_upto_region 1 with fail
  try simp only [hw1]
  clear hw1
  go_quiet (fail)
  have HR2 := hid (HR1.out.below (Drew.below ⟨nq, rfl⟩ _))
  have HB2 : Hid (Below w.heap.size w (w1.drewN nq)) := hid (HB1.out.trans (Drew.below ⟨nq, rfl⟩ _))
  have c1 : (w1.drewN nq).cell? ⟨q, 0, none⟩ = some (.slice a n c) := c0 nq
  generalize w1.drewN nq = w2 at HR2 HB2 c1 ⊢
  clear c0 HR1 HB1
  go_wp2_with fail
  go_loopw [5, 6] (fun u v wr => wr = w2 ∧ ∃ (lo hi : Nat), lo ≤ hi ∧ hi ≤ n ∧ u = .int .i64 lo ∧ v = .int .i64 hi ∧ Hid (∀ (i : Nat) (p : Int × Int), i < lo → l[i]? = some p → p.2 < x) ∧ Hid (∀ (i : Nat) (p : Int × Int), hi ≤ i → l[i]? = some p → x ≤ p.2)) (fun u v _ => (intOf v).toNat - (intOf u).toNat)
  case atStart => exact ⟨rfl, 0, n, by omega, by omega, rfl, rfl, hid (fun i p h => by omega), hid (fun i p h hp => by have := (List.getElem?_eq_some_iff.1 hp).1; omega)⟩
  case round =>
    obtain ⟨rfl, lo, hi, h1, h2, rfl, rfl, HLo, HHi⟩ := hrel
    by_cases hlt : lo < hi
    rotate_left
    · have hle : lo = hi := by omega
      subst hle
      have dl : decide ((lo : Int) < (lo : Int)) = false := decide_eq_false (by omega)
      have hce := con_end hN HLo.out HHi.out
      by_cases hn2 : lo < n
      · obtain ⟨p, hp, f1, f2, b, off, rfl, hb, e1, e2⟩ := HR2.out.get hn2
        have hB2 := hce.1 p hp
        rw [HBv.out] at hB2
        have dn : decide ((lo : Int) < (n : Int)) = true := decide_eq_true (by omega)
        have i1 : (lo : Int) < (n : Int) := by omega
        have HB3 := hid hB2
        clear hce hB2
        go_wp2
        go_ret
        exact ⟨by rw [HB3.out]; rfl, HB2.out⟩
      · have hB2 := hce.2 (by omega)
        rw [HBv.out] at hB2
        have dn : decide ((lo : Int) < (n : Int)) = false := decide_eq_false (by omega)
        have HB3 := hid hB2
        clear hce hB2
        go_wp2
        go_ret
        exact ⟨by rw [HB3.out]; rfl, HB2.out⟩
    · have dl : decide ((lo : Int) < (hi : Int)) = true := decide_eq_true (by omega)
      obtain ⟨m, hm⟩ : ∃ m, (lo + hi) / 2 = m := ⟨_, rfl⟩
      obtain ⟨p, hp, f1, f2, b, off, rfl, hb, e1, e2⟩ := HR2.out.get (show m < n by omega)
      have hm' : ((lo : Int) + (hi : Int)) / 2 = (m : Int) := by omega
      have i1 : (m : Int) < (n : Int) := by omega
      have Hp := hid hp
      clear hp
      go_upto_region 4 with fail
      try simp only [hm']
      by_cases hpx : p.2 < x
      · have d1 : decide (p.2 < x) = true := decide_eq_true hpx
        have HL2 : Hid (∀ (i : Nat) (q : Int × Int), i < m + 1 → l[i]? = some q → q.2 < x) := hid (fun i q hi2 hq => by
          have := hN.mono (show i ≤ m by omega) hq Hp.out
          omega)
        go_wp2
        exact ⟨⟨by first | rfl | trivial, m + 1, hi, by omega, by omega, by go_num, rfl, HL2, HHi⟩, by simp [intOf]; omega⟩
      · have d1 : decide (p.2 < x) = false := decide_eq_false hpx
        have HH2 : Hid (∀ (i : Nat) (q : Int × Int), m ≤ i → l[i]? = some q → x ≤ q.2) := hid (fun i q hi2 hq => by
          have := hN.mono hi2 Hp.out hq
          omega)
        go_wp2
        exact ⟨⟨by first | rfl | trivial, lo, m, by omega, by omega, rfl, rfl, HLo, HH2⟩, by simp [intOf]; omega⟩
end Go.Proofs.Qxb6500884a
