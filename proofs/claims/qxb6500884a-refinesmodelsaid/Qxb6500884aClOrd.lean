/- sign, Compare. -/
import Derived.Test.Qxb6500884aClRel
namespace Go.Proofs.Qxb6500884a
open Go.RowKit
set_option linter.unusedSimpArgs false
set_option linter.unusedVariables false

def sgn (n : Int) : Int := if n < 0 then -1 else if 0 < n then 1 else 0
def cmpIv : List (Int × Int) → List (Int × Int) → Int
  | p :: ps, q :: qs => if p.1 = q.1 then (if p.2 = q.2 then cmpIv ps qs else sgn (p.2 - q.2)) else sgn (p.1 - q.1)
  | [], qs => sgn (0 - (qs.length : Int))
  | ps, [] => sgn ((ps.length : Int) - 0)
set_option maxRecDepth 100000 in
theorem sign_walk (n : Int) (w : World) : Calls Try.prog 80 #[.int .i64 n] w fun e w' => e = .returned (.int .i64 (sgn n)) ∧ w' = w := by
  have HS : Hid (sgn n = if n < 0 then -1 else if 0 < n then 1 else 0) := hid rfl
  obtain ⟨z, hz⟩ : ∃ z, sgn n = z := ⟨_, rfl⟩
  rw [hz] at HS
  rw [hz]
  clear hz
  go_enter Try.func80, Try.ntmps80
  by_cases h1 : n < 0
  · have d1 : decide (n < 0) = true := decide_eq_true h1
    have hz : z = -1 := by rw [HS.out, if_pos h1]
    subst hz
    clear HS
    go_wp2
    go_ret
    exact ⟨rfl, rfl⟩
  have d1 : decide (n < 0) = false := decide_eq_false h1
  by_cases h2 : 0 < n
  · have d2 : decide (0 < n) = true := decide_eq_true h2
    have hz : z = 1 := by rw [HS.out, if_neg h1, if_pos h2]
    subst hz
    clear HS
    go_wp2
    go_ret
    exact ⟨rfl, rfl⟩
  · have d2 : decide (0 < n) = false := decide_eq_false h2
    have hz : z = 0 := by rw [HS.out, if_neg h1, if_neg h2]
    subst hz
    clear HS
    go_wp2
    go_ret
    exact ⟨rfl, rfl⟩
theorem cmp_drop {c d : List (Int × Int)} {k : Nat} {p q : Int × Int} (hp : c[k]? = some p) (hq : d[k]? = some q) : cmpIv (c.drop k) (d.drop k) = if p.1 = q.1 then (if p.2 = q.2 then cmpIv (c.drop (k + 1)) (d.drop (k + 1)) else sgn (p.2 - q.2)) else sgn (p.1 - q.1) := by
  have h1 := (List.getElem?_eq_some_iff.1 hp)
  have h2 := (List.getElem?_eq_some_iff.1 hq)
  obtain ⟨h1a, h1b⟩ := h1
  obtain ⟨h2a, h2b⟩ := h2
  rw [List.drop_eq_getElem_cons h1a, List.drop_eq_getElem_cons h2a, h1b, h2b]
  rfl
theorem cmp_end {c d : List (Int × Int)} {k : Nat} (hk1 : k ≤ c.length) (hk2 : k ≤ d.length) (he : c.length ≤ k ∨ d.length ≤ k) : cmpIv (c.drop k) (d.drop k) = sgn ((c.length : Int) - (d.length : Int)) := by
  rcases he with h | h
  · rw [List.drop_of_length_le h]
    show cmpIv [] _ = _
    have : cmpIv [] (d.drop k) = sgn (0 - ((d.drop k).length : Int)) := by cases d.drop k <;> rfl
    rw [this, List.length_drop]
    congr 1
    omega
  · rw [List.drop_of_length_le (l := d) h]
    have : cmpIv (c.drop k) [] = sgn (((c.drop k).length : Int) - 0) := by cases c.drop k <;> rfl
    rw [this, List.length_drop]
    congr 1
    omega
set_option maxRecDepth 100000 in
set_option maxHeartbeats 2000000 in
theorem compare_walk (a1 : Option Addr) (n1 c1 : Nat) (l1 : List (Int × Int)) (a2 : Option Addr) (n2 c2 : Nat) (l2 : List (Int × Int)) (w : World) (hr1 : IvRow w a1 n1 c1 l1) (hr2 : IvRow w a2 n2 c2 l2) (hN1 : Nrm l1) (hN2 : Nrm l2) :
    Calls Try.prog 31 #[.agg #[.slice a1 n1 c1], .agg #[.slice a2 n2 c2]] w fun e w' => e = .returned (.int .i64 (cmpIv l1 l2)) ∧ Below w.heap.size w w' := by
  have HR1 := hid hr1
  have HR2 := hid hr2
  have hl1 := hr1.len
  have hl2 := hr2.len
  have hs1 := hN1.short
  have hs2 := hN2.short
  clear hr1 hr2
  obtain ⟨q, hq⟩ : ∃ q, w.heap.size = q := ⟨_, rfl⟩
  have HO0 := hid (Bb.two w (.slice a1 n1 c1) (.slice a2 n2 c2) hq)
  obtain ⟨q2, hq2⟩ : ∃ q2, q + 1 = q2 := ⟨_, rfl⟩
  rw [hq2] at HO0
  obtain ⟨K, hK⟩ : ∃ K, [(q, [Value.slice a1 n1 c1]), (q2, [.slice a2 n2 c2])] = K := ⟨_, rfl⟩
  rw [hK] at HO0
  have Hk1 : Hid ((q, [Value.slice a1 n1 c1]) ∈ K) := hid (by rw [← hK]; simp)
  have Hk2 : Hid ((q2, [Value.slice a2 n2 c2]) ∈ K) := hid (by rw [← hK]; simp)
  have Hq2 := hid hq2
  have HSg := hid (fun n w => sign_walk n w)
  obtain ⟨B, hB⟩ : ∃ B, cmpIv l1 l2 = B := ⟨_, rfl⟩
  have HB0 : Hid (cmpIv (l1.drop 0) (l2.drop 0) = B) := hid (by simpa using hB)
  rw [hB]
  clear hK hB
  go_enter Try.func31, Try.ntmps31
  go_upto_region 1 with fail
  generalize (w.alloc (.cells #[Value.slice a1 n1 c1] 30)).alloc (.cells #[Value.slice a2 n2 c2] 30) = w1 at HO0 ⊢
  clear hq2
  go_wp2_with fail
  go_loopw [5] (fun i wr => ∃ k : Nat, k ≤ n1 ∧ k ≤ n2 ∧ i = .int .i64 k ∧ Hid (cmpIv (l1.drop k) (l2.drop k) = B) ∧ Hid (Bb w K wr)) (fun i _ => n1 - (intOf i).toNat)
  case atStart => exact ⟨0, Nat.zero_le _, Nat.zero_le _, rfl, HB0, HO0⟩
  case round =>
    clear HO0 HB0
    obtain ⟨k, hk1, hk2, rfl, HC, HO⟩ := hrel
    have b1 : wr.cell? ⟨q, 0, none⟩ = some (.slice a1 n1 c1) := (HO.out.keep _ Hk1.out).cell 0
    have b2 : wr.cell? ⟨q2, 0, none⟩ = some (.slice a2 n2 c2) := (HO.out.keep _ Hk2.out).cell 0
    by_cases hlt : k < n1 ∧ k < n2
    rotate_left
    · as_aux_lemma =>
      have hb0 : sgn ((n1 : Int) - (n2 : Int)) = B := by rw [← HC.out, cmp_end (by omega) (by omega) (by omega), hl1, hl2]
      have HSg2 := hid (HSg.out ((n1 : Int) - (n2 : Int)) wr)
      rw [hb0] at HSg2
      clear hb0
      by_cases hi1 : k < n1
      · have d1 : decide ((k : Int) < (n1 : Int)) = true := decide_eq_true (by omega)
        have d2 : decide ((k : Int) < (n2 : Int)) = false := decide_eq_false (by omega)
        go_wp2_with fail
        refine (HSg2.out).mono ?_
        rintro e w9 ⟨rfl, rfl⟩
        go_wp2
        go_ret
        exact ⟨rfl, by have h := HO.out.bel; first | exact h | (rw [hq] at h; exact h)⟩
      · have d1 : decide ((k : Int) < (n1 : Int)) = false := decide_eq_false (by omega)
        go_wp2_with fail
        refine (HSg2.out).mono ?_
        rintro e w9 ⟨rfl, rfl⟩
        go_wp2
        go_ret
        exact ⟨rfl, by have h := HO.out.bel; first | exact h | (rw [hq] at h; exact h)⟩
    obtain ⟨hi1, hj1⟩ := hlt
    have d1 : decide ((k : Int) < (n1 : Int)) = true := decide_eq_true (by omega)
    have d2 : decide ((k : Int) < (n2 : Int)) = true := decide_eq_true (by omega)
    have i1 : (k : Int) < (n1 : Int) := by omega
    have i2 : (k : Int) < (n2 : Int) := by omega
    obtain ⟨p, hp, f1, f2, bA, offA, rfl, hbA, e1, e2⟩ := (HR1.out.below HO.out.bel).get hi1
    obtain ⟨p', hp', g1, g2, bB, offB, rfl, hbB, e3, e4⟩ := (HR2.out.below HO.out.bel).get hj1
    have HCd := hid (cmp_drop hp hp')
    obtain ⟨x, y⟩ := p
    obtain ⟨x', y'⟩ := p'
    have hrg := hN1.rng _ (List.mem_of_getElem? hp)
    have hrg' := hN2.rng _ (List.mem_of_getElem? hp')
    dsimp only at e1 e2 e3 e4 hrg hrg'
    clear hp hp'
    go_upto_region 4 with fail
    go_cut [6, 7] (fun v8 v9 wc => ∃ p8 p9, v8 = .pointer (some ⟨p8, 0, none⟩) ∧ v9 = .pointer (some ⟨p9, 0, none⟩) ∧ Hid (Blk wc p8 67 [.int .i64 x, .int .i64 y]) ∧ Hid (Blk wc p9 67 [.int .i64 x', .int .i64 y']) ∧ Hid (Bb w K wc))
    case first =>
      have hq0 : q < wr.heap.size := (HO.out.keep _ Hk1.out).lt
      have hq0' : q2 < wr.heap.size := (HO.out.keep _ Hk2.out).lt
      have t1 : ∀ o, (wr.alloc o).cell? ⟨q, 0, none⟩ = some (.slice (some ⟨bA, offA, none⟩) n1 c1) := fun o => by rw [← b1]; exact (nbel wr o).cell hq0
      have t2 : ∀ o, (wr.alloc o).cell? ⟨q2, 0, none⟩ = some (.slice (some ⟨bB, offB, none⟩) n2 c2) := fun o => by rw [← b2]; exact (nbel wr o).cell hq0'
      have t3 : ∀ o, (wr.alloc o).cell? ⟨bA, offA + k * 2, none⟩ = some (.int .i64 x) := fun o => by rw [← e1]; exact (nbel wr o).cell hbA
      have t4 : ∀ o, (wr.alloc o).cell? ⟨bA, offA + k * 2 + 1, none⟩ = some (.int .i64 y) := fun o => by rw [← e2]; exact (nbel wr o).cell hbA
      have t5 : ∀ o, (wr.alloc o).cell? ⟨bB, offB + k * 2, none⟩ = some (.int .i64 x') := fun o => by rw [← e3]; exact (nbel wr o).cell hbB
      have t6 : ∀ o, (wr.alloc o).cell? ⟨bB, offB + k * 2 + 1, none⟩ = some (.int .i64 y') := fun o => by rw [← e4]; exact (nbel wr o).cell hbB
      have nb2 : ∀ o o', Below wr.heap.size wr ((wr.alloc o).alloc o') := fun o o' => (nbel wr o).alloc (by simp) o'
      have s1 : ∀ o o', ((wr.alloc o).alloc o').cell? ⟨q, 0, none⟩ = some (.slice (some ⟨bA, offA, none⟩) n1 c1) := fun o o' => by rw [← b1]; exact (nb2 o o').cell hq0
      have s2 : ∀ o o', ((wr.alloc o).alloc o').cell? ⟨q2, 0, none⟩ = some (.slice (some ⟨bB, offB, none⟩) n2 c2) := fun o o' => by rw [← b2]; exact (nb2 o o').cell hq0'
      have s3 : ∀ o o', ((wr.alloc o).alloc o').cell? ⟨bA, offA + k * 2, none⟩ = some (.int .i64 x) := fun o o' => by rw [← e1]; exact (nb2 o o').cell hbA
      have s4 : ∀ o o', ((wr.alloc o).alloc o').cell? ⟨bA, offA + k * 2 + 1, none⟩ = some (.int .i64 y) := fun o o' => by rw [← e2]; exact (nb2 o o').cell hbA
      have s5 : ∀ o o', ((wr.alloc o).alloc o').cell? ⟨bB, offB + k * 2, none⟩ = some (.int .i64 x') := fun o o' => by rw [← e3]; exact (nb2 o o').cell hbB
      have s6 : ∀ o o', ((wr.alloc o).alloc o').cell? ⟨bB, offB + k * 2 + 1, none⟩ = some (.int .i64 y') := fun o o' => by rw [← e4]; exact (nb2 o o').cell hbB
      go_region
      · go_wp2_with fail
        go_meet
        case rel =>
          have hk := blk_pair wr [.int .i64 x, .int .i64 y] [.int .i64 x', .int .i64 y'] 67 67
          exact ⟨wr.heap.size, wr.heap.size + 1, rfl, rfl, hid hk.1, hid hk.2.1, hid (HO.out.below hk.2.2)⟩
      · go_wp2_with fail
        go_meet
        case rel =>
          have hk := blk_pair wr [.int .i64 x', .int .i64 y'] [.int .i64 x, .int .i64 y] 67 67
          exact ⟨wr.heap.size + 1, wr.heap.size, rfl, rfl, hid hk.2.1, hid hk.1, hid (HO.out.below hk.2.2)⟩
    case rest =>
    obtain ⟨p8, p9, rfl, rfl, HB8, HB9, HOc⟩ := hcut
    clear e1 e2 e3 e4 b1 b2
    have m1 : wc.cell? ⟨p8, 0, none⟩ = some (.int .i64 x) := HB8.out.cell 0
    have m2 : wc.cell? ⟨p8, 1, none⟩ = some (.int .i64 y) := HB8.out.cell 1
    have m3 : wc.cell? ⟨p9, 0, none⟩ = some (.int .i64 x') := HB9.out.cell 0
    have m4 : wc.cell? ⟨p9, 1, none⟩ = some (.int .i64 y') := HB9.out.cell 1
    have HCd2 : Hid (B = if x = x' then (if y = y' then cmpIv (l1.drop (k + 1)) (l2.drop (k + 1)) else sgn (y - y')) else sgn (x - x')) := hid (by rw [← HC.out, HCd.out])
    clear HCd
    by_cases hx : x = x'
    rotate_left
    · as_aux_lemma =>
      have dx : (x != x') = true := by simpa using hx
      have HSg2 := hid (HSg.out (x - x') wc)
      rw [show sgn (x - x') = B by rw [HCd2.out, if_neg hx]] at HSg2
      clear HCd2
      go_wp2_with fail
      refine (HSg2.out).mono ?_
      rintro e w9 ⟨rfl, rfl⟩
      go_wp2
      go_ret
      exact ⟨rfl, by have h := HOc.out.bel; first | exact h | (rw [hq] at h; exact h)⟩
    subst hx
    by_cases hy : y = y'
    rotate_left
    · as_aux_lemma =>
      have dy : (y != y') = true := by simpa using hy
      have HSg2 := hid (HSg.out (y - y') wc)
      rw [show sgn (y - y') = B by rw [HCd2.out, if_pos rfl, if_neg hy]] at HSg2
      clear HCd2
      go_wp2_with fail
      refine (HSg2.out).mono ?_
      rintro e w9 ⟨rfl, rfl⟩
      go_wp2
      go_ret
      exact ⟨rfl, by have h := HOc.out.bel; first | exact h | (rw [hq] at h; exact h)⟩
    subst hy
    as_aux_lemma =>
    have HC2 : Hid (cmpIv (l1.drop (k + 1)) (l2.drop (k + 1)) = B) := hid (by rw [HCd2.out, if_pos rfl, if_pos rfl])
    clear HCd2
    go_wp2
    exact ⟨⟨k + 1, by omega, by omega, by go_num, HC2, HOc⟩, by simp [intOf]; omega⟩
end Go.Proofs.Qxb6500884a
