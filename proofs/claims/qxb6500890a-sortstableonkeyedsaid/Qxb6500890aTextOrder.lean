/- The law OrderIsTotal: the plain order's laws, and the walk. -/
import Derived.Test.Qxb6500890aTextStrs
import Derived.Test.Qxb6500890aTextCmp
namespace Go.Proofs.Qxb6500890a
open Go.RowKit
set_option linter.unusedSimpArgs false
set_option linter.unusedVariables false

theorem cmp_refl : ∀ a : List UInt8, cmpL a a = 0
  | [] => rfl
  | x :: a => by simp [cmpL, cmp_refl a]
theorem cmp_neg : ∀ a b : List UInt8, cmpL a b = -cmpL b a
  | [], [] => rfl
  | [], _ :: _ => rfl
  | _ :: _, [] => rfl
  | x :: a, y :: b => by
    simp only [cmpL]
    by_cases h : x.toNat = y.toNat
    · rw [if_pos h, if_pos h.symm]; exact cmp_neg a b
    · rw [if_neg h, if_neg (fun e : y.toNat = x.toNat => h e.symm)]
      by_cases h2 : x.toNat < y.toNat
      · rw [if_pos h2, if_neg (by omega)]
      · rw [if_neg h2, if_pos (by omega)]; rfl
theorem cmp_zero : ∀ a b : List UInt8, cmpL a b = 0 ↔ a = b
  | [], [] => by simp [cmpL]
  | [], _ :: _ => by simp [cmpL]
  | _ :: _, [] => by simp [cmpL]
  | x :: a, y :: b => by
    simp only [cmpL]
    by_cases h : x.toNat = y.toNat
    · rw [if_pos h, cmp_zero a b]
      have : x = y := UInt8.toNat_inj.1 h
      simp [this]
    · rw [if_neg h]
      have : ¬ x = y := fun e => h (by rw [e])
      split <;> simp [this]
theorem cmp_range : ∀ a b : List UInt8, -1 ≤ cmpL a b ∧ cmpL a b ≤ 1
  | [], [] => by simp [cmpL]
  | [], _ :: _ => by simp [cmpL]
  | _ :: _, [] => by simp [cmpL]
  | x :: a, y :: b => by
    simp only [cmpL]
    by_cases h : x.toNat = y.toNat
    · rw [if_pos h]; exact cmp_range a b
    · rw [if_neg h]; split <;> omega
theorem cmp_trans : ∀ a b c : List UInt8, cmpL a b ≤ 0 → cmpL b c ≤ 0 → cmpL a c ≤ 0
  | [], b, [], _, _ => by simp [cmpL]
  | [], b, _ :: _, _, _ => by simp [cmpL]
  | _ :: _, [], _, h, _ => by simp [cmpL] at h
  | x :: a, y :: b, [], _, h => by simp [cmpL] at h
  | x :: a, y :: b, z :: c, h1, h2 => by
    have ih := cmp_trans a b c
    simp only [cmpL] at h1 h2 ⊢
    by_cases e1 : x.toNat = y.toNat
    · rw [if_pos e1] at h1
      by_cases e2 : y.toNat = z.toNat
      · rw [if_pos e2] at h2; rw [if_pos (by omega)]; exact ih h1 h2
      · rw [if_neg e2] at h2
        rw [if_neg (by omega)]
        split at h2
        · rw [if_pos (by omega)]; decide
        · exact absurd h2 (by decide)
    · rw [if_neg e1] at h1
      split at h1
      · by_cases e2 : y.toNat = z.toNat
        · rw [if_neg (by omega), if_pos (by omega)]; decide
        · rw [if_neg e2] at h2
          split at h2
          · rw [if_neg (by omega), if_pos (by omega)]; decide
          · exact absurd h2 (by decide)
      · exact absurd h1 (by decide)

theorem strs_ok (w : World) (l : List TOp) (h : ∀ o ∈ l, OpOk w o) : ∀ s ∈ strsOf l, s.size ≤ 140737488351232 := by
  intro s hs
  simp only [strsOf, List.mem_flatMap] at hs
  obtain ⟨o, ho, hs⟩ := hs
  have hk := h o ho
  simp only [opStrs, List.mem_cons, List.mem_append, List.mem_map] at hs
  rcases hs with rfl | rfl | hs | ⟨r, hr, rfl⟩
  · exact hk.fs
  · exact hk.ft
  · exact hk.fl s hs
  · exact (hk.fr r hr).1

set_option maxRecDepth 100000 in
set_option maxHeartbeats 1000000 in
theorem order_walk (a : Option Addr) (n c : Nat) (l : List TOp) (w : World) (hs : Script w a n c l) :
    Calls Try.prog 8 #[.slice a n c] w fun e w' => e = .returned (.bool true) ∧ Below w.heap.size w w' := by
  have HS := hid hs
  clear hs
  go_enter Try.func8, Try.ntmps8
  go_wp2_with fail
  refine (small_walk a n c l _ HS.out).mono ?_
  rintro e w' ⟨r, rfl, rfl, hr⟩
  cases r with
  | false =>
    go_wp2
    go_ret
    exact ⟨rfl, Below.refl _ _⟩
  | true =>
    have hsm := hr rfl
    clear hr
    go_wp2_with fail
    refine (strs_walk a n c l _ HS.out hsm).mono ?_
    rintro e w1 ⟨a1, n1, c1, rfl, hrow, hb1⟩
    have HR := hid hrow
    have HB1 := hid hb1
    have hn1 : n1 ≤ 131072 := by
      have h1 := strs_take_len l n (fun o ho => ⟨(HS.out.2 o ho).list.len, (HS.out.2 o ho).recs.len⟩)
      have h2 := HS.out.1.len
      rw [List.take_of_length_le (by omega)] at h1
      have h3 := hrow.len
      omega
    have HK := hid (strs_ok _ l HS.out.2)
    clear hrow hb1
    go_wp2
    go_loopw [4] (fun i wr => ∃ k : Nat, k ≤ n1 ∧ i = .int .i64 k ∧ Drew w1 wr) (fun i _ => n1 - (intOf i).toNat)
    case atStart => exact ⟨0, Nat.zero_le _, rfl, Drew.refl _⟩
    case round =>
      obtain ⟨k, hk, rfl, hdr⟩ := hrel
      have HD := hid hdr
      clear hdr
      by_cases hlt : k + 2 < n1
      · obtain ⟨x, hx, b, off, rfl, hb, cx⟩ := (HR.out.below (HD.out.below _)).cell1 (show k < n1 by omega)
        obtain ⟨y, hy, b2, off2, e2, hb2, cy⟩ := (HR.out.below (HD.out.below _)).cell1 (show k + 1 < n1 by omega)
        obtain ⟨z, hz, b3, off3, e3, hb3, cz⟩ := (HR.out.below (HD.out.below _)).cell1 (show k + 2 < n1 by omega)
        cases e2; cases e3
        have k0 : wr.cell? ⟨b, off + k, none⟩ = some (.string x) := cx
        have k1 : wr.cell? ⟨b, off + (k + 1), none⟩ = some (.string y) := cy
        have k2 : wr.cell? ⟨b, off + (k + 2), none⟩ = some (.string z) := cz
        have sx := HK.out x (List.mem_of_getElem? hx)
        have sy := HK.out y (List.mem_of_getElem? hy)
        have sz := HK.out z (List.mem_of_getElem? hz)
        have i1 : (k : Int) < (n1 : Int) := by omega
        have i2 : (k : Int) + 1 < (n1 : Int) := by omega
        have i3 : (k : Int) + 2 < (n1 : Int) := by omega
        clear hx hy hz cx cy cz hb2 hb3
        go_wp2
        go_quiet (fail)
        have r1 := cmp_range x.data.toList y.data.toList
        have q0 : (cmpL x.data.toList x.data.toList != 0) = false := by simp [cmp_refl]
        have q1 : (cmpL x.data.toList y.data.toList != -cmpL y.data.toList x.data.toList) = false := by simpa using cmp_neg _ _
        have HT1 := hid (cmp_trans x.data.toList y.data.toList z.data.toList)
        have HT2 := hid (cmp_trans z.data.toList y.data.toList x.data.toList)
        have q2 : ((cmpL x.data.toList y.data.toList == 0) == (x.toList == y.toList)) = true := by
          rw [ByteArray.toList_eq, ByteArray.toList_eq, beq_iff_eq, Bool.eq_iff_iff, beq_iff_eq, beq_iff_eq]
          exact cmp_zero _ _
        have r2 := cmp_range y.data.toList x.data.toList
        have HN1 := hid (cmp_neg z.data.toList x.data.toList)
        have HN2 := hid (cmp_neg z.data.toList y.data.toList)
        have HN3 := hid (cmp_neg y.data.toList x.data.toList)
        go_wp2_with fail
        refine (compare_walk x y (by omega) (by omega) _).mono ?_
        rintro e w2 ⟨rfl, hd2⟩
        go_wp2_with fail
        refine (compare_walk y x (by omega) (by omega) _).mono ?_
        rintro e w3 ⟨rfl, hd3⟩
        go_wp2_with fail
        refine (compare_walk y z (by omega) (by omega) _).mono ?_
        rintro e w4 ⟨rfl, hd4⟩
        go_wp2_with fail
        refine (compare_walk x z (by omega) (by omega) _).mono ?_
        rintro e w5 ⟨rfl, hd5⟩
        go_wp2_with fail
        refine (compare_walk x x (by omega) (by omega) _).mono ?_
        rintro e w6 ⟨rfl, hd6⟩
        generalize cmpL x.data.toList y.data.toList = ab at *
        generalize cmpL y.data.toList x.data.toList = ba at *
        generalize cmpL y.data.toList z.data.toList = bc at *
        generalize cmpL x.data.toList z.data.toList = ac at *
        generalize cmpL x.data.toList x.data.toList = aa at *
        have HD6 := hid ((((((HD.out.next nq).trans hd2).trans hd3).trans hd4).trans hd5).trans hd6)
        clear hd2 hd3 hd4 hd5 hd6
        have H1 := HT1.out
        have H2 : 0 ≤ ab → 0 ≤ bc → 0 ≤ ac := by
          have h1 := HT2.out
          have h2 := HN1.out
          have h3 := HN2.out
          have h4 := HN3.out
          omega
        have HT3 := hid H1
        have HT4 := hid H2
        clear H1 H2 HT1 HT2 HN1 HN2 HN3
        go_wp2
        all_goals first
          | exact ⟨⟨k + 1, by omega, by go_num, HD6.out⟩, by simp [intOf]; omega⟩
          | (exfalso; have h1 := HT3.out; have h2 := HT4.out; omega)
      · go_wp2
        go_ret
        exact ⟨rfl, HB1.out.trans (HD.out.below _)⟩
end Go.Proofs.Qxb6500890a
