/- CompareBytes. -/
import Derived.Test.Qxb6500891aPtSmall
namespace Go.Proofs.Qxb6500891a
open Go.RowKit
set_option linter.unusedSimpArgs false
set_option linter.unusedVariables false

def cmpL : List Nat → List Nat → Int
  | [], [] => 0
  | [], _ :: _ => -1
  | _ :: _, [] => 1
  | x :: xs, y :: ys => if x < y then -1 else if y < x then 1 else cmpL xs ys
theorem cmpL_refl : ∀ l, cmpL l l = 0
  | [] => rfl
  | x :: l => by simp [cmpL, cmpL_refl l]
theorem cmpL_eq : ∀ {a b : List Nat}, cmpL a b = 0 → a = b
  | [], [], _ => rfl
  | [], _ :: _, h => by simp [cmpL] at h
  | _ :: _, [], h => by simp [cmpL] at h
  | x :: xs, y :: ys, h => by
    unfold cmpL at h
    split at h
    · simp at h
    · split at h
      · simp at h
      · have : x = y := by omega
        rw [this, cmpL_eq h]
theorem cmpL_neg : ∀ a b : List Nat, cmpL a b = - cmpL b a
  | [], [] => rfl
  | [], _ :: _ => rfl
  | _ :: _, [] => rfl
  | x :: xs, y :: ys => by
    unfold cmpL
    rcases Nat.lt_trichotomy x y with h | h | h
    · simp [h, show ¬ y < x by omega]
    · simp [h, cmpL_neg xs ys]
    · simp [h, show ¬ x < y by omega]
theorem cmpL_rng : ∀ a b : List Nat, cmpL a b = -1 ∨ cmpL a b = 0 ∨ cmpL a b = 1
  | [], [] => by simp [cmpL]
  | [], _ :: _ => by simp [cmpL]
  | _ :: _, [] => by simp [cmpL]
  | x :: xs, y :: ys => by
    unfold cmpL
    split
    · simp
    · split
      · simp
      · exact cmpL_rng xs ys
theorem drop_get {l : List Nat} {k x : Nat} (h : l[k]? = some x) : l.drop k = x :: l.drop (k + 1) := by
  obtain ⟨hk, he⟩ := List.getElem?_eq_some_iff.1 h
  rw [List.drop_eq_getElem_cons hk, he]

set_option maxRecDepth 100000 in
set_option maxHeartbeats 1000000 in
theorem compareBytes_walk (a a2 : Option Addr) (n c n2 c2 : Nat) (l l2 : List Nat) (w : World) (hr : ByteRow w a n c l) (hr2 : ByteRow w a2 n2 c2 l2) :
    Calls Try.prog 47 #[.slice a n c, .slice a2 n2 c2] w fun e w' => e = .returned (.int .i64 (cmpL l l2)) ∧ Drew w w' := by
  have hn := hr.1.2.2.1.1
  have hn2 := hr2.1.2.2.1.1
  have HR := hid hr
  have HR2 := hid hr2
  have hl := hr.len
  have hl2 := hr2.len
  clear hr hr2
  go_enter Try.func47, Try.ntmps47
  obtain ⟨m, hm⟩ : ∃ m, m = min n n2 := ⟨_, rfl⟩
  go_upto_region 1 with fail
  go_cut [5] (fun v wc => v = .int .i64 (m : Int) ∧ wc = w)
  case first =>
    go_wp2_with fail
    all_goals go_meet
    all_goals exact ⟨by congr 1; omega, rfl⟩
  case rest =>
  obtain ⟨rfl, rfl⟩ := hcut
  go_wp2_with fail
  go_loopw [6] (fun v wr => ∃ k : Nat, k ≤ m ∧ v = .int .i64 k ∧ Hid (Drew wc wr) ∧ Hid (cmpL l l2 = cmpL (l.drop k) (l2.drop k))) (fun v _ => m - (intOf v).toNat)
  case atStart => exact ⟨0, by omega, rfl, hid (Drew.refl _), hid rfl⟩
  case round =>
    obtain ⟨k, hk, rfl, HD, HC⟩ := hrel
    by_cases hlt : k < m
    · obtain ⟨x, hx, hx256, b, off, rfl, hb, cx⟩ := (HR.out.below (HD.out.below _)).get (show k < n by omega)
      obtain ⟨y, hy, hy256, b2, off2, rfl, hb2, cy⟩ := (HR2.out.below (HD.out.below _)).get (show k < n2 by omega)
      have i1 : (k : Int) < (n : Int) := by omega
      have i2 : (k : Int) < (n2 : Int) := by omega
      have HX := hid (drop_get hx)
      have HY := hid (drop_get hy)
      clear hx hy
      rw [HX.out, HY.out] at HC
      by_cases d1 : x < y
      · have dd : decide ((x : Int) < (y : Int)) = true := decide_eq_true (by omega)
        go_wp2_with fail
        go_quiet (fail)
        go_wp2
        go_ret
        exact ⟨by rw [HC.out]; simp [cmpL, d1], HD.out.next _⟩
      · have dd : decide ((x : Int) < (y : Int)) = false := decide_eq_false (by omega)
        by_cases d2 : y < x
        · have dd2 : decide ((y : Int) < (x : Int)) = true := decide_eq_true (by omega)
          go_wp2_with fail
          go_quiet (fail)
          go_wp2_with fail
          obtain ⟨wd, hwd⟩ : ∃ wd, wr.drewN nq = wd := ⟨_, rfl⟩
          have HDd : Hid (Drew wc wd) := hid (hwd ▸ HD.out.next _)
          have cx' : wd.cell? ⟨b, off + k, none⟩ = some (.int .u8 (x : Int)) := by rw [← hwd]; exact cx
          have cy' : wd.cell? ⟨b2, off2 + k, none⟩ = some (.int .u8 (y : Int)) := by rw [← hwd]; exact cy
          rw [hwd]
          clear hwd cx cy
          go_quiet (fail)
          go_wp2
          go_ret
          exact ⟨by rw [HC.out]; simp [cmpL, d1, d2], HDd.out.next _⟩
        · have dd2 : decide ((y : Int) < (x : Int)) = false := decide_eq_false (by omega)
          go_wp2_with fail
          go_quiet (fail)
          go_wp2_with fail
          obtain ⟨wd, hwd⟩ : ∃ wd, wr.drewN nq = wd := ⟨_, rfl⟩
          have HDd : Hid (Drew wc wd) := hid (hwd ▸ HD.out.next _)
          have cx' : wd.cell? ⟨b, off + k, none⟩ = some (.int .u8 (x : Int)) := by rw [← hwd]; exact cx
          have cy' : wd.cell? ⟨b2, off2 + k, none⟩ = some (.int .u8 (y : Int)) := by rw [← hwd]; exact cy
          rw [hwd]
          clear hwd cx cy
          go_quiet (fail)
          go_wp2
          exact ⟨⟨k + 1, by omega, by go_num, hid (HDd.out.next _), hid (by rw [HC.out]; simp [cmpL, d1, d2])⟩, by simp [intOf]; omega⟩
    · have hkm : k = m := by omega
      subst hkm
      by_cases d1 : n < n2
      · have dd : decide ((n : Int) < (n2 : Int)) = true := decide_eq_true (by omega)
        have he : cmpL l l2 = -1 := by
          rw [HC.out, List.drop_of_length_le (by omega)]
          cases hq : l2.drop k with
          | nil => have := List.drop_eq_nil_iff.1 hq; omega
          | cons y ys => rfl
        have HE := hid he
        clear he HC
        go_wp2
        go_ret
        exact ⟨by rw [HE.out]; rfl, HD.out⟩
      · have dd : decide ((n : Int) < (n2 : Int)) = false := decide_eq_false (by omega)
        by_cases d2 : n2 < n
        · have dd2 : decide ((n2 : Int) < (n : Int)) = true := decide_eq_true (by omega)
          have he : cmpL l l2 = 1 := by
            rw [HC.out, List.drop_of_length_le (l := l2) (by omega)]
            cases hq : l.drop k with
            | nil => have := List.drop_eq_nil_iff.1 hq; omega
            | cons y ys => rfl
          have HE := hid he
          clear he HC
          go_wp2
          go_ret
          exact ⟨by rw [HE.out]; rfl, HD.out⟩
        · have dd2 : decide ((n2 : Int) < (n : Int)) = false := decide_eq_false (by omega)
          have he : cmpL l l2 = 0 := by
            rw [HC.out, List.drop_of_length_le (by omega), List.drop_of_length_le (by omega)]
            rfl
          have HE := hid he
          clear he HC
          go_wp2
          go_ret
          exact ⟨by rw [HE.out]; rfl, HD.out⟩
end Go.Proofs.Qxb6500891a
