/- text.Compare: the plain order of byte strings, and the walk. -/
import Derived.Test.Qxb6500890aDoorProg
import Derived.WalkKit
import Derived.WalkSpells
import Derived.Deep.QuietTactic
import Derived.BigQuiet
import Derived.Test.Qxb6500890aDoorDrew
namespace Go.Proofs.Qxb6500890aDoor
open Go.RowKit
set_option linter.unusedSimpArgs false
set_option linter.unusedVariables false

/-- The order of text.Compare on lists of bytes. -/
def cmpL : List UInt8 → List UInt8 → Int
  | [], [] => 0
  | [], _ :: _ => -1
  | _ :: _, [] => 1
  | x :: a, y :: b => if x.toNat = y.toNat then cmpL a b else if x.toNat < y.toNat then -1 else 1

theorem cmp_eq (a b : ByteArray) (k : Nat) (h1 : k < a.size) (h2 : k < b.size) (h : a[k].toNat = b[k].toNat) :
    cmpL (a.data.toList.drop k) (b.data.toList.drop k) = cmpL (a.data.toList.drop (k + 1)) (b.data.toList.drop (k + 1)) := by
  rw [List.drop_eq_getElem_cons (by simpa using h1), List.drop_eq_getElem_cons (i := k) (l := b.data.toList) (by simpa using h2), cmpL]
  exact if_pos h
theorem cmp_lt (a b : ByteArray) (k : Nat) (h1 : k < a.size) (h2 : k < b.size) (h : a[k].toNat < b[k].toNat) :
    cmpL (a.data.toList.drop k) (b.data.toList.drop k) = -1 := by
  rw [List.drop_eq_getElem_cons (by simpa using h1), List.drop_eq_getElem_cons (i := k) (l := b.data.toList) (by simpa using h2), cmpL]
  have h' : a.data.toList[k].toNat < b.data.toList[k].toNat := h
  rw [if_neg (by omega), if_pos h']
theorem cmp_gt (a b : ByteArray) (k : Nat) (h1 : k < a.size) (h2 : k < b.size) (h : b[k].toNat < a[k].toNat) :
    cmpL (a.data.toList.drop k) (b.data.toList.drop k) = 1 := by
  rw [List.drop_eq_getElem_cons (by simpa using h1), List.drop_eq_getElem_cons (i := k) (l := b.data.toList) (by simpa using h2), cmpL]
  have h' : b.data.toList[k].toNat < a.data.toList[k].toNat := h
  rw [if_neg (by omega), if_neg (by omega)]
theorem cmp_end_lt (a b : ByteArray) (k : Nat) (h1 : a.size ≤ k) (h2 : k < b.size) : cmpL (a.data.toList.drop k) (b.data.toList.drop k) = -1 := by
  rw [List.drop_of_length_le (by simpa using h1), List.drop_eq_getElem_cons (l := b.data.toList) (by simpa using h2), cmpL]
theorem cmp_end_gt (a b : ByteArray) (k : Nat) (h1 : k < a.size) (h2 : b.size ≤ k) : cmpL (a.data.toList.drop k) (b.data.toList.drop k) = 1 := by
  rw [List.drop_of_length_le (l := b.data.toList) (by simpa using h2), List.drop_eq_getElem_cons (by simpa using h1), cmpL]
theorem cmp_end_eq (a b : ByteArray) (k : Nat) (h1 : a.size ≤ k) (h2 : b.size ≤ k) : cmpL (a.data.toList.drop k) (b.data.toList.drop k) = 0 := by
  rw [List.drop_of_length_le (by simpa using h1), List.drop_of_length_le (by simpa using h2), cmpL]

set_option maxHeartbeats 1000000 in
theorem compare_short (a b : ByteArray) (ha : a.size ≤ 9223372036854775807) (hba : b.size < a.size) (w : World) :
    Calls Tryd.prog 19 #[.string a, .string b] w fun e w' => e = .returned (.int .i64 (cmpL a.data.toList b.data.toList)) ∧ Drew w w' := by
  go_enter Tryd.func19, Tryd.ntmps19
  go_wp2
  go_loopw [6] (fun i wr => ∃ k : Nat, k ≤ b.size ∧ i = .int .i64 k ∧ Drew w wr ∧ cmpL a.data.toList b.data.toList = cmpL (a.data.toList.drop k) (b.data.toList.drop k)) (fun i _ => b.size - (intOf i).toNat)
  case atStart => exact ⟨0, Nat.zero_le _, rfl, Drew.refl _, by simp⟩
  case round =>
    obtain ⟨k, hk, rfl, hdr, hc⟩ := hrel
    have HC := (show Hid _ from hc)
    have HD : Hid (Drew w wr) := hdr
    clear hc hdr
    by_cases hlt : k < b.size
    · have ka : k < a.size := by omega
      have kb : k < b.size := by omega
      by_cases he : a[k].toNat = b[k].toNat
      · have HE := (show Hid _ from cmp_eq a b k ka kb he)
        have hb : ((a[k].toNat : Int) != (b[k].toNat : Int)) = false := by simp [he]
        clear he
        go_wp2
        go_quiet (fail)
        go_wp2
        exact ⟨⟨k + 1, by omega, by go_num, HD.out.next _, HC.out.trans HE.out⟩, by simp [intOf]; omega⟩
      · have hb : ((a[k].toNat : Int) != (b[k].toNat : Int)) = true := by rw [bne_iff_ne]; omega
        by_cases hl : a[k].toNat < b[k].toNat
        · have HE := (show Hid _ from cmp_lt a b k ka kb hl)
          clear he
          go_wp2
          go_quiet (fail)
          go_wp2
          go_quiet (fail)
          go_wp2
          go_ret
          exact ⟨ret_i (HC.out.trans HE.out).symm, (HD.out.next _).next _⟩
        · have HE := (show Hid _ from cmp_gt a b k ka kb (by omega))
          clear he
          go_wp2
          go_quiet (fail)
          go_wp2
          go_quiet (fail)
          go_wp2
          go_ret
          exact ⟨ret_i (HC.out.trans HE.out).symm, (HD.out.next _).next _⟩
    · have HE := (show Hid _ from cmp_end_gt a b k (by omega) (by omega))
      go_wp2
      go_ret
      exact ⟨ret_i (HC.out.trans HE.out).symm, HD.out⟩

set_option maxHeartbeats 1000000 in
theorem compare_long (a b : ByteArray) (hb : b.size ≤ 9223372036854775807) (hba : ¬ b.size < a.size) (w : World) :
    Calls Tryd.prog 19 #[.string a, .string b] w fun e w' => e = .returned (.int .i64 (cmpL a.data.toList b.data.toList)) ∧ Drew w w' := by
  have hd : decide ((b.size : Int) < (a.size : Int)) = false := decide_eq_false (by omega)
  go_enter Tryd.func19, Tryd.ntmps19
  go_wp2
  go_loopw [6] (fun i wr => ∃ k : Nat, k ≤ a.size ∧ i = .int .i64 k ∧ Drew w wr ∧ cmpL a.data.toList b.data.toList = cmpL (a.data.toList.drop k) (b.data.toList.drop k)) (fun i _ => a.size - (intOf i).toNat)
  case atStart => exact ⟨0, Nat.zero_le _, rfl, Drew.refl _, by simp⟩
  case round =>
    obtain ⟨k, hk, rfl, hdr, hc⟩ := hrel
    have HC := (show Hid _ from hc)
    have HD : Hid (Drew w wr) := hdr
    clear hc hdr
    by_cases hlt : k < a.size
    · have ka : k < a.size := by omega
      have kb : k < b.size := by omega
      by_cases he : a[k].toNat = b[k].toNat
      · have HE := (show Hid _ from cmp_eq a b k ka kb he)
        have hb : ((a[k].toNat : Int) != (b[k].toNat : Int)) = false := by simp [he]
        clear he
        go_wp2
        go_quiet (fail)
        go_wp2
        exact ⟨⟨k + 1, by omega, by go_num, HD.out.next _, HC.out.trans HE.out⟩, by simp [intOf]; omega⟩
      · have hb : ((a[k].toNat : Int) != (b[k].toNat : Int)) = true := by rw [bne_iff_ne]; omega
        by_cases hl : a[k].toNat < b[k].toNat
        · have HE := (show Hid _ from cmp_lt a b k ka kb hl)
          clear he
          go_wp2
          go_quiet (fail)
          go_wp2
          go_quiet (fail)
          go_wp2
          go_ret
          exact ⟨ret_i (HC.out.trans HE.out).symm, (HD.out.next _).next _⟩
        · have HE := (show Hid _ from cmp_gt a b k ka kb (by omega))
          clear he
          go_wp2
          go_quiet (fail)
          go_wp2
          go_quiet (fail)
          go_wp2
          go_ret
          exact ⟨ret_i (HC.out.trans HE.out).symm, (HD.out.next _).next _⟩
    · by_cases hab : a.size < b.size
      · have HE := (show Hid _ from cmp_end_lt a b k (by omega) (by omega))
        go_wp2
        go_ret
        exact ⟨ret_i (HC.out.trans HE.out).symm, HD.out⟩
      · have HE := (show Hid _ from cmp_end_eq a b k (by omega) (by omega))
        go_wp2
        go_ret
        exact ⟨ret_i (HC.out.trans HE.out).symm, HD.out⟩

theorem compare_walk (a b : ByteArray) (ha : a.size ≤ 9223372036854775807) (hb : b.size ≤ 9223372036854775807) (w : World) :
    Calls Tryd.prog 19 #[.string a, .string b] w fun e w' => e = .returned (.int .i64 (cmpL a.data.toList b.data.toList)) ∧ Drew w w' := by
  by_cases h : b.size < a.size
  · exact compare_short a b ha h w
  · exact compare_long a b hb h w
end Go.Proofs.Qxb6500890aDoor
