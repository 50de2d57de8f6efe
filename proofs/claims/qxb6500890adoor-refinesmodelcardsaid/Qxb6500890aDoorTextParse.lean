/- The walk of text.ParseInt (and of text.IsDigit). -/
import Derived.Test.Qxb6500890aDoorTextParsePlain
import Derived.Test.Qxb6500890aDoorProg
import Derived.WalkKit
import Derived.WalkSpells
namespace Go.Proofs.Qxb6500890aDoor
open Go.RowKit

theorem isDigit_walk (c : UInt8) (w : World) :
    Calls Tryd.prog 54 #[.int .u8 c.toNat] w fun e w' => e = .returned (.bool (isDig c)) ∧ w' = w := by
  unfold isDig
  have := c.toNat_lt
  by_cases h1 : 48 ≤ c.toNat
  · by_cases h2 : c.toNat ≤ 57
    · go_enter Tryd.func54, Tryd.ntmps54
      go_wp2
      go_ret
      exact ⟨by simp [h1]; omega, rfl⟩
    · go_enter Tryd.func54, Tryd.ntmps54
      go_wp2
      go_ret
      exact ⟨by simp [h2]; omega, rfl⟩
  · go_enter Tryd.func54, Tryd.ntmps54
    go_wp2
    go_ret
    exact ⟨by simp, rfl⟩

theorem isNeg_cons (s : ByteArray) (h : 0 < s.size) : isNeg s.data.toList = decide (s[0].toNat = 45) := by
  have : s.data.toList.head? = some s[0] := by
    rw [List.head?_eq_getElem?, List.getElem?_eq_getElem (by simpa using h)]
    rfl
  rw [isNeg, this, Bool.eq_iff_iff]
  simp [← UInt8.toNat_inj]

theorem all_snoc (d : ByteArray) (k : Nat) (h : k < d.size) (h1 : ∀ c ∈ d.data.toList.take k, isDig c = true) (h2 : isDig d[k] = true) : ∀ c ∈ d.data.toList.take (k + 1), isDig c = true := by
  rw [List.take_succ_eq_append_getElem (by simpa using h)]
  intro c hc
  rcases List.mem_append.1 hc with hc | hc
  · exact h1 c hc
  · simp at hc; subst hc; exact h2

theorem all_of (d : ByteArray) (k : Nat) (h : d.size ≤ k) (h1 : ∀ c ∈ d.data.toList.take k, isDig c = true) : ∀ c ∈ d.data.toList, isDig c = true := by
  rwa [List.take_of_length_le (by simpa using h)] at h1

theorem mem_at (d : ByteArray) (k : Nat) (h : k < d.size) : d[k] ∈ d.data.toList := by
  have : d.data.toList[k]? = some d[k] := by rw [List.getElem?_eq_getElem (by simpa using h)]; rfl
  exact List.mem_of_getElem? this

theorem dig_at (d : ByteArray) (k : Nat) (h : k < d.size) (h1 : ∀ c ∈ d.data.toList, isDig c = true) : 48 ≤ d[k].toNat ∧ d[k].toNat ≤ 57 := by
  have := h1 _ (mem_at d k h)
  simpa [isDig] using this

theorem drop_at (d : ByteArray) (k : Nat) (h : k < d.size) : d.data.toList.drop k = d[k] :: d.data.toList.drop (k + 1) := by
  rw [List.drop_eq_getElem_cons (by simpa using h)]; rfl

theorem rest_bad (neg : Bool) (d : ByteArray) (k : Nat) (h : k < d.size) (h2 : ¬ isDig d[k] = true) : parseRest neg d.data.toList = (0, 1) := by
  unfold parseRest
  split
  · rfl
  · rw [if_pos]
    rw [Bool.eq_false_iff]
    intro hall
    rw [List.all_eq_true] at hall
    exact h2 (hall _ (mem_at d k h))


theorem neg_out (s : ByteArray) (h : 0 < s.size) (h1 : s[0].toNat = 45) : parseOut s.data.toList = parseRest true (s.extract 1 s.size).data.toList := by
  have e := isNeg_cons s h
  rw [h1] at e
  rw [parseOut, e]
  have e2 : (s.extract 1 s.size).data.toList = s.data.toList.tail := by
    simp
    rw [List.take_of_length_le (by simp)]
  rw [e2]
  simp

theorem pos_out (s : ByteArray) (h : 0 < s.size) (h1 : ¬ s[0].toNat = 45) : parseOut s.data.toList = parseRest false s.data.toList := by
  have e := isNeg_cons s h
  simp [h1] at e
  simp [parseOut, e]

theorem ne_nil_of {d : ByteArray} (hb : ((d.size : Int) == 0) = false) : ¬ d.data.toList = [] := by
  intro h
  rw [← List.length_eq_zero_iff, Array.length_toList] at h
  have h2 : d.size = 0 := h
  simp [h2] at hb
theorem all_ne {l : List UInt8} (h : ∀ c ∈ l, isDig c = true) : ¬ l.all isDig = false := by
  rw [Bool.not_eq_false, List.all_eq_true]; exact h

def limitOf (neg : Bool) : Nat := if neg then 9223372036854775808 else 9223372036854775807

theorem rest_over (neg : Bool) (d : ByteArray) (k v : Nat) (hb : ((d.size : Int) == 0) = false) (h : ∀ c ∈ d.data.toList, isDig c = true)
    (hacc : accum (limitOf neg) (d.data.toList.drop k) v = accum (limitOf neg) d.data.toList 0) (hk : k < d.size) (hov : (limitOf neg - (d[k].toNat - 48)) / 10 < v) : parseRest neg d.data.toList = (0, 2) := by
  rw [drop_at d k hk, accum, if_pos hov] at hacc
  unfold limitOf at hacc
  unfold parseRest
  rw [if_neg (ne_nil_of hb), if_neg (all_ne h), ← hacc]

theorem acc_step (limit : Nat) (d : ByteArray) (k v : Nat) (hacc : accum limit (d.data.toList.drop k) v = accum limit d.data.toList 0) (hk : k < d.size) (hov : ¬ (limit - (d[k].toNat - 48)) / 10 < v) :
    accum limit (d.data.toList.drop (k + 1)) (v * 10 + (d[k].toNat - 48)) = accum limit d.data.toList 0 := by
  rwa [drop_at d k hk, accum, if_neg hov] at hacc

theorem rest_end (neg : Bool) (d : ByteArray) (k v : Nat) (hb : ((d.size : Int) == 0) = false) (h : ∀ c ∈ d.data.toList, isDig c = true)
    (hacc : accum (limitOf neg) (d.data.toList.drop k) v = accum (limitOf neg) d.data.toList 0) (hk : d.size ≤ k) : parseRest neg d.data.toList = (if neg then -(v : Int) else (v : Int), 0) := by
  rw [List.drop_of_length_le (by simpa using hk), accum] at hacc
  unfold limitOf at hacc
  unfold parseRest
  rw [if_neg (ne_nil_of hb), if_neg (all_ne h), ← hacc]

theorem ret_ii {k l : IntKind} {a b c d : Int} (h : a = b) (h' : c = d) : Ending.returned (.tuple #[.int k a, .int l c]) = .returned (.tuple #[.int k b, .int l d]) := by rw [h, h']

set_option maxHeartbeats 400000 in
theorem parse_neg (s : ByteArray) (hs : s.size ≤ maxLen) (h0 : 0 < s.size) (h1 : s[0].toNat = 45) (w : World) :
    Calls Tryd.prog 17 #[.string s] w fun e w' => e = .returned (.tuple #[.int .i64 (parseOut s.data.toList).1, .int .i64 (parseOut s.data.toList).2]) ∧ w' = w := by
  unfold maxLen at hs
  rw [neg_out s h0 h1]
  obtain ⟨d, hd⟩ : ∃ d, s.extract 1 s.size = d := ⟨_, rfl⟩
  have hds : d.size = s.size - 1 := by rw [← hd]; simp
  rw [hd]
  by_cases h2 : d.size = 0
  · have h3 : d.data.toList = [] := by
      rw [← List.length_eq_zero_iff]; simpa using h2
    rw [h3]
    have hb : ((d.size : Int) == 0) = true := by simp [h2]
    clear h2 hds
    go_enter Tryd.func17, Tryd.ntmps17
    go_wp2
    go_ret2
    exact ⟨rfl, rfl⟩
  · have hb : ((d.size : Int) == 0) = false := by simp [h2]
    have hd2 : d.size ≤ 9223372036854775807 := by omega
    clear hds h2
    · go_enter Tryd.func17, Tryd.ntmps17
      go_wp2
      clear h0 h1 hd hs
      go_loop [6] (fun i => ∃ k : Nat, k ≤ d.size ∧ i = .int .i64 k ∧ ∀ c ∈ d.data.toList.take k, isDig c = true) (fun i => d.size - (intOf i).toNat)
      case atStart => exact ⟨0, Nat.zero_le _, rfl, by simp⟩
      case round =>
        obtain ⟨k, hk, rfl, hdig⟩ := hrel
        by_cases hlt : k < d.size
        · by_cases hdk : isDig d[k] = true
          · have HD := (show Hid (∀ c ∈ d.data.toList.take (k + 1), isDig c = true) from all_snoc d k hlt hdig hdk)
            clear hdig
            go_wp2_with (go_at_call 54; refine (isDigit_walk _ _).mono ?_; rintro e w' ⟨rfl, rfl⟩)
            go_round
            case rel => exact ⟨k + 1, by omega, by go_num, HD.out⟩
            case measure => simp [intOf]; omega
          · have HD := (show Hid (parseRest true d.data.toList = (0, 1)) from rest_bad true d k hlt hdk)
            clear hdig
            have hdk' : isDig d[k] = false := by simpa using hdk
            clear hdk
            go_wp2_with (go_at_call 54; refine (isDigit_walk _ _).mono ?_; rintro e w' ⟨rfl, rfl⟩)
            go_ret2
            exact ⟨by rw [HD.out]; rfl, rfl⟩
        · have hall : ∀ c ∈ d.data.toList, isDig c = true := all_of d k (by omega) hdig
          have HA := (show Hid _ from hall)
          clear hall hdig
          go_wp2
          go_loop [8, 9] (fun u i => ∃ k v : Nat, k ≤ d.size ∧ i = .int .i64 k ∧ u = .int .u64 v ∧ v ≤ 9223372036854775808 ∧ accum 9223372036854775808 (d.data.toList.drop k) v = accum 9223372036854775808 d.data.toList 0) (fun _ i => d.size - (intOf i).toNat)
          case atStart => exact ⟨0, 0, Nat.zero_le _, rfl, rfl, by omega, by simp⟩
          case round =>
            obtain ⟨k, v, hk, rfl, rfl, hv, hacc⟩ := hrel
            have HC := (show Hid _ from hacc)
            clear hacc
            by_cases hlt : k < d.size
            · have hdk := dig_at d k hlt HA.out
              have hs1 := drop_at d k hlt
              have HS := (show Hid _ from hs1)
              clear hs1
              have hcd := d[k].toNat_lt
              by_cases hov : (9223372036854775808 - (d[k].toNat - 48)) / 10 < v
              · have HF := (show Hid (parseRest true d.data.toList = (0, 2)) from rest_over true d k v hb HA.out HC.out hlt hov)
                go_wp2
                go_ret2
                exact ⟨by rw [HF.out]; rfl, rfl⟩
              · have HF := (show Hid (accum 9223372036854775808 (d.data.toList.drop (k + 1)) (v * 10 + (d[k].toNat - 48)) = accum 9223372036854775808 d.data.toList 0) from acc_step _ d k v HC.out hlt hov)
                go_wp2
                exact ⟨⟨k + 1, v * 10 + (d[k].toNat - 48), by omega, by go_num, by go_num, by omega, HF.out⟩, by simp [intOf]; omega⟩
            · have HF := (show Hid (parseRest true d.data.toList = (-(v : Int), 0)) from rest_end true d k v hb HA.out HC.out (by omega))
              go_wp2
              go_ret2
              refine ⟨?_, rfl⟩
              rw [HF.out]
              exact ret_ii (by rw [IntKind.wrap_u64]; unfold wrap64; omega) rfl

set_option maxHeartbeats 400000 in
theorem parse_pos (s : ByteArray) (hs : s.size ≤ maxLen) (h0 : 0 < s.size) (h1 : ¬ s[0].toNat = 45) (w : World) :
    Calls Tryd.prog 17 #[.string s] w fun e w' => e = .returned (.tuple #[.int .i64 (parseOut s.data.toList).1, .int .i64 (parseOut s.data.toList).2]) ∧ w' = w := by
  unfold maxLen at hs
  rw [pos_out s h0 h1]
  have hb : ((s.size : Int) == 0) = false := beq_eq_false_iff_ne.2 (by omega)
  have hbn : ((s[0].toNat : Int) == 45) = false := beq_eq_false_iff_ne.2 (by omega)
  clear h1
  · · go_enter Tryd.func17, Tryd.ntmps17
      go_wp2
      have hd2 := hs
      clear hs
      go_loop [6] (fun i => ∃ k : Nat, k ≤ s.size ∧ i = .int .i64 k ∧ ∀ c ∈ s.data.toList.take k, isDig c = true) (fun i => s.size - (intOf i).toNat)
      case atStart => exact ⟨0, Nat.zero_le _, rfl, by simp⟩
      case round =>
        obtain ⟨k, hk, rfl, hdig⟩ := hrel
        by_cases hlt : k < s.size
        · by_cases hdk : isDig s[k] = true
          · have HD := (show Hid (∀ c ∈ s.data.toList.take (k + 1), isDig c = true) from all_snoc s k hlt hdig hdk)
            clear hdig
            go_wp2_with (go_at_call 54; refine (isDigit_walk _ _).mono ?_; rintro e w' ⟨rfl, rfl⟩)
            go_round
            case rel => exact ⟨k + 1, by omega, by go_num, HD.out⟩
            case measure => simp [intOf]; omega
          · have HD := (show Hid (parseRest false s.data.toList = (0, 1)) from rest_bad false s k hlt hdk)
            clear hdig
            have hdk' : isDig s[k] = false := by simpa using hdk
            clear hdk
            go_wp2_with (go_at_call 54; refine (isDigit_walk _ _).mono ?_; rintro e w' ⟨rfl, rfl⟩)
            go_ret2
            exact ⟨by rw [HD.out]; rfl, rfl⟩
        · have hall : ∀ c ∈ s.data.toList, isDig c = true := all_of s k (by omega) hdig
          have HA := (show Hid _ from hall)
          clear hall hdig
          go_wp2
          go_loop [8, 9] (fun u i => ∃ k v : Nat, k ≤ s.size ∧ i = .int .i64 k ∧ u = .int .u64 v ∧ v ≤ 9223372036854775807 ∧ accum 9223372036854775807 (s.data.toList.drop k) v = accum 9223372036854775807 s.data.toList 0) (fun _ i => s.size - (intOf i).toNat)
          case atStart => exact ⟨0, 0, Nat.zero_le _, rfl, rfl, by omega, by simp⟩
          case round =>
            obtain ⟨k, v, hk, rfl, rfl, hv, hacc⟩ := hrel
            have HC := (show Hid _ from hacc)
            clear hacc
            by_cases hlt : k < s.size
            · have hdk := dig_at s k hlt HA.out
              have hs1 := drop_at s k hlt
              have HS := (show Hid _ from hs1)
              clear hs1
              have hcd := s[k].toNat_lt
              by_cases hov : (9223372036854775807 - (s[k].toNat - 48)) / 10 < v
              · have HF := (show Hid (parseRest false s.data.toList = (0, 2)) from rest_over false s k v hb HA.out HC.out hlt hov)
                go_wp2
                go_ret2
                exact ⟨by rw [HF.out]; rfl, rfl⟩
              · have HF := (show Hid (accum 9223372036854775807 (s.data.toList.drop (k + 1)) (v * 10 + (s[k].toNat - 48)) = accum 9223372036854775807 s.data.toList 0) from acc_step _ s k v HC.out hlt hov)
                go_wp2
                exact ⟨⟨k + 1, v * 10 + (s[k].toNat - 48), by omega, by go_num, by go_num, by omega, HF.out⟩, by simp [intOf]; omega⟩
            · have HF := (show Hid (parseRest false s.data.toList = ((v : Int), 0)) from rest_end false s k v hb HA.out HC.out (by omega))
              go_wp2
              go_ret2
              refine ⟨?_, rfl⟩
              rw [HF.out]
              exact ret_ii (rfl) rfl


theorem parse_walk (s : ByteArray) (hs : s.size ≤ maxLen) (w : World) :
    Calls Tryd.prog 17 #[.string s] w fun e w' => e = .returned (.tuple #[.int .i64 (parseOut s.data.toList).1, .int .i64 (parseOut s.data.toList).2]) ∧ w' = w := by
  by_cases h0 : 0 < s.size
  · by_cases h1 : s[0].toNat = 45
    · exact parse_neg s hs h0 h1 w
    · exact parse_pos s hs h0 h1 w
  · have hb : ((s.size : Int) == 0) = true := beq_iff_eq.2 (by omega)
    have h3 : s.data.toList = [] := by
      rw [← List.length_eq_zero_iff, Array.length_toList]; show s.size = 0; omega
    rw [h3]
    go_enter Tryd.func17, Tryd.ntmps17
    go_wp2
    go_ret2
    exact ⟨rfl, rfl⟩
end Go.Proofs.Qxb6500890aDoor
