/- text.FirstInvalid, text.ValidUTF8; textm.Encode, bytes.Equal, textm.Decode, textm.FirstInvalid. -/
import Derived.Test.Qxb6500881aUtfDec
import Derived.Laws.BytesArg
import Derived.WalkLawsBesides
import Derived.Deep.QuietTactic
import Derived.BigQuiet
namespace Go.Proofs.Qxb6500881a
open Go.RowKit
set_option linter.unusedSimpArgs false
set_option linter.unusedVariables false

theorem ByteRow.drop {w : World} {a : Option Addr} {n c k : Nat} {l : List Nat} (h : ByteRow w a n c l) (hk : k < n) {b off : Nat} (ha : a = some ⟨b, off, none⟩) : ByteRow w (some ⟨b, off + k, none⟩) (n - k) (c - k) (l.drop k) := by
  subst ha
  refine ⟨⟨by rw [List.length_drop, h.1.len], by have := h.1.2.1; omega, ⟨by have := h.1.2.2.1.1; omega, by have := h.1.2.2.1.2.1; omega, fun h => by cases h⟩, fun i hi => ?_⟩, fun b hb => h.2 b (List.mem_of_mem_drop hb)⟩
  rw [List.length_drop] at hi
  obtain ⟨b', off', e, hb, hc⟩ := h.1.2.2.2 (k + i) (by omega)
  cases e
  refine ⟨b, off + k, rfl, hb, fun j hj => ?_⟩
  rw [List.getElem_drop, ← hc j hj]
  congr 2
  omega

def FirstPost (l : List Nat) (w : World) (e : Ending) (w' : World) : Prop := ∃ v : Int, e = .returned (.int .i64 v) ∧ decide (v < 0) = valid l ∧ Below w.heap.size w w'

set_option maxRecDepth 100000 in
set_option maxHeartbeats 1000000 in
theorem first_walk (a : Option Addr) (n c : Nat) (l : List Nat) (w : World) (hr : ByteRow w a n c l) :
    Calls Try.prog 11 #[.slice a n c] w (FirstPost l w) := by
  have hn : n ≤ 140737488351232 := hr.1.2.2.1.1
  have hc : n ≤ c := hr.1.2.1
  have HR := hid hr
  clear hr
  go_enter Try.func11, Try.ntmps11
  go_wp2
  go_loop [3] (fun i => ∃ k : Nat, k ≤ n ∧ i = .int .i64 (k : Int) ∧ Hid (valid l = valid (l.drop k))) (fun i => n - (intOf i).toNat)
  case atStart => exact ⟨0, Nat.zero_le _, rfl, hid (by simp)⟩
  case round =>
    obtain ⟨k, hk, rfl, HV⟩ := hrel
    by_cases hlt : k < n
    · obtain ⟨x, hx, hx2, b, off, rfl, hb, cx⟩ := HR.out.get hlt
      have n1 : ¬ c = k := by omega
      have hdr : l.drop k = x :: l.drop (k + 1) := by
        obtain ⟨h1, rfl⟩ := List.getElem?_eq_some_iff.1 hx
        exact List.drop_eq_getElem_cons h1
      have HDr := hid hdr
      clear hx hdr
      by_cases h1 : x < 128
      · have HV2 : Hid (valid l = valid (l.drop (k + 1))) := hid (by
          rw [HV.out, valid_some (l := l.drop k) (r := x) (n := 1) (by rw [HDr.out]; simp [dec, h1]), List.drop_drop])
        go_wp2
        exact ⟨⟨k + 1, by omega, by go_num, HV2⟩, by simp [intOf]; omega⟩
      · go_wp2_with fail
        refine (decode_walk (some ⟨b, off + k, none⟩) (n - k) (c - k) (l.drop k) _ (HR.out.drop hlt rfl)).mono ?_
        cases hd : dec (l.drop k) with
        | none =>
          have HV2 : Hid (valid l = false) := hid (by rw [HV.out]; exact valid_none hd (by rw [HDr.out]; simp))
          clear hd
          rw [show decVal none = .tuple #[.int .i32 0, .int .i64 0, .bool false] from rfl]
          rintro e w1 ⟨rfl, rfl⟩
          go_wp2
          go_ret
          exact ⟨_, rfl, by rw [HV2.out]; simp, Below.refl _ _⟩
        | some p =>
          obtain ⟨r, m⟩ := p
          have hm := dec_size hd
          rw [List.length_drop, HR.out.1.len] at hm
          have HV2 : Hid (valid l = valid (l.drop (k + m))) := hid (by rw [HV.out, valid_some hd, List.drop_drop])
          obtain ⟨hm1, hm2⟩ := hm
          clear hd
          rw [show decVal (some (r, m)) = .tuple #[.int .i32 (r : Int), .int .i64 (m : Int), .bool true] from rfl]
          rintro e w1 ⟨rfl, rfl⟩
          go_wp2
          exact ⟨⟨k + m, by omega, by go_num, HV2⟩, by simp [intOf]; omega⟩
    · have e : valid l = true := by rw [HV.out, List.drop_of_length_le (by rw [HR.out.1.len]; omega)]; rfl
      go_wp2
      go_ret
      exact ⟨_, rfl, by rw [e]; rfl, Below.refl _ _⟩

set_option maxRecDepth 100000 in
theorem validUTF8_walk (a : Option Addr) (n c : Nat) (l : List Nat) (w : World) (hr : ByteRow w a n c l) :
    Calls Try.prog 5 #[.slice a n c] w fun e w' => e = .returned (.bool (valid l)) ∧ Below w.heap.size w w' := by
  have HR := hid hr
  clear hr
  go_enter Try.func5, Try.ntmps5
  go_wp2_with fail
  refine (first_walk a n c l _ HR.out).mono ?_
  rintro e w1 ⟨v, rfl, hv, hb⟩
  have HV := hid hv
  have HB := hid hb
  clear hv hb
  go_wp2
  go_ret
  exact ⟨by rw [← HV.out]; rfl, HB.out⟩

theorem nums_eq {l1 l2 : List Nat} (h1 : ∀ b ∈ l1, b < 256) (h2 : ∀ b ∈ l2, b < 256) : ((strOfNums (l1.map Int.ofNat)).toList == (strOfNums (l2.map Int.ofNat)).toList) = decide (l1 = l2) := by
  rw [ByteArray.toList_eq, ByteArray.toList_eq, strOfNums_data, strOfNums_data, List.map_map, List.map_map, Bool.eq_iff_iff, beq_iff_eq, decide_eq_true_iff]
  constructor
  · intro h
    have h3 := congrArg (List.map UInt8.toNat) h
    rw [List.map_map, List.map_map] at h3
    have e : ∀ l : List Nat, (∀ b ∈ l, b < 256) → l.map (UInt8.toNat ∘ ((fun n => UInt8.ofNat n.toNat) ∘ Int.ofNat)) = l := fun l hl => by
      conv => rhs; rw [← List.map_id l]
      apply List.map_congr_left
      intro b hb
      have := hl b hb
      simp [Nat.mod_eq_of_lt this]
    rw [e l1 h1, e l2 h2] at h3
    exact h3
  · rintro rfl; rfl

theorem ByteRow.str {w : World} {a : Option Addr} {n c : Nat} {l : List Nat} (h : ByteRow w a n c l) : (convert 22 9 (.slice a n c)).run Try.prog w = .ok (.string (strOfNums (l.map Int.ofNat))) w := by
  cases a with
  | none =>
    have hl : l = [] := List.eq_nil_of_length_eq_zero (by rw [h.1.len]; exact (h.1.nil rfl).1)
    subst hl
    exact run_convert_bytes_nil (P := Try.prog) w 22 5 Try.underlying22 Try.underlying5 n c 9 Try.underlying9
  | some ad =>
    by_cases h0 : n = 0
    · have hl : l = [] := List.eq_nil_of_length_eq_zero (by rw [h.1.len]; exact h0)
      subst hl h0
      rw [run_convert_bytes_string w _ _ _ _ _ _ Try.underlying22 Try.underlying5 Try.underlying9, run_bytesToString w _ 0 c [] (by simpa using run_loadCells_list (P := Try.prog) w ad [] (by simp)), foldl_push_bytes]
      simp [strOfNums, ByteArray.empty, ByteArray.emptyWithCapacity]
      rfl
    · obtain ⟨x, _, _, b, off, e, _, _⟩ := h.get (show 0 < n by omega)
      cases e
      exact run_convert_bytes_arg (P := Try.prog) w 22 5 Try.underlying22 Try.underlying5 b off n c (l.map Int.ofNat) (by rw [List.length_map, h.1.len]) (fun i hi => by
        obtain ⟨y, hy, _, b', off', e, _, cy⟩ := h.get hi
        cases e
        rw [cy, List.getD_eq_getElem?_getD, List.getElem?_map, hy]
        rfl) 9 Try.underlying9

set_option maxRecDepth 100000 in
theorem equal_walk (a a2 : Option Addr) (n c n2 c2 : Nat) (l l2 : List Nat) (w : World) (hr : ByteRow w a n c l) (hr2 : ByteRow w a2 n2 c2 l2) :
    Calls Try.prog 9 #[.slice a n c, .slice a2 n2 c2] w fun e w' => e = .returned (.bool (decide (l = l2))) ∧ w' = w := by
  have h1 := hr.str
  have h2 := hr2.str
  have HE := hid (nums_eq hr.2 hr2.2)
  clear hr hr2
  go_enter Try.func9, Try.ntmps9
  go_wp2
  go_ret
  exact ⟨by rw [← HE.out]; rfl, rfl⟩

theorem byteRowNew {w : World} {l : List Nat} {T : TypeId} (hl : l.length ≤ 1000) (hb : ∀ b ∈ l, b < 256) (w' : World) (h : w' = w.alloc (.cells (l.map (fun b : Nat => Value.int .u8 (b : Int))).toArray T)) : Below w.heap.size w w' ∧ ByteRow w' (some ⟨w.heap.size, 0, none⟩) l.length l.length l := by
  subst h
  refine ⟨Below.alloc (Below.refl _ _) (Nat.le_refl _) _, ⟨rfl, Nat.le_refl _, ⟨by omega, by simp [maxLen]; omega, fun h => by cases h⟩, fun i hi => ⟨_, 0, rfl, (Blk.new w _ T).lt, fun j hj => ?_⟩⟩, hb⟩
  obtain rfl : j = 0 := by omega
  rw [Blk.cell (Blk.new w _ T)]
  simp [byteCell, hi]

def EncPost (cp : Int) (w : World) (e : Ending) (w' : World) : Prop := match encM cp with
  | none => e = .returned (.slice none 0 0) ∧ w' = w
  | some l => e = .returned (.slice (some ⟨w.heap.size, 0, none⟩) l.length l.length) ∧ Below w.heap.size w w' ∧ ByteRow w' (some ⟨w.heap.size, 0, none⟩) l.length l.length l

set_option maxRecDepth 100000 in
set_option maxHeartbeats 1000000 in
theorem encode_walk (cp : Int) (h1 : -9000000000 ≤ cp) (h2 : cp ≤ 9000000000) (w : World) : Calls Try.prog 8 #[.int .i64 cp] w (EncPost cp w) := by
  by_cases hs : noScalar cp
  · have e : ∀ e w', (e = .returned (.slice none 0 0) ∧ w' = w) → EncPost cp w e w' := fun e w' h => by unfold EncPost encM; rw [if_pos hs]; exact h
    refine Calls.mono ?_ e
    clear e
    unfold noScalar at hs
    go_enter Try.func8, Try.ntmps8
    go_wp2
    all_goals go_ret
    all_goals exact ⟨rfl, rfl⟩
  · have hs0 := hs
    unfold noScalar at hs
    obtain ⟨m, rfl⟩ : ∃ m : Nat, cp = (m : Int) := ⟨cp.toNat, by omega⟩
    have e : ∀ e w', (e = .returned (.slice (some ⟨w.heap.size, 0, none⟩) (encN m).length (encN m).length) ∧ Below w.heap.size w w' ∧ ByteRow w' (some ⟨w.heap.size, 0, none⟩) (encN m).length (encN m).length (encN m)) → EncPost (m : Int) w e w' := fun e w' h => by unfold EncPost encM; rw [if_neg hs0]; exact h
    refine Calls.mono ?_ e
    clear e hs0
    have HL := hid (encN_lt m (by omega))
    by_cases g1 : m < 128
    · have e : encN m = [m] := by unfold encN; rw [if_pos g1]
      rw [e] at HL ⊢
      clear e
      go_enter Try.func8, Try.ntmps8
      go_wp2
      all_goals go_ret
      all_goals exact ⟨rfl, byteRowNew (by simp) HL.out _ (by simp; rfl)⟩
    · by_cases g2 : m < 2048
      · have e : encN m = [192 + m / 64, 128 + m % 64] := by unfold encN; rw [if_neg g1, if_pos g2]
        rw [e] at HL ⊢
        clear e
        go_enter Try.func8, Try.ntmps8
        go_wp2
        all_goals go_ret
        all_goals exact ⟨rfl, byteRowNew (by simp) HL.out _ (by simp; rfl)⟩
      · by_cases g3 : m < 65536
        · have e : encN m = [224 + m / 4096, 128 + m / 64 % 64, 128 + m % 64] := by unfold encN; rw [if_neg g1, if_neg g2, if_pos g3]
          rw [e] at HL ⊢
          have k1 : ¬ (m : Int) < 128 := by omega
          have k2 : ¬ (m : Int) < 2048 := by omega
          have k3 : (m : Int) < 65536 := by omega
          have d1 : decide ((m : Int) < 0) = false := decide_eq_false (by omega)
          have d2 : decide (1114111 < (m : Int)) = false := decide_eq_false (by omega)
          rcases (by omega : m < 55296 ∨ 57343 < m) with hq | hq
          · have d3 : decide (55296 ≤ (m : Int)) = false := decide_eq_false (by omega)
            clear e g1 g2 g3 hs hq
            go_enter Try.func8, Try.ntmps8
            go_wp2
            go_ret
            exact ⟨rfl, byteRowNew (by simp) HL.out _ (by simp; rfl)⟩
          · have d3 : decide (55296 ≤ (m : Int)) = true := decide_eq_true (by omega)
            have d4 : decide ((m : Int) ≤ 57343) = false := decide_eq_false (by omega)
            have k4 : 57343 < (m : Int) := by omega
            clear e g1 g2 g3 hs hq
            go_enter Try.func8, Try.ntmps8
            go_wp2
            go_ret
            exact ⟨rfl, byteRowNew (by simp) HL.out _ (by simp; rfl)⟩
        · have e : encN m = [240 + m / 262144, 128 + m / 4096 % 64, 128 + m / 64 % 64, 128 + m % 64] := by unfold encN; rw [if_neg g1, if_neg g2, if_neg g3]
          rw [e] at HL ⊢
          have k9 : (m : Int) ≤ 1114111 := by omega
          have k1 : ¬ (m : Int) < 128 := by omega
          have k2 : ¬ (m : Int) < 2048 := by omega
          have k3 : ¬ (m : Int) < 65536 := by omega
          have d1 : decide ((m : Int) < 0) = false := decide_eq_false (by omega)
          have d2 : decide (1114111 < (m : Int)) = false := decide_eq_false (by omega)
          rcases (by omega : m < 55296 ∨ 57343 < m) with hq | hq
          · have d3 : decide (55296 ≤ (m : Int)) = false := decide_eq_false (by omega)
            clear e g1 g2 g3 hs hq
            go_enter Try.func8, Try.ntmps8
            go_wp2
            go_ret
            exact ⟨rfl, byteRowNew (by simp) HL.out _ (by simp; rfl)⟩
          · have d3 : decide (55296 ≤ (m : Int)) = true := decide_eq_true (by omega)
            have d4 : decide ((m : Int) ≤ 57343) = false := decide_eq_false (by omega)
            have k4 : 57343 < (m : Int) := by omega
            clear e g1 g2 g3 hs hq
            go_enter Try.func8, Try.ntmps8
            go_wp2
            go_ret
            exact ⟨rfl, byteRowNew (by simp) HL.out _ (by simp; rfl)⟩
end Go.Proofs.Qxb6500881a
