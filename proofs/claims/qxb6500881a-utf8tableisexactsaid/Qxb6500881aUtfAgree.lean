/- textm.FirstInvalid; the closure 'agree'; text.IsScalar, text.AppendRune. -/
import Derived.Test.Qxb6500881aUtfM
import Derived.Test.Qxb6500881aOwn
import Derived.Laws.DeepBits32
namespace Go.Proofs.Qxb6500881a
open Go.RowKit
set_option linter.unusedSimpArgs false
set_option linter.unusedVariables false

set_option maxRecDepth 100000 in
set_option maxHeartbeats 1000000 in
theorem firstM_walk (a : Option Addr) (n c : Nat) (l : List Nat) (w : World) (hr : ByteRow w a n c l) :
    Calls Try.prog 6 #[.slice a n c] w (FirstPost l w) := by
  have hn : n ≤ 140737488351232 := hr.1.2.2.1.1
  have hc : n ≤ c := hr.1.2.1
  have HR := hid hr
  clear hr
  go_enter Try.func6, Try.ntmps6
  go_wp2
  go_loopw [3] (fun i wr => ∃ k : Nat, k ≤ n ∧ i = .int .i64 (k : Int) ∧ Hid (valid l = valid (l.drop k)) ∧ Hid (Below w.heap.size w wr)) (fun i _ => n - (intOf i).toNat)
  case atStart => exact ⟨0, Nat.zero_le _, rfl, hid (by simp), hid (Below.refl _ _)⟩
  case round =>
    obtain ⟨k, hk, rfl, HV, HB⟩ := hrel
    by_cases hlt : k < n
    · obtain ⟨x, hx, hx2, b, off, rfl, hb, cx⟩ := (HR.out.below HB.out).get hlt
      have n1 : ¬ c = k := by omega
      have HDr : Hid (l.drop k ≠ []) := hid (by
        obtain ⟨h1, _⟩ := List.getElem?_eq_some_iff.1 hx
        rw [List.drop_eq_getElem_cons h1]; exact List.cons_ne_nil _ _)
      clear hx cx
      go_wp2_with fail
      refine (decodeM_walk (some ⟨b, off + k, none⟩) (n - k) (c - k) (l.drop k) _ ((HR.out.below HB.out).drop hlt rfl)).mono ?_
      cases hd : dec (l.drop k) with
      | none =>
        have HV2 : Hid (valid l = false) := hid (by rw [HV.out]; exact valid_none hd HDr.out)
        clear hd
        rw [show decValM none = .tuple #[.int .i64 0, .int .i64 0, .bool false] from rfl]
        rintro e w1 ⟨rfl, hb1⟩
        have HB1 := hid (HB.out.trans (hb1.mono HB.out.size))
        clear hb1
        go_wp2
        go_ret
        exact ⟨_, rfl, by rw [HV2.out]; simp, HB1.out⟩
      | some p =>
        obtain ⟨r, m⟩ := p
        have hm := dec_size hd
        rw [List.length_drop, HR.out.1.len] at hm
        have HV2 : Hid (valid l = valid (l.drop (k + m))) := hid (by rw [HV.out, valid_some hd, List.drop_drop])
        obtain ⟨hm1, hm2⟩ := hm
        clear hd
        rw [show decValM (some (r, m)) = .tuple #[.int .i64 (r : Int), .int .i64 (m : Int), .bool true] from rfl]
        rintro e w1 ⟨rfl, hb1⟩
        have HB1 := hid (HB.out.trans (hb1.mono HB.out.size))
        clear hb1
        go_wp2
        exact ⟨⟨k + m, by omega, by go_num, HV2, HB1⟩, by simp [intOf]; omega⟩
    · have e : valid l = true := by rw [HV.out, List.drop_of_length_le (by rw [HR.out.1.len]; omega)]; rfl
      go_wp2
      go_ret
      exact ⟨_, rfl, by rw [e]; rfl, HB.out⟩

set_option maxRecDepth 100000 in
theorem agree_walk (a : Option Addr) (n c : Nat) (l : List Nat) (w : World) (hr : ByteRow w a n c l) :
    Calls Try.prog 4 #[.slice a n c] w fun e w' => e = .returned (.bool true) ∧ Below w.heap.size w w' := by
  have HR := hid hr
  clear hr
  go_enter Try.func4, Try.ntmps4
  go_wp2_with fail
  refine (validUTF8_walk a n c l _ HR.out).mono ?_
  rintro e w1 ⟨rfl, hb⟩
  have HB := hid hb
  clear hb
  go_wp2_with fail
  refine (firstM_walk a n c l _ (HR.out.below HB.out)).mono ?_
  rintro e w2 ⟨v, rfl, hv, hb2⟩
  have HV := hid hv
  have HB2 := hid hb2
  clear hv hb2
  go_wp2
  go_ret
  refine ⟨?_, HB.out.trans (HB2.out.mono HB.out.size)⟩
  have := HV.out
  simp [this]

theorem info_u8 : (Try.prog.info? 5).map (fun i => (i.zero, i.size, i.bytes)) = some (some (.int .u8 0), 1, 1) := by kernel_rfl

set_option maxRecDepth 100000 in
set_option maxHeartbeats 1000000 in
theorem isScalar_walk (cp : Int) (h1 : -100 ≤ cp) (h2 : cp ≤ 2000000) (w : World) : Calls Try.prog 13 #[.int .i32 cp] w fun e w' => e = .returned (.bool (!decide (noScalar cp))) ∧ w' = w := by
  rcases (by omega : cp < 0 ∨ (0 ≤ cp ∧ cp < 55296) ∨ (55296 ≤ cp ∧ cp ≤ 57343) ∨ (57343 < cp ∧ cp ≤ 1114111) ∨ 1114111 < cp) with h | h | h | h | h
  · have e : (!decide (noScalar cp)) = false := by rw [decide_eq_true (by unfold noScalar; omega)]; rfl
    rw [e]; clear e
    have d1 : decide (0 ≤ cp) = false := decide_eq_false (by omega)
    have d3 : decide (57343 < cp) = false := decide_eq_false (by omega)
    clear h
    go_enter Try.func13, Try.ntmps13
    go_wp2
    go_ret
    exact ⟨rfl, rfl⟩
  · have e : (!decide (noScalar cp)) = true := by rw [decide_eq_false (by unfold noScalar; omega)]; rfl
    rw [e]; clear e
    have d1 : decide (0 ≤ cp) = true := decide_eq_true (by omega)
    have d2 : decide (cp < 55296) = true := decide_eq_true (by omega)
    clear h
    go_enter Try.func13, Try.ntmps13
    go_wp2
    go_ret
    exact ⟨rfl, rfl⟩
  · have e : (!decide (noScalar cp)) = false := by rw [decide_eq_true (by unfold noScalar; omega)]; rfl
    rw [e]; clear e
    have d1 : decide (0 ≤ cp) = true := decide_eq_true (by omega)
    have d2 : decide (cp < 55296) = false := decide_eq_false (by omega)
    have d3 : decide (57343 < cp) = false := decide_eq_false (by omega)
    clear h
    go_enter Try.func13, Try.ntmps13
    go_wp2
    go_ret
    exact ⟨rfl, rfl⟩
  · have e : (!decide (noScalar cp)) = true := by rw [decide_eq_false (by unfold noScalar; omega)]; rfl
    rw [e]; clear e
    have d1 : decide (0 ≤ cp) = true := decide_eq_true (by omega)
    have d2 : decide (cp < 55296) = false := decide_eq_false (by omega)
    have d3 : decide (57343 < cp) = true := decide_eq_true (by omega)
    have d4 : decide (cp ≤ 1114111) = true := decide_eq_true (by omega)
    clear h
    go_enter Try.func13, Try.ntmps13
    go_wp2
    go_ret
    exact ⟨rfl, rfl⟩
  · have e : (!decide (noScalar cp)) = false := by rw [decide_eq_true (by unfold noScalar; omega)]; rfl
    rw [e]; clear e
    have d1 : decide (0 ≤ cp) = true := decide_eq_true (by omega)
    have d2 : decide (cp < 55296) = false := decide_eq_false (by omega)
    have d3 : decide (57343 < cp) = true := decide_eq_true (by omega)
    have d4 : decide (cp ≤ 1114111) = false := decide_eq_false (by omega)
    clear h
    go_enter Try.func13, Try.ntmps13
    go_wp2
    go_ret
    exact ⟨rfl, rfl⟩

theorem i32_and63 (x : Nat) (hx : x < 2147483648) : bits .and .i32 (x : Int) 63 = (x : Int) % 64 := by
  show IntKind.i32.wrap ((BitVec.ofInt 32 (x : Int) &&& BitVec.ofInt 32 63).toNat : Int) = _
  have h1 : (BitVec.ofInt 32 63).toNat = 63 := by decide
  rw [BitVec.toNat_and, ofInt_u32 x (by omega), h1, show 63 = 2 ^ 6 - 1 by decide, Nat.and_two_pow_sub_one_eq_mod]
  rw [wrap_i32_small _ (by omega) (by omega)]
  omega

theorem byteNew (W : World) (l : List Value) (t : TypeId) (g : Nat) (hg : g = W.heap.size) : ∀ ad, some (⟨g, 0, none⟩ : Addr) = some ad → ∀ j u, l[j]? = some u → (W.alloc (.cells l.toArray t)).cell? (ad.add j) = some u := newRow W l t g hg
theorem u8_one (l : List Int) : ∀ u ∈ l.map (Value.int .u8), u.oneCell' = true := by
  intro u hu
  obtain ⟨x, _, rfl⟩ := List.mem_map.1 hu
  rfl

def AppPost (cp : Int) (w : World) (e : Ending) (w' : World) : Prop := match encM cp with
  | none => e = .returned (.tuple #[.slice none 0 0, .bool false]) ∧ w' = w
  | some l => ∃ a c, e = .returned (.tuple #[.slice a l.length c, .bool true]) ∧ Below w.heap.size w w' ∧ ByteRow w' a l.length c l

set_option maxRecDepth 100000 in
set_option maxHeartbeats 1000000 in
theorem appendRune_walk (cp : Int) (h1 : -100 ≤ cp) (h2 : cp ≤ 2000000) (w : World) : Calls Try.prog 7 #[.slice none 0 0, .int .i32 cp] w (AppPost cp w) := by
  by_cases hs : noScalar cp
  · have e : ∀ e w', (e = .returned (.tuple #[.slice none 0 0, .bool false]) ∧ w' = w) → AppPost cp w e w' := fun e w' h => by unfold AppPost encM; rw [if_pos hs]; exact h
    refine Calls.mono ?_ e
    clear e
    have HSc : Hid ((!decide (noScalar cp)) = false) := hid (by simp [hs])
    clear hs
    go_enter Try.func7, Try.ntmps7
    go_wp2_with fail
    refine (isScalar_walk cp h1 h2 _).mono ?_
    rw [HSc.out]
    rintro e w1 ⟨rfl, rfl⟩
    go_wp2
    go_ret2
    exact ⟨rfl, rfl⟩
  · have hs0 := hs
    unfold noScalar at hs
    obtain ⟨m, rfl⟩ : ∃ m : Nat, cp = (m : Int) := ⟨cp.toNat, by omega⟩
    have e : ∀ e w', (∃ a c, e = .returned (.tuple #[.slice a (encN m).length c, .bool true]) ∧ Below w.heap.size w w' ∧ ByteRow w' a (encN m).length c (encN m)) → AppPost (m : Int) w e w' := fun e w' h => by unfold AppPost encM; rw [if_neg hs0]; exact h
    refine Calls.mono ?_ e
    have HSc : Hid ((!decide (noScalar (m : Int))) = true) := hid (by simp [hs0])
    clear e hs0
    have HL := hid (encN_lt m (by omega))
    have hm : m ≤ 1114111 := by omega
    clear hs
    obtain ⟨i0, hi, hz0, hz1, hz2⟩ := info_parts info_u8
    have HI : Hid (Try.prog.info? 5 = some i0 ∧ i0.zero = some (.int .u8 0) ∧ i0.size = 1 ∧ i0.bytes = 1) := hid ⟨hi, hz0, hz1, hz2⟩
    clear hi hz0 hz1 hz2
    by_cases g1 : m < 128
    · have e : encN m = [m] := by unfold encN; rw [if_pos g1]
      rw [e] at HL ⊢
      have k1 : (m : Int) < 128 := by omega
      clear e g1
      go_enter Try.func7, Try.ntmps7
      go_wp2_with fail
      refine (isScalar_walk m (by omega) (by omega) _).mono ?_
      rw [HSc.out]
      rintro e w1 ⟨rfl, rfl⟩
      go_wp2_with (at_builtin; refine wpList_append_row _ rfl (.tmp 14) (.tmp 17) 22 rfl w1.heap.size 5 i0 (.int .u8 0) 1 1 Try.underlying22 HI.out.1 HI.out.2.1 HI.out.2.2.1 HI.out.2.2.2 rfl (by decide) _ _ _ rfl (World.ownsRow_nil _ _ _ _) (some ⟨w1.heap.size, 0, none⟩) 1 1 [.int .u8 (m : Int)] rfl rfl (fun h => by cases h) (byteNew _ _ _ _ rfl) (u8_one [(m : Int)]) (by omega) (by decide) (by simp) ?_; intro v4 w4 hown4 hb4 hk4 hg4; have HB4 : Hid (Below w1.heap.size w1 w4) := hid ((Below.alloc (Below.refl _ _) (Nat.le_refl _) _).trans hb4); have HO4 := hid hown4; clear hb4 hk4 hown4 hg4)
      have hr4 := HO4.out
      obtain ⟨a4, n4, c4, rfl, hrow4⟩ := ownsRow_row (sz := 1) (f := byteCell) (l := [m]) (by omega) (fun _ => rfl) (by simp) (by simpa [byteCell] using hr4)
      have hn4 := hrow4.len
      simp at hn4
      subst hn4
      go_ret2
      exact ⟨a4, c4, rfl, HB4.out, hrow4, HL.out⟩
    · by_cases g2 : m < 2048
      · have e : encN m = [192 + m / 64, 128 + m % 64] := by unfold encN; rw [if_neg g1, if_pos g2]
        rw [e] at HL ⊢
        have k1 : ¬ (m : Int) < 128 := by omega
        have k2 : (m : Int) < 2048 := by omega
        have f1 := i32_and63 m (by omega)
        clear e g1 g2
        go_enter Try.func7, Try.ntmps7
        go_wp2_with fail
        refine (isScalar_walk m (by omega) (by omega) _).mono ?_
        rw [HSc.out]
        rintro e w1 ⟨rfl, rfl⟩
        go_wp2_with (at_builtin; refine wpList_append_row _ rfl (.tmp 22) (.tmp 31) 22 rfl w1.heap.size 5 i0 (.int .u8 0) 1 1 Try.underlying22 HI.out.1 HI.out.2.1 HI.out.2.2.1 HI.out.2.2.2 rfl (by decide) _ _ _ rfl (World.ownsRow_nil _ _ _ _) (some ⟨w1.heap.size, 0, none⟩) 2 2 [.int .u8 (192 + (m : Int) / 64), .int .u8 (128 + (m : Int) % 64)] rfl rfl (fun h => by cases h) (byteNew _ _ _ _ rfl) (u8_one [(192 + (m : Int) / 64), (128 + (m : Int) % 64)]) (by omega) (by decide) (by simp) ?_; intro v4 w4 hown4 hb4 hk4 hg4; have HB4 : Hid (Below w1.heap.size w1 w4) := hid ((Below.alloc (Below.refl _ _) (Nat.le_refl _) _).trans hb4); have HO4 := hid hown4; clear hb4 hk4 hown4 hg4)
        have hr4 := HO4.out
        obtain ⟨a4, n4, c4, rfl, hrow4⟩ := ownsRow_row (sz := 1) (f := byteCell) (l := [192 + m / 64, 128 + m % 64]) (by omega) (fun _ => rfl) (by simp) (by simpa [byteCell] using hr4)
        have hn4 := hrow4.len
        simp at hn4
        subst hn4
        go_ret2
        exact ⟨a4, c4, rfl, HB4.out, hrow4, HL.out⟩
      · by_cases g3 : m < 65536
        · have e : encN m = [224 + m / 4096, 128 + m / 64 % 64, 128 + m % 64] := by unfold encN; rw [if_neg g1, if_neg g2, if_pos g3]
          rw [e] at HL ⊢
          have k1 : 128 ≤ (m : Int) := by omega
          have d1 : decide ((m : Int) < 128) = false := decide_eq_false (by omega)
          have k2 : 2048 ≤ (m : Int) := by omega
          have d2 : decide ((m : Int) < 2048) = false := decide_eq_false (by omega)
          have k3 : (m : Int) < 65536 := by omega
          have d3 : decide ((m : Int) < 65536) = true := decide_eq_true (by omega)
          have f1 := i32_and63 m (by omega)
          have f2 : bits .and .i32 ((m : Int) / 64) 63 = (m : Int) / 64 % 64 := by have := i32_and63 (m / 64) (by omega); simpa using this
          clear e g1 g2 g3
          go_enter Try.func7, Try.ntmps7
          go_wp2_with fail
          refine (isScalar_walk m (by omega) (by omega) _).mono ?_
          rw [HSc.out]
          rintro e w1 ⟨rfl, rfl⟩
          go_wp2_with (at_builtin; refine wpList_append_row _ rfl (.tmp 36) (.tmp 50) 22 rfl w1.heap.size 5 i0 (.int .u8 0) 1 1 Try.underlying22 HI.out.1 HI.out.2.1 HI.out.2.2.1 HI.out.2.2.2 rfl (by decide) _ _ _ rfl (World.ownsRow_nil _ _ _ _) (some ⟨w1.heap.size, 0, none⟩) 3 3 [.int .u8 (224 + (m : Int) / 4096), .int .u8 (128 + (m : Int) / 64 % 64), .int .u8 (128 + (m : Int) % 64)] rfl rfl (fun h => by cases h) (byteNew _ _ _ _ rfl) (u8_one [(224 + (m : Int) / 4096), (128 + (m : Int) / 64 % 64), (128 + (m : Int) % 64)]) (by omega) (by decide) (by simp) ?_; intro v4 w4 hown4 hb4 hk4 hg4; have HB4 : Hid (Below w1.heap.size w1 w4) := hid ((Below.alloc (Below.refl _ _) (Nat.le_refl _) _).trans hb4); have HO4 := hid hown4; clear hb4 hk4 hown4 hg4)
          have hr4 := HO4.out
          obtain ⟨a4, n4, c4, rfl, hrow4⟩ := ownsRow_row (sz := 1) (f := byteCell) (l := [224 + m / 4096, 128 + m / 64 % 64, 128 + m % 64]) (by omega) (fun _ => rfl) (by simp) (by simpa [byteCell] using hr4)
          have hn4 := hrow4.len
          simp at hn4
          subst hn4
          go_ret2
          exact ⟨a4, c4, rfl, HB4.out, hrow4, HL.out⟩
        · have e : encN m = [240 + m / 262144, 128 + m / 4096 % 64, 128 + m / 64 % 64, 128 + m % 64] := by unfold encN; rw [if_neg g1, if_neg g2, if_neg g3]
          rw [e] at HL ⊢
          have k1 : 128 ≤ (m : Int) := by omega
          have d1 : decide ((m : Int) < 128) = false := decide_eq_false (by omega)
          have k2 : 2048 ≤ (m : Int) := by omega
          have d2 : decide ((m : Int) < 2048) = false := decide_eq_false (by omega)
          have k3 : 65536 ≤ (m : Int) := by omega
          have d3 : decide ((m : Int) < 65536) = false := decide_eq_false (by omega)
          have k4 : (m : Int) ≤ 1114111 := by omega
          have f1 := i32_and63 m (by omega)
          have f2 : bits .and .i32 ((m : Int) / 64) 63 = (m : Int) / 64 % 64 := by have := i32_and63 (m / 64) (by omega); simpa using this
          have f3 : bits .and .i32 ((m : Int) / 4096) 63 = (m : Int) / 4096 % 64 := by have := i32_and63 (m / 4096) (by omega); simpa using this
          clear e g1 g2 g3
          go_enter Try.func7, Try.ntmps7
          go_wp2_with fail
          refine (isScalar_walk m (by omega) (by omega) _).mono ?_
          rw [HSc.out]
          rintro e w1 ⟨rfl, rfl⟩
          go_wp2_with (at_builtin; refine wpList_append_row _ rfl (.tmp 52) (.tmp 71) 22 rfl w1.heap.size 5 i0 (.int .u8 0) 1 1 Try.underlying22 HI.out.1 HI.out.2.1 HI.out.2.2.1 HI.out.2.2.2 rfl (by decide) _ _ _ rfl (World.ownsRow_nil _ _ _ _) (some ⟨w1.heap.size, 0, none⟩) 4 4 [.int .u8 (240 + (m : Int) / 262144), .int .u8 (128 + (m : Int) / 4096 % 64), .int .u8 (128 + (m : Int) / 64 % 64), .int .u8 (128 + (m : Int) % 64)] rfl rfl (fun h => by cases h) (byteNew _ _ _ _ rfl) (u8_one [(240 + (m : Int) / 262144), (128 + (m : Int) / 4096 % 64), (128 + (m : Int) / 64 % 64), (128 + (m : Int) % 64)]) (by omega) (by decide) (by simp) ?_; intro v4 w4 hown4 hb4 hk4 hg4; have HB4 : Hid (Below w1.heap.size w1 w4) := hid ((Below.alloc (Below.refl _ _) (Nat.le_refl _) _).trans hb4); have HO4 := hid hown4; clear hb4 hk4 hown4 hg4)
          have hr4 := HO4.out
          obtain ⟨a4, n4, c4, rfl, hrow4⟩ := ownsRow_row (sz := 1) (f := byteCell) (l := [240 + m / 262144, 128 + m / 4096 % 64, 128 + m / 64 % 64, 128 + m % 64]) (by omega) (fun _ => rfl) (by simp) (by simpa [byteCell] using hr4)
          have hn4 := hrow4.len
          simp at hn4
          subst hn4
          go_ret2
          exact ⟨a4, c4, rfl, HB4.out, hrow4, HL.out⟩
end Go.Proofs.Qxb6500881a
