/- Walks of arena's headers: check, EncodeHeader, DecodeHeader. -/
import Derived.Test.Qxb6500887aGreatProg
import Derived.WalkKit
import Derived.WalkSpells
import Derived.Below
namespace Go.Proofs.Qxb6500887aGreat
open Go.RowKit
set_option linter.unusedSimpArgs false
set_option linter.unusedVariables false

def hdrCheck (size refs : Int) : Int := if size < 1 ∨ 8192 < size then 4 else if refs < 0 ∨ size < refs then 5 else 0

set_option maxHeartbeats 400000 in
theorem check_walk (size refs : Int) (w : World) :
    Calls Tryz.prog 169 #[.agg #[.int .i64 size, .int .i64 refs]] w fun e w' => e = .returned (.int .u8 (hdrCheck size refs)) ∧ Below w.heap.size w w' := by
  have fin : Below w.heap.size w (w.alloc (.cells #[.int .i64 size, .int .i64 refs] 59)) := (Below.refl _ _).alloc (Nat.le_refl _) _
  unfold hdrCheck
  by_cases h1 : size < 1
  · go_enter Tryz.func169, Tryz.ntmps169
    go_wp2
    go_ret
    exact ⟨by simp [h1], fin⟩
  by_cases h2 : 8192 < size
  · go_enter Tryz.func169, Tryz.ntmps169
    go_wp2
    go_ret
    exact ⟨by simp [h2], fin⟩
  by_cases h3 : refs < 0
  · go_enter Tryz.func169, Tryz.ntmps169
    go_wp2
    go_ret
    exact ⟨by simp [h1, h2, h3], fin⟩
  by_cases h4 : size < refs
  · go_enter Tryz.func169, Tryz.ntmps169
    go_wp2
    go_ret
    exact ⟨by simp [h1, h2, h4], fin⟩
  · go_enter Tryz.func169, Tryz.ntmps169
    go_wp2
    go_ret
    exact ⟨by simp [h1, h2, h3, h4], fin⟩

theorem and_mid (x : Int) (h0 : 0 ≤ x) (h1 : x < 18446744073709551616) : bits .and .u64 x 72057589742960640 = x / 4294967296 % 16777216 * 4294967296 := by
  rw [u64_and x 72057589742960640 h0 h1 (by decide) (by decide)]
  obtain ⟨n, rfl⟩ := Int.eq_ofNat_of_zero_le h0
  rw [Int.toNat_natCast]
  have := nat_midmask 56 32 n (by decide)
  simp only [Nat.reducePow, Nat.reduceSub] at this
  rw [show (72057589742960640 : Int).toNat = 72057589742960640 from rfl, this]
  omega
theorem and_lo (x : Int) (h0 : 0 ≤ x) (h1 : x < 18446744073709551616) : bits .and .u64 x 65535 = x % 65536 := by
  rw [u64_and x 65535 h0 h1 (by decide) (by decide)]
  obtain ⟨n, rfl⟩ := Int.eq_ofNat_of_zero_le h0
  rw [Int.toNat_natCast, show (65535 : Int).toNat = 65535 from rfl, show n &&& 65535 = n % 65536 from Nat.and_two_pow_sub_one_eq_mod n 16]
  omega
theorem or_join (i : Nat) (x y : Int) (h0 : 0 ≤ x) (h1 : x < 18446744073709551616) (h2 : 0 ≤ y) (h3 : y < 18446744073709551616) (hx : x.toNat % 2 ^ i = 0) (hy : y.toNat < 2 ^ i) : bits .or .u64 x y = x + y := by
  rw [u64_or x y h0 h1 h2 h3, nat_join i _ _ hx hy]
  omega

theorem ret_ii {k l : IntKind} {a b c d : Int} (h : a = b) (h' : c = d) : Ending.returned (.tuple #[.int k a, .int l c]) = .returned (.tuple #[.int k b, .int l d]) := by rw [h, h']

def encW (size refs : Int) : Int := 13186539708940812288 + refs * 65536 + size

theorem enc_or (size refs : Int) (h1 : 0 ≤ size) (h2 : size ≤ 8192) (h3 : 0 ≤ refs) (h4 : refs ≤ 8192) :
    bits .or .u64 (bits .or .u64 13186539708940812288 (refs * 65536)) size = encW size refs := by
  rw [or_join 56 13186539708940812288 (refs * 65536) (by omega) (by omega) (by omega) (by omega) (by decide) (by omega),
    or_join 16 _ size (by omega) (by omega) (by omega) (by omega) (by omega) (by omega)]
  rfl

set_option maxHeartbeats 400000 in
theorem encode_walk (size refs : Int) (w : World) (h1 : 1 ≤ size) (h2 : size ≤ 8192) (h3 : 0 ≤ refs) (h4 : refs ≤ size) :
    Calls Tryz.prog 64 #[.int .i64 size, .int .i64 refs] w fun e w' => e = .returned (.tuple #[.int .u64 (encW size refs), .int .u8 0]) ∧ Below w.heap.size w w' := by
  have h : hdrCheck size refs = 0 := by unfold hdrCheck; rw [if_neg (by omega), if_neg (by omega)]
  go_enter Tryz.func64, Tryz.ntmps64
  go_wp2_with (go_at_call 169; refine (check_walk _ _ _).mono ?_; rintro e w' ⟨rfl, hb⟩)
  go_ret2
  exact ⟨ret_ii (enc_or size refs (by omega) h2 h3 (by omega)) rfl, ((Below.refl _ _).alloc (Nat.le_refl _) _).trans (hb.mono (by simp))⟩

set_option maxHeartbeats 400000 in
theorem encode_bad (size refs : Int) (w : World) (h : (hdrCheck size refs != 0) = true) :
    Calls Tryz.prog 64 #[.int .i64 size, .int .i64 refs] w fun e w' => e = .returned (.tuple #[.int .u64 0, .int .u8 (hdrCheck size refs)]) ∧ Below w.heap.size w w' := by
  go_enter Tryz.func64, Tryz.ntmps64
  go_wp2_with (go_at_call 169; refine (check_walk _ _ _).mono ?_; rintro e w' ⟨rfl, hb⟩)
  go_ret2
  exact ⟨rfl, ((Below.refl _ _).alloc (Nat.le_refl _) _).trans (hb.mono (by simp))⟩

theorem bcell {W w1 : World} (hb : Below W.heap.size W w1) : (∀ b o, b < W.heap.size → w1.cell? ⟨b, o, none⟩ = W.cell? ⟨b, o, none⟩) ∧ (∀ b o, b < W.heap.size → w1.frozen? ⟨b, o, none⟩ = W.frozen? ⟨b, o, none⟩) :=
  ⟨fun b o h => hb.cell (p := ⟨b, o, none⟩) h, fun b o h => hb.frozen (p := ⟨b, o, none⟩) h⟩

/-- What a word says as a header. -/
def decSize (x : Int) : Int := x % 65536
def decRefs (x : Int) : Int := x / 65536 % 65536
def isHdr (x : Int) : Prop := x / 72057594037927936 = 183 ∧ x / 4294967296 % 16777216 = 0 ∧ hdrCheck (decSize x) (decRefs x) = 0

set_option maxHeartbeats 400000 in
theorem decode_good (x : Int) (w : World) (h0 : 0 ≤ x) (h1 : x < 18446744073709551616) (h : isHdr x) :
    Calls Tryz.prog 65 #[.int .u64 x] w fun e w' => e = .returned (.tuple #[.agg #[.int .i64 (decSize x), .int .i64 (decRefs x)], .int .u8 0]) ∧ Below w.heap.size w w' := by
  obtain ⟨g1, g2, g3⟩ := h
  have b1 : (x / 72057594037927936 != 183) = false := by simp [g1]
  have b2 : bits .and .u64 x 72057589742960640 = 0 := by rw [and_mid x h0 h1, g2]; rfl
  have b3 : bits .and .u64 x 65535 = decSize x := and_lo x h0 h1
  have b4 : bits .and .u64 (x / 65536) 65535 = decRefs x := and_lo _ (by omega) (by omega)
  have r1 : 0 ≤ decSize x ∧ decSize x < 65536 := by unfold decSize; omega
  have r2 : 0 ≤ decRefs x ∧ decRefs x < 65536 := by unfold decRefs; omega
  clear g1 g2
  generalize decSize x = sz at *
  generalize decRefs x = rf at *
  go_enter Tryz.func65, Tryz.ntmps65
  go_wp2_with (go_at_call 169; refine (check_walk _ _ _).mono ?_; rintro e w' ⟨rfl, hb⟩; obtain ⟨hc, hf⟩ := bcell hb)
  have hz : w.heap.size + 1 < w'.heap.size := by have := hb.size; simp at this; omega
  have k0 : w'.cell? ⟨w.heap.size, 0, none⟩ = some (.int .i64 0) := by rw [hc _ _ (by simp; omega)]; simp [go_sem]
  have k1 : w'.cell? ⟨w.heap.size, 1, none⟩ = some (.int .i64 0) := by rw [hc _ _ (by simp; omega)]; simp [go_sem]
  refine bodyPost_ret (v := .tuple #[.agg #[.int .i64 sz, .int .i64 rf], .int .u8 0]) (by simp [results, Tryz.results65, go_sem, k0, k1, hz]) rfl ⟨rfl, ?_⟩
  exact (((((Below.refl _ _).alloc (Nat.le_refl _) _).alloc (by simp) _).trans (hb.mono (by simp; omega))).setCell (Nat.le_refl _) _).setCell (Nat.le_refl _) _

set_option maxHeartbeats 400000 in
theorem decode_bad (x : Int) (w : World) (h0 : 0 ≤ x) (h1 : x < 18446744073709551616) (h : ¬ isHdr x) :
    Calls Tryz.prog 65 #[.int .u64 x] w fun e w' => e = .returned (.tuple #[.agg #[.int .i64 0, .int .i64 0], .int .u8 6]) ∧ Below w.heap.size w w' := by
  have fin : Below w.heap.size w (w.alloc (.cells #[.int .i64 0, .int .i64 0] 59)) := (Below.refl _ _).alloc (Nat.le_refl _) _
  by_cases g1 : ¬ x / 72057594037927936 = 183
  · have b1 : (x / 72057594037927936 != 183) = true := by simp [g1]
    clear h
    go_enter Tryz.func65, Tryz.ntmps65
    go_wp2
    exact bodyPost_ret (v := .tuple #[.agg #[.int .i64 0, .int .i64 0], .int .u8 6]) (by simp [results, Tryz.results65, go_sem]) rfl ⟨rfl, fin⟩
  have g1 := Classical.not_not.1 g1
  have b1 : (x / 72057594037927936 != 183) = false := by simp [g1]
  by_cases g2 : ¬ x / 4294967296 % 16777216 = 0
  · have b2 : (bits .and .u64 x 72057589742960640 != 0) = true := by rw [and_mid x h0 h1, bne_iff_ne]; omega
    clear h g1 g2
    go_enter Tryz.func65, Tryz.ntmps65
    go_wp2
    exact bodyPost_ret (v := .tuple #[.agg #[.int .i64 0, .int .i64 0], .int .u8 6]) (by simp [results, Tryz.results65, go_sem]) rfl ⟨rfl, fin⟩
  have g2 := Classical.not_not.1 g2
  have b2 : bits .and .u64 x 72057589742960640 = 0 := by rw [and_mid x h0 h1, g2]; rfl
  have b3 : bits .and .u64 x 65535 = decSize x := and_lo x h0 h1
  have b4 : bits .and .u64 (x / 65536) 65535 = decRefs x := and_lo _ (by omega) (by omega)
  have r1 : 0 ≤ decSize x ∧ decSize x < 65536 := by unfold decSize; omega
  have r2 : 0 ≤ decRefs x ∧ decRefs x < 65536 := by unfold decRefs; omega
  have b5 : (hdrCheck (decSize x) (decRefs x) != 0) = true := by
    rw [bne_iff_ne]; exact fun e => h ⟨g1, g2, e⟩
  clear g1 g2 h
  generalize decSize x = sz at *
  generalize decRefs x = rf at *
  go_enter Tryz.func65, Tryz.ntmps65
  go_wp2_with (go_at_call 169; refine (check_walk _ _ _).mono ?_; rintro e w' ⟨rfl, hb⟩; obtain ⟨hc, hf⟩ := bcell hb)
  have hz : w.heap.size + 1 < w'.heap.size := by have := hb.size; simp at this; omega
  have k0 : w'.cell? ⟨w.heap.size, 0, none⟩ = some (.int .i64 0) := by rw [hc _ _ (by simp; omega)]; simp [go_sem]
  have k1 : w'.cell? ⟨w.heap.size, 1, none⟩ = some (.int .i64 0) := by rw [hc _ _ (by simp; omega)]; simp [go_sem]
  refine bodyPost_ret (v := .tuple #[.agg #[.int .i64 0, .int .i64 0], .int .u8 6]) (by simp [results, Tryz.results65, go_sem, k0, k1, hz]) rfl ⟨rfl, ?_⟩
  exact (((((Below.refl _ _).alloc (Nat.le_refl _) _).alloc (by simp) _).trans (hb.mono (by simp; omega))).setCell (Nat.le_refl _) _).setCell (Nat.le_refl _) _

theorem enc_dec (size refs : Int) (h1 : 1 ≤ size) (h2 : size ≤ 8192) (h3 : 0 ≤ refs) (h4 : refs ≤ size) : isHdr (encW size refs) ∧ decSize (encW size refs) = size ∧ decRefs (encW size refs) = refs ∧ 0 ≤ encW size refs ∧ encW size refs < 18446744073709551616 := by
  have e1 : decSize (encW size refs) = size := by unfold decSize encW; omega
  have e2 : decRefs (encW size refs) = refs := by unfold decRefs encW; omega
  refine ⟨⟨by unfold encW; omega, by unfold encW; omega, ?_⟩, e1, e2, by unfold encW; omega, by unfold encW; omega⟩
  rw [e1, e2]; unfold hdrCheck; rw [if_neg (by omega), if_neg (by omega)]
end Go.Proofs.Qxb6500887aGreat
