/- soundDecode and the law HeaderDecodeIsSound. -/
import Derived.Test.Qxb6500887aArOps
import Derived.Test.Qxb6500887aArHeader
import Derived.Deep.QuietTactic
import Derived.BigQuiet
import Derived.Deep.DeepCutAuto
import Derived.Test.Qxb6500887aDrew
namespace Go.Proofs.Qxb6500887a
open Go.RowKit
set_option linter.unusedSimpArgs false
set_option linter.unusedVariables false

theorem encode_any (size refs : Int) (w : World) :
    Calls Try.prog 23 #[.int .i64 size, .int .i64 refs] w fun e w' => ∃ v : Int, e = .returned (.tuple #[.int .u64 v, .int .u8 (hdrCheck size refs)]) ∧ Below w.heap.size w w' := by
  by_cases h : hdrCheck size refs = 0
  · rw [h]
    have h' := h
    unfold hdrCheck at h'
    split at h'
    · exact absurd h' (by decide)
    · split at h'
      · exact absurd h' (by decide)
      · exact (encode_walk size refs w (by omega) (by omega) (by omega) (by omega)).mono fun e w' h => ⟨_, h⟩
  · exact (encode_bad size refs w (by rw [bne_iff_ne]; exact h)).mono fun e w' h => ⟨_, h⟩

theorem wrap_U64 (x : Int) : U64 (IntKind.u64.wrap x) := by rw [IntKind.wrap_u64]; unfold U64; omega
theorem xor_U64 (x y : Int) (hx : U64 x) (hy : U64 y) : U64 (bits .xor .u64 x y) := by
  rw [u64_xor x y hx.1 hx.2 hy.1 hy.2]
  have := Nat.xor_lt_two_pow (n := 64) (x := x.toNat) (y := y.toNat) (by have := hx.1; have := hx.2; omega) (by have := hy.1; have := hy.2; omega)
  unfold U64
  omega
theorem eight (v0 v1 v2 v3 v4 v5 v6 v7 : Int) (h0 : U64 v0) (h1 : U64 v1) (h2 : U64 v2) (h3 : U64 v3) (h4 : U64 v4) (h5 : U64 v5) (h6 : U64 v6) (h7 : U64 v7) :
    ∀ j, j < 8 → ∃ x, (#[.int .u64 v0, .int .u64 v1, .int .u64 v2, .int .u64 v3, .int .u64 v4, .int .u64 v5, .int .u64 v6, .int .u64 v7] : Array Value)[j]? = some (.int .u64 x) ∧ U64 x := by
  intro j hj
  match j, hj with
  | 0, _ => exact ⟨v0, rfl, h0⟩
  | 1, _ => exact ⟨v1, rfl, h1⟩
  | 2, _ => exact ⟨v2, rfl, h2⟩
  | 3, _ => exact ⟨v3, rfl, h3⟩
  | 4, _ => exact ⟨v4, rfl, h4⟩
  | 5, _ => exact ⟨v5, rfl, h5⟩
  | 6, _ => exact ⟨v6, rfl, h6⟩
  | 7, _ => exact ⟨v7, rfl, h7⟩

theorem number_walk (x : Int) (h : U64 x) (w : World) :
    Calls Try.prog 22 #[.int .u64 x] w fun e w' => e = .returned (.int .i64 (wrap64 x)) ∧ w' = w := by
  go_enter Try.func22, Try.ntmps22
  go_wp2
  go_ret
  exact ⟨rfl, rfl⟩

theorem dec_enc (x : Int) (h0 : 0 ≤ x) (h1 : x < 18446744073709551616) (h : isHdr x) : 1 ≤ decSize x ∧ decSize x ≤ 8192 ∧ 0 ≤ decRefs x ∧ decRefs x ≤ decSize x ∧ encW (decSize x) (decRefs x) = x := by
  obtain ⟨g1, g2, g3⟩ := h
  have e : encW (decSize x) (decRefs x) = x := by unfold encW decSize decRefs; omega
  unfold hdrCheck at g3
  split at g3
  · exact absurd g3 (by decide)
  · split at g3
    · exact absurd g3 (by decide)
    · exact ⟨by omega, by omega, by omega, by omega, e⟩

set_option maxHeartbeats 400000 in
theorem sound_walk (x : Int) (h0 : 0 ≤ x) (h1 : x < 18446744073709551616) (w : World) :
    Calls Try.prog 24 #[.int .u64 x] w fun e w' => e = .returned (.bool true) ∧ Below w.heap.size w w' := by
  by_cases h : isHdr x
  · obtain ⟨d1, d2, d3, d4, d5⟩ := dec_enc x h0 h1 h
    have HH := hid h
    have H5 := hid d5
    clear h d5
    go_enter Try.func24, Try.ntmps24
    go_wp2_with fail
    refine (decode_good x _ h0 h1 HH.out).mono ?_
    rintro e w1 ⟨rfl, hb1⟩
    have hsz := hb1.size
    go_wp2_with fail
    refine (encode_walk _ _ _ d1 d2 d3 d4).mono ?_
    rintro e w2 ⟨rfl, hb2⟩
    rw [H5.out]
    go_wp2
    go_ret
    exact ⟨rfl, (hb1.alloc hsz _).trans (hb2.mono (by simp; omega))⟩
  · have HH := hid h
    clear h
    go_enter Try.func24, Try.ntmps24
    go_wp2_with fail
    refine (decode_bad x _ h0 h1 HH.out).mono ?_
    rintro e w1 ⟨rfl, hb1⟩
    have hsz := hb1.size
    go_wp2
    go_ret
    exact ⟨rfl, hb1.alloc hsz _⟩

set_option maxRecDepth 100000 in
set_option maxHeartbeats 1000000 in
theorem hdrSound_walk (a : Option Addr) (n c : Nat) (l : List AOp) (w : World) (hs : Script w a n c l) :
    Calls Try.prog 4 #[.slice a n c] w fun e w' => e = .returned (.bool true) ∧ Below w.heap.size w w' := by
  have hn := hs.1.2.2.1.1
  have HS := hid hs
  clear hs
  by_cases hsm : n ≤ 65536
  rotate_left
  · have hd : decide (n ≤ 65536) = false := decide_eq_false hsm
    go_enter Try.func4, Try.ntmps4
    go_wp2_with (go_at_call 9; refine (small_walk a n c hn _).mono ?_; rintro e w' ⟨rfl, rfl⟩)
    go_ret
    exact ⟨rfl, Below.refl _ _⟩
  have hd : decide (n ≤ 65536) = true := decide_eq_true hsm
  go_enter Try.func4, Try.ntmps4
  go_wp2_with (go_at_call 9; refine (small_walk a n c hn _).mono ?_; rintro e w' ⟨rfl, rfl⟩)
  go_loopw [19] (fun i wr => ∃ k : Nat, k ≤ n ∧ i = .int .i64 k ∧ Below w'.heap.size w' wr) (fun i _ => n - (intOf i).toNat)
  case atStart => exact ⟨0, Nat.zero_le _, rfl, Below.refl _ _⟩
  case round =>
    obtain ⟨k, hk, rfl, hbel⟩ := hrel
    have HB := hid hbel
    clear hbel
    by_cases hlt : k < n
    · obtain ⟨o, ho, hok, b, off, rfl, hb, c0, c1, c2, c3⟩ := (HS.out.below HB.out).at hlt
      obtain ⟨kind, oa, ob, oc⟩ := o
      obtain ⟨g1, g2, ⟨ga0, ga1⟩, ⟨gb0, gb1⟩, ⟨gc0, gc1⟩⟩ := hok
      dsimp only at c0 c1 c2 c3 g1 g2 ga0 ga1 gb0 gb1 gc0 gc1
      clear ho
      go_wp2
      go_quiet ((go_at_call 22; exact Calls.quiet_of_same (number_walk _ ⟨by assumption, by assumption⟩ _)))
      go_upto_region 7 with fail
      go_cut [7] (fun v wc => v = .bool (hdrCheck (wrap64 oa) (wrap64 ob) == 0) ∧ wc = (wr.alloc (.cells #[.int .u8 kind, .int .u64 oa, .int .u64 ob, .int .u64 oc] 34)).drewN nq)
      case first =>
        have hr1 : -9223372036854775808 ≤ wrap64 oa ∧ wrap64 oa ≤ 9223372036854775807 := by unfold wrap64; omega
        have hr2 : -9223372036854775808 ≤ wrap64 ob ∧ wrap64 ob ≤ 9223372036854775807 := by unfold wrap64; omega
        generalize wrap64 oa = sz at *
        generalize wrap64 ob = rf at *
        by_cases x1 : sz < 1
        · have d1 : decide (1 ≤ sz) = false := decide_eq_false (by omega)
          go_wp2
          go_meet
          case rel => exact ⟨by unfold hdrCheck; first | (rw [if_pos (by omega)]; rfl) | (rw [if_neg (by omega), if_pos (by omega)]; rfl) | (rw [if_neg (by omega), if_neg (by omega)]; rfl), rfl⟩
        by_cases x2 : 8192 < sz
        · have d1 : decide (1 ≤ sz) = true := decide_eq_true (by omega)
          have d2 : decide (sz ≤ 8192) = false := decide_eq_false (by omega)
          go_wp2
          go_meet
          case rel => exact ⟨by unfold hdrCheck; first | (rw [if_pos (by omega)]; rfl) | (rw [if_neg (by omega), if_pos (by omega)]; rfl) | (rw [if_neg (by omega), if_neg (by omega)]; rfl), rfl⟩
        have d1 : decide (1 ≤ sz) = true := decide_eq_true (by omega)
        have d2 : decide (sz ≤ 8192) = true := decide_eq_true (by omega)
        by_cases x3 : rf < 0
        · have d3 : decide (0 ≤ rf) = false := decide_eq_false (by omega)
          go_wp2
          go_meet
          case rel => exact ⟨by unfold hdrCheck; first | (rw [if_pos (by omega)]; rfl) | (rw [if_neg (by omega), if_pos (by omega)]; rfl) | (rw [if_neg (by omega), if_neg (by omega)]; rfl), rfl⟩
        have d3 : decide (0 ≤ rf) = true := decide_eq_true (by omega)
        by_cases x4 : sz < rf
        · have d4 : decide (rf ≤ sz) = false := decide_eq_false (by omega)
          go_wp2
          go_meet
          case rel => exact ⟨by unfold hdrCheck; first | (rw [if_pos (by omega)]; rfl) | (rw [if_neg (by omega), if_pos (by omega)]; rfl) | (rw [if_neg (by omega), if_neg (by omega)]; rfl), rfl⟩
        · have d4 : decide (rf ≤ sz) = true := decide_eq_true (by omega)
          go_wp2
          go_meet
          case rel => exact ⟨by unfold hdrCheck; first | (rw [if_pos (by omega)]; rfl) | (rw [if_neg (by omega), if_pos (by omega)]; rfl) | (rw [if_neg (by omega), if_neg (by omega)]; rfl), rfl⟩
      case rest =>
        obtain ⟨rfl, rfl⟩ := hcut
        go_wp2_with fail
        refine (encode_any _ _ _).mono ?_
        rintro e w1 ⟨v1, rfl, hb1⟩
        have hz1 : wr.heap.size + 1 ≤ w1.heap.size := by have := hb1.size; simpa using this
        have k1 : w1.cell? ⟨wr.heap.size, 1, none⟩ = some (.int .u64 oa) := by rw [hb1.cell (p := ⟨wr.heap.size, 1, none⟩) (by simp)]; simp [go_sem]
        have k2 : w1.cell? ⟨wr.heap.size, 2, none⟩ = some (.int .u64 ob) := by rw [hb1.cell (p := ⟨wr.heap.size, 2, none⟩) (by simp)]; simp [go_sem]
        have k3 : w1.cell? ⟨wr.heap.size, 3, none⟩ = some (.int .u64 oc) := by rw [hb1.cell (p := ⟨wr.heap.size, 3, none⟩) (by simp)]; simp [go_sem]
        have HB1 := hid (((HB.out.alloc HB.out.size _).trans (Drew.below ⟨nq, rfl⟩ _)).trans (hb1.mono (by have := HB.out.size; simp; omega)))
        clear hb1 c0 c1 c2 c3
        have m1 : 0 ≤ ob % (1 + oa % 8192 + 1) := Int.emod_nonneg _ (by omega)
        have m2 : ob % (1 + oa % 8192 + 1) < 1 + oa % 8192 + 1 := Int.emod_lt_of_pos _ (by omega)
        go_wp2_with fail
        refine (encode_walk _ _ _ (by omega) (by omega) m1 (by omega)).mono ?_
        rintro e w2 ⟨rfl, hb2⟩
        obtain ⟨_, _, _, r1, r2⟩ := enc_dec (1 + oa % 8192) (ob % (1 + oa % 8192 + 1)) (by omega) (by omega) m1 (by omega)
        generalize encW (1 + oa % 8192) (ob % (1 + oa % 8192 + 1)) = ew at *
        have hz2 : wr.heap.size + 1 ≤ w2.heap.size := Nat.le_trans hz1 hb2.size
        have j1 : w2.cell? ⟨wr.heap.size, 1, none⟩ = some (.int .u64 oa) := by rw [hb2.cell (p := ⟨wr.heap.size, 1, none⟩) (by simp; omega)]; exact k1
        have j2 : w2.cell? ⟨wr.heap.size, 2, none⟩ = some (.int .u64 ob) := by rw [hb2.cell (p := ⟨wr.heap.size, 2, none⟩) (by simp; omega)]; exact k2
        have j3 : w2.cell? ⟨wr.heap.size, 3, none⟩ = some (.int .u64 oc) := by rw [hb2.cell (p := ⟨wr.heap.size, 3, none⟩) (by simp; omega)]; exact k3
        have HB2 := hid (HB1.out.trans (hb2.mono HB1.out.size))
        clear hb2 k1 k2 k3
        have s1 := wrap_U64 (2 ^ (oc % 64).toNat)
        have E8 := hid (eight oa ob oc ew _ _ _ _ ⟨ga0, ga1⟩ ⟨gb0, gb1⟩ ⟨gc0, gc1⟩ ⟨r1, r2⟩ (xor_U64 ew _ ⟨r1, r2⟩ s1) (wrap_U64 (ew + oc)) (wrap_U64 (ew + IntKind.u64.wrap (oc * 65536))) (wrap_U64 (ew - ob)))
        clear s1
        go_wp2
        go_loopw [102] (fun i wx => ∃ j : Nat, j ≤ 8 ∧ i = .int .i64 j ∧ w2.heap.size < wx.heap.size ∧ Below w'.heap.size w' wx ∧ ∀ m, m < 8 → ∃ x, wx.cell? ⟨w2.heap.size, m, none⟩ = some (.int .u64 x) ∧ U64 x) (fun i _ => 8 - (intOf i).toNat)
        case atStart =>
          refine ⟨0, Nat.zero_le _, rfl, by simp, HB2.out.alloc HB2.out.size _, fun m hm => ?_⟩
          obtain ⟨x, hx, hu⟩ := E8.out m hm
          exact ⟨x, by rw [World.cell?_alloc_at _ _ _ _ rfl]; exact hx, hu⟩
        case round =>
          obtain ⟨j, hj, rfl, hz3, hb3, hx3⟩ := hrel
          have HX := hid hx3
          have HB3 := hid hb3
          clear hx3 hb3 E8 j1 j2 j3
          by_cases hlt2 : j < 8
          · obtain ⟨x, hx, u1, u2⟩ := HX.out j hlt2
            rename_i wx _ _ _ _
            go_wp2_with fail
            refine (sound_walk x u1 u2 _).mono ?_
            rintro e w4 ⟨rfl, hb4⟩
            go_wp2
            refine ⟨⟨j + 1, by omega, by go_num, Nat.lt_of_lt_of_le hz3 hb4.size, HB3.out.trans (hb4.mono HB3.out.size), fun m hm => ?_⟩, by simp [intOf]; omega⟩
            obtain ⟨y, hy, hu⟩ := HX.out m hm
            exact ⟨y, by rw [hb4.cell (p := ⟨w2.heap.size, m, none⟩) hz3]; exact hy, hu⟩
          · go_wp2
            exact ⟨⟨k + 1, by omega, by go_num, HB3.out⟩, by simp [intOf]; omega⟩
    · go_wp2
      go_ret
      exact ⟨rfl, HB.out⟩
end Go.Proofs.Qxb6500887a
