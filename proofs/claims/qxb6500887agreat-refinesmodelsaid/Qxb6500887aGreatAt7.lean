/- BlockInfo, exactly (written by tools/mk_at7.py). -/
import Derived.Test.Qxb6500887aGreatAt6
import Derived.Test.Qxb6500887aGreatAv8
namespace Go.Proofs.Qxb6500887aGreat
open Go.RowKit
set_option linter.unusedSimpArgs false
set_option linter.unusedVariables false
theorem clV_clM (n : Nat) : clV (n : Int) = clM n := by
  unfold clV clM
  by_cases h1 : n = 32
  · rw [if_pos h1, if_pos (by omega)]
  · rw [if_neg h1, if_neg (by omega)]
    by_cases h2 : n = 0
    · rw [if_pos h2, if_pos (by omega)]
    · rw [if_neg h2, if_neg (by omega)]
/-- What has been seen of a block before a row. -/
def BkS (T : Nat → Nat) (b r x1 x2 x3 : Nat) : Prop := x1 = flE T b r ∧ x2 = cnt (fun r => shB T b 0 r) r ∧ x3 = (lhF T b r).2
theorem BkS.zero {T : Nat → Nat} {b : Nat} : BkS T b 0 0 0 0 := ⟨rfl, rfl, rfl⟩
theorem BkS.nz {T : Nat → Nat} {b r x1 x2 x3 : Nat} (h : BkS T b r x1 x2 x3) (hr : r < 32) (hz : T (32 * b + r) ≠ 0) : BkS T b (r + 1) x1 x2 x3 := by
  obtain ⟨h1, h2, h3⟩ := h
  have h0 : hlN T b r = 0 := by
    by_cases e : hlN T b r = 0
    · exact e
    · exact absurd ((hlN_pos hr).1 (by omega)) hz
  refine ⟨?_, ?_, ?_⟩
  · rw [flE_succ, decide_eq_false hz, ← h1]; rfl
  · show x2 = cnt _ r + (shB T b 0 r).toNat
    have : shB T b 0 r = false := by unfold shB; rw [decide_eq_false hz]; rfl
    rw [this, ← h2]; rfl
  · unfold lhF
    rw [h0, if_neg (Nat.not_lt_zero _)]; exact h3
theorem BkS.nzs {T : Nat → Nat} {b r x1 x2 x3 : Nat} (h : BkS T b r x1 x2 x3) : ∀ d, r + d ≤ 32 → (∀ i, r ≤ i → i < r + d → T (32 * b + i) ≠ 0) → BkS T b (r + d) x1 x2 x3
  | 0, _, _ => h
  | d + 1, hd, hz => (BkS.nzs h d (by omega) (fun i h1 h2 => hz i h1 (by omega))).nz (by omega) (hz (r + d) (by omega) (by omega))
theorem BkS.run {T : Nat → Nat} {b s x1 x2 x3 n : Nat} (h : BkS T b s x1 x2 x3) (hn : 1 ≤ n) (hs : s + n ≤ 32) (hz : ∀ i, s ≤ i → i < s + n → T (32 * b + i) = 0) (he : s + n < 32 → T (32 * b + (s + n)) ≠ 0) (hb : s = 0 ∨ T (32 * b + s - 1) ≠ 0) : ∀ j, j < n → BkS T b (s + (j + 1)) (x1 + (j + 1)) (x2 + 1) (max x3 n) := by
  have hh : ∀ j, j < n → hlN T b (s + j) = n - j := by
    intro j hj
    refine (hlN_of ⟨by omega, fun i hi => ?_, fun hl => ?_⟩).symm
    · rw [Nat.add_assoc]; exact hz _ (by omega) (by omega)
    · rw [show 32 * b + (s + j) + (n - j) = 32 * b + (s + n) by omega]; exact he (by omega)
  intro j
  induction j with
  | zero =>
    intro hj
    obtain ⟨h1, h2, h3⟩ := h
    have z := hz s (Nat.le_refl _) (by omega)
    have hs0 : shB T b 0 s = true := by
      unfold shB
      rw [decide_eq_true z]
      rcases hb with hb | hb
      · simp [hb]
      · simp [hb]
    refine ⟨?_, ?_, ?_⟩
    · rw [flE_succ, decide_eq_true z, ← h1]; rfl
    · show x2 + 1 = cnt _ s + (shB T b 0 s).toNat
      rw [hs0, ← h2]; rfl
    · show _ = (lhF T b (s + 1)).2
      unfold lhF
      have := hh 0 (by omega)
      rw [Nat.add_zero, Nat.sub_zero] at this
      rw [this, ← h3]
      split
      · show max x3 n = n; omega
      · rw [← h3]; omega
  | succ j ih =>
    intro hj
    obtain ⟨h1, h2, h3⟩ := ih (by omega)
    have z := hz (s + (j + 1)) (by omega) (by omega)
    have z1 := hz (s + j) (by omega) (by omega)
    have hs0 : shB T b 0 (s + (j + 1)) = false := by
      unfold shB
      rw [show 32 * b + (s + (j + 1)) - 1 = 32 * b + (s + j) by omega, z1, z]
      simp
    refine ⟨?_, ?_, ?_⟩
    · show _ = flE T b (s + (j + 1) + 1)
      rw [flE_succ, decide_eq_true z, ← h1]; rfl
    · show x2 + 1 = cnt _ (s + (j + 1)) + (shB T b 0 (s + (j + 1))).toNat
      rw [hs0, ← h2]; rfl
    · show _ = (lhF T b (s + (j + 1) + 1)).2
      unfold lhF
      rw [hh (j + 1) hj, ← h3, if_neg (by omega)]
      exact h3
section
variable {l : AL} {S : AS} {w w' w0 : World}
theorem bk_all {T : Nat → Nat} {b m a x1 x2 x3 : Nat} (hm : 32 * b = m) (h1 : m ≤ a) (h2 : a ≤ m + 32) (h : BkS T b (a - m) x1 x2 x3) (hz : ∀ i, a ≤ i → i < m + 32 → (T i == 0) = false) : BkS T b 32 x1 x2 x3 := by
  have := h.nzs (32 - (a - m)) (by omega) (fun i i1 i2 => by have := hz (32 * b + i) (by omega) (by omega); simpa using this)
  rw [show a - m + (32 - (a - m)) = 32 by omega] at this
  exact this
theorem bk_run {T : Nat → Nat} {b m a k n x1 x2 x3 : Nat} (hm : 32 * b = m) (h1 : m ≤ a) (h : BkS T b (a - m) x1 x2 x3) (hc : a = m ∨ a = m + 32 ∨ T a ≠ 0) (hn : 1 ≤ n) (hk : a ≤ k) (hkn : k + n ≤ m + 32) (hz : ∀ i, a ≤ i → i < k → (T i == 0) = false) (hr : ∀ i, k ≤ i → i < k + n → (T i == 0) = true) (he : k + n < m + 32 → (T (k + n) == 0) = false) : BkS T b (k + n - m) (x1 + n) (x2 + 1) (max x3 n) ∧ (k + n = m ∨ k + n = m + 32 ∨ T (k + n) ≠ 0) := by
  have h3 := h.nzs (k - a) (by omega) (fun i i1 i2 => by have := hz (32 * b + i) (by omega) (by omega); simpa using this)
  rw [show a - m + (k - a) = k - m by omega] at h3
  have h4 := h3.run hn (by omega) (fun i i1 i2 => by have := hr (32 * b + i) (by omega) (by omega); simpa using this) (fun hl => by
    have := he (by omega)
    rw [show 32 * b + (k - m + n) = k + n by omega]
    simpa using this) (by
    by_cases e : k = m
    · exact .inl (by omega)
    · refine .inr ?_
      rw [show 32 * b + (k - m) - 1 = k - 1 by omega]
      by_cases e2 : k = a
      · rcases hc with hc | hc | hc
        · omega
        · omega
        · have := hr k (Nat.le_refl _) (by omega)
          rw [e2] at this
          exact absurd (by simpa using this) hc
      · have := hz (k - 1) (by omega) (by omega)
        simpa using this) (n - 1) (by omega)
  rw [show n - 1 + 1 = n by omega, show k - m + n = k + n - m by omega] at h4
  refine ⟨h4, ?_⟩
  by_cases e : k + n < m + 32
  · exact .inr (.inr (by simpa using he e))
  · exact .inr (.inl (by omega))
set_option maxRecDepth 100000 in
set_option maxHeartbeats 8000000 in
theorem blockInfoX (h : AM l S w) (x : Int) : Calls Tryz.prog 241 #[.pointer (some ⟨l.a, 0, none⟩), .int .i64 x] w fun e w' => ∃ (k : Int) (xs : List Int) (c : Int), xs.length = 6 ∧ e = .returned (.tuple #[.agg (biL k xs).toArray, .int .u8 c]) ∧ Hid (((BkI x ∧ c = 0 ∧ k = clM (flE (abE S).T x.toNat 32) ∧ xs = nI (bkL (abE S) x.toNat)) ∨ (¬ BkI x ∧ c = 1 ∧ k = 0 ∧ xs = [0, 0, 0, 0, 0, 0])) ∧ Below w.heap.size w w') := by
  have I0 := hid info_bi
  obtain ⟨r, hr⟩ : ∃ r, w.heap.size = r := ⟨_, rfl⟩
  have HR0 : Hid (OwV (AM l S) w [(r, 41, [.int .u8 0, .int .i64 0, .int .i64 0, .int .i64 0, .int .i64 0, .int .i64 0, .int .i64 0])] (w.alloc (.cells #[.int .u8 0, .int .i64 0, .int .i64 0, .int .i64 0, .int .i64 0, .int .i64 0, .int .i64 0] 41))) := hid ((OwV.start h AM.stays).new hr 41 [.int .u8 0, .int .i64 0, .int .i64 0, .int .i64 0, .int .i64 0, .int .i64 0, .int .i64 0])
  by_cases hx : BkI x
  rotate_left
  · as_aux_lemma =>
    have HF := hid (fun wz => firstLn_b hx wz)
    have Hbk := hid hx
    clear h hx
    go_enter Tryz.func241, Tryz.ntmps241
    go_upto_region 1 with fail
    (try simp only [hr])
    generalize hw1 : w.alloc _ = w1 at HR0 ⊢
    clear hw1 hr
    (go_wp2_with fail; refine (HF.out w1).mono ?_; rintro e_ w_ ⟨he_, hw_⟩; subst he_; have hs_ := hw_.symm; clear hw_; subst hs_)
    have Hy := hid (HR0.out.blk (k := 0) rfl)
    go_wp2_with (refine wpList_store_blk rfl 41 _ _ rfl r rfl (biL 0 [0, 0, 0, 0, 0, 0]) rfl Hy.out rfl I0.out (biL_one _ _) ?_; intro w9 HB9 HU9)
    refine bodyPost_ret (results_cell_tmp (cs := biL 0 [0, 0, 0, 0, 0, 0]) Tryz.results241 rfl agg_bi HB9.out) rfl ?_
    exact ⟨0, [0, 0, 0, 0, 0, 0], _, rfl, rfl, hid ⟨.inr ⟨Hbk.out, rfl, rfl, rfl⟩, HR0.out.out (k := 0) rfl HU9.out⟩⟩
  as_aux_lemma =>
  have Hbk0 := hid hx
  obtain ⟨b, rfl, hb⟩ := hx.nat
  have Hbk := hid Hbk0.out
  clear Hbk0
  have HF := hid (fun wz => firstLn_g hb wz)
  have hm : 32 * b + 32 ≤ 2048 := by omega
  obtain ⟨m, hmm⟩ : ∃ m, 32 * b = m := ⟨_, rfl⟩
  rw [hmm] at HF hm
  have Hmm := hid hmm
  clear h hx hmm
  go_enter Tryz.func241, Tryz.ntmps241
  go_upto_region 1 with fail
  (try simp only [hr])
  generalize hw1 : w.alloc _ = w1 at HR0 ⊢
  clear hw1 hr
  (go_wp2_with fail; refine (HF.out w1).mono ?_; rintro e_ w_ ⟨he_, hw_⟩; subst he_; have hs_ := hw_.symm; clear hw_; subst hs_)
  go_upto_region 4 with fail
  obtain ⟨g, hg⟩ : ∃ g, w1.heap.size = g := ⟨_, rfl⟩
  have H1 : Hid (OwV (AM l S) w [(g, 41, [.int .u8 0, .int .i64 ((0 : Nat) : Int), .int .i64 ((0 : Nat) : Int), .int .i64 ((0 : Nat) : Int), .int .i64 0, .int .i64 0, .int .i64 0]), (r, 41, [.int .u8 0, .int .i64 0, .int .i64 0, .int .i64 0, .int .i64 0, .int .i64 0, .int .i64 0])] (w1.alloc (.cells #[.int .u8 0, .int .i64 0, .int .i64 0, .int .i64 0, .int .i64 0, .int .i64 0, .int .i64 0] 41))) := hid (HR0.out.new hg 41 [.int .u8 0, .int .i64 0, .int .i64 0, .int .i64 0, .int .i64 0, .int .i64 0, .int .i64 0])
  go_upto_region 5 with fail
  (try simp only [hg])
  generalize hw2 : w1.alloc _ = w2 at H1 ⊢
  clear hw2 hg HR0
  go_upto_region 7 with fail
  go_loopw [10] (fun u wr => ∃ a x1 x2 x3 : Nat, u = .int .i64 (a : Int) ∧ m ≤ a ∧ a ≤ m + 32 ∧ (x1 ≤ a - m ∧ x2 ≤ a - m ∧ x3 ≤ 32) ∧ Hid (BkS (abE S).T b (a - m) x1 x2 x3 ∧ (a = m ∨ a = m + 32 ∨ (abE S).T a ≠ 0)) ∧ Hid (OwV (AM l S) w [(g, 41, [.int .u8 0, .int .i64 (x1 : Int), .int .i64 (x2 : Int), .int .i64 (x3 : Int), .int .i64 0, .int .i64 0, .int .i64 0]), (r, 41, [.int .u8 0, .int .i64 0, .int .i64 0, .int .i64 0, .int .i64 0, .int .i64 0, .int .i64 0])] wr)) (fun u _ => m + 32 - (intOf u).toNat)
  case atStart => exact ⟨m, 0, 0, 0, rfl, Nat.le_refl _, by omega, by omega, hid ⟨by rw [Nat.sub_self]; exact BkS.zero, .inl rfl⟩, H1⟩
  case round =>
  clear H1
  obtain ⟨a, x1, x2, x3, rfl, ha1, ha2, hxb, HS, HK⟩ := hrel
  by_cases hah : a < m + 32
  rotate_left
  · as_aux_lemma =>
    have dq : decide ((a : Int) < (m : Int) + 32) = false := decide_eq_false (by omega)
    have dq' : decide (a < m + 32) = false := decide_eq_false (by omega)
    have HX : Hid (BkS (abE S).T b 32 x1 x2 x3) := hid (bk_all Hmm.out ha1 ha2 HS.out.1 (fun i h1 h2 => by omega))
    clear HS
    go_upto_region 15 with fail
    have HFx : Hid (((clM x1 : Int), nI [x1, x2, x3]) = ((clM (flE (abE S).T b 32) : Int), nI [flE (abE S).T b 32, cnt (fun r => shB (abE S).T b 0 r) 32, (lhF (abE S).T b 32).2])) := hid (by obtain ⟨e1, e2, e3⟩ := HX.out; rw [e1, e2, e3])
    clear HX
    have cf : wr.cell? ⟨g, 1, none⟩ = some (.int .i64 (x1 : Int)) := HK.out.cell (k := 0) rfl 1
    have zf := HK.out.frozen (k := 0) rfl 1
    have HCl := hid (fun wz => classOfZ (x1 : Int) wz)
    obtain ⟨ck, hck⟩ : ∃ ck, clV (x1 : Int) = ck := ⟨_, rfl⟩
    rw [hck] at HCl
    have HCk : Hid (ck = clM x1) := hid (by rw [← hck]; exact clV_clM x1)
    clear hck
    (go_wp2_with fail; refine (HCl.out wr).mono ?_; rintro e_ w_ ⟨he_, hw_⟩; subst he_; have hs_ := hw_.symm; clear hw_; subst hs_)
    have cc : wr.cell? ⟨g, 0, none⟩ = some (.int .u8 0) := HK.out.cell (k := 0) rfl 0
    have zc := HK.out.frozen (k := 0) rfl 0
    go_upto_region 16 with fail
    have HP_ := hid (fun y => HK.out.put (k := 0) rfl 0 y)
    generalize hz_ : World.setCell _ (⟨g, 0, none⟩ : Addr) _ = w_T0
    have T0 : Hid (OwV (AM l S) w [(g, 41, [.int .u8 ck, .int .i64 (x1 : Int), .int .i64 (x2 : Int), .int .i64 (x3 : Int), .int .i64 0, .int .i64 0, .int .i64 0]), (r, 41, [.int .u8 0, .int .i64 0, .int .i64 0, .int .i64 0, .int .i64 0, .int .i64 0, .int .i64 0])] w_T0) := hid (by rw [← hz_]; exact HP_.out _)
    clear hz_ HP_ cf zf cc zc HK HCl
    have k1 := T0.out.b.cells.2.1
    obtain ⟨y4, hy4⟩ : ∃ y, cnt (fun i => nzP 2 32 S.C (b * 256 + i)) ((b + 1) * 256 - b * 256) = y := ⟨_, rfl⟩
    have HN : Hid (Calls Tryz.prog 214 #[.pointer (some ⟨l.tc, 0, none⟩), .int .i64 ((b : Int) * 256), .int .i64 (((b : Int) + 1) * 256)] w_T0 fun e w' => e = .returned (.tuple #[.int .i64 (y4 : Int), .bool true]) ∧ Below w_T0.heap.size w_T0 w') := hid (by
      have := T0.out.b.tc.nNz (b * 256) ((b + 1) * 256) (by omega) (by omega)
      rw [hy4, show ((b * 256 : Nat) : Int) = (b : Int) * 256 by omega, show (((b + 1) * 256 : Nat) : Int) = ((b : Int) + 1) * 256 by omega] at this
      exact this)
    have Hy4 := hid hy4
    clear hy4
    go_wp2_with fail
    refine HN.out.mono ?_
    rintro e w_T1a ⟨rfl, hb_⟩
    have T1a := hid (T0.out.below hb_)
    clear HN hb_ T0 k1
    have cx_ : w_T1a.cell? ⟨g, 4, none⟩ = some (.int .i64 0) := T1a.out.cell (k := 0) rfl 4
    have zx_ := T1a.out.frozen (k := 0) rfl 4
    go_upto_region 17 with fail
    have HP_ := hid (fun y => T1a.out.put (k := 0) rfl 4 y)
    generalize hz_ : World.setCell _ (⟨g, 4, none⟩ : Addr) _ = w_T1
    have T1 : Hid (OwV (AM l S) w [(g, 41, [.int .u8 ck, .int .i64 (x1 : Int), .int .i64 (x2 : Int), .int .i64 (x3 : Int), .int .i64 (y4 : Int), .int .i64 0, .int .i64 0]), (r, 41, [.int .u8 0, .int .i64 0, .int .i64 0, .int .i64 0, .int .i64 0, .int .i64 0, .int .i64 0])] w_T1) := hid (by rw [← hz_]; exact HP_.out _)
    clear hz_ HP_ cx_ zx_ T1a
    have k1 := T1.out.b.cells.2.2.1
    obtain ⟨y5, hy5⟩ : ∃ y, cnt (fun i => nzP 1 64 S.M (b * 256 + i)) ((b + 1) * 256 - b * 256) = y := ⟨_, rfl⟩
    have HN : Hid (Calls Tryz.prog 214 #[.pointer (some ⟨l.tm, 0, none⟩), .int .i64 ((b : Int) * 256), .int .i64 (((b : Int) + 1) * 256)] w_T1 fun e w' => e = .returned (.tuple #[.int .i64 (y5 : Int), .bool true]) ∧ Below w_T1.heap.size w_T1 w') := hid (by
      have := T1.out.b.tm.nNz (b * 256) ((b + 1) * 256) (by omega) (by omega)
      rw [hy5, show ((b * 256 : Nat) : Int) = (b : Int) * 256 by omega, show (((b + 1) * 256 : Nat) : Int) = ((b : Int) + 1) * 256 by omega] at this
      exact this)
    have Hy5 := hid hy5
    clear hy5
    go_wp2_with fail
    refine HN.out.mono ?_
    rintro e w_T2a ⟨rfl, hb_⟩
    have T2a := hid (T1.out.below hb_)
    clear HN hb_ T1 k1
    have cx_ : w_T2a.cell? ⟨g, 5, none⟩ = some (.int .i64 0) := T2a.out.cell (k := 0) rfl 5
    have zx_ := T2a.out.frozen (k := 0) rfl 5
    go_upto_region 18 with fail
    have HP_ := hid (fun y => T2a.out.put (k := 0) rfl 5 y)
    generalize hz_ : World.setCell _ (⟨g, 5, none⟩ : Addr) _ = w_T2
    have T2 : Hid (OwV (AM l S) w [(g, 41, [.int .u8 ck, .int .i64 (x1 : Int), .int .i64 (x2 : Int), .int .i64 (x3 : Int), .int .i64 (y4 : Int), .int .i64 (y5 : Int), .int .i64 0]), (r, 41, [.int .u8 0, .int .i64 0, .int .i64 0, .int .i64 0, .int .i64 0, .int .i64 0, .int .i64 0])] w_T2) := hid (by rw [← hz_]; exact HP_.out _)
    clear hz_ HP_ cx_ zx_ T2a
    have k1 := T2.out.b.cells.2.2.2.1
    obtain ⟨y6, hy6⟩ : ∃ y, cnt (fun i => nzP 1 64 S.L (b * 512 + i)) ((b + 1) * 512 - b * 512) = y := ⟨_, rfl⟩
    have HN : Hid (Calls Tryz.prog 214 #[.pointer (some ⟨l.tl, 0, none⟩), .int .i64 ((b : Int) * 512), .int .i64 (((b : Int) + 1) * 512)] w_T2 fun e w' => e = .returned (.tuple #[.int .i64 (y6 : Int), .bool true]) ∧ Below w_T2.heap.size w_T2 w') := hid (by
      have := T2.out.b.tl.nNz (b * 512) ((b + 1) * 512) (by omega) (by omega)
      rw [hy6, show ((b * 512 : Nat) : Int) = (b : Int) * 512 by omega, show (((b + 1) * 512 : Nat) : Int) = ((b : Int) + 1) * 512 by omega] at this
      exact this)
    have Hy6 := hid hy6
    clear hy6
    go_wp2_with fail
    refine HN.out.mono ?_
    rintro e w_T3a ⟨rfl, hb_⟩
    have T3a := hid (T2.out.below hb_)
    clear HN hb_ T2 k1
    have cx_ : w_T3a.cell? ⟨g, 6, none⟩ = some (.int .i64 0) := T3a.out.cell (k := 0) rfl 6
    have zx_ := T3a.out.frozen (k := 0) rfl 6
    go_upto_region 19 with fail
    have HP_ := hid (fun y => T3a.out.put (k := 0) rfl 6 y)
    generalize hz_ : World.setCell _ (⟨g, 6, none⟩ : Addr) _ = w_T3
    have T3 : Hid (OwV (AM l S) w [(g, 41, [.int .u8 ck, .int .i64 (x1 : Int), .int .i64 (x2 : Int), .int .i64 (x3 : Int), .int .i64 (y4 : Int), .int .i64 (y5 : Int), .int .i64 (y6 : Int)]), (r, 41, [.int .u8 0, .int .i64 0, .int .i64 0, .int .i64 0, .int .i64 0, .int .i64 0, .int .i64 0])] w_T3) := hid (by rw [← hz_]; exact HP_.out _)
    clear hz_ HP_ cx_ zx_ T3a
    have HE : Hid (ck = clM (flE (abE S).T b 32) ∧ nI [x1, x2, x3, y4, y5, y6] = nI (bkL (abE S) b)) := hid (by
      have e := HFx.out
      have e4 := Hy4.out
      have e5 := Hy5.out
      have e6 := Hy6.out
      rw [show (b + 1) * 256 - b * 256 = 256 by omega, Nat.mul_comm] at e4 e5
      rw [show (b + 1) * 512 - b * 512 = 512 by omega, Nat.mul_comm] at e6
      have f1 := congrArg Prod.fst e
      have f2 := congrArg Prod.snd e
      refine ⟨HCk.out.trans f1, ?_⟩
      unfold bkL
      rw [← e4, ← e5, ← e6]
      show nI [x1, x2, x3] ++ nI [_, _, _] = nI [_, _, _] ++ nI [_, _, _]
      rw [show nI [x1, x2, x3] = _ from f2]
      rfl)
    clear HFx Hy4 Hy5 Hy6 HCk
    obtain ⟨cs_, hcs⟩ : ∃ cs : List Value, biL ck (nI [x1, x2, x3, y4, y5, y6]) = cs := ⟨_, rfl⟩
    have Hx : Hid (Blk w_T3 g 41 cs_) := hid (by rw [← hcs]; exact T3.out.blk (k := 0) rfl)
    have Hy := hid (T3.out.blk (k := 1) rfl)
    have Hl : Hid (cs_.length = 7) := hid (by rw [← hcs]; rfl)
    have Hone : Hid (∀ u ∈ cs_, u.oneCell' = true) := hid (by rw [← hcs]; exact biL_one _ _)
    have Hcs := hid hcs
    clear hcs
    go_wp2_with (first | (refine wpList_load_blk rfl 41 _ rfl g rfl cs_ Hx.out _ Tryz.underlying41 rfl (by rw [Hl.out]; exact I0.out) ?_) | (refine wpList_store_blk rfl 41 _ _ rfl r rfl cs_ rfl Hy.out (by rw [Hl.out]; rfl) (by rw [Hl.out]; exact I0.out) Hone.out ?_; intro w9 HB9 HU9))
    refine bodyPost_ret (results_cell_tmp (cs := cs_) Tryz.results241 rfl (by rw [Hl.out]; exact agg_bi) HB9.out) rfl ?_
    exact ⟨ck, nI [x1, x2, x3, y4, y5, y6], 0, rfl, by rw [Hcs.out]; rfl, hid ⟨.inl ⟨Hbk.out, rfl, HE.out.1, HE.out.2⟩, T3.out.out (k := 1) rfl HU9.out⟩⟩
  as_aux_lemma =>
  have dq : decide ((a : Int) < (m : Int) + 32) = true := decide_eq_true (by omega)
  have dq' : decide (a < m + 32) = true := decide_eq_true (by omega)
  have HZ : Hid (Calls Tryz.prog 165 #[.pointer (some ⟨l.tt, 0, none⟩), .int .i64 (a : Int), .int .i64 ((m : Int) + 32)] wr fun e w' => ∃ s k : Int, e = .returned (.tuple #[.int .i64 s, .int .i64 k, .bool true]) ∧ Hid (Zr (zrP 4 16 S.T) a (m + 32) s k ∧ Below wr.heap.size wr w')) := hid (by
    have := HK.out.b.tt.zeroRun a (m + 32) (by omega) (by omega)
    rw [show ((m + 32 : Nat) : Int) = (m : Int) + 32 by omega] at this
    exact this)
  have k4 := HK.out.b.cells.2.2.2.2.1
  go_wp2_with fail
  refine HZ.out.mono ?_
  rintro e w3 ⟨s, n, rfl, HB⟩
  have H3 := hid (HK.out.below HB.out.2)
  have hbd := HB.out.1
  clear HB HZ k4 HK
  rcases hbd with ⟨rfl, rfl, hall⟩ | ⟨k, n, rfl, rfl, hn1, hk1, hk2, hz1, hz2, hz3⟩
  · as_aux_lemma =>
    have HX : Hid (BkS (abE S).T b 32 x1 x2 x3) := hid (bk_all Hmm.out ha1 ha2 HS.out.1 hall)
    clear HS hall
    go_upto_region 15 with fail
    have HFx : Hid (((clM x1 : Int), nI [x1, x2, x3]) = ((clM (flE (abE S).T b 32) : Int), nI [flE (abE S).T b 32, cnt (fun r => shB (abE S).T b 0 r) 32, (lhF (abE S).T b 32).2])) := hid (by obtain ⟨e1, e2, e3⟩ := HX.out; rw [e1, e2, e3])
    clear HX
    have cf : w3.cell? ⟨g, 1, none⟩ = some (.int .i64 (x1 : Int)) := H3.out.cell (k := 0) rfl 1
    have zf := H3.out.frozen (k := 0) rfl 1
    have HCl := hid (fun wz => classOfZ (x1 : Int) wz)
    obtain ⟨ck, hck⟩ : ∃ ck, clV (x1 : Int) = ck := ⟨_, rfl⟩
    rw [hck] at HCl
    have HCk : Hid (ck = clM x1) := hid (by rw [← hck]; exact clV_clM x1)
    clear hck
    (go_wp2_with fail; refine (HCl.out w3).mono ?_; rintro e_ w_ ⟨he_, hw_⟩; subst he_; have hs_ := hw_.symm; clear hw_; subst hs_)
    have cc : w3.cell? ⟨g, 0, none⟩ = some (.int .u8 0) := H3.out.cell (k := 0) rfl 0
    have zc := H3.out.frozen (k := 0) rfl 0
    go_upto_region 16 with fail
    have HP_ := hid (fun y => H3.out.put (k := 0) rfl 0 y)
    generalize hz_ : World.setCell _ (⟨g, 0, none⟩ : Addr) _ = w_T0
    have T0 : Hid (OwV (AM l S) w [(g, 41, [.int .u8 ck, .int .i64 (x1 : Int), .int .i64 (x2 : Int), .int .i64 (x3 : Int), .int .i64 0, .int .i64 0, .int .i64 0]), (r, 41, [.int .u8 0, .int .i64 0, .int .i64 0, .int .i64 0, .int .i64 0, .int .i64 0, .int .i64 0])] w_T0) := hid (by rw [← hz_]; exact HP_.out _)
    clear hz_ HP_ cf zf cc zc H3 HCl
    have k1 := T0.out.b.cells.2.1
    obtain ⟨y4, hy4⟩ : ∃ y, cnt (fun i => nzP 2 32 S.C (b * 256 + i)) ((b + 1) * 256 - b * 256) = y := ⟨_, rfl⟩
    have HN : Hid (Calls Tryz.prog 214 #[.pointer (some ⟨l.tc, 0, none⟩), .int .i64 ((b : Int) * 256), .int .i64 (((b : Int) + 1) * 256)] w_T0 fun e w' => e = .returned (.tuple #[.int .i64 (y4 : Int), .bool true]) ∧ Below w_T0.heap.size w_T0 w') := hid (by
      have := T0.out.b.tc.nNz (b * 256) ((b + 1) * 256) (by omega) (by omega)
      rw [hy4, show ((b * 256 : Nat) : Int) = (b : Int) * 256 by omega, show (((b + 1) * 256 : Nat) : Int) = ((b : Int) + 1) * 256 by omega] at this
      exact this)
    have Hy4 := hid hy4
    clear hy4
    go_wp2_with fail
    refine HN.out.mono ?_
    rintro e w_T1a ⟨rfl, hb_⟩
    have T1a := hid (T0.out.below hb_)
    clear HN hb_ T0 k1
    have cx_ : w_T1a.cell? ⟨g, 4, none⟩ = some (.int .i64 0) := T1a.out.cell (k := 0) rfl 4
    have zx_ := T1a.out.frozen (k := 0) rfl 4
    go_upto_region 17 with fail
    have HP_ := hid (fun y => T1a.out.put (k := 0) rfl 4 y)
    generalize hz_ : World.setCell _ (⟨g, 4, none⟩ : Addr) _ = w_T1
    have T1 : Hid (OwV (AM l S) w [(g, 41, [.int .u8 ck, .int .i64 (x1 : Int), .int .i64 (x2 : Int), .int .i64 (x3 : Int), .int .i64 (y4 : Int), .int .i64 0, .int .i64 0]), (r, 41, [.int .u8 0, .int .i64 0, .int .i64 0, .int .i64 0, .int .i64 0, .int .i64 0, .int .i64 0])] w_T1) := hid (by rw [← hz_]; exact HP_.out _)
    clear hz_ HP_ cx_ zx_ T1a
    have k1 := T1.out.b.cells.2.2.1
    obtain ⟨y5, hy5⟩ : ∃ y, cnt (fun i => nzP 1 64 S.M (b * 256 + i)) ((b + 1) * 256 - b * 256) = y := ⟨_, rfl⟩
    have HN : Hid (Calls Tryz.prog 214 #[.pointer (some ⟨l.tm, 0, none⟩), .int .i64 ((b : Int) * 256), .int .i64 (((b : Int) + 1) * 256)] w_T1 fun e w' => e = .returned (.tuple #[.int .i64 (y5 : Int), .bool true]) ∧ Below w_T1.heap.size w_T1 w') := hid (by
      have := T1.out.b.tm.nNz (b * 256) ((b + 1) * 256) (by omega) (by omega)
      rw [hy5, show ((b * 256 : Nat) : Int) = (b : Int) * 256 by omega, show (((b + 1) * 256 : Nat) : Int) = ((b : Int) + 1) * 256 by omega] at this
      exact this)
    have Hy5 := hid hy5
    clear hy5
    go_wp2_with fail
    refine HN.out.mono ?_
    rintro e w_T2a ⟨rfl, hb_⟩
    have T2a := hid (T1.out.below hb_)
    clear HN hb_ T1 k1
    have cx_ : w_T2a.cell? ⟨g, 5, none⟩ = some (.int .i64 0) := T2a.out.cell (k := 0) rfl 5
    have zx_ := T2a.out.frozen (k := 0) rfl 5
    go_upto_region 18 with fail
    have HP_ := hid (fun y => T2a.out.put (k := 0) rfl 5 y)
    generalize hz_ : World.setCell _ (⟨g, 5, none⟩ : Addr) _ = w_T2
    have T2 : Hid (OwV (AM l S) w [(g, 41, [.int .u8 ck, .int .i64 (x1 : Int), .int .i64 (x2 : Int), .int .i64 (x3 : Int), .int .i64 (y4 : Int), .int .i64 (y5 : Int), .int .i64 0]), (r, 41, [.int .u8 0, .int .i64 0, .int .i64 0, .int .i64 0, .int .i64 0, .int .i64 0, .int .i64 0])] w_T2) := hid (by rw [← hz_]; exact HP_.out _)
    clear hz_ HP_ cx_ zx_ T2a
    have k1 := T2.out.b.cells.2.2.2.1
    obtain ⟨y6, hy6⟩ : ∃ y, cnt (fun i => nzP 1 64 S.L (b * 512 + i)) ((b + 1) * 512 - b * 512) = y := ⟨_, rfl⟩
    have HN : Hid (Calls Tryz.prog 214 #[.pointer (some ⟨l.tl, 0, none⟩), .int .i64 ((b : Int) * 512), .int .i64 (((b : Int) + 1) * 512)] w_T2 fun e w' => e = .returned (.tuple #[.int .i64 (y6 : Int), .bool true]) ∧ Below w_T2.heap.size w_T2 w') := hid (by
      have := T2.out.b.tl.nNz (b * 512) ((b + 1) * 512) (by omega) (by omega)
      rw [hy6, show ((b * 512 : Nat) : Int) = (b : Int) * 512 by omega, show (((b + 1) * 512 : Nat) : Int) = ((b : Int) + 1) * 512 by omega] at this
      exact this)
    have Hy6 := hid hy6
    clear hy6
    go_wp2_with fail
    refine HN.out.mono ?_
    rintro e w_T3a ⟨rfl, hb_⟩
    have T3a := hid (T2.out.below hb_)
    clear HN hb_ T2 k1
    have cx_ : w_T3a.cell? ⟨g, 6, none⟩ = some (.int .i64 0) := T3a.out.cell (k := 0) rfl 6
    have zx_ := T3a.out.frozen (k := 0) rfl 6
    go_upto_region 19 with fail
    have HP_ := hid (fun y => T3a.out.put (k := 0) rfl 6 y)
    generalize hz_ : World.setCell _ (⟨g, 6, none⟩ : Addr) _ = w_T3
    have T3 : Hid (OwV (AM l S) w [(g, 41, [.int .u8 ck, .int .i64 (x1 : Int), .int .i64 (x2 : Int), .int .i64 (x3 : Int), .int .i64 (y4 : Int), .int .i64 (y5 : Int), .int .i64 (y6 : Int)]), (r, 41, [.int .u8 0, .int .i64 0, .int .i64 0, .int .i64 0, .int .i64 0, .int .i64 0, .int .i64 0])] w_T3) := hid (by rw [← hz_]; exact HP_.out _)
    clear hz_ HP_ cx_ zx_ T3a
    have HE : Hid (ck = clM (flE (abE S).T b 32) ∧ nI [x1, x2, x3, y4, y5, y6] = nI (bkL (abE S) b)) := hid (by
      have e := HFx.out
      have e4 := Hy4.out
      have e5 := Hy5.out
      have e6 := Hy6.out
      rw [show (b + 1) * 256 - b * 256 = 256 by omega, Nat.mul_comm] at e4 e5
      rw [show (b + 1) * 512 - b * 512 = 512 by omega, Nat.mul_comm] at e6
      have f1 := congrArg Prod.fst e
      have f2 := congrArg Prod.snd e
      refine ⟨HCk.out.trans f1, ?_⟩
      unfold bkL
      rw [← e4, ← e5, ← e6]
      show nI [x1, x2, x3] ++ nI [_, _, _] = nI [_, _, _] ++ nI [_, _, _]
      rw [show nI [x1, x2, x3] = _ from f2]
      rfl)
    clear HFx Hy4 Hy5 Hy6 HCk
    obtain ⟨cs_, hcs⟩ : ∃ cs : List Value, biL ck (nI [x1, x2, x3, y4, y5, y6]) = cs := ⟨_, rfl⟩
    have Hx : Hid (Blk w_T3 g 41 cs_) := hid (by rw [← hcs]; exact T3.out.blk (k := 0) rfl)
    have Hy := hid (T3.out.blk (k := 1) rfl)
    have Hl : Hid (cs_.length = 7) := hid (by rw [← hcs]; rfl)
    have Hone : Hid (∀ u ∈ cs_, u.oneCell' = true) := hid (by rw [← hcs]; exact biL_one _ _)
    have Hcs := hid hcs
    clear hcs
    go_wp2_with (first | (refine wpList_load_blk rfl 41 _ rfl g rfl cs_ Hx.out _ Tryz.underlying41 rfl (by rw [Hl.out]; exact I0.out) ?_) | (refine wpList_store_blk rfl 41 _ _ rfl r rfl cs_ rfl Hy.out (by rw [Hl.out]; rfl) (by rw [Hl.out]; exact I0.out) Hone.out ?_; intro w9 HB9 HU9))
    refine bodyPost_ret (results_cell_tmp (cs := cs_) Tryz.results241 rfl (by rw [Hl.out]; exact agg_bi) HB9.out) rfl ?_
    exact ⟨ck, nI [x1, x2, x3, y4, y5, y6], 0, rfl, by rw [Hcs.out]; rfl, hid ⟨.inl ⟨Hbk.out, rfl, HE.out.1, HE.out.2⟩, T3.out.out (k := 1) rfl HU9.out⟩⟩
  as_aux_lemma =>
  have HX : Hid (BkS (abE S).T b (k + n - m) (x1 + n) (x2 + 1) (max x3 n) ∧ (k + n = m ∨ k + n = m + 32 ∨ (abE S).T (k + n) ≠ 0)) := hid (bk_run Hmm.out ha1 HS.out.1 HS.out.2 hn1 hk1 hk2 hz1 hz2 hz3)
  clear HS hz1 hz2 hz3
  have d9 : decide ((k : Int) < 0) = false := decide_eq_false (by omega)
  obtain ⟨n2, hn2⟩ : ∃ n2, x2 + 1 = n2 := ⟨_, rfl⟩
  have en2 : (x2 : Int) + 1 = (n2 : Int) := by omega
  obtain ⟨m1, hm1⟩ : ∃ m1, x1 + n = m1 := ⟨_, rfl⟩
  have em1 : (x1 : Int) + (n : Int) = (m1 : Int) := by omega
  have hb2 : n2 ≤ k + n - m ∧ m1 ≤ k + n - m := by omega
  rw [hn2, hm1] at HX
  clear hn2 hm1
  have cx_ : w3.cell? ⟨g, 2, none⟩ = some (.int .i64 (x2 : Int)) := H3.out.cell (k := 0) rfl 2
  have zx_ := H3.out.frozen (k := 0) rfl 2
  go_upto_region 11 with fail
  have HP_ := hid (fun y => H3.out.put (k := 0) rfl 2 y)
  generalize hz_ : World.setCell _ (⟨g, 2, none⟩ : Addr) _ = w_H4
  have H4 : Hid (OwV (AM l S) w [(g, 41, [.int .u8 0, .int .i64 (x1 : Int), .int .i64 (n2 : Int), .int .i64 (x3 : Int), .int .i64 0, .int .i64 0, .int .i64 0]), (r, 41, [.int .u8 0, .int .i64 0, .int .i64 0, .int .i64 0, .int .i64 0, .int .i64 0, .int .i64 0])] w_H4) := hid (by rw [← hz_]; exact HP_.out _)
  clear hz_ HP_ cx_ zx_ H3
  have cx_ : w_H4.cell? ⟨g, 1, none⟩ = some (.int .i64 (x1 : Int)) := H4.out.cell (k := 0) rfl 1
  have zx_ := H4.out.frozen (k := 0) rfl 1
  go_upto_region 12 with fail
  have HP_ := hid (fun y => H4.out.put (k := 0) rfl 1 y)
  generalize hz_ : World.setCell _ (⟨g, 1, none⟩ : Addr) _ = w_H5
  have H5 : Hid (OwV (AM l S) w [(g, 41, [.int .u8 0, .int .i64 (m1 : Int), .int .i64 (n2 : Int), .int .i64 (x3 : Int), .int .i64 0, .int .i64 0, .int .i64 0]), (r, 41, [.int .u8 0, .int .i64 0, .int .i64 0, .int .i64 0, .int .i64 0, .int .i64 0, .int .i64 0])] w_H5) := hid (by rw [← hz_]; exact HP_.out _)
  clear hz_ HP_ cx_ zx_ H4
  have cy : w_H5.cell? ⟨g, 3, none⟩ = some (.int .i64 (x3 : Int)) := H5.out.cell (k := 0) rfl 3
  have zy := H5.out.frozen (k := 0) rfl 3
  by_cases hy : x3 < n
  · as_aux_lemma =>
    have d1 : decide ((x3 : Int) < (n : Int)) = true := decide_eq_true (by omega)
    have d1' : decide (x3 < n) = true := decide_eq_true hy
    have HX2 : Hid (BkS (abE S).T b (k + n - m) m1 n2 n ∧ (k + n = m ∨ k + n = m + 32 ∨ (abE S).T (k + n) ≠ 0)) := hid (by have := HX.out; rw [show max x3 n = n by omega] at this; exact this)
    clear HX
    go_upto_region 14 with fail
    have HP_ := hid (fun y => H5.out.put (k := 0) rfl 3 y)
    generalize hz_ : World.setCell _ (⟨g, 3, none⟩ : Addr) _ = w_6
    have H6 : Hid (OwV (AM l S) w [(g, 41, [.int .u8 0, .int .i64 (m1 : Int), .int .i64 (n2 : Int), .int .i64 (n : Int), .int .i64 0, .int .i64 0, .int .i64 0]), (r, 41, [.int .u8 0, .int .i64 0, .int .i64 0, .int .i64 0, .int .i64 0, .int .i64 0, .int .i64 0])] w_6) := hid (by rw [← hz_]; exact HP_.out _)
    clear hz_ HP_ cy zy H5
    go_wp2
    exact ⟨⟨k + n, m1, n2, n, by go_num, by omega, by omega, by omega, HX2, H6⟩, by simp [intOf]; omega⟩
  · as_aux_lemma =>
    have d1 : decide ((x3 : Int) < (n : Int)) = false := decide_eq_false (by omega)
    have d1' : decide (x3 < n) = false := decide_eq_false hy
    have HX2 : Hid (BkS (abE S).T b (k + n - m) m1 n2 x3 ∧ (k + n = m ∨ k + n = m + 32 ∨ (abE S).T (k + n) ≠ 0)) := hid (by have := HX.out; rw [show max x3 n = x3 by omega] at this; exact this)
    clear HX
    go_wp2
    exact ⟨⟨k + n, m1, n2, x3, by go_num, by omega, by omega, by omega, HX2, H5⟩, by simp [intOf]; omega⟩
end
end Go.Proofs.Qxb6500887aGreat
