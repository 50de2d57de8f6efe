/- CountZero, IncRange, DecRange (written by tools/mk_rng3.py). -/
import Derived.Test.Qxb6500887aGreatArRng2
namespace Go.Proofs.Qxb6500887aGreat
open Go.RowKit
set_option linter.unusedSimpArgs false
set_option linter.unusedVariables false

theorem full_iff {f : Nat → Nat} {G c lo hi : Nat} (h1 : lo < hi) (h2 : hi ≤ 2048) (hc : c = cnt (fun i => inR lo hi i && !(f i == G)) 2048) : c < hi - lo ↔ ∃ i, lo ≤ i ∧ i < hi ∧ f i = G := by
  have hq := cnt_range lo hi 2048
  rw [Nat.min_eq_right h2] at hq
  constructor
  · intro hlt
    by_cases he : ∃ i, lo ≤ i ∧ i < hi ∧ f i = G
    · exact he
    · exfalso
      have : c = cnt (fun i => decide (lo ≤ i) && decide (i < hi)) 2048 := by
        rw [hc]
        refine cnt_eq fun i _ => ?_
        cases hr : inR lo hi i
        · have : (decide (lo ≤ i) && decide (i < hi)) = false := hr
          rw [this]; rfl
        · have hr2 := inR_iff.1 hr
          have hne : f i ≠ G := fun e => he ⟨i, hr2.1, hr2.2, e⟩
          have : (decide (lo ≤ i) && decide (i < hi)) = true := hr
          rw [this]
          simp [hne]
      omega
  · rintro ⟨i, hi1, hi2, hf⟩
    rw [hc, ← hq]
    refine cnt_lt (fun k _ hp => ((Bool.and_eq_true _ _).mp hp).1) ⟨i, by omega, ?_, ?_⟩
    · simp [hi1, hi2]
    · simp [hf]
theorem T4.congr {t b : Nat} {f g : Nat → Nat} {w : World} (h : T4 t b f w) (hg : ∀ i, i < 2048 → f i = g i) : T4 t b g w := by
  obtain ⟨l, k1, k2, k3⟩ := h.ws
  exact ⟨⟨l, k1, k2, fun q hq => by obtain ⟨x, g1, g2, g3⟩ := k3 q hq; exact ⟨x, g1, g2, fun j hj => by rw [g3 j hj, hg _ (by omega)]⟩⟩, h.ne⟩
theorem T4.put {t b : Nat} {f g : Nat → Nat} {w : World} (h : T4 t b f w) {q x : Nat} (hq : q < 128) (hx : x < 18446744073709551616) (hn : ∀ j, j < 16 → nib x j = g (16 * q + j)) (ho : ∀ i, i < 2048 → i / 16 ≠ q → f i = g i) : T4 t b g (w.setCell ⟨b, q, none⟩ (.int .u64 (x : Int))) := by
  obtain ⟨l, k1, k2, k3⟩ := h.ws
  refine ⟨⟨l.set q x, k1.put h.ne q x, by rw [List.length_set]; exact k2, fun r hr => ?_⟩, h.ne⟩
  by_cases e : q = r
  · subst e
    exact ⟨x, by rw [List.getElem?_set_self (by omega)], hx, hn⟩
  · obtain ⟨y, g1, g2, g3⟩ := k3 r hr
    exact ⟨y, by rw [List.getElem?_set_ne e]; exact g1, g2, fun j hj => by rw [g3 j hj, ho _ (by omega) (by omega)]⟩
def incR (lo hi : Nat) (f : Nat → Nat) : Nat → Nat := fun i => f i + (inR lo hi i).toNat
def decR (lo hi : Nat) (f : Nat → Nat) : Nat → Nat := fun i => f i - (inR lo hi i).toNat
def prt (f g : Nat → Nat) (q : Nat) : Nat → Nat := fun i => if i < 16 * q then g i else f i
theorem T4.lt16 {t b : Nat} {f : Nat → Nat} {w : World} (h : T4 t b f w) {i : Nat} (hi : i < 2048) : f i < 16 := by
  obtain ⟨x, _, hn, _⟩ := h.word (q := i / 16) (by omega)
  have := hn (i % 16) (by omega)
  rw [show 16 * (i / 16) + i % 16 = i by omega] at this
  rw [← this]
  exact nib_lt _ _
section
variable {w : World} {t b : Nat} {f : Nat → Nat}
set_option maxRecDepth 100000 in
set_option maxHeartbeats 1000000 in
theorem countZero_walk (h : T4 t b f w) (lo hi : Nat) (h1 : lo < hi) (h2 : hi ≤ 2048) : Calls Tryz.prog 160 #[.pointer (some ⟨t, 0, none⟩), .int .i64 (lo : Int), .int .i64 (hi : Int)] w fun e w' => (∃ c : Nat, e = .returned (.tuple #[.int .i64 ((hi : Int) - (lo : Int) - (c : Int)), .bool true]) ∧ Hid (c = cnt (fun i => inR lo hi i && !(f i == 0)) 2048 ∧ c ≤ hi - lo)) ∧ Below w.heap.size w w' := by
  have HC := hid (countNz_walk h lo hi h1 h2)
  clear h
  go_enter Tryz.func160, Tryz.ntmps160
  go_wp2_with fail
  refine HC.out.mono ?_
  rintro e w1 ⟨⟨c, rfl, HK⟩, hb1⟩
  have HB := hid hb1
  have hc := HK.out.2
  clear HC hb1
  go_wp2
  refine bodyPost_ret (results_tmp2 Tryz.results160 _ _ _) rfl ?_
  exact ⟨⟨c, rfl, HK⟩, HB.out⟩
/-- Inside IncRange and DecRange. -/
structure RV (w0 : World) (t b : Nat) (F : Nat → Nat) (p lo hi : Nat) (w : World) : Prop where
  t4 : T4 t b F w
  up : Upd b w0 w
  pk : Blk w p 222 (winL lo hi)
  pb : p ≠ b
theorem RV.below {w0 w' : World} {F : Nat → Nat} {p lo hi : Nat} (h : RV w0 t b F p lo hi w) (hb : Below w.heap.size w w') : RV w0 t b F p lo hi w' := ⟨h.t4.below hb, h.up.ofBelow hb, h.pk.below hb, h.pb⟩
set_option maxRecDepth 100000 in
set_option maxHeartbeats 2000000 in
theorem incRange_walk (h : T4 t b f w) (lo hi : Nat) (h1 : lo < hi) (h2 : hi ≤ 2048) : Calls Tryz.prog 258 #[.pointer (some ⟨t, 0, none⟩), .int .i64 (lo : Int), .int .i64 (hi : Int)] w fun e w' => ∃ ok : Bool, e = .returned (.bool ok) ∧ Hid ((ok = false ∧ (∃ i, lo ≤ i ∧ i < hi ∧ f i = 15) ∧ Below w.heap.size w w') ∨ (ok = true ∧ (∀ i, lo ≤ i → i < hi → f i ≠ 15) ∧ T4 t b (incR lo hi f) w' ∧ Upd b w w')) := by
  have HT := hid h
  have HC := hid (countEq_walk h lo hi h1 h2)
  have HFi : Hid (∀ c : Nat, c = cnt (fun i => inR lo hi i && !(f i == 15)) 2048 → (c < hi - lo ↔ ∃ i, lo ≤ i ∧ i < hi ∧ f i = 15)) := hid (fun c hc => full_iff h1 h2 hc)
  have HW := hid (fun (wz : World) (hz : Below w.heap.size w wz) => window_walk (h.below hz) lo hi h1 h2)
  have HMa := hid (fun (q : Nat) (hq : q < 128) (wz : World) => maskAt_walk lo hi q wz hq (by omega) h2)
  have h16 : lo / 16 < 128 := by omega
  have h17 : (hi - 1) / 16 < 128 := by omega
  have h18 : lo / 16 ≤ (hi - 1) / 16 := by omega
  have hhi : hi ≤ 2048 := h2
  have hlo : lo < hi := h1
  have HWd : Hid ((∀ i, lo ≤ i → i < hi → f i ≠ 15) → ∀ q x, lo / 16 ≤ q → q ≤ (hi - 1) / 16 → x < 18446744073709551616 → (∀ j, j < 16 → nib x j = f (16 * q + j)) → x + (ones4 &&& mW lo hi q) < 18446744073709551616 ∧ True ∧ ∀ j, j < 16 → nib (x + (ones4 &&& mW lo hi q)) j = incR lo hi f (16 * q + j)) := hid (fun hne q x g1 g2 hx hn => by
    have hb : ∀ i, lo ≤ i → i < hi → f i ≤ 14 := fun i a1 a2 => by
      have := hne i a1 a2
      have := h.lt16 (show i < 2048 by omega)
      omega
    have k := word_inc h1 g1 g2 hx hn hb
    exact ⟨k.1, trivial, k.2⟩)
  have HSt : Hid (∀ i, i < 2048 → f i = prt f (incR lo hi f) (lo / 16) i) := hid (fun i hi1 => by
    unfold prt
    split
    · have : inR lo hi i = false := by
        cases hr : inR lo hi i
        · rfl
        · have := inR_iff.1 hr
          omega
      unfold incR
      rw [this]
      rfl
    · rfl)
  have HEn : Hid (∀ i, i < 2048 → prt f (incR lo hi f) ((hi - 1) / 16 + 1) i = incR lo hi f i) := hid (fun i hi1 => by
    unfold prt
    split
    · rfl
    · have : inR lo hi i = false := by
        cases hr : inR lo hi i
        · rfl
        · have := inR_iff.1 hr
          omega
      unfold incR
      rw [this]
      rfl)
  clear h h1 h2
  obtain ⟨fw, hfw⟩ : ∃ x, lo / 16 = x := ⟨_, rfl⟩
  obtain ⟨lw, hlw⟩ : ∃ x, (hi - 1) / 16 = x := ⟨_, rfl⟩
  have HWL : Hid (winL lo hi = [.int .i64 (fw : Int), .int .i64 (lw : Int), .int .u64 ((msk (lo % 16) 16 : Nat) : Int), .int .u64 ((msk 0 ((hi - 1) % 16 + 1) : Nat) : Int)]) := hid (by unfold winL; rw [hfw, hlw])
  unfold winV at HW
  rw [hfw, hlw] at HW HMa h18 HWd
  rw [hfw] at HSt h16
  rw [hlw] at HEn h17
  obtain ⟨M1, hM1⟩ : ∃ x, msk (lo % 16) 16 = x := ⟨_, rfl⟩
  obtain ⟨M2, hM2⟩ : ∃ x, msk 0 ((hi - 1) % 16 + 1) = x := ⟨_, rfl⟩
  rw [hM1, hM2] at HW HMa HWL
  clear hfw hlw hM1 hM2
  have c4 : w.cell? ⟨t, 4, none⟩ = some (.int .u64 15) := HT.out.tab.2.1
  go_enter Tryz.func258, Tryz.ntmps258
  go_wp2_with fail
  refine HC.out.mono ?_
  rintro e w1 ⟨⟨c, rfl, HK⟩, hb1⟩
  have HB1 := hid hb1
  have hc := HK.out.2
  have HF := hid (HFi.out c HK.out.1)
  clear HC hb1 HK c4 HFi
  by_cases hful : c < hi - lo
  · as_aux_lemma =>
    have df : decide ((hi : Int) - (lo : Int) - (c : Int) > 0) = true := decide_eq_true (by omega)
    have df2 : decide (0 < (hi : Int) - (lo : Int) - (c : Int)) = true := decide_eq_true (by omega)
    have HG := hid (HF.out.1 hful)
    clear HF
    go_wp2
    go_ret
    exact ⟨false, rfl, hid (.inl ⟨rfl, HG.out, HB1.out⟩)⟩
  as_aux_lemma =>
  have df : decide ((hi : Int) - (lo : Int) - (c : Int) > 0) = false := decide_eq_false (by omega)
  have df2 : decide (0 < (hi : Int) - (lo : Int) - (c : Int)) = false := decide_eq_false (by omega)
  have HNe : Hid (∀ i, lo ≤ i → i < hi → f i ≠ 15) := hid (fun i a1 a2 e => hful (HF.out.2 ⟨i, a1, a2, e⟩))
  have HWx := hid (HWd.out HNe.out)
  clear HF HWd
  go_wp2_with fail
  refine (HW.out w1 HB1.out).mono ?_
  rintro e w2 ⟨rfl, hb2⟩
  have HB2 : Hid (Below w.heap.size w w2) := hid (HB1.out.trans (hb2.mono HB1.out.size))
  clear hb2 HW HB1 df df2 hful
  obtain ⟨p, hp⟩ : ∃ p, w2.heap.size = p := ⟨_, rfl⟩
  go_upto_region 5 with fail
  obtain ⟨w3, hw3⟩ : ∃ w3, w2.alloc (.cells #[.int .i64 (fw : Int), .int .i64 (lw : Int), .int .u64 (M1 : Int), .int .u64 (M2 : Int)] 222) = w3 := ⟨_, rfl⟩
  have HR3 : Hid (RV w t b (prt f (incR lo hi f) fw) p lo hi w3) := hid (by
    have k1 := Blk.new w2 (winL lo hi) 222
    rw [hp] at k1
    have hb : Below w2.heap.size w2 (w2.alloc (.cells (winL lo hi).toArray 222)) := (Below.refl _ w2).alloc (Nat.le_refl _) _
    rw [HWL.out] at k1 hb
    rw [← hw3]
    obtain ⟨l, kk, _⟩ := HT.out.ws
    have hlt := kk.wb.lt
    have := HB2.out.size
    refine ⟨((HT.out.below HB2.out).below hb).congr HSt.out, ((Upd.refl b w).ofBelow HB2.out).ofBelow hb, ?_, by omega⟩
    rw [HWL.out]
    exact k1)
  (try simp only [hw3])
  clear hw3 hp HB2
  have c0 : w3.cell? ⟨p, 0, none⟩ = some (.int .i64 (fw : Int)) := by have := HR3.out.pk.cell 0; rw [HWL.out] at this; exact this
  go_upto_region 6 with fail
  clear c0
  go_loopw [10] (fun u wr => ∃ q : Nat, u = .int .i64 (q : Int) ∧ fw ≤ q ∧ q ≤ lw + 1 ∧ Hid (RV w t b (prt f (incR lo hi f) q) p lo hi wr)) (fun u _ => 200 - (intOf u).toNat)
  case atStart => exact ⟨fw, rfl, Nat.le_refl _, by omega, HR3⟩
  case round =>
  clear HR3 HSt
  obtain ⟨q, rfl, hq1, hq2, HK⟩ := hrel
  have c1 : wr.cell? ⟨p, 1, none⟩ = some (.int .i64 (lw : Int)) := by have := HK.out.pk.cell 1; rw [HWL.out] at this; exact this
  by_cases hql : q ≤ lw
  rotate_left
  · as_aux_lemma =>
    have dq : decide ((q : Int) ≤ (lw : Int)) = false := decide_eq_false (by omega)
    have HF : Hid (T4 t b (incR lo hi f) wr ∧ Upd b w wr) := hid (by
      obtain rfl : q = lw + 1 := by omega
      exact ⟨HK.out.t4.congr HEn.out, HK.out.up⟩)
    clear HK
    go_wp2
    go_ret
    exact ⟨true, rfl, hid (.inr ⟨rfl, HNe.out, HF.out.1, HF.out.2⟩)⟩
  as_aux_lemma =>
  have dq : decide ((q : Int) ≤ (lw : Int)) = true := decide_eq_true (by omega)
  have hq128 : (q : Int) < 128 := by omega
  obtain ⟨x, hx, hxn, _, _⟩ := HK.out.t4.word (q := q) (by omega)
  have hxf : ∀ j, j < 16 → nib x j = f (16 * q + j) := fun j hj => by
    rw [hxn j hj]
    unfold prt
    rw [if_neg (by omega)]
  obtain ⟨g1, g2, g3⟩ := HWx.out q x hq1 hql hx hxf
  have HMq := hid (HMa.out q (by omega))
  have hM := mW_lt lo hi q
  have HP : Hid (∀ wz, RV w t b (prt f (incR lo hi f) q) p lo hi wz → RV w t b (prt f (incR lo hi f) (q + 1)) p lo hi (wz.setCell ⟨b, q, none⟩ (.int .u64 ((x + (ones4 &&& mW lo hi q) : Nat) : Int)))) := hid (fun wz hz => by
    have hu : Upd b wz (wz.setCell ⟨b, q, none⟩ (.int .u64 ((x + (ones4 &&& mW lo hi q) : Nat) : Int))) := (Upd.refl b wz).setCell rfl _
    refine ⟨hz.t4.put (by omega) g1 (fun j hj => ?_) (fun i hi1 hne => ?_), hz.up.trans hu, hz.pk.upd hu hz.pb, hz.pb⟩
    · rw [g3 j hj]
      unfold prt
      rw [if_pos (by omega)]
    · unfold prt
      by_cases a : i < 16 * q
      · rw [if_pos a, if_pos (by omega)]
      · rw [if_neg a, if_neg (by omega)])
  obtain ⟨M, hMq⟩ : ∃ M, mW lo hi q = M := ⟨_, rfl⟩
  rw [hMq] at HMq hM HP g1
  try rw [hMq] at g2
  have hO : bits .and .u64 1229782938247303441 (M : Int) = ((ones4 &&& M : Nat) : Int) := by
    rw [u64_and _ _ (by decide) (by decide) (Int.natCast_nonneg _) (by omega)]
    rfl
  have HV : Hid (IntKind.u64.wrap ((x : Int) + bits .and .u64 1229782938247303441 (M : Int)) = ((x + (ones4 &&& M) : Nat) : Int)) := hid (by
    rw [hO]
    generalize ones4 &&& M = o at *
    rw [show (x : Int) + (o : Int) = ((x + o : Nat) : Int) by omega]
    exact u64_nat (Int.natCast_nonneg _) (by omega))
  have HCx : Hid (∀ wz, RV w t b (prt f (incR lo hi f) q) p lo hi wz → wz.cell? ⟨b, q, none⟩ = some (.int .u64 (x : Int)) ∧ wz.frozen? ⟨b, q, none⟩ = false) := hid (fun wz hz => by
    obtain ⟨x', hx', hxn', hc', hf'⟩ := hz.t4.word (q := q) (by omega)
    have : x' = x := nib_ext hx' hx (fun j hj => by rw [hxn' j hj, hxn j hj])
    rw [← this]
    exact ⟨hc', hf'⟩)
  have HR := hid HK.out
  clear HK HMa hxn hxf hMq g1 g2 g3 hO HWx
  go_upto_region 8 with fail
  clear c1
  refine wp_region_heavy (fun wz => RV w t b (prt f (incR lo hi f) q) p lo hi wz) 16 [0, 1, 2, 3, 4, 5, 6, 7, 8, 9, 10, 11, 12] [13, 14, 15] rfl (by kernel_rfl) (by kernel_rfl) (fun d _ _ _ _ h => by cases d <;> exact h) (HR.out.below (Drew.below ⟨1, rfl⟩ _)) ?_
  apply Exists.intro
  refine ⟨?_, ?_⟩
  · intro W hW
    have t0 : ∀ u, (W u).cell? ⟨t, 0, none⟩ = some (.slice (some ⟨b, 0, none⟩) 128 128) := fun u => (hW u).t4.tab.1
    have t5 : ∀ u, (W u).cell? ⟨t, 5, none⟩ = some (.int .u64 1229782938247303441) := fun u => (hW u).t4.tab.2.2
    have x0 : ∀ u, (W u).cell? ⟨b, q, none⟩ = some (.int .u64 (x : Int)) := fun u => (HCx.out _ (hW u)).1
    have p0 : ∀ u, (W u).cell? ⟨p, 0, none⟩ = some (.int .i64 (fw : Int)) := fun u => by have := (hW u).pk.cell 0; rw [HWL.out] at this; exact this
    have p1 : ∀ u, (W u).cell? ⟨p, 1, none⟩ = some (.int .i64 (lw : Int)) := fun u => by have := (hW u).pk.cell 1; rw [HWL.out] at this; exact this
    have p2 : ∀ u, (W u).cell? ⟨p, 2, none⟩ = some (.int .u64 (M1 : Int)) := fun u => by have := (hW u).pk.cell 2; rw [HWL.out] at this; exact this
    have p3 : ∀ u, (W u).cell? ⟨p, 3, none⟩ = some (.int .u64 (M2 : Int)) := fun u => by have := (hW u).pk.cell 3; rw [HWL.out] at this; exact this
    clear hW
    simp only [List.take, opsAt, List.drop, List.cons_append, List.nil_append]
    repeat (go_big_quiet_step (fail))
    exact rfl
  simp only [List.take, List.drop, opsAt, List.cons_append, List.nil_append, wpHv]
  have HRd : Hid (RV w t b (prt f (incR lo hi f) q) p lo hi wr.drew) := hid (HR.out.below (Drew.below ⟨1, rfl⟩ _))
  generalize wr.drew = wd at HRd ⊢
  go_wp2_with fail
  refine (HMq.out wd).mono ?_
  rintro e w5 ⟨rfl, hb5⟩
  have HR5 := hid (HRd.out.below hb5)
  clear hb5 HMq HRd HR
  go_wp2_with fail
  refine ⟨HR5.out, ?_⟩
  go_wp2_with fail
  refine ⟨HR5.out, ?_⟩
  go_wp2_with fail
  refine ⟨HR5.out, ?_⟩
  simp only [QN]
  rw [HV.out]
  obtain ⟨z0, z1⟩ := HCx.out w5 HR5.out
  have HF := hid (HP.out w5 HR5.out)
  clear HR5 HP HCx HV
  go_wp2
  exact ⟨⟨q + 1, by go_num, by omega, by omega, HF⟩, by simp [intOf]; omega⟩
set_option maxRecDepth 100000 in
set_option maxHeartbeats 2000000 in
theorem decRange_walk (h : T4 t b f w) (lo hi : Nat) (h1 : lo < hi) (h2 : hi ≤ 2048) : Calls Tryz.prog 259 #[.pointer (some ⟨t, 0, none⟩), .int .i64 (lo : Int), .int .i64 (hi : Int)] w fun e w' => ∃ ok : Bool, e = .returned (.bool ok) ∧ Hid ((ok = false ∧ (∃ i, lo ≤ i ∧ i < hi ∧ f i = 0) ∧ Below w.heap.size w w') ∨ (ok = true ∧ (∀ i, lo ≤ i → i < hi → f i ≠ 0) ∧ T4 t b (decR lo hi f) w' ∧ Upd b w w')) := by
  have HT := hid h
  have HC := hid (countZero_walk h lo hi h1 h2)
  have HFi : Hid (∀ c : Nat, c = cnt (fun i => inR lo hi i && !(f i == 0)) 2048 → (c < hi - lo ↔ ∃ i, lo ≤ i ∧ i < hi ∧ f i = 0)) := hid (fun c hc => full_iff h1 h2 hc)
  have HW := hid (fun (wz : World) (hz : Below w.heap.size w wz) => window_walk (h.below hz) lo hi h1 h2)
  have HMa := hid (fun (q : Nat) (hq : q < 128) (wz : World) => maskAt_walk lo hi q wz hq (by omega) h2)
  have h16 : lo / 16 < 128 := by omega
  have h17 : (hi - 1) / 16 < 128 := by omega
  have h18 : lo / 16 ≤ (hi - 1) / 16 := by omega
  have hhi : hi ≤ 2048 := h2
  have hlo : lo < hi := h1
  have HWd : Hid ((∀ i, lo ≤ i → i < hi → f i ≠ 0) → ∀ q x, lo / 16 ≤ q → q ≤ (hi - 1) / 16 → x < 18446744073709551616 → (∀ j, j < 16 → nib x j = f (16 * q + j)) → x - (ones4 &&& mW lo hi q) < 18446744073709551616 ∧ (ones4 &&& mW lo hi q) ≤ x ∧ ∀ j, j < 16 → nib (x - (ones4 &&& mW lo hi q)) j = decR lo hi f (16 * q + j)) := hid (fun hne q x g1 g2 hx hn => by
    have hb : ∀ i, lo ≤ i → i < hi → 1 ≤ f i := fun i a1 a2 => by
      have := hne i a1 a2
      have := h.lt16 (show i < 2048 by omega)
      omega
    have k := word_dec h1 g1 g2 hx hn hb
    exact ⟨Nat.lt_of_le_of_lt (Nat.sub_le _ _) hx, k.1, k.2⟩)
  have HSt : Hid (∀ i, i < 2048 → f i = prt f (decR lo hi f) (lo / 16) i) := hid (fun i hi1 => by
    unfold prt
    split
    · have : inR lo hi i = false := by
        cases hr : inR lo hi i
        · rfl
        · have := inR_iff.1 hr
          omega
      unfold decR
      rw [this]
      rfl
    · rfl)
  have HEn : Hid (∀ i, i < 2048 → prt f (decR lo hi f) ((hi - 1) / 16 + 1) i = decR lo hi f i) := hid (fun i hi1 => by
    unfold prt
    split
    · rfl
    · have : inR lo hi i = false := by
        cases hr : inR lo hi i
        · rfl
        · have := inR_iff.1 hr
          omega
      unfold decR
      rw [this]
      rfl)
  clear h h1 h2
  obtain ⟨fw, hfw⟩ : ∃ x, lo / 16 = x := ⟨_, rfl⟩
  obtain ⟨lw, hlw⟩ : ∃ x, (hi - 1) / 16 = x := ⟨_, rfl⟩
  have HWL : Hid (winL lo hi = [.int .i64 (fw : Int), .int .i64 (lw : Int), .int .u64 ((msk (lo % 16) 16 : Nat) : Int), .int .u64 ((msk 0 ((hi - 1) % 16 + 1) : Nat) : Int)]) := hid (by unfold winL; rw [hfw, hlw])
  unfold winV at HW
  rw [hfw, hlw] at HW HMa h18 HWd
  rw [hfw] at HSt h16
  rw [hlw] at HEn h17
  obtain ⟨M1, hM1⟩ : ∃ x, msk (lo % 16) 16 = x := ⟨_, rfl⟩
  obtain ⟨M2, hM2⟩ : ∃ x, msk 0 ((hi - 1) % 16 + 1) = x := ⟨_, rfl⟩
  rw [hM1, hM2] at HW HMa HWL
  clear hfw hlw hM1 hM2
  have c4 : w.cell? ⟨t, 4, none⟩ = some (.int .u64 15) := HT.out.tab.2.1
  go_enter Tryz.func259, Tryz.ntmps259
  go_wp2_with fail
  refine HC.out.mono ?_
  rintro e w1 ⟨⟨c, rfl, HK⟩, hb1⟩
  have HB1 := hid hb1
  have hc := HK.out.2
  have HF := hid (HFi.out c HK.out.1)
  clear HC hb1 HK c4 HFi
  by_cases hful : c < hi - lo
  · as_aux_lemma =>
    have df : decide ((hi : Int) - (lo : Int) - (c : Int) > 0) = true := decide_eq_true (by omega)
    have df2 : decide (0 < (hi : Int) - (lo : Int) - (c : Int)) = true := decide_eq_true (by omega)
    have HG := hid (HF.out.1 hful)
    clear HF
    go_wp2
    go_ret
    exact ⟨false, rfl, hid (.inl ⟨rfl, HG.out, HB1.out⟩)⟩
  as_aux_lemma =>
  have df : decide ((hi : Int) - (lo : Int) - (c : Int) > 0) = false := decide_eq_false (by omega)
  have df2 : decide (0 < (hi : Int) - (lo : Int) - (c : Int)) = false := decide_eq_false (by omega)
  have HNe : Hid (∀ i, lo ≤ i → i < hi → f i ≠ 0) := hid (fun i a1 a2 e => hful (HF.out.2 ⟨i, a1, a2, e⟩))
  have HWx := hid (HWd.out HNe.out)
  clear HF HWd
  go_wp2_with fail
  refine (HW.out w1 HB1.out).mono ?_
  rintro e w2 ⟨rfl, hb2⟩
  have HB2 : Hid (Below w.heap.size w w2) := hid (HB1.out.trans (hb2.mono HB1.out.size))
  clear hb2 HW HB1 df df2 hful
  obtain ⟨p, hp⟩ : ∃ p, w2.heap.size = p := ⟨_, rfl⟩
  go_upto_region 5 with fail
  obtain ⟨w3, hw3⟩ : ∃ w3, w2.alloc (.cells #[.int .i64 (fw : Int), .int .i64 (lw : Int), .int .u64 (M1 : Int), .int .u64 (M2 : Int)] 222) = w3 := ⟨_, rfl⟩
  have HR3 : Hid (RV w t b (prt f (decR lo hi f) fw) p lo hi w3) := hid (by
    have k1 := Blk.new w2 (winL lo hi) 222
    rw [hp] at k1
    have hb : Below w2.heap.size w2 (w2.alloc (.cells (winL lo hi).toArray 222)) := (Below.refl _ w2).alloc (Nat.le_refl _) _
    rw [HWL.out] at k1 hb
    rw [← hw3]
    obtain ⟨l, kk, _⟩ := HT.out.ws
    have hlt := kk.wb.lt
    have := HB2.out.size
    refine ⟨((HT.out.below HB2.out).below hb).congr HSt.out, ((Upd.refl b w).ofBelow HB2.out).ofBelow hb, ?_, by omega⟩
    rw [HWL.out]
    exact k1)
  (try simp only [hw3])
  clear hw3 hp HB2
  have c0 : w3.cell? ⟨p, 0, none⟩ = some (.int .i64 (fw : Int)) := by have := HR3.out.pk.cell 0; rw [HWL.out] at this; exact this
  go_upto_region 6 with fail
  clear c0
  go_loopw [10] (fun u wr => ∃ q : Nat, u = .int .i64 (q : Int) ∧ fw ≤ q ∧ q ≤ lw + 1 ∧ Hid (RV w t b (prt f (decR lo hi f) q) p lo hi wr)) (fun u _ => 200 - (intOf u).toNat)
  case atStart => exact ⟨fw, rfl, Nat.le_refl _, by omega, HR3⟩
  case round =>
  clear HR3 HSt
  obtain ⟨q, rfl, hq1, hq2, HK⟩ := hrel
  have c1 : wr.cell? ⟨p, 1, none⟩ = some (.int .i64 (lw : Int)) := by have := HK.out.pk.cell 1; rw [HWL.out] at this; exact this
  by_cases hql : q ≤ lw
  rotate_left
  · as_aux_lemma =>
    have dq : decide ((q : Int) ≤ (lw : Int)) = false := decide_eq_false (by omega)
    have HF : Hid (T4 t b (decR lo hi f) wr ∧ Upd b w wr) := hid (by
      obtain rfl : q = lw + 1 := by omega
      exact ⟨HK.out.t4.congr HEn.out, HK.out.up⟩)
    clear HK
    go_wp2
    go_ret
    exact ⟨true, rfl, hid (.inr ⟨rfl, HNe.out, HF.out.1, HF.out.2⟩)⟩
  as_aux_lemma =>
  have dq : decide ((q : Int) ≤ (lw : Int)) = true := decide_eq_true (by omega)
  have hq128 : (q : Int) < 128 := by omega
  obtain ⟨x, hx, hxn, _, _⟩ := HK.out.t4.word (q := q) (by omega)
  have hxf : ∀ j, j < 16 → nib x j = f (16 * q + j) := fun j hj => by
    rw [hxn j hj]
    unfold prt
    rw [if_neg (by omega)]
  obtain ⟨g1, g2, g3⟩ := HWx.out q x hq1 hql hx hxf
  have HMq := hid (HMa.out q (by omega))
  have hM := mW_lt lo hi q
  have HP : Hid (∀ wz, RV w t b (prt f (decR lo hi f) q) p lo hi wz → RV w t b (prt f (decR lo hi f) (q + 1)) p lo hi (wz.setCell ⟨b, q, none⟩ (.int .u64 ((x - (ones4 &&& mW lo hi q) : Nat) : Int)))) := hid (fun wz hz => by
    have hu : Upd b wz (wz.setCell ⟨b, q, none⟩ (.int .u64 ((x - (ones4 &&& mW lo hi q) : Nat) : Int))) := (Upd.refl b wz).setCell rfl _
    refine ⟨hz.t4.put (by omega) g1 (fun j hj => ?_) (fun i hi1 hne => ?_), hz.up.trans hu, hz.pk.upd hu hz.pb, hz.pb⟩
    · rw [g3 j hj]
      unfold prt
      rw [if_pos (by omega)]
    · unfold prt
      by_cases a : i < 16 * q
      · rw [if_pos a, if_pos (by omega)]
      · rw [if_neg a, if_neg (by omega)])
  obtain ⟨M, hMq⟩ : ∃ M, mW lo hi q = M := ⟨_, rfl⟩
  rw [hMq] at HMq hM HP g1
  try rw [hMq] at g2
  have hO : bits .and .u64 1229782938247303441 (M : Int) = ((ones4 &&& M : Nat) : Int) := by
    rw [u64_and _ _ (by decide) (by decide) (Int.natCast_nonneg _) (by omega)]
    rfl
  have HV : Hid (IntKind.u64.wrap ((x : Int) - bits .and .u64 1229782938247303441 (M : Int)) = ((x - (ones4 &&& M) : Nat) : Int)) := hid (by
    rw [hO]
    generalize ones4 &&& M = o at *
    rw [show (x : Int) - (o : Int) = ((x - o : Nat) : Int) by omega]
    exact u64_nat (Int.natCast_nonneg _) (by omega))
  have HCx : Hid (∀ wz, RV w t b (prt f (decR lo hi f) q) p lo hi wz → wz.cell? ⟨b, q, none⟩ = some (.int .u64 (x : Int)) ∧ wz.frozen? ⟨b, q, none⟩ = false) := hid (fun wz hz => by
    obtain ⟨x', hx', hxn', hc', hf'⟩ := hz.t4.word (q := q) (by omega)
    have : x' = x := nib_ext hx' hx (fun j hj => by rw [hxn' j hj, hxn j hj])
    rw [← this]
    exact ⟨hc', hf'⟩)
  have HR := hid HK.out
  clear HK HMa hxn hxf hMq g1 g2 g3 hO HWx
  go_upto_region 8 with fail
  clear c1
  refine wp_region_heavy (fun wz => RV w t b (prt f (decR lo hi f) q) p lo hi wz) 16 [0, 1, 2, 3, 4, 5, 6, 7, 8, 9, 10, 11, 12] [13, 14, 15] rfl (by kernel_rfl) (by kernel_rfl) (fun d _ _ _ _ h => by cases d <;> exact h) (HR.out.below (Drew.below ⟨1, rfl⟩ _)) ?_
  apply Exists.intro
  refine ⟨?_, ?_⟩
  · intro W hW
    have t0 : ∀ u, (W u).cell? ⟨t, 0, none⟩ = some (.slice (some ⟨b, 0, none⟩) 128 128) := fun u => (hW u).t4.tab.1
    have t5 : ∀ u, (W u).cell? ⟨t, 5, none⟩ = some (.int .u64 1229782938247303441) := fun u => (hW u).t4.tab.2.2
    have x0 : ∀ u, (W u).cell? ⟨b, q, none⟩ = some (.int .u64 (x : Int)) := fun u => (HCx.out _ (hW u)).1
    have p0 : ∀ u, (W u).cell? ⟨p, 0, none⟩ = some (.int .i64 (fw : Int)) := fun u => by have := (hW u).pk.cell 0; rw [HWL.out] at this; exact this
    have p1 : ∀ u, (W u).cell? ⟨p, 1, none⟩ = some (.int .i64 (lw : Int)) := fun u => by have := (hW u).pk.cell 1; rw [HWL.out] at this; exact this
    have p2 : ∀ u, (W u).cell? ⟨p, 2, none⟩ = some (.int .u64 (M1 : Int)) := fun u => by have := (hW u).pk.cell 2; rw [HWL.out] at this; exact this
    have p3 : ∀ u, (W u).cell? ⟨p, 3, none⟩ = some (.int .u64 (M2 : Int)) := fun u => by have := (hW u).pk.cell 3; rw [HWL.out] at this; exact this
    clear hW
    simp only [List.take, opsAt, List.drop, List.cons_append, List.nil_append]
    repeat (go_big_quiet_step (fail))
    exact rfl
  simp only [List.take, List.drop, opsAt, List.cons_append, List.nil_append, wpHv]
  have HRd : Hid (RV w t b (prt f (decR lo hi f) q) p lo hi wr.drew) := hid (HR.out.below (Drew.below ⟨1, rfl⟩ _))
  generalize wr.drew = wd at HRd ⊢
  go_wp2_with fail
  refine (HMq.out wd).mono ?_
  rintro e w5 ⟨rfl, hb5⟩
  have HR5 := hid (HRd.out.below hb5)
  clear hb5 HMq HRd HR
  go_wp2_with fail
  refine ⟨HR5.out, ?_⟩
  go_wp2_with fail
  refine ⟨HR5.out, ?_⟩
  go_wp2_with fail
  refine ⟨HR5.out, ?_⟩
  simp only [QN]
  rw [HV.out]
  obtain ⟨z0, z1⟩ := HCx.out w5 HR5.out
  have HF := hid (HP.out w5 HR5.out)
  clear HR5 HP HCx HV
  go_wp2
  exact ⟨⟨q + 1, by go_num, by omega, by omega, HF⟩, by simp [intOf]; omega⟩
end
end Go.Proofs.Qxb6500887aGreat
