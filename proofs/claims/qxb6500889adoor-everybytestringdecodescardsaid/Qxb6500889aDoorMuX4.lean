/- The machine: issue, give, lookup, target. -/
import Derived.Test.Qxb6500889aDoorMuX3
namespace Go.Proofs.Qxb6500889aDoor
open Go.RowKit
set_option linter.unusedSimpArgs false
set_option linter.unusedVariables false

/-- A handle's number. -/
def hN (gen m slot : Nat) : Nat := 11889503016258109440 + gen * 65536 + m * 256 + slot
theorem or_join (i : Nat) (x y : Int) (h0 : 0 ≤ x) (h1 : x < 18446744073709551616) (h2 : 0 ≤ y) (h3 : y < 18446744073709551616) (hx : x.toNat % 2 ^ i = 0) (hy : y.toNat < 2 ^ i) : bits .or .u64 x y = x + y := by
  rw [u64_or x y h0 h1 h2 h3, nat_join i _ _ hx hy]
  omega
theorem hN_or (gen m slot : Nat) (h1 : gen ≤ 1099511627775) (h2 : m < 4) (h3 : slot < 256) :
    bits .or .u64 (bits .or .u64 (bits .or .u64 11889503016258109440 ((gen : Int) * 65536)) ((m : Int) * 256)) (slot : Int) = ((hN gen m slot : Nat) : Int) := by
  rw [or_join 56 11889503016258109440 ((gen : Int) * 65536) (by omega) (by omega) (by omega) (by omega) (by decide) (by omega),
    or_join 16 _ ((m : Int) * 256) (by omega) (by omega) (by omega) (by omega) (by omega) (by omega),
    or_join 8 _ (slot : Int) (by omega) (by omega) (by omega) (by omega) (by omega) (by omega)]
  unfold hN
  omega
def issX (X : XS) (m at_ : Nat) : XS := setTb X m ⟨(X.tb m).gen, (X.tb m).ad ++ [at_]⟩
section
variable {w w' w'' : World} {ρ ρ' ρ'' : Rl} {L L' : HL} {T : XL} {H H' : HS} {X : XS}
/-- A table's row has grown into another. -/
theorem MM.growT (h : MM w ρ L T H X) {m : Nat} (hm : m < 4) {v : Value} {ys : List Nat} (hb0 : Below 0 w w') (hk : ∀ g, g < w.heap.size → ρ g ≠ 32 + m → w'.heap[g]? = w.heap[g]?) (ho : ∀ g, g < w.heap.size → ρ' g = ρ g) (hd : ∀ g, ρ' g ≠ 0 → g < w'.heap.size) (hr : RowA w' ρ' (32 + m) v ys) :
    MM (w'.setCell ⟨T.xB, 1 + m * 3 + 2, none⟩ v) ρ' L ⟨T.xB, fup T.tv m v⟩ H (setTb X m ⟨(X.tb m).gen, ys⟩) ∧ Fx ρ w ρ' (w'.setCell ⟨T.xB, 1 + m * 3 + 2, none⟩ v) := by
  have hm1 : HM w' ρ' L H := by
    have e : ∀ k, k < w.heap.size → ρ k ≠ 32 + m → w'.heap[k]? = w.heap[k]? ∧ ρ' k = ρ k := fun k hk' hne => ⟨hk k hk' hne, ho k hk'⟩
    obtain ⟨E, p1, p2, p3⟩ := h.hm.mo
    obtain ⟨F, q1, q2, q3⟩ := h.hm.mc
    have e1 := e _ h.hm.hb.lt (by rw [h.hm.r1]; omega)
    have e2 := e _ h.hm.tk.lt (by rw [h.hm.r2]; omega)
    have e3 := e _ p1.lt (by rw [h.hm.r3]; omega)
    have e4 := e _ q1.lt (by rw [h.hm.r4]; omega)
    exact ⟨h.hm.hb.of e1.1, h.hm.tk.of e2.1, ⟨E, p1.of e3.1, p2, p3⟩, ⟨F, q1.of e4.1, q2, q3⟩, fun a x hx => (h.hm.o a x hx).of (fun g hg hr => e g hg (by omega)), fun i hi => (h.hm.rt i hi).of (fun g hg hr => e g hg (by omega)), by rw [e1.2]; exact h.hm.r1, by rw [e2.2]; exact h.hm.r2, by rw [e3.2]; exact h.hm.r3, by rw [e4.2]; exact h.hm.r4, hd⟩
  have hx : w'.heap[T.xB]? = w.heap[T.xB]? := hk _ h.xb.lt (by rw [h.rx]; omega)
  have hx5 : ρ' T.xB = 5 := by rw [ho _ h.xb.lt]; exact h.rx
  have hu : Upd T.xB w' (w'.setCell ⟨T.xB, 1 + m * 3 + 2, none⟩ v) := (Upd.refl T.xB w').setCell (p := ⟨T.xB, 1 + m * 3 + 2, none⟩) rfl _
  have hcx : (xC L.hB T.tv X).set (1 + m * 3 + 2) v = xC L.hB (fup T.tv m v) (setTb X m ⟨(X.tb m).gen, ys⟩) := by
    refine xC_set_hd _ _ _ _ _ (by omega) (hd_tv _ _ _ _ hm v (fun i => ?_)) rfl rfl
    show (fup X.tb m _ i).gen = _
    by_cases him : i = m
    · subst him; rw [fup_self]
    · rw [fup_ne _ _ him]
  refine ⟨⟨hm1.other hu (by rw [hx5]; omega), ?_, hx5, fun i hi => ?_⟩, ?_⟩
  · have := (h.xb.of hx).set (1 + m * 3 + 2) v
    rw [hcx] at this
    exact this
  · show RowA _ ρ' (32 + i) (fup T.tv m v i) (fup X.tb m _ i).ad
    have hs : ∀ g, g < w'.heap.size → ρ' g = 32 + i → (w'.setCell ⟨T.xB, 1 + m * 3 + 2, none⟩ v).heap[g]? = w'.heap[g]? ∧ ρ' g = ρ' g := fun g hg hgr => ⟨hu.block g hg (fun e => by rw [e, hx5] at hgr; omega), rfl⟩
    by_cases him : i = m
    · subst him; rw [fup_self, fup_self]; exact hr.of hs
    · rw [fup_ne _ _ him, fup_ne _ _ him]
      exact ((h.tr i hi).of (w' := w') (ρ' := ρ') (fun g hg hgr => ⟨hk g hg (by omega), ho g hg⟩)).of hs
  · refine ⟨hb0.os, hb0.tape, hb0.output, Nat.le_trans hb0.size hu.size, ho, fun g hg h0 => ?_⟩
    rw [hu.block g (Nat.lt_of_lt_of_le hg hb0.size) (fun e => by rw [e, h.rx] at h0; omega)]
    exact hk g hg (by omega)
set_option maxRecDepth 1000000 in
set_option maxHeartbeats 2000000 in
theorem issue_walk (h : MM w ρ L T H X) {m : Nat} (hm : m < 4) (hb : XB X) (x : Nat) :
    Calls Tryd.prog 80 #[.pointer (some ⟨T.xB, 1 + m * 3, none⟩), .int .u64 (x : Int)] w fun e w' => e = .returned (.int .u64 ((hN (X.tb m).gen m (X.tb m).ad.length : Nat) : Int)) ∧ ∃ T' ρ', MM w' ρ' L T' H (issX X m x) ∧ T'.xB = T.xB ∧ Fx ρ w ρ' w' := by
  obtain ⟨c1, c2, c3⟩ := h.tcells hm
  obtain ⟨a, k, hv⟩ := (h.tr m hm).shape
  have HH := hid h
  have htr := h.tr m hm
  rw [hv] at c3 htr
  have hl := hb.len m
  have hg := hb.gen m
  obtain ⟨n, hn⟩ : ∃ n, (X.tb m).ad.length = n := ⟨_, rfl⟩
  have Hn := hid hn
  rw [hn] at c3 hl htr
  obtain ⟨gn, hgn⟩ : ∃ g, (X.tb m).gen = g := ⟨_, rfl⟩
  have Hgn := hid hgn
  rw [hgn] at hg
  obtain ⟨xB, hxB⟩ : ∃ b, T.xB = b := ⟨_, rfl⟩
  have HxB := hid hxB
  rw [hxB] at c3
  rw [hxB, hn, hgn]
  have HTr := hid htr
  have HV := hid hv
  clear h hv htr hn hgn hxB c1 c2 hb
  have HHf := hid (HH.out.below (nbel w (.cells #[.int .u64 (x : Int)] 50)))
  have hrf : RowA (w.alloc (.cells #[.int .u64 (x : Int)] 50)) ρ (32 + m) (.slice a n k) (X.tb m).ad := by
    have := HHf.out.tr m hm
    rw [HV.out, Hn.out] at this
    exact this
  have HRf := hid hrf
  have hbb : ((X.tb m).ad.length + 1) * 8 ≤ 140737488355328 := by rw [Hn.out]; omega
  clear hrf
  have HFin : Hid (∀ v8 w8 ρ8, RowA w8 ρ8 (32 + m) v8 ((X.tb m).ad ++ [x]) → (∀ g, g < (w.alloc (.cells #[.int .u64 (x : Int)] 50)).heap.size → ρ8 g = ρ g) → (∀ g, g < (w.alloc (.cells #[.int .u64 (x : Int)] 50)).heap.size → ρ g ≠ 32 + m → w8.heap[g]? = (w.alloc (.cells #[.int .u64 (x : Int)] 50)).heap[g]?) → (∀ g, ρ8 g ≠ 0 → g < w8.heap.size) → Below 0 (w.alloc (.cells #[.int .u64 (x : Int)] 50)) w8 →
      ∃ a8 k8, v8 = .slice a8 (n + 1) k8 ∧ w8.cell? ⟨xB, 1 + m * 3 + 2, none⟩ = some (.slice a n k) ∧ w8.frozen? ⟨xB, 1 + m * 3 + 2, none⟩ = false ∧ MM (w8.setCell ⟨xB, 1 + m * 3 + 2, none⟩ (.slice a8 (n + 1) k8)) ρ8 L ⟨xB, fup T.tv m (.slice a8 (n + 1) k8)⟩ H (issX X m x) ∧ Fx ρ w ρ8 (w8.setCell ⟨xB, 1 + m * 3 + 2, none⟩ (.slice a8 (n + 1) k8))) := hid (fun v8 w8 ρ8 hr8 ho8 hk8 hd8 hb8 => by
    obtain ⟨a8, k8, h8⟩ := hr8.shape
    rw [List.length_append, List.length_singleton, Hn.out] at h8
    subst h8
    have hxe := hk8 T.xB HHf.out.xb.lt (by rw [HHf.out.rx]; omega)
    have hmm := HHf.out.growT hm hb8 hk8 ho8 hd8 hr8
    rw [HxB.out] at hmm hxe
    refine ⟨a8, k8, rfl, ?_, ?_, hmm.1, (Fx.below (nbel w _)).trans hmm.2⟩
    · have := (HHf.out.tcells hm).2.2
      rw [HV.out, Hn.out, HxB.out] at this
      rw [← this]
      exact World.cell?_of_block hxe
    · rw [World.frozen?_of_block (w := w.alloc (.cells #[.int .u64 (x : Int)] 50)) hxe, ← HxB.out]
      exact HHf.out.xb.frozen _)
  go_enter Tryd.func80, Tryd.ntmps80
  go_upto_region 3 with (at_builtin; refine wpList_app_row rfl (.tmp 15) (.tmp 17) rfl _ ρ (32 + m) (.slice a n k) (X.tb m).ad [x] rfl HRf.out HHf.out.hm.dom (some ⟨w.heap.size, 0, none⟩) 1 1 rfl rfl (fun h => by cases h) (newA w x _ rfl) hbb ?_; intro v8 w8 ρ8 hr8 ho8 hk8 hd8 hb8; obtain ⟨a8, k8, h8, c8, f8, hm8⟩ := HFin.out v8 w8 ρ8 hr8.out ho8 hk8 hd8 hb8; subst h8; have HM8 := hid hm8; clear hm8 hr8 ho8 hk8 hd8 hb8)
  generalize w8.setCell ⟨xB, 1 + m * 3 + 2, none⟩ (.slice a8 (n + 1) k8) = w9 at HM8 ⊢
  clear c8 f8 HFin HRf HHf c3
  obtain ⟨X0, W, hT, hI⟩ := class_mk (fun w' => Drew w9 w')
  have H0 : Hid (∃ y, w9.drew = W y) := hid (hI _ ⟨1, rfl⟩)
  have hne : Nonempty X0 := ⟨H0.out.choose⟩
  have e0 : ∀ y, (W y).cell? ⟨xB, 1 + m * 3, none⟩ = some (.int .i64 (m : Int)) := fun y => ((HM8.out.1.below (Drew.below (hT y) _)).tcells hm).1
  have e1 : ∀ y, (W y).cell? ⟨xB, 1 + m * 3 + 1, none⟩ = some (.int .u64 (gn : Int)) := fun y => by
    have := ((HM8.out.1.below (Drew.below (hT y) _)).tcells hm).2.1
    unfold issX at this
    rw [setTb_at, Hgn.out] at this
    exact this
  have HTT := hid hT
  have hor := hN_or gn m n hg hm (by omega)
  have HOr := hid hor
  have b1 : (gn : Int) ≤ 1099511627775 := by omega
  have b2 : (m : Int) < 4 := by omega
  have b3 : (n : Int) ≤ 128 := by omega
  clear hT hI hor
  refine wp_region_class W (by kernel_rfl) (by kernel_rfl) H0.out ?_
  repeat (go_big_quiet_step (fail))
  refine wpQuiet_nil ?_
  intro z
  have HZ := hid (Drew.below (HTT.out z) w9.heap.size)
  generalize W z = wz at HZ ⊢
  go_wp2_with fail
  go_ret
  exact ⟨by rw [← HOr.out]; rfl, _, _, HM8.out.1.below HZ.out, rfl, HM8.out.2.trans (Fx.below HZ.out)⟩
def givX (X : XS) (m x : Nat) : XS := noteX (issX X m x) (hN (X.tb m).gen m (X.tb m).ad.length)
theorem XB.iss (h : XB X) {m x : Nat} (hl : (X.tb m).ad.length < 128) : XB (issX X m x) := by
  refine ⟨h.nx, h.ct, fun i => ?_, fun i => ?_, h.st, h.rf, h.al, h.sf⟩
  · show (fup X.tb m _ i).gen ≤ _
    by_cases hi : i = m
    · subst hi; rw [fup_self]; exact h.gen _
    · rw [fup_ne _ _ hi]; exact h.gen i
  · show (fup X.tb m _ i).ad.length ≤ _
    by_cases hi : i = m
    · subst hi; rw [fup_self]; simp; omega
    · rw [fup_ne _ _ hi]; exact h.len i
set_option maxRecDepth 1000000 in
set_option maxHeartbeats 2000000 in
theorem give_walk (h : MM w ρ L T H X) {m : Nat} (hm : m < 4) (hb : XB X) (hl : (X.tb m).ad.length < 128) (x : Nat) :
    Calls Tryd.prog 67 #[.pointer (some ⟨T.xB, 0, none⟩), .pointer (some ⟨T.xB, 1 + m * 3, none⟩), .int .u64 (x : Int)] w fun e w' => e = .returned (.int .u64 ((hN (X.tb m).gen m (X.tb m).ad.length : Nat) : Int)) ∧ ∃ T' ρ', MM w' ρ' L T' H (givX X m x) ∧ T'.xB = T.xB ∧ Fx ρ w ρ' w' := by
  have HI := hid (issue_walk h hm hb x)
  have HXb := hid (hb.iss (x := x) hl)
  obtain ⟨hn, hhn⟩ : ∃ v, hN (X.tb m).gen m (X.tb m).ad.length = v := ⟨_, rfl⟩
  have Hhn := hid hhn
  rw [hhn] at HI
  rw [hhn]
  obtain ⟨xB, hxB⟩ : ∃ b, T.xB = b := ⟨_, rfl⟩
  rw [hxB] at HI
  rw [hxB]
  clear h hb hhn hxB
  go_enter Tryd.func67, Tryd.ntmps67
  go_wp2_with fail
  refine (HI.out).mono ?_
  rintro e w1 ⟨rfl, T1, ρ1, hm1, hx1, hf1⟩
  have HN := hid (note_walk hm1 HXb.out hn)
  rw [hx1] at HN
  have HF1 := hid hf1
  have Hx1 := hid hx1
  clear hm1 hx1 hf1 HI
  go_wp2_with fail
  refine (HN.out).mono ?_
  rintro e w2 ⟨rfl, hm2, hf2⟩
  have HF : Hid (∃ T' ρ', MM w2 ρ' L T' H (givX X m x) ∧ T'.xB = xB ∧ Fx ρ w ρ' w2) := hid ⟨T1, ρ1, by unfold givX; rw [Hhn.out]; exact hm2, Hx1.out, HF1.out.trans hf2⟩
  clear hm2 hf2
  go_wp2
  go_ret
  exact ⟨rfl, HF.out⟩
/-- The address behind a handle. -/
def lookX (X : XS) (m h : Nat) : Option Nat := if h / 72057594037927936 = 165 ∧ h / 256 % 256 = m ∧ h / 65536 % 1099511627776 = (X.tb m).gen then (X.tb m).ad[h % 256]? else none
def lkV (o : Option Nat) : Value := .tuple #[.int .u64 ((o.getD 0 : Nat) : Int), .bool o.isSome]
theorem and_255 (x : Int) (h0 : 0 ≤ x) (h1 : x < 18446744073709551616) : bits .and .u64 x 255 = x % 256 := by
  rw [u64_and x 255 h0 h1 (by decide) (by decide)]
  obtain ⟨n, rfl⟩ := Int.eq_ofNat_of_zero_le h0
  rw [Int.toNat_natCast, show (255 : Int).toNat = 255 from rfl, show n &&& 255 = n % 256 from Nat.and_two_pow_sub_one_eq_mod n 8]
  omega
theorem and_gen (x : Int) (h0 : 0 ≤ x) (h1 : x < 18446744073709551616) : bits .and .u64 x 1099511627775 = x % 1099511627776 := by
  rw [u64_and x 1099511627775 h0 h1 (by decide) (by decide)]
  obtain ⟨n, rfl⟩ := Int.eq_ofNat_of_zero_le h0
  rw [Int.toNat_natCast, show (1099511627775 : Int).toNat = 1099511627775 from rfl, show n &&& 1099511627775 = n % 1099511627776 from Nat.and_two_pow_sub_one_eq_mod n 40]
  omega
set_option maxRecDepth 1000000 in
set_option maxHeartbeats 2000000 in
theorem lookup_walk (h : MM w ρ L T H X) {m : Nat} (hm : m < 4) (hb : XB X) (v : Nat) (hv : v < 18446744073709551616) :
    Calls Tryd.prog 44 #[.pointer (some ⟨T.xB, 1 + m * 3, none⟩), .int .u64 (v : Int)] w fun e w' => e = .returned (lkV (lookX X m v)) ∧ w' = w := by
  obtain ⟨c1, c2, c3⟩ := h.tcells hm
  obtain ⟨a, k, hsv⟩ := (h.tr m hm).shape
  have HTr := hid (h.tr m hm)
  rw [hsv] at c3
  have hl := hb.len m
  have hg := hb.gen m
  have HX : Hid (lookX X m v = if v / 72057594037927936 = 165 ∧ v / 256 % 256 = m ∧ v / 65536 % 1099511627776 = (X.tb m).gen then (X.tb m).ad[v % 256]? else none) := hid rfl
  obtain ⟨n, hn⟩ : ∃ n, (X.tb m).ad.length = n := ⟨_, rfl⟩
  have Hn := hid hn
  rw [hn] at c3 hl
  obtain ⟨gn, hgn⟩ : ∃ g, (X.tb m).gen = g := ⟨_, rfl⟩
  rw [hgn] at hg c2 HX
  have Hsv := hid hsv
  generalize T.xB = xB at *
  have a1 : bits .and .u64 ((v : Int) / 256) 255 = ((v / 256 % 256 : Nat) : Int) := by rw [and_255 _ (by omega) (by omega)]; omega
  have a2 : bits .and .u64 ((v : Int) / 65536) 1099511627775 = ((v / 65536 % 1099511627776 : Nat) : Int) := by rw [and_gen _ (by omega) (by omega)]; omega
  have a3 : bits .and .u64 (v : Int) 255 = ((v % 256 : Nat) : Int) := by rw [and_255 _ (by omega) (by omega)]; omega
  have a0 : (v : Int) / 72057594037927936 = ((v / 72057594037927936 : Nat) : Int) := by omega
  obtain ⟨t0, ht0⟩ : ∃ t, v / 72057594037927936 = t := ⟨_, rfl⟩
  obtain ⟨t1, ht1⟩ : ∃ t, v / 256 % 256 = t := ⟨_, rfl⟩
  obtain ⟨t2, ht2⟩ : ∃ t, v / 65536 % 1099511627776 = t := ⟨_, rfl⟩
  obtain ⟨t3, ht3⟩ : ∃ t, v % 256 = t := ⟨_, rfl⟩
  rw [ht0] at a0 HX
  rw [ht1] at a1 HX
  rw [ht2] at a2 HX
  rw [ht3] at a3 HX
  have b1 : (t1 : Int) < 256 := by omega
  have b3 : (t3 : Int) < 256 := by omega
  have b4 : (n : Int) ≤ 128 := by omega
  clear h hb hsv hn hgn ht0 ht1 ht2 ht3 hv hg
  have hbad : ¬ (t0 = 165 ∧ t1 = m ∧ t2 = gn) → Hid (lookX X m v = none) := fun hne => hid (by rw [HX.out, if_neg hne])
  by_cases h0 : t0 = 165
  rotate_left
  · have HN := hbad (fun h => h0 h.1)
    have d0 : ((t0 : Int) != 165) = true := by simp; omega
    clear hbad HX
    go_enter Tryd.func44, Tryd.ntmps44
    go_wp2
    exact bodyPost_ret (v := .tuple #[.int .u64 0, .bool false]) (by simp [results, Tryd.results44, go_sem]) rfl ⟨by rw [HN.out]; rfl, rfl⟩
  subst h0
  by_cases h1 : t1 = m
  rotate_left
  · have HN := hbad (fun h => h1 h.2.1)
    have d1 : ((t1 : Int) != (m : Int)) = true := by simp; omega
    clear hbad HX
    go_enter Tryd.func44, Tryd.ntmps44
    go_wp2
    exact bodyPost_ret (v := .tuple #[.int .u64 0, .bool false]) (by simp [results, Tryd.results44, go_sem]) rfl ⟨by rw [HN.out]; rfl, rfl⟩
  subst h1
  by_cases h2 : t2 = gn
  rotate_left
  · have HN := hbad (fun h => h2 h.2.2)
    have d2 : ((t2 : Int) != (gn : Int)) = true := by simp; omega
    clear hbad HX
    go_enter Tryd.func44, Tryd.ntmps44
    go_wp2
    exact bodyPost_ret (v := .tuple #[.int .u64 0, .bool false]) (by simp [results, Tryd.results44, go_sem]) rfl ⟨by rw [HN.out]; rfl, rfl⟩
  subst h2
  by_cases h3 : t3 < n
  · obtain ⟨x, hx⟩ : ∃ x, (X.tb t1).ad[t3]? = some x := ⟨_, List.getElem?_eq_getElem (by rw [Hn.out]; exact h3)⟩
    have HN : Hid (lookX X t1 v = some x) := hid (by rw [HX.out, if_pos ⟨rfl, rfl, rfl⟩, hx])
    obtain ⟨g, k', hv', cx⟩ := HTr.out.get hx
    have hsv := Hsv.out
    rw [hv', Hn.out] at hsv
    injection hsv with e1 e2 e3
    subst e1 e3
    have d3 : decide ((n : Int) ≤ (t3 : Int)) = false := decide_eq_false (by omega)
    have d3' : decide ((t3 : Int) ≥ (n : Int)) = false := decide_eq_false (by omega)
    have i3 : (t3 : Int) < (n : Int) := by omega
    clear hbad HX hx hv'
    go_enter Tryd.func44, Tryd.ntmps44
    go_upto_region 3 with fail
    clear a0 a1 a2
    go_wp2
    exact bodyPost_ret (v := .tuple #[.int .u64 (x : Int), .bool true]) (by simp [results, Tryd.results44, go_sem]) rfl ⟨by rw [HN.out]; rfl, rfl⟩
  · have HN : Hid (lookX X t1 v = none) := hid (by rw [HX.out, if_pos ⟨rfl, rfl, rfl⟩]; exact List.getElem?_eq_none (by rw [Hn.out]; omega))
    have d3 : decide ((n : Int) ≤ (t3 : Int)) = true := decide_eq_true (by omega)
    have d3' : decide ((t3 : Int) ≥ (n : Int)) = true := decide_eq_true (by omega)
    clear hbad HX
    go_enter Tryd.func44, Tryd.ntmps44
    go_upto_region 3 with fail
    clear a0 a1 a2
    go_wp2
    exact bodyPost_ret (v := .tuple #[.int .u64 0, .bool false]) (by simp [results, Tryd.results44, go_sem]) rfl ⟨by rw [HN.out]; rfl, rfl⟩
/-- The target of an operation: the address, the code. -/
def tgtX (X : XS) (m h : Nat) : Nat × Nat := if h = 0 then (0, 4) else match lookX X m h with | none => (0, 3) | some a => (a, 0)
set_option maxRecDepth 1000000 in
set_option maxHeartbeats 2000000 in
theorem target_walk (h : MM w ρ L T H X) {m : Nat} (hm : m < 4) (hb : XB X) (v : Nat) (hv : v < 18446744073709551616) :
    Calls Tryd.prog 26 #[.pointer (some ⟨T.xB, 1 + m * 3, none⟩), .int .u64 (v : Int)] w fun e w' => e = .returned (.tuple #[.int .u64 ((tgtX X m v).1 : Int), .int .u8 ((tgtX X m v).2 : Int)]) ∧ w' = w := by
  have HL := hid (lookup_walk h hm hb v hv)
  generalize T.xB = xB at *
  unfold tgtX
  by_cases h0 : v = 0
  · subst h0
    clear h hb
    go_enter Tryd.func26, Tryd.ntmps26
    go_wp2
    exact bodyPost_ret (v := .tuple #[.int .u64 0, .int .u8 4]) (by simp [results, Tryd.results26, go_sem]) rfl ⟨rfl, rfl⟩
  · have d0 : ((v : Int) == 0) = false := by simp; omega
    rw [if_neg h0]
    unfold lkV at HL
    cases hlk : lookX X m v with
    | none =>
      rw [hlk] at HL
      have HL2 : Hid (Calls Tryd.prog 44 #[.pointer (some ⟨xB, 1 + m * 3, none⟩), .int .u64 (v : Int)] w fun e w' => e = .returned (.tuple #[.int .u64 0, .bool false]) ∧ w' = w) := hid HL.out
      clear h hb hlk h0 hv HL
      go_enter Tryd.func26, Tryd.ntmps26
      go_wp2_with fail
      refine (HL2.out).mono ?_
      rintro e w1 ⟨rfl, rfl⟩
      go_wp2
      exact bodyPost_ret (v := .tuple #[.int .u64 0, .int .u8 3]) (by simp [results, Tryd.results26, go_sem]) rfl ⟨rfl, rfl⟩
    | some x =>
      rw [hlk] at HL
      have HL2 : Hid (Calls Tryd.prog 44 #[.pointer (some ⟨xB, 1 + m * 3, none⟩), .int .u64 (v : Int)] w fun e w' => e = .returned (.tuple #[.int .u64 (x : Int), .bool true]) ∧ w' = w) := hid HL.out
      clear h hb hlk h0 hv HL
      go_enter Tryd.func26, Tryd.ntmps26
      go_wp2_with fail
      refine (HL2.out).mono ?_
      rintro e w1 ⟨rfl, rfl⟩
      go_wp2
      exact bodyPost_ret (v := .tuple #[.int .u64 (x : Int), .int .u8 0]) (by simp [results, Tryd.results26, go_sem]) rfl ⟨rfl, rfl⟩
end
end Go.Proofs.Qxb6500889aDoor
