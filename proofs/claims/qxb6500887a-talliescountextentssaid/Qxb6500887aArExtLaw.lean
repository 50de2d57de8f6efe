/- ExtentsAreRuns: the law. -/
import Derived.Test.Qxb6500887aArExtW
import Derived.Test.Qxb6500887aArSound
import Derived.Test.Qxb6500887aLast3
import Derived.Test.Qxb6500887aLate
namespace Go.Proofs.Qxb6500887a
open Go.RowKit
open Go.ChangeMaps Go.MapKept
open Go.Maps (Keyed)
set_option linter.unusedSimpArgs false
set_option linter.unusedVariables false

set_option maxRecDepth 100000 in
theorem extentOf_no' (x m : Int) (hno : ¬ (InH x ∧ x % 2 = 0 ∧ 1 ≤ m ∧ m ≤ 98304 - x)) :
    ∃ c : Int, (c == 0) = false ∧ ∀ w : World, Calls Try.prog 40 #[.int .u64 x, .int .i64 m] w fun e w' => e = .returned (.tuple #[extV 0 0, .int .u8 c]) ∧ Below w.heap.size w w' := by
  by_cases hi : InH x
  · by_cases he : x % 2 = 0
    · have HG := hid (fun w => granule_ok x hi he w)
      obtain ⟨i0, i1⟩ := hi
      have HL := hid (fun w => checkLength_walk (x - 65536) m (by omega) (by omega) w)
      have hx : (x - 65536) / 2 * 2 = x - 65536 := by omega
      have hc : (lenOut (x - 65536) m == 0) = false := by
        unfold lenOut
        by_cases a : m < 1
        · rw [if_pos a]; rfl
        · rw [if_neg a, if_pos (by unfold InH at hno; omega)]; rfl
      have hc' : (lenOut (x - 65536) m != 0) = true := by simpa using hc
      generalize lenOut (x - 65536) m = c at *
      clear hno
      refine ⟨c, hc, fun w => ?_⟩
      go_enter Try.func40, Try.ntmps40
      go_wp2_with (first
        | (go_at_call 28; refine (HG.out _).mono ?_; rintro e w1 ⟨rfl, hw1⟩; subst hw1)
        | (go_at_call 67; refine (HL.out _).mono ?_; rintro e w1 ⟨rfl, hw1⟩; subst hw1))
      exact bodyPost_ret (v := .tuple #[.agg #[.int .i64 0, .int .i64 0], .int .u8 c]) (by simp [results, Try.results40, go_sem]) rfl ⟨rfl, Below.alloc (Below.refl _ _) (Nat.le_refl _) _⟩
    · have HG := hid (fun w => granule_odd x hi he w)
      clear hi he hno
      refine ⟨2, rfl, fun w => ?_⟩
      go_enter Try.func40, Try.ntmps40
      go_wp2_with (go_at_call 28; refine (HG.out _).mono ?_; rintro e w1 ⟨rfl, hw1⟩; subst hw1)
      exact bodyPost_ret (v := .tuple #[.agg #[.int .i64 0, .int .i64 0], .int .u8 2]) (by simp [results, Try.results40, go_sem]) rfl ⟨rfl, Below.alloc (Below.refl _ _) (Nat.le_refl _) _⟩
  · have HG := hid (fun w => granule_out x hi w)
    clear hi hno
    refine ⟨1, rfl, fun w => ?_⟩
    go_enter Try.func40, Try.ntmps40
    go_wp2_with (go_at_call 28; refine (HG.out _).mono ?_; rintro e w1 ⟨rfl, hw1⟩; subst hw1)
    exact bodyPost_ret (v := .tuple #[.agg #[.int .i64 0, .int .i64 0], .int .u8 1]) (by simp [results, Try.results40, go_sem]) rfl ⟨rfl, Below.alloc (Below.refl _ _) (Nat.le_refl _) _⟩

theorem Er.upd {w0 : World} {p g : Nat} {kd x b c : Int} {w w' : World} (f : Er w0 p kd x b c w) (hu : Upd g w w') (hg : p + 1 ≤ g) : Er w0 p kd x b c w' :=
  ⟨f.bel.trans (hu.below (by have := f.lo; omega) f.bel.size), f.lo, f.b4.upd hu (by omega)⟩
theorem store_ext {w0 : World} {p q : Nat} {kd x b c : Int} {wx : World} {s : Oper} {e : Operand → Value} {x5 x31 : Operand} (k n : Int) (hg : p + 1 ≤ q) (f : Er w0 p kd x b c wx) (hb : Blk wx q 64 [.int .i64 0, .int .i64 0])
    (h5 : e x5 = .pointer (some ⟨q, 0, none⟩)) (h31 : e x31 = extV k n) (hs : s.op = .store 64 x5 x31 := by rfl) :
    ∃ w2, (execOp e s).run Try.prog wx = .ok .skip w2 ∧ Er w0 p kd x b c w2 ∧ Blk w2 q 64 [.int .i64 k, .int .i64 n] := by
  have c0 : wx.cell? ⟨q, 0, none⟩ = some (.int .i64 0) := hb.cell 0
  have c1 : wx.cell? ⟨q, 1, none⟩ = some (.int .i64 0) := hb.cell 1
  have f0 := hb.frozen 0
  have f1 := hb.frozen 1
  refine ⟨(wx.setCell ⟨q, 0, none⟩ (.int .i64 k)).setCell ⟨q, 1, none⟩ (.int .i64 n), ?_, f.upd (((Upd.refl q wx).setCell rfl _).setCell rfl _) hg, ?_⟩
  · simp [execOp, hs, h5, h31, extV, go_sem, c0, c1, f0, f1]
  · have := (hb.set 0 (.int .i64 k)).set 1 (.int .i64 n)
    simpa using this
theorem fits_iff {x b : Int} (hx : U64 x) (hb : U64 b) : InH x ∧ x % 2 = 0 ∧ 1 ≤ wrap64 b ∧ wrap64 b ≤ 98304 - x → ∃ k n : Int, x = 65536 + k ∧ b = n ∧ wrap64 n = n ∧ 0 ≤ k ∧ k % 2 = 0 ∧ 1 ≤ n ∧ k + n ≤ 32768 := by
  rintro ⟨⟨h1, h2⟩, h3, h4, h5⟩
  have e : wrap64 b = b := by unfold wrap64 at *; obtain ⟨hb0, hb1⟩ := hb; omega
  rw [e] at h4 h5
  exact ⟨x - 65536, b, by omega, rfl, e, by omega, by omega, by omega, by omega⟩

theorem no_fits {x b : Int} (hx : U64 x) (hb : U64 b) (h : ¬ (InH x ∧ x % 2 = 0 ∧ 1 ≤ wrap64 b ∧ wrap64 b ≤ 98304 - x)) : ¬ (wantO x = 0 ∧ 1 ≤ wrap64 b ∧ wrap64 b ≤ 32768 ∧ (x + b) % 18446744073709551616 ≤ 98304) := by
  rintro ⟨h1, h2, h3, h4⟩
  apply h
  unfold wantO at h1
  obtain ⟨x0, x1⟩ := hx
  obtain ⟨b0, b1⟩ := hb
  have e : wrap64 b = b := by unfold wrap64 at *; omega
  rw [e] at h2 h3 ⊢
  by_cases hi : InH x
  · rw [if_pos hi] at h1
    by_cases he : x % 2 = 0
    · obtain ⟨i0, i1⟩ := hi
      refine ⟨⟨i0, i1⟩, he, h2, ?_⟩
      omega
    · rw [if_neg he] at h1
      simp at h1
  · rw [if_neg hi] at h1
    simp at h1

set_option maxRecDepth 1000000 in
set_option maxHeartbeats 8000000 in
theorem extLaw_walk (a : Option Addr) (n c : Nat) (l : List AOp) (w : World) (hs : Script w a n c l) :
    Calls Try.prog 6 #[.slice a n c] w fun e w' => e = .returned (.bool true) ∧ Below w.heap.size w w' := by
  have hn := hs.1.2.2.1.1
  have HS := hid hs
  clear hs
  by_cases hsm : n ≤ 65536
  rotate_left
  · have hd : decide (n ≤ 65536) = false := decide_eq_false hsm
    go_enter Try.func6, Try.ntmps6
    go_wp2_with (go_at_call 9; refine (small_walk a n c hn _).mono ?_; rintro e w' ⟨rfl, rfl⟩)
    go_ret
    exact ⟨rfl, Below.refl _ _⟩
  have hd : decide (n ≤ 65536) = true := decide_eq_true hsm
  go_enter Try.func6, Try.ntmps6
  go_wp2_with (go_at_call 9; refine (small_walk a n c hn _).mono ?_; rintro e w' ⟨rfl, rfl⟩)
  go_loopw [20] (fun i wr => ∃ k : Nat, k ≤ n ∧ i = .int .i64 k ∧ Hid (Below w'.heap.size w' wr)) (fun i _ => n - (intOf i).toNat)
  case atStart => exact ⟨0, Nat.zero_le _, rfl, hid (Below.refl _ _)⟩
  case round =>
    obtain ⟨i, hi, rfl, HB⟩ := hrel
    by_cases hlt : i < n
    rotate_left
    · have hkn : i = n := by omega
      subst hkn
      go_wp2
      go_ret
      exact ⟨rfl, HB.out⟩
    obtain ⟨o, ho, hok, b, off, rfl, hb, c0, c1, c2, c3⟩ := (HS.out.below HB.out).at hlt
    obtain ⟨kind, oa, ob, oc⟩ := o
    obtain ⟨_, _, ha, hb', hc'⟩ := hok
    dsimp only at c0 c1 c2 c3 ha hb' hc'
    have HA := hid ha
    have HBo := hid hb'
    have HCo := hid hc'
    clear ho ha hb' hc'
    obtain ⟨p, hp⟩ : ∃ p, wr.heap.size = p := ⟨_, rfl⟩
    have HE := hid (Er.start HB.out kind oa ob oc)
    rw [hp] at HE
    go_upto_region 6 with fail
    obtain ⟨wa, hwa⟩ : ∃ wa, wr.alloc (.cells #[.int .u8 kind, .int .u64 oa, .int .u64 ob, .int .u64 oc] 34) = wa := ⟨_, rfl⟩
    rw [hwa] at HE
    try rw [hwa]
    clear hwa c0 c1 c2 c3 hp
    by_cases hf : InH oa ∧ oa % 2 = 0 ∧ 1 ≤ wrap64 ob ∧ wrap64 ob ≤ 98304 - oa
    rotate_left
    · as_aux_lemma =>
      obtain ⟨cc, hcc, hcall⟩ := extentOf_no' oa (wrap64 ob) hf
      have HNu := hid (fun w => number_walk ob HBo.out w)
      have HXo := hid hcall
      have HWo := hid (fun w => wantObject_walk oa w)
      have HF : Hid (¬ (wantO oa = 0 ∧ 1 ≤ wrap64 ob ∧ wrap64 ob ≤ 32768 ∧ (oa + ob) % 18446744073709551616 ≤ 98304)) := hid (no_fits HA.out HBo.out hf)
      clear hcall hf
      generalize wantO oa = wo at *
      generalize wrap64 ob = z at *
      refine wp_region_late (C := Er w' p kind oa ob oc) (n := 9) (j := 8) (B := p + 1) (t := 64) (zs := [.int .i64 0, .int .i64 0]) (vs := [.int .i64 0, .int .i64 0]) rfl rfl rfl (by kernel_rfl) (by kernel_rfl) (by kernel_rfl) (by kernel_rfl) (by kernel_rfl) ?hr2 (fun _ _ h hb => h.below hb) (fun _ h => h.b4.lt) HE.out ?hx2
      case hr2 =>
        intro a w
        simp [go_sem]
      apply Exists.intro
      refine ⟨?_, ?_, ?_⟩
      · intro X W hne hX hI
        have kb1 : ∀ x, (W x).cell? ⟨p, 1, none⟩ = some (.int .u64 oa) := fun x => (hX x).b4.cell 1
        have kb2 : ∀ x, (W x).cell? ⟨p, 2, none⟩ = some (.int .u64 ob) := fun x => (hX x).b4.cell 2
        have HI := hid hI
        clear hI hX
        dsimp only [List.take]
        repeat (go_big_quiet_step (first
          | (go_at_call 22; exact Calls.class_same (HNu.out _))
          | (go_at_call 40; exact Calls.class_of HI.out (HXo.out _))))
        exact wpQuiet_nil rfl
      · intro q wx hg HX hbl
        exact store_ext 0 0 hg HX hbl rfl rfl
      · intro q wx hg HX hbl
        dsimp only [List.drop]
        have HEr := hid HX
        have a1 : wx.cell? ⟨p, 1, none⟩ = some (.int .u64 oa) := HX.b4.cell 1
        have a2 : wx.cell? ⟨p, 2, none⟩ = some (.int .u64 ob) := HX.b4.cell 2
        clear HX hbl HXo HE
        go_upto_region 8 with (go_at_call 22; refine (HNu.out _).mono ?_; rintro e w1 ⟨rfl, rfl⟩)
        go_cut [8] from 33 to 55 (fun v wc => v = .bool false ∧ wc = w1)
        case first =>
          as_aux_lemma =>
          obtain ⟨hA0, hA1⟩ := HA.out
          obtain ⟨hB0, hB1⟩ := HBo.out
          by_cases f1 : wo = 0
          · subst f1
            by_cases f2 : 1 ≤ z
            · have d2 : decide (1 ≤ z) = true := decide_eq_true f2
              by_cases f3 : z ≤ 32768
              · have d3 : decide (z ≤ 32768) = true := decide_eq_true f3
                have f4 : ¬ (oa + ob) % 18446744073709551616 ≤ 98304 := fun h => HF.out ⟨rfl, f2, f3, h⟩
                have d4 : decide (IntKind.u64.wrap (oa + ob) ≤ 98304) = false := by rw [IntKind.wrap_u64]; exact decide_eq_false f4
                go_wp2_with (go_at_call 11; refine (HWo.out _).mono ?_; rintro e w2 ⟨rfl, rfl⟩)
                go_meet
                case rel => exact ⟨rfl, rfl⟩
              · have d3 : decide (z ≤ 32768) = false := decide_eq_false f3
                go_wp2_with (go_at_call 11; refine (HWo.out _).mono ?_; rintro e w2 ⟨rfl, rfl⟩)
                go_meet
                case rel => exact ⟨rfl, rfl⟩
            · have d2 : decide (1 ≤ z) = false := decide_eq_false f2
              go_wp2_with (go_at_call 11; refine (HWo.out _).mono ?_; rintro e w2 ⟨rfl, rfl⟩)
              go_meet
              case rel => exact ⟨rfl, rfl⟩
          · have d1 : (wo == 0) = false := by simpa using f1
            go_wp2_with (go_at_call 11; refine (HWo.out _).mono ?_; rintro e w2 ⟨rfl, rfl⟩)
            go_meet
            case rel => exact ⟨rfl, rfl⟩
        case rest =>
        as_aux_lemma =>
        obtain ⟨rfl, rfl⟩ := hcut
        go_wp2
        exact ⟨⟨i + 1, by omega, by go_num, hid HEr.out.bel⟩, by simp [intOf]; omega⟩
    obtain ⟨k, n', rfl, rfl, hwn, k0, ke, n0, kn⟩ := fits_iff HA.out HBo.out hf
    clear hf
    have HNu : Hid (∀ w, Calls Try.prog 22 #[.int .u64 ob] w fun e w' => e = .returned (.int .i64 ob) ∧ w' = w) := by
      have := fun w => number_walk ob HBo.out w
      rw [hwn] at this
      exact hid this
    have HXo : Hid (∀ w, Calls Try.prog 40 #[.int .u64 (65536 + k), .int .i64 ob] w fun e w' => e = .returned (.tuple #[extV k ob, .int .u8 0]) ∧ Below w.heap.size w w') := by
      have := fun w => extentOf_ok (65536 + k) ob ⟨by omega, by omega⟩ (by omega) n0 (by omega) w
      rw [show 65536 + k - 65536 = k by omega] at this
      exact hid this
    clear hwn
    refine wp_region_late (C := Er w' p kind (65536 + k) ob oc) (n := 9) (j := 8) (B := p + 1) (t := 64) (zs := [.int .i64 0, .int .i64 0]) (vs := [.int .i64 k, .int .i64 ob]) rfl rfl rfl (by kernel_rfl) (by kernel_rfl) (by kernel_rfl) (by kernel_rfl) (by kernel_rfl) ?hr (fun _ _ h hb => h.below hb) (fun _ h => h.b4.lt) HE.out ?hx
    case hr =>
      intro a w
      simp [go_sem]
    apply Exists.intro
    refine ⟨?_, ?_, ?_⟩
    · intro X W hne hX hI
      have kb1 : ∀ x, (W x).cell? ⟨p, 1, none⟩ = some (.int .u64 (65536 + k)) := fun x => (hX x).b4.cell 1
      have kb2 : ∀ x, (W x).cell? ⟨p, 2, none⟩ = some (.int .u64 ob) := fun x => (hX x).b4.cell 2
      have HI := hid hI
      clear hI hX
      dsimp only [List.take]
      repeat (go_big_quiet_step (first
        | (go_at_call 22; exact Calls.class_same (HNu.out _))
        | (go_at_call 40; exact Calls.class_of HI.out (HXo.out _))))
      exact wpQuiet_nil rfl
    · intro q wx hg HX hbl
      exact store_ext k ob hg HX hbl rfl rfl
    · intro q wx hg HX hbl
      dsimp only [List.drop]
      have HEe : Hid (Ee w' p q kind (65536 + k) ob oc k ob wx) := hid ⟨HX, by have := HX.lo; omega, by omega, hbl⟩
      have a1 : wx.cell? ⟨p, 1, none⟩ = some (.int .u64 (65536 + k)) := HX.b4.cell 1
      have a2 : wx.cell? ⟨p, 2, none⟩ = some (.int .u64 ob) := HX.b4.cell 2
      have HWo : Hid (∀ w, Calls Try.prog 11 #[.int .u64 (65536 + k)] w fun e w' => e = .returned (.int .u8 0) ∧ w' = w) := by
        have := fun w => wantObject_walk (65536 + k) w
        rw [show wantO (65536 + k) = 0 by unfold wantO; rw [if_pos ⟨by omega, by omega⟩, if_pos (by omega)]] at this
        exact hid this
      have hE : ExtOk k ob := ⟨k0, n0, kn⟩
      have HAd : Hid (∀ w, Calls Try.prog 41 #[.agg #[.int .i64 k, .int .i64 ob]] w fun e w' => e = .returned (.int .u64 (65536 + k)) ∧ Below w.heap.size w w') := hid (fun w => extAddr_walk k ob hE w)
      have HEn : Hid (∀ w, Calls Try.prog 42 #[.agg #[.int .i64 k, .int .i64 ob]] w fun e w' => e = .returned (.int .i64 (k + ob)) ∧ Below w.heap.size w w') := hid (fun w => extEnd_walk k ob hE w)
      have HCm : Hid (∀ w, Calls Try.prog 43 #[.agg #[.int .i64 k, .int .i64 ob], .int .i64 (k - 1)] w fun e w' => e = .returned (.bool false) ∧ Below w.heap.size w w') := by
        have := fun w => extContains_walk k ob (k - 1) hE w
        rw [decide_eq_false (by omega)] at this
        exact hid this
      have HCe : Hid (∀ w, Calls Try.prog 43 #[.agg #[.int .i64 k, .int .i64 ob], .int .i64 (k + ob)] w fun e w' => e = .returned (.bool false) ∧ Below w.heap.size w w') := by
        have := fun w => extContains_walk k ob (k + ob) hE w
        rw [decide_eq_false (by omega)] at this
        exact hid this
      have d1 : decide (1 ≤ ob) = true := decide_eq_true n0
      have d2 : decide (ob ≤ 32768) = true := decide_eq_true (by omega)
      have d3 : decide (65536 + k + ob ≤ 98304) = true := decide_eq_true (by omega)
      clear HX hbl HXo
      go_upto_region 12 with (first
        | (go_at_call 22; refine (HNu.out _).mono ?_; rintro e w1 ⟨rfl, rfl⟩)
        | (go_at_call 11; refine (HWo.out _).mono ?_; rintro e w1 ⟨rfl, rfl⟩))
      have HEe := HEe
      clear a1 a2 d1 d2 d3 HNu HWo HE
      obtain ⟨X, W, hT, hI⟩ := class_mk (Ee w' p q kind (65536 + k) ob oc k ob)
      have HC : Hid (∀ q w', Below (W q).heap.size (W q) w' → ∃ y, w' = W y) := hid (fun q w' hb => hI _ ((hT q).below hb))
      have H0 : ∀ {v : World}, Hid (Ee w' p q kind (65536 + k) ob oc k ob v) → Hid (∃ q, v.drew = W q) := fun h => hid (hI _ (h.out.below (Drew.below ⟨1, rfl⟩ _)))
      have hne : Nonempty X := ⟨(H0 HEe).out.choose⟩
      have a1 : ∀ x, (W x).cell? ⟨p, 1, none⟩ = some (.int .u64 (65536 + k)) := fun x => (hT x).er.b4.cell 1
      have e0 : ∀ x, (W x).cell? ⟨q, 0, none⟩ = some (.int .i64 k) := fun x => (hT x).b5.cell 0
      have e1 : ∀ x, (W x).cell? ⟨q, 1, none⟩ = some (.int .i64 ob) := fun x => (hT x).b5.cell 1
      have HX := hid hT
      clear hT hI
      refine wp_region_class W (by kernel_rfl) (by kernel_rfl) (H0 HEe).out ?_
      repeat (go_big_quiet_step (first
        | (go_at_call 41; with_reducible exact Calls.class_of HC.out (HAd.out _))
        | (go_at_call 42; with_reducible exact Calls.class_of HC.out (HEn.out _))))
      refine wpQuiet_nil ?_
      intro x
      have HEe2 := hid (HX.out x)
      generalize W x = wy at HEe2 ⊢
      go_upto_region 14 with fail
      refine wp_region_class W (by kernel_rfl) (by kernel_rfl) (H0 HEe2).out ?_
      repeat (go_big_quiet_step (first
        | (go_at_call 43; first | with_reducible exact Calls.class_of HC.out (HCm.out _) | with_reducible exact Calls.class_of HC.out (HCe.out _))
        | (go_at_call 42; with_reducible exact Calls.class_of HC.out (HEn.out _))))
      refine wpQuiet_nil ?_
      intro x
      have HEe3 := hid (HX.out x)
      generalize W x = wz at HEe3 ⊢
      clear e0 e1 a1 HEe2 HEe HC HX H0 HCm HCe HAd
      as_aux_lemma =>
      have hmm := @run_makeMap Try.prog
      obtain ⟨m, hm⟩ : ∃ m, wz.heap.size = m := ⟨_, rfl⟩
      go_upto_region 17 with fail
      obtain ⟨wm, hwm⟩ : ∃ wm, ((wz.alloc (.map #[] 0)).alloc (.map #[] 0)) = wm := ⟨_, rfl⟩
      have HEm := hid (Em.start HEe3.out)
      rw [hwm, hm] at HEm
      have HL : Hid (Lp2 w' p q m (m + 1) kind (65536 + k) ob oc k ob k wm) := hid ⟨0, .map [], .map [], by simp, keys_start 16 k, keys_start 512 k, HEm.out⟩
      have e0 : wm.cell? ⟨q, 0, none⟩ = some (.int .i64 k) := HEm.out.ee.b5.cell 0
      try rw [hwm]
      clear hwm hm HEm HEe3 HEe hmm
      go_wp2_with fail
      go_loopw [11] (fun v wr => ∃ y : Int, k ≤ y ∧ y ≤ k + ob ∧ v = .int .i64 y ∧ Hid (Lp2 w' p q m (m + 1) kind (65536 + k) ob oc k ob y wr)) (fun v _ => (k + ob - intOf v).toNat)
      case atStart => exact ⟨k, by omega, by omega, rfl, HL⟩
      case round =>
        clear e0 HL
        obtain ⟨y, y0, y1, rfl, HL⟩ := hrel
        obtain ⟨j, D1, D2, hj, K1, K2, hem⟩ := HL.out
        have HEm := hid hem
        have HK1 := hid K1
        have HK2 := hid K2
        clear hem K1 K2
        by_cases hyn : y < k + ob
        · as_aux_lemma =>
          have HCy : Hid (∀ w, Calls Try.prog 43 #[.agg #[.int .i64 k, .int .i64 ob], .int .i64 y] w fun e w' => e = .returned (.bool true) ∧ Below w.heap.size w w') := by
            have := fun w => extContains_walk k ob y hE w
            rw [decide_eq_true (by omega)] at this
            exact hid this
          have dy : decide (y < k + ob) = true := decide_eq_true hyn
          have t16 : y.tdiv 16 = y / 16 := Int.tdiv_eq_ediv_of_nonneg (by omega)
          have t512 : y.tdiv 512 = y / 512 := Int.tdiv_eq_ediv_of_nonneg (by omega)
          have k16 := key_small (y / 16) (by omega) (by omega)
          have k512 := key_small (y / 512) (by omega) (by omega)
          have e0 : wr.cell? ⟨q, 0, none⟩ = some (.int .i64 k) := HEm.out.ee.b5.cell 0
          have e1 : wr.cell? ⟨q, 1, none⟩ = some (.int .i64 ob) := HEm.out.ee.b5.cell 1
          go_wp2_with fail
          refine (HEn.out _).mono ?_
          rintro e w3 ⟨rfl, hb3⟩
          have HEm3 := hid (HEm.out.below hb3)
          clear e0 e1 hb3
          have e0 : w3.cell? ⟨q, 0, none⟩ = some (.int .i64 k) := HEm3.out.ee.b5.cell 0
          have e1 : w3.cell? ⟨q, 1, none⟩ = some (.int .i64 ob) := HEm3.out.ee.b5.cell 1
          go_wp2_with fail
          refine (HCy.out _).mono ?_
          rintro e w4 ⟨rfl, hb4⟩
          have HEm4 := hid (HEm3.out.below hb4)
          clear e0 e1 hb4
          go_upto_region 23 with (at_mapUpdate; refine wpList_mapUpdate_own _ rfl _ _ _ 70 rfl 3 4 keyedI Try.underlying70 _ m j D1 rfl HEm4.out.o1 (by unfold maxLen; omega) _ _ _ rfl rfl k16 _ [] (plainElem_bool Try.underlying4 true) ?_; intro w5 hown5 hgrow5)
          have HEm5 := hid (HEm4.out.put1 hown5 hgrow5)
          go_wp2_with (at_mapUpdate; refine wpList_mapUpdate_own _ rfl _ _ _ 70 rfl 3 4 keyedI Try.underlying70 _ (m + 1) j D2 rfl HEm5.out.o2 (by unfold maxLen; omega) _ _ _ rfl rfl k512 _ [] (plainElem_bool Try.underlying4 true) ?_; intro w6 hown6 hgrow6)
          exact ⟨⟨y + 1, by omega, by omega, by go_num, hid (Lp2.next k0 y0 hj HK1.out HK2.out HEm4.out hown5 hgrow5 hown6 hgrow6)⟩, by simp [intOf]; omega⟩
        · as_aux_lemma =>
          have hy : y = k + ob := by omega
          subst hy
          have K1 := HK1.out
          have K2 := HK2.out
          rw [cut_end 16 k ob n0] at K1
          rw [cut_end 512 k ob n0] at K2
          obtain ⟨F, hF⟩ : ∃ F, k / 16 = F := ⟨_, rfl⟩
          obtain ⟨Z, hZ⟩ : ∃ Z, (k + ob - 1) / 16 = Z := ⟨_, rfl⟩
          obtain ⟨G, hG⟩ : ∃ G, k / 512 = G := ⟨_, rfl⟩
          obtain ⟨V, hV⟩ : ∃ V, (k + ob - 1) / 512 = V := ⟨_, rfl⟩
          have HFl : Hid (∀ w, Calls Try.prog 45 #[.agg #[.int .i64 k, .int .i64 ob]] w fun e w' => e = .returned (.int .i64 F) ∧ Below w.heap.size w w') := hid (fun w => hF ▸ extFirstLine_walk k ob hE w)
          have HLl : Hid (∀ w, Calls Try.prog 46 #[.agg #[.int .i64 k, .int .i64 ob]] w fun e w' => e = .returned (.int .i64 Z) ∧ Below w.heap.size w w') := hid (fun w => hZ ▸ extLastLine_walk k ob hE w)
          have HFb : Hid (∀ w, Calls Try.prog 47 #[.agg #[.int .i64 k, .int .i64 ob]] w fun e w' => e = .returned (.int .i64 G) ∧ Below w.heap.size w w') := hid (fun w => hG ▸ extFirstBlock_walk k ob hE w)
          have HLb : Hid (∀ w, Calls Try.prog 48 #[.agg #[.int .i64 k, .int .i64 ob]] w fun e w' => e = .returned (.int .i64 V) ∧ Below w.heap.size w w') := hid (fun w => hV ▸ extLastBlock_walk k ob hE w)
          have HLs : Hid (∀ w, Calls Try.prog 44 #[.agg #[.int .i64 k, .int .i64 ob]] w fun e w' => e = .returned (.int .i64 (Z - F + 1)) ∧ Below w.heap.size w w') := hid (fun w => hF ▸ hZ ▸ extLines_walk k ob hE w)
          obtain ⟨cr, hcr⟩ : ∃ cr, (G != V) = cr := ⟨_, rfl⟩
          have HCr : Hid (∀ w, Calls Try.prog 49 #[.agg #[.int .i64 k, .int .i64 ob]] w fun e w' => e = .returned (.bool cr) ∧ Below w.heap.size w w') := hid (fun w => by
            have := extCrosses_walk k ob hE w
            rw [hG, hV, hcr] at this
            exact this)
          have f0 : 0 ≤ F := by omega
          have f1 : F ≤ Z := by omega
          have f2 : Z < 65536 := by omega
          have g0 : 0 ≤ G := by omega
          have g1 : G ≤ V := by omega
          have g2 : V < 65536 := by omega
          have dcr : decide (1 < V - G + 1) = cr := by
            rw [← hcr, Bool.eq_iff_iff]
            simp
            omega
          rw [hF, hZ] at K1
          rw [hG, hV] at K2
          have HK1 := hid K1
          have HK2 := hid K2
          clear K1 K2 hcr
          have dy : decide (k + ob < k + ob) = false := decide_eq_false (by omega)
          have e0 : wr.cell? ⟨q, 0, none⟩ = some (.int .i64 k) := HEm.out.ee.b5.cell 0
          have e1 : wr.cell? ⟨q, 1, none⟩ = some (.int .i64 ob) := HEm.out.ee.b5.cell 1
          go_wp2_with fail
          refine (HEn.out _).mono ?_
          rintro e w3 ⟨rfl, hb3⟩
          have HEm3 := hid (HEm.out.below hb3)
          clear e0 e1 hb3
          go_upto_region 24 with fail
          clear dy hF hZ hG hV
          obtain ⟨X, W, hT, hI⟩ := class_mk (Em w' p q m (m + 1) kind (65536 + k) ob oc k ob j j D1 D2)
          have HC : Hid (∀ q w', Below (W q).heap.size (W q) w' → ∃ y, w' = W y) := hid (fun q w' hb => hI _ ((hT q).below hb))
          have H0 : ∀ {v : World}, Hid (Em w' p q m (m + 1) kind (65536 + k) ob oc k ob j j D1 D2 v) → Hid (∃ q, v.drew = W q) := fun h => hid (hI _ (h.out.below (Drew.below ⟨1, rfl⟩ _)))
          have hne : Nonempty X := ⟨(H0 HEm3).out.choose⟩
          have e0 : ∀ x, (W x).cell? ⟨q, 0, none⟩ = some (.int .i64 k) := fun x => (hT x).ee.b5.cell 0
          have e1 : ∀ x, (W x).cell? ⟨q, 1, none⟩ = some (.int .i64 ob) := fun x => (hT x).ee.b5.cell 1
          have ln : ∀ x ty, (Builtin.len_ #[70] ty #[.map (some m)]).run Try.prog (W x) = .ok (.int .i64 (Z - F + 1)) (W x) := fun x ty => (hT x).len1 HK1.out (by omega) ty
          have lf : ∀ x, (Instr.lookup 70 (.map (some m)) (.int .i64 F) false).run Try.prog (W x) = .ok (.bool true) (W x) := fun x => (hT x).look1 HK1.out F f0 (by omega) (by omega) (by omega)
          have lz : ∀ x, (Instr.lookup 70 (.map (some m)) (.int .i64 Z) false).run Try.prog (W x) = .ok (.bool true) (W x) := fun x => (hT x).look1 HK1.out Z (by omega) f2 (by omega) (by omega)
          have HX := hid hT
          clear hT hI
          refine wp_region_class W (by kernel_rfl) (by kernel_rfl) (H0 HEm3).out ?_
          repeat (go_big_quiet_step (first
            | (go_at_call 44; with_reducible exact Calls.class_of HC.out (HLs.out _))
            | (go_at_call 45; with_reducible exact Calls.class_of HC.out (HFl.out _))
            | (go_at_call 46; with_reducible exact Calls.class_of HC.out (HLl.out _))))
          refine wpQuiet_nil ?_
          intro x
          have HEm4 := hid (HX.out x)
          generalize W x = wy at HEm4 ⊢
          clear e0 e1 ln lf lz HC H0 HX HFl HLl HLs
          have e0 : wy.cell? ⟨q, 0, none⟩ = some (.int .i64 k) := HEm4.out.ee.b5.cell 0
          have e1 : wy.cell? ⟨q, 1, none⟩ = some (.int .i64 ob) := HEm4.out.ee.b5.cell 1
          go_wp2_with fail
          refine (HFb.out _).mono ?_
          rintro e w5 ⟨rfl, hb5⟩
          have HEm5 := hid (HEm4.out.below hb5)
          clear e0 e1 hb5
          have e0 : w5.cell? ⟨q, 0, none⟩ = some (.int .i64 k) := HEm5.out.ee.b5.cell 0
          have e1 : w5.cell? ⟨q, 1, none⟩ = some (.int .i64 ob) := HEm5.out.ee.b5.cell 1
          have lf : (Instr.lookup 70 (.map (some (m + 1))) (.int .i64 G) false).run Try.prog w5 = .ok (.bool true) w5 := HEm5.out.look2 HK2.out G g0 (by omega) (by omega) (by omega)
          go_wp2_with fail
          refine (HLb.out _).mono ?_
          rintro e w6 ⟨rfl, hb6⟩
          have HEm6 := hid (HEm5.out.below hb6)
          clear e0 e1 hb6 lf
          have e0 : w6.cell? ⟨q, 0, none⟩ = some (.int .i64 k) := HEm6.out.ee.b5.cell 0
          have e1 : w6.cell? ⟨q, 1, none⟩ = some (.int .i64 ob) := HEm6.out.ee.b5.cell 1
          have lf : (Instr.lookup 70 (.map (some (m + 1))) (.int .i64 V) false).run Try.prog w6 = .ok (.bool true) w6 := HEm6.out.look2 HK2.out V (by omega) g2 (by omega) (by omega)
          go_wp2_with fail
          refine (HCr.out _).mono ?_
          rintro e w7 ⟨rfl, hb7⟩
          have HEm7 := hid (HEm6.out.below hb7)
          clear e0 e1 hb7 lf
          have ln : ∀ ty, (Builtin.len_ #[70] ty #[.map (some (m + 1))]).run Try.prog w7 = .ok (.int .i64 (V - G + 1)) w7 := fun ty => HEm7.out.len2 HK2.out (by omega) ty
          go_upto_region 28 with fail
          have HEe7 := hid HEm7.out.ee
          clear ln dcr HEm7 HEm6 HEm5 HEm4 HEm3 HEm HK1 HK2 HFb HLb HCr HL f0 f1 f2 g0 g1 g2
          have a2 : w7.cell? ⟨p, 2, none⟩ = some (.int .u64 ob) := HEe7.out.er.b4.cell 2
          have a3 : w7.cell? ⟨p, 3, none⟩ = some (.int .u64 oc) := HEe7.out.er.b4.cell 3
          go_wp2_with fail
          clear a2 a3
          have n2a : 1 ≤ 1 + ob % 700 := by omega
          have n2b : 1 + ob % 700 ≤ 700 := by omega
          generalize 1 + ob % 700 = n2 at *
          by_cases hf2 : InH oc ∧ oc % 2 = 0 ∧ 1 ≤ n2 ∧ n2 ≤ 98304 - oc
          rotate_left
          · as_aux_lemma =>
            obtain ⟨cc, hcc, hcall⟩ := extentOf_no' oc n2 hf2
            have hcc' : (cc != 0) = true := by simpa using hcc
            clear hf2
            refine (hcall _).mono ?_
            rintro e w8 ⟨rfl, hb8⟩
            have HEe8 := hid (HEe7.out.below hb8)
            clear hb8 hcall HEe7
            unfold extV
            go_wp2
            exact ⟨⟨i + 1, by omega, by go_num, hid (HEe8.out.er.bel.alloc HEe8.out.er.bel.size _)⟩, by simp [intOf]; omega⟩
          · as_aux_lemma =>
            obtain ⟨⟨hc0, hc1⟩, hce, _, hcn⟩ := hf2
            have HXo := fun w => extentOf_ok oc n2 ⟨hc0, hc1⟩ hce n2a hcn w
            obtain ⟨k2, hk2⟩ : ∃ k2, oc - 65536 = k2 := ⟨_, rfl⟩
            rw [hk2] at HXo
            have hE2 : ExtOk k2 n2 := ⟨by omega, n2a, by omega⟩
            have k20 : 0 ≤ k2 := by omega
            have k21 : k2 + n2 ≤ 32768 := by omega
            clear hc0 hc1 hce hcn hk2
            refine (HXo _).mono ?_
            rintro e w8 ⟨rfl, hb8⟩
            have HEe8 := hid (HEe7.out.below hb8)
            clear hb8 HXo HEe7
            have HEn2 : Hid (∀ w, Calls Try.prog 42 #[.agg #[.int .i64 k2, .int .i64 n2]] w fun e w' => e = .returned (.int .i64 (k2 + n2)) ∧ Below w.heap.size w w') := hid (fun w => extEnd_walk k2 n2 hE2 w)
            obtain ⟨r, hr⟩ : ∃ r, w8.heap.size = r := ⟨_, rfl⟩
            unfold extV
            go_upto_region 29 with fail
            obtain ⟨w9, hw9⟩ : ∃ w9, w8.alloc (.cells #[.int .i64 k2, .int .i64 n2] 64) = w9 := ⟨_, rfl⟩
            have HEo : Hid (Eo w' p q r kind (65536 + k) ob oc k ob k2 n2 w9) := by
              subst hw9 hr
              exact hid ⟨HEe8.out.below (Below.alloc (Below.refl _ _) (Nat.le_refl _) _), Blk.new w8 [.int .i64 k2, .int .i64 n2] _⟩
            try rw [hw9]
            clear hw9 hr HEe8
            have r0 : w9.cell? ⟨r, 0, none⟩ = some (.int .i64 k2) := HEo.out.b6.cell 0
            go_wp2_with fail
            go_loopw [13, 14] (fun v u wr => ∃ y : Int, k2 ≤ y ∧ y ≤ k2 + n2 ∧ v = .bool (shareB k ob k2 y) ∧ u = .int .i64 y ∧ Hid (Eo w' p q r kind (65536 + k) ob oc k ob k2 n2 wr)) (fun _ u _ => (k2 + n2 - intOf u).toNat)
            case atStart => exact ⟨k2, by omega, by omega, by rw [share_start], rfl, HEo⟩
            case round =>
              clear r0 HEo
              obtain ⟨y, y0, y1, rfl, rfl, HEo⟩ := hrel
              have r0 : wr.cell? ⟨r, 0, none⟩ = some (.int .i64 k2) := HEo.out.b6.cell 0
              have r1 : wr.cell? ⟨r, 1, none⟩ = some (.int .i64 n2) := HEo.out.b6.cell 1
              by_cases hyn : y < k2 + n2
              · as_aux_lemma =>
                have hnx := share_next (k := k) (n := ob) (k2 := k2) (y := y) n0 y0
                have HCy : Hid (∀ w, Calls Try.prog 43 #[.agg #[.int .i64 k, .int .i64 ob], .int .i64 y] w fun e w' => e = .returned (.bool (decide (k ≤ y ∧ y < k + ob))) ∧ Below w.heap.size w w') := hid (fun w => extContains_walk k ob y hE w)
                generalize decide (k ≤ y ∧ y < k + ob) = dd at *
                generalize shareB k ob k2 y = sh at *
                have Hnx := hid hnx
                clear hnx
                have dy : decide (y < k2 + n2) = true := decide_eq_true hyn
                go_wp2_with fail
                refine (HEn2.out _).mono ?_
                rintro e w3 ⟨rfl, hb3⟩
                have HEo3 := hid (HEo.out.below hb3)
                clear r0 r1 hb3
                have e0 : w3.cell? ⟨q, 0, none⟩ = some (.int .i64 k) := HEo3.out.ee.b5.cell 0
                have e1 : w3.cell? ⟨q, 1, none⟩ = some (.int .i64 ob) := HEo3.out.ee.b5.cell 1
                cases sh
                · go_wp2_with fail
                  refine (HCy.out _).mono ?_
                  rintro e w4 ⟨rfl, hb4⟩
                  have HEo4 := hid (HEo3.out.below hb4)
                  clear e0 e1 hb4
                  go_wp2
                  exact ⟨⟨y + 1, by omega, by omega, by rw [Hnx.out]; rfl, by go_num, HEo4⟩, by simp [intOf]; omega⟩
                · go_wp2
                  exact ⟨⟨y + 1, by omega, by omega, by rw [Hnx.out]; rfl, by go_num, HEo3⟩, by simp [intOf]; omega⟩
              · as_aux_lemma =>
                have hy : y = k2 + n2 := by omega
                subst hy
                have dy : decide (k2 + n2 < k2 + n2) = false := decide_eq_false (by omega)
                have HO1 := fun w => extOverlaps_walk k ob k2 n2 hE hE2 w
                have HO2 := fun w => extOverlaps_walk k2 n2 k ob hE2 hE w
                have hcm : decide (k2 < k + ob ∧ k < k2 + n2) = decide (k < k2 + n2 ∧ k2 < k + ob) := decide_eq_decide.2 And.comm
                rw [share_end (k := k) (n := ob) (k2 := k2) n2a]
                rw [hcm] at HO2
                generalize decide (k < k2 + n2 ∧ k2 < k + ob) = dd at *
                clear hcm
                go_wp2_with fail
                refine (HEn2.out _).mono ?_
                rintro e w3 ⟨rfl, hb3⟩
                have HEo3 := hid (HEo.out.below hb3)
                clear r0 r1 hb3 HEo
                have e0 : w3.cell? ⟨q, 0, none⟩ = some (.int .i64 k) := HEo3.out.ee.b5.cell 0
                have e1 : w3.cell? ⟨q, 1, none⟩ = some (.int .i64 ob) := HEo3.out.ee.b5.cell 1
                have r0 : w3.cell? ⟨r, 0, none⟩ = some (.int .i64 k2) := HEo3.out.b6.cell 0
                have r1 : w3.cell? ⟨r, 1, none⟩ = some (.int .i64 n2) := HEo3.out.b6.cell 1
                go_wp2_with fail
                refine (HO1 _).mono ?_
                rintro e w4 ⟨rfl, hb4⟩
                have HEo4 := hid (HEo3.out.below hb4)
                clear e0 e1 r0 r1 hb4 HEo3 HO1
                have e0 : w4.cell? ⟨q, 0, none⟩ = some (.int .i64 k) := HEo4.out.ee.b5.cell 0
                have e1 : w4.cell? ⟨q, 1, none⟩ = some (.int .i64 ob) := HEo4.out.ee.b5.cell 1
                have r0 : w4.cell? ⟨r, 0, none⟩ = some (.int .i64 k2) := HEo4.out.b6.cell 0
                have r1 : w4.cell? ⟨r, 1, none⟩ = some (.int .i64 n2) := HEo4.out.b6.cell 1
                go_wp2_with fail
                refine (HO2 _).mono ?_
                rintro e w5 ⟨rfl, hb5⟩
                have HEo5 := hid (HEo4.out.below hb5)
                clear e0 e1 r0 r1 hb5 HEo4 HO2
                go_wp2
                exact ⟨⟨i + 1, by omega, by go_num, hid HEo5.out.ee.er.bel⟩, by simp [intOf]; omega⟩
end Go.Proofs.Qxb6500887a
