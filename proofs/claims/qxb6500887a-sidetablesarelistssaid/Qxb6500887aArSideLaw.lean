/- SideTablesAreLists: the law. -/
import Derived.Test.Qxb6500887aArSideH
import Derived.Test.Qxb6500887aLast3
import Derived.Deep.RegionWith
namespace Go.Proofs.Qxb6500887a
open Go.RowKit
set_option linter.unusedSimpArgs false
set_option linter.unusedVariables false

attribute [local irreducible] zeros

set_option maxRecDepth 1000000 in
set_option maxHeartbeats 8000000 in
theorem sideLaw_walk (a : Option Addr) (n c : Nat) (l : List AOp) (w : World) (hs : Script w a n c l) :
    Calls Try.prog 3 #[.slice a n c] w fun e w' => e = .returned (.bool true) ∧ Below w.heap.size w w' := by
  have hn := hs.1.2.2.1.1
  have HS := hid hs
  clear hs
  by_cases hsm : n ≤ 65536
  rotate_left
  · have hd : decide (n ≤ 65536) = false := decide_eq_false hsm
    go_enter Try.func3, Try.ntmps3
    go_wp2_with (go_at_call 9; refine (small_walk a n c hn _).mono ?_; rintro e w' ⟨rfl, rfl⟩)
    go_ret
    exact ⟨rfl, Below.refl _ _⟩
  have hd : decide (n ≤ 65536) = true := decide_eq_true hsm
  have hm1 : ∀ w : World, (Instr.makeSlice 27 (.int .i64 16384) (.int .i64 16384)).run Try.prog w = .ok (.slice (some ⟨w.heap.size, 0, none⟩) 16384 16384) (w.alloc (.cells (madeCells #[.int .u8 0] 16384) 5)) := run_make_row' (P := Try.prog) 27 5 (.int .u8 0) 1 (by kernel_rfl) info_u8 rfl .i64 .i64 16384 (by omega) (by omega)
  have hm2 : ∀ w : World, (Instr.makeSlice 28 (.int .i64 16384) (.int .i64 16384)).run Try.prog w = .ok (.slice (some ⟨w.heap.size, 0, none⟩) 16384 16384) (w.alloc (.cells (madeCells #[.bool false] 16384) 4)) := run_make_row' (P := Try.prog) 28 4 (.bool false) 1 (by kernel_rfl) info_bool rfl .i64 .i64 16384 (by omega) (by omega)
  have hm3 : ∀ w : World, (Instr.makeSlice 28 (.int .i64 32768) (.int .i64 32768)).run Try.prog w = .ok (.slice (some ⟨w.heap.size, 0, none⟩) 32768 32768) (w.alloc (.cells (madeCells #[.bool false] 32768) 4)) := run_make_row' (P := Try.prog) 28 4 (.bool false) 1 (by kernel_rfl) info_bool rfl .i64 .i64 32768 (by omega) (by omega)
  go_enter Try.func3, Try.ntmps3
  go_wp2_with (go_at_call 9; refine (small_walk a n c hn _).mono ?_; rintro e w' ⟨rfl, rfl⟩)
  refine (arenaNew_walk _).mono ?_
  rintro e w1 ⟨A, tc, bc, tm, bm, tl, bl, rfl, hb1, hlo, har⟩
  have HB1 := hid hb1
  have HLo := hid hlo
  have HAr := hid har
  clear hb1 hlo har
  go_upto_region 4 with fail
  go_cut [4] (fun v wc => ∃ L lc lm ll, v = .pointer (some ⟨L, 0, none⟩) ∧ Hid (Sz' w' A tc bc tm bm tl bl L lc lm ll wc))
  case first =>
    obtain ⟨z, hz⟩ : ∃ z, w1.heap.size = z := ⟨_, rfl⟩
    go_region
    all_goals (go_wp2_with fail)
    all_goals go_meet
    all_goals simp only [made_u8, made_bool]
    all_goals first
      | (have K := blk3 w1 hz ((zeros 16384).map fun (x : Nat) => Value.int .u8 (x : Int)) ((zeros 16384).map fun (x : Nat) => Value.bool (onB x)) ((zeros 32768).map fun (x : Nat) => Value.bool (onB x)) 5 4 4; with_reducible exact ⟨_, z, z + 1, z + 1 + 1, rfl, hid (lists_made HB1.out HLo.out HAr.out hz K.2.2.2.1 K.2.2.2.2 K.1 K.2.1 K.2.2.1 (by omega))⟩)
      | (have K := blk3 w1 hz ((zeros 16384).map fun (x : Nat) => Value.int .u8 (x : Int)) ((zeros 32768).map fun (x : Nat) => Value.bool (onB x)) ((zeros 16384).map fun (x : Nat) => Value.bool (onB x)) 5 4 4; with_reducible exact ⟨_, z, z + 1 + 1, z + 1, rfl, hid (lists_made HB1.out HLo.out HAr.out hz K.2.2.2.1 K.2.2.2.2 K.1 K.2.2.1 K.2.1 (by omega))⟩)
      | (have K := blk3 w1 hz ((zeros 16384).map fun (x : Nat) => Value.bool (onB x)) ((zeros 16384).map fun (x : Nat) => Value.int .u8 (x : Int)) ((zeros 32768).map fun (x : Nat) => Value.bool (onB x)) 4 5 4; with_reducible exact ⟨_, z + 1, z, z + 1 + 1, rfl, hid (lists_made HB1.out HLo.out HAr.out hz K.2.2.2.1 K.2.2.2.2 K.2.1 K.1 K.2.2.1 (by omega))⟩)
      | (have K := blk3 w1 hz ((zeros 16384).map fun (x : Nat) => Value.bool (onB x)) ((zeros 32768).map fun (x : Nat) => Value.bool (onB x)) ((zeros 16384).map fun (x : Nat) => Value.int .u8 (x : Int)) 4 4 5; with_reducible exact ⟨_, z + 1 + 1, z, z + 1, rfl, hid (lists_made HB1.out HLo.out HAr.out hz K.2.2.2.1 K.2.2.2.2 K.2.2.1 K.1 K.2.1 (by omega))⟩)
      | (have K := blk3 w1 hz ((zeros 32768).map fun (x : Nat) => Value.bool (onB x)) ((zeros 16384).map fun (x : Nat) => Value.int .u8 (x : Int)) ((zeros 16384).map fun (x : Nat) => Value.bool (onB x)) 4 5 4; with_reducible exact ⟨_, z + 1, z + 1 + 1, z, rfl, hid (lists_made HB1.out HLo.out HAr.out hz K.2.2.2.1 K.2.2.2.2 K.2.1 K.2.2.1 K.1 (by omega))⟩)
      | (have K := blk3 w1 hz ((zeros 32768).map fun (x : Nat) => Value.bool (onB x)) ((zeros 16384).map fun (x : Nat) => Value.bool (onB x)) ((zeros 16384).map fun (x : Nat) => Value.int .u8 (x : Int)) 4 4 5; with_reducible exact ⟨_, z + 1 + 1, z + 1, z, rfl, hid (lists_made HB1.out HLo.out HAr.out hz K.2.2.2.1 K.2.2.2.2 K.2.2.1 K.2.1 K.1 (by omega))⟩)
  case rest =>
  obtain ⟨L, lc, lm, ll, rfl, HSz⟩ := hcut
  clear HAr HLo HB1 hm1 hm2 hm3
  go_wp2_with fail
  go_loopw [29] (fun v wr => ∃ k : Nat, k ≤ n ∧ v = .int .i64 k ∧ Hid (Sz' w' A tc bc tm bm tl bl L lc lm ll wr)) (fun v _ => n - (intOf v).toNat)
  case atStart => exact ⟨0, Nat.zero_le _, rfl, HSz⟩
  case round =>
    clear HSz
    obtain ⟨i, hi, rfl, HSz⟩ := hrel
    obtain ⟨cs, ms, ls, hsd⟩ := HSz.out
    have HSd := hid hsd
    clear hsd HSz
    by_cases hlt : i < n
    rotate_left
    · as_aux_lemma =>
      have hkn : i = n := by omega
      subst hkn
      go_wp2_with fail
      refine (agree_walk HSd.out.ar HSd.out.lst 0 32768 (by omega) (by omega) (by omega) (by omega)).mono ?_
      rintro e w9 ⟨rfl, hd9⟩
      go_wp2
      go_ret
      exact ⟨rfl, HSd.out.bel.trans (hd9.below _)⟩
    obtain ⟨o, ho, hok, b, off, rfl, hb, c0, c1, c2, c3⟩ := (HS.out.below HSd.out.bel).at hlt
    obtain ⟨kind, x, ob, oc⟩ := o
    obtain ⟨k0, k1, ha, hb', hc'⟩ := hok
    dsimp only at c0 c1 c2 c3 ha hb' hc' k0 k1
    have HA := hid ha
    have HBo := hid hb'
    clear ho ha hb' hc'
    obtain ⟨p, hp⟩ : ∃ p, wr.heap.size = p := ⟨_, rfl⟩
    have HSx := hid (HSd.out.op kind x ob oc)
    rw [hp] at HSx
    go_upto_region 8 with fail
    obtain ⟨wa, hwa⟩ : ∃ wa, wr.alloc (.cells #[.int .u8 kind, .int .u64 x, .int .u64 ob, .int .u64 oc] 34) = wa := ⟨_, rfl⟩
    rw [hwa] at HSx
    try rw [hwa]
    clear hwa c0 c1 c2 c3 hp HSd
    have a0 : wa.cell? ⟨p, 0, none⟩ = some (.int .u8 kind) := HSx.out.bp.cell 0
    have a1 : wa.cell? ⟨p, 1, none⟩ = some (.int .u64 x) := HSx.out.bp.cell 1
    have a2 : wa.cell? ⟨p, 2, none⟩ = some (.int .u64 ob) := HSx.out.bp.cell 2
    have HWo := hid (fun w => wantObject_walk x w)
    have HWw := hid (fun w => wantWord_w x w)
    have HIh := hid (fun w => inHeap_walk x w)
    have HSm := hid (fun w => smallV_walk ob HBo.out w)
    by_cases hin : InH x
    rotate_left
    · as_aux_lemma =>
      have HCb := hid (fun w => count_bad x (by rw [wantO_out hin]; omega) w A)
      have HMb := hid (fun w => marked_bad x (by rw [wantO_out hin]; omega) w A)
      have HLb := hid (fun w => logged_bad x (by rw [wantW_out hin]; omega) w A)
      have HCs := hid (fun w v => setCount_bad x (by rw [wantO_out hin]; omega) w A v)
      have HMs := hid (fun w v => setMarked_bad x (by rw [wantO_out hin]; omega) w A v)
      have HLs := hid (fun w v => setLogged_bad x (by rw [wantW_out hin]; omega) w A v)
      rw [wantO_out hin] at HWo HCb HMb HCs HMs
      rw [wantW_out hin] at HWw HLb HLs
      rw [decide_eq_false hin] at HIh
      clear hin
      rcases (by omega : kind % 3 = 0 ∨ kind % 3 = 1 ∨ kind % 3 = 2) with k3 | k3 | k3
      all_goals as_aux_lemma =>
        go_wp2_with (first
            | (go_at_call 11; refine (HWo.out _).mono ?_; rintro e w1 ⟨rfl, rfl⟩)
            | (go_at_call 17; refine (HWw.out _).mono ?_; rintro e w1 ⟨rfl, rfl⟩)
            | (go_at_call 14; refine (HSm.out _).mono ?_; rintro e w1 ⟨rfl, rfl⟩)
            | (go_at_call 20; refine (HIh.out _).mono ?_; rintro e w1 ⟨rfl, rfl⟩)
            | (go_at_call 12; refine (HCb.out _).mono ?_; rintro e w1 ⟨rfl, rfl⟩)
            | (go_at_call 15; refine (HMb.out _).mono ?_; rintro e w1 ⟨rfl, rfl⟩)
            | (go_at_call 18; refine (HLb.out _).mono ?_; rintro e w1 ⟨rfl, rfl⟩)
            | (go_at_call 13; refine (HCs.out _ _).mono ?_; rintro e w1 ⟨rfl, rfl⟩)
            | (go_at_call 16; refine (HMs.out _ _).mono ?_; rintro e w1 ⟨rfl, rfl⟩)
            | (go_at_call 19; refine (HLs.out _ _).mono ?_; rintro e w1 ⟨rfl, rfl⟩))
        exact ⟨⟨i + 1, by omega, by go_num, hid ⟨cs, ms, ls, HSx.out.sd⟩⟩, by simp [intOf]; omega⟩
    obtain ⟨h, rfl⟩ : ∃ h : Nat, x = 65536 + (h : Int) := ⟨(x - 65536).toNat, by have := hin.1; omega⟩
    have h32 : h < 32768 := by have := hin.2; omega
    have hsub : 65536 + (h : Int) - 65536 = (h : Int) := by omega
    rw [wantW_in hin] at HWw
    rw [decide_eq_true hin] at HIh
    clear hin
    rcases (by omega : kind % 3 = 0 ∨ kind % 3 = 1 ∨ kind % 3 = 2) with k3 | k3 | k3
    · rcases (by omega : h % 2 = 1 ∨ h % 2 = 0) with hodd | hev
      · as_aux_lemma =>
        have HCb := hid (fun w => count_bad (65536 + (h : Int)) (by rw [wantO_odd hodd h32]; omega) w A)
        have HCs := hid (fun w v => setCount_bad (65536 + (h : Int)) (by rw [wantO_odd hodd h32]; omega) w A v)
        rw [wantO_odd hodd h32] at HWo HCb HCs
        clear hodd HWw
        go_upto_region 40 with (first
            | (go_at_call 11; refine (HWo.out _).mono ?_; rintro e w1 ⟨rfl, rfl⟩)
            | (go_at_call 14; refine (HSm.out _).mono ?_; rintro e w1 ⟨rfl, rfl⟩)
            | (go_at_call 12; refine (HCb.out _).mono ?_; rintro e w1 ⟨rfl, rfl⟩)
            | (go_at_call 13; refine (HCs.out _ _).mono ?_; rintro e w1 ⟨rfl, rfl⟩))
        clear HWo HSm HCb HCs a0 a2
        go_wp2_with (go_at_call 20; refine (HIh.out _).mono ?_; rintro e wq ⟨rfl, rfl⟩)
        refine (agree_walk HSx.out.sd.ar HSx.out.sd.lst _ _ (by omega) (by omega) (by omega) (by omega)).mono ?_
        rintro e w9 ⟨rfl, hd9⟩
        have HS9 := hid (HSx.out.drew hd9).sd
        clear hd9 a1
        go_wp2
        exact ⟨⟨i + 1, by omega, by go_num, hid ⟨_, _, _, HS9.out⟩⟩, by simp [intOf]; omega⟩
      · obtain ⟨g, hg⟩ : ∃ g, h = 2 * g := ⟨h / 2, by omega⟩
        have g16 : g < 16384 := by omega
        have hq : (h : Int) / 2 = (g : Int) := by omega
        obtain ⟨vv, hvv⟩ : ∃ vv, cs[g]? = some vv := ⟨cs[g]'(by rw [HSx.out.sd.lst.n1]; exact g16), List.getElem?_eq_getElem _⟩
        have hv3 : vv ≤ 3 := HSx.out.sd.lst.c3 vv (List.mem_of_getElem? hvv)
        have HCt := hid (count_h HSx.out.sd.ar vv hg g16 hvv (by omega))
        have Hvv := hid hvv
        have Hg := hid hg
        rw [wantO_even hg g16] at HWo
        clear hvv hev hg HWw hv3
        by_cases hb3 : 3 < ob
        · as_aux_lemma =>
          have HCs := hid (fun w => setCountBig_h (smallV ob) Hg.out g16 (smallV_big hb3) w A)
          have db : decide (3 < ob) = true := decide_eq_true hb3
          clear hb3
          go_wp2_with (go_at_call 11; refine (HWo.out _).mono ?_; rintro e w1 ⟨rfl, rfl⟩)
          refine (HCt.out).mono ?_
          rintro e w3 ⟨rfl, hd3⟩
          have HSx3 := hid (HSx.out.drew hd3)
          clear hd3 HCt a0 a1 a2
          have a2 : w3.cell? ⟨p, 2, none⟩ = some (.int .u64 ob) := HSx3.out.bp.cell 2
          have a1 : w3.cell? ⟨p, 1, none⟩ = some (.int .u64 (65536 + (h : Int))) := HSx3.out.bp.cell 1
          go_upto_region 40 with (first
            | (go_at_call 14; refine (HSm.out _).mono ?_; rintro e w1 ⟨rfl, rfl⟩)
            | (go_at_call 13; refine (HCs.out _).mono ?_; rintro e w1 ⟨rfl, rfl⟩))
          clear a2 HCs HSm HWo
          go_wp2_with (go_at_call 20; refine (HIh.out _).mono ?_; rintro e wq ⟨rfl, rfl⟩)
          refine (agree_walk HSx3.out.sd.ar HSx3.out.sd.lst _ _ (by omega) (by omega) (by omega) (by omega)).mono ?_
          rintro e w9 ⟨rfl, hd9⟩
          have HS9 := hid (HSx3.out.drew hd9).sd
          clear hd9 a1
          go_wp2
          exact ⟨⟨i + 1, by omega, by go_num, hid ⟨_, _, _, HS9.out⟩⟩, by simp [intOf]; omega⟩
        · as_aux_lemma =>
          obtain ⟨v, rfl⟩ : ∃ v : Nat, ob = (v : Int) := ⟨ob.toNat, by have := HBo.out.1; omega⟩
          have hv : v ≤ 3 := by omega
          rw [smallV_le hv] at HSm
          have db : decide (3 < (v : Int)) = false := decide_eq_false hb3
          have hw8 : IntKind.u8.wrap (v : Int) = (v : Int) := by rw [IntKind.wrap_u8]; exact Int.emod_eq_of_lt (by omega) (by omega)
          clear hb3
          go_wp2_with (go_at_call 11; refine (HWo.out _).mono ?_; rintro e w1 ⟨rfl, rfl⟩)
          refine (HCt.out).mono ?_
          rintro e w3 ⟨rfl, hd3⟩
          have HSx3 := hid (HSx.out.drew hd3)
          clear hd3 HCt a0 a1 a2
          have a2 : w3.cell? ⟨p, 2, none⟩ = some (.int .u64 (v : Int)) := HSx3.out.bp.cell 2
          go_wp2_with (go_at_call 14; refine (HSm.out _).mono ?_; rintro e w1 ⟨rfl, rfl⟩)
          refine (setCount_h HSx3.out.sd.ar v Hg.out g16 hv).mono ?_
          rintro e w4 ⟨rfl, wm, hu1, hu2, har4⟩
          have HSx4 := hid (HSx3.out.upd2 hu1 hu2 (by simp) (by simp) har4)
          clear hu1 hu2 har4 a2 HSm HWo
          go_upto_region 21 with fail
          obtain ⟨X, W, hT, hI⟩ := class_mk (Sx w' A tc bc tm bm tl bl L lc lm ll p kind (65536 + (h : Int)) (v : Int) oc cs ms ls (cs.set g v) ms ls)
          have H0 : Hid (∃ q, w4.drew = W q) := hid (hI _ (HSx4.out.drew ⟨1, rfl⟩))
          have hne : Nonempty X := ⟨H0.out.choose⟩
          have a2 : ∀ q, (W q).cell? ⟨p, 2, none⟩ = some (.int .u64 (v : Int)) := fun q => (hT q).bp.cell 2
          have l2 : ∀ q, (W q).cell? ⟨L, 0, none⟩ = some (.slice (some ⟨lc, 0, none⟩) 16384 16384) := fun q => (hT q).sd.lst.lb.cell 0
          have HTT := hid hT
          clear hT hI
          refine wp_region_class_last W rfl (by kernel_rfl) (by kernel_rfl) (by kernel_rfl) H0.out ?_
          dsimp only [List.dropLast, List.getLast]
          repeat (go_big_quiet_step (fail))
          refine wpQuiet_nil ?_
          intro z
          have HZ := hid (HTT.out z)
          have fz : (W z).frozen? ⟨lc, g, none⟩ = false := HZ.out.sd.lst.bc.frozen g
          obtain ⟨cv, cz⟩ : ∃ cv, (W z).cell? ⟨lc, g, none⟩ = some cv := ⟨_, HZ.out.sd.lst.cellc Hvv.out⟩
          generalize W z = wz at HZ fz cz ⊢
          clear a2 l2
          go_upto_region 40 with fail
          obtain ⟨wy, hwy⟩ : ∃ wy, wz.setCell ⟨lc, g, none⟩ (.int .u8 (v : Int)) = wy := ⟨_, rfl⟩
          have HSy := hid (HZ.out.stc g v hv)
          rw [hwy] at HSy
          try rw [hwy]
          clear hwy
          have a1 : wy.cell? ⟨p, 1, none⟩ = some (.int .u64 (65536 + (h : Int))) := HSy.out.bp.cell 1
          go_wp2_with (go_at_call 20; refine (HIh.out _).mono ?_; rintro e wq ⟨rfl, rfl⟩)
          refine (agree_walk HSy.out.sd.ar HSy.out.sd.lst _ _ (by omega) (by omega) (by omega) (by omega)).mono ?_
          rintro e w9 ⟨rfl, hd9⟩
          have HS9 := hid (HSy.out.drew hd9).sd
          clear hd9 a1 HSy
          go_wp2
          exact ⟨⟨i + 1, by omega, by go_num, hid ⟨_, _, _, HS9.out⟩⟩, by simp [intOf]; omega⟩
    · obtain ⟨on, hon⟩ : ∃ on, (ob != 0) = on := ⟨_, rfl⟩
      rcases (by omega : h % 2 = 1 ∨ h % 2 = 0) with hodd | hev
      · as_aux_lemma =>
        have HCb := hid (fun w => marked_bad (65536 + (h : Int)) (by rw [wantO_odd hodd h32]; omega) w A)
        have HCs := hid (fun w v => setMarked_bad (65536 + (h : Int)) (by rw [wantO_odd hodd h32]; omega) w A v)
        rw [wantO_odd hodd h32] at HWo HCb HCs
        clear hodd HWw HSm
        go_upto_region 40 with (first
            | (go_at_call 11; refine (HWo.out _).mono ?_; rintro e w1 ⟨rfl, rfl⟩)
            | (go_at_call 15; refine (HCb.out _).mono ?_; rintro e w1 ⟨rfl, rfl⟩)
            | (go_at_call 16; refine (HCs.out _ _).mono ?_; rintro e w1 ⟨rfl, rfl⟩))
        clear HWo HCb HCs a0 a2
        go_wp2_with (go_at_call 20; refine (HIh.out _).mono ?_; rintro e wq ⟨rfl, rfl⟩)
        refine (agree_walk HSx.out.sd.ar HSx.out.sd.lst _ _ (by omega) (by omega) (by omega) (by omega)).mono ?_
        rintro e w9 ⟨rfl, hd9⟩
        have HS9 := hid (HSx.out.drew hd9).sd
        clear hd9 a1
        go_wp2
        exact ⟨⟨i + 1, by omega, by go_num, hid ⟨_, _, _, HS9.out⟩⟩, by simp [intOf]; omega⟩
      · as_aux_lemma =>
        obtain ⟨g, hg⟩ : ∃ g, h = 2 * g := ⟨h / 2, by omega⟩
        have g16 : g < 16384 := by omega
        have hq : (h : Int) / 2 = (g : Int) := by omega
        obtain ⟨vv, hvv⟩ : ∃ vv, ms[g]? = some vv := ⟨ms[g]'(by rw [HSx.out.sd.lst.n2]; exact g16), List.getElem?_eq_getElem _⟩
        have HCt := hid (marked_h HSx.out.sd.ar vv hg g16 hvv)
        have Hvv := hid hvv
        have Hg := hid hg
        rw [wantO_even hg g16] at HWo
        clear hvv hev hg HWw HSm
        go_wp2_with (go_at_call 11; refine (HWo.out _).mono ?_; rintro e w1 ⟨rfl, rfl⟩)
        refine (HCt.out).mono ?_
        rintro e w3 ⟨rfl, hd3⟩
        have HSx3 := hid (HSx.out.drew hd3)
        clear hd3 HCt a0 a1 a2
        have a2 : w3.cell? ⟨p, 2, none⟩ = some (.int .u64 ob) := HSx3.out.bp.cell 2
        go_wp2_with fail
        refine (setMarked_h HSx3.out.sd.ar Hg.out g16 on).mono ?_
        rintro e w4 ⟨rfl, wm, hu1, hu2, har4⟩
        have HSx4 := hid (HSx3.out.upd2 hu1 hu2 (by simp) (by simp) har4)
        clear hu1 hu2 har4 a2 HWo
        go_upto_region 30 with fail
        obtain ⟨X, W, hT, hI⟩ := class_mk (Sx w' A tc bc tm bm tl bl L lc lm ll p kind (65536 + (h : Int)) ob oc cs ms ls cs (ms.set g (if on then 1 else 0)) ls)
        have H0 : Hid (∃ q, w4.drew = W q) := hid (hI _ (HSx4.out.drew ⟨1, rfl⟩))
        have hne : Nonempty X := ⟨H0.out.choose⟩
        have a2 : ∀ q, (W q).cell? ⟨p, 2, none⟩ = some (.int .u64 ob) := fun q => (hT q).bp.cell 2
        have l2 : ∀ q, (W q).cell? ⟨L, 1, none⟩ = some (.slice (some ⟨lm, 0, none⟩) 16384 16384) := fun q => (hT q).sd.lst.lb.cell 1
        have HTT := hid hT
        clear hT hI
        refine wp_region_class_last W rfl (by kernel_rfl) (by kernel_rfl) (by kernel_rfl) H0.out ?_
        dsimp only [List.dropLast, List.getLast]
        repeat (go_big_quiet_step (fail))
        refine wpQuiet_nil ?_
        intro z
        have HZ := hid (HTT.out z)
        have fz : (W z).frozen? ⟨lm, g, none⟩ = false := HZ.out.sd.lst.bm.frozen g
        obtain ⟨cv, cz⟩ : ∃ cv, (W z).cell? ⟨lm, g, none⟩ = some cv := ⟨_, HZ.out.sd.lst.cellm Hvv.out⟩
        generalize W z = wz at HZ fz cz ⊢
        clear a2 l2
        go_upto_region 40 with fail
        obtain ⟨wy, hwy⟩ : ∃ wy, wz.setCell ⟨lm, g, none⟩ (.bool on) = wy := ⟨_, rfl⟩
        have HSy := hid (HZ.out.stm g on)
        rw [hwy] at HSy
        try rw [hwy]
        clear hwy
        have a1 : wy.cell? ⟨p, 1, none⟩ = some (.int .u64 (65536 + (h : Int))) := HSy.out.bp.cell 1
        go_wp2_with (go_at_call 20; refine (HIh.out _).mono ?_; rintro e wq ⟨rfl, rfl⟩)
        refine (agree_walk HSy.out.sd.ar HSy.out.sd.lst _ _ (by omega) (by omega) (by omega) (by omega)).mono ?_
        rintro e w9 ⟨rfl, hd9⟩
        have HS9 := hid (HSy.out.drew hd9).sd
        clear hd9 a1 HSy
        go_wp2
        exact ⟨⟨i + 1, by omega, by go_num, hid ⟨_, _, _, HS9.out⟩⟩, by simp [intOf]; omega⟩
    · as_aux_lemma =>
      obtain ⟨vv, hvv⟩ : ∃ vv, ls[h]? = some vv := ⟨ls[h]'(by rw [HSx.out.sd.lst.n3]; exact h32), List.getElem?_eq_getElem _⟩
      have HLg := hid (logged_at HSx.out.sd.ar h vv h32 hvv)
      have Hvv := hid hvv
      clear hvv HWo HSm
      obtain ⟨on, hon⟩ : ∃ on, (ob != 0) = on := ⟨_, rfl⟩
      go_wp2_with (first
        | (go_at_call 17; refine (HWw.out _).mono ?_; rintro e w1 ⟨rfl, rfl⟩))
      refine (HLg.out).mono ?_
      rintro e w3 ⟨rfl, hd3⟩
      have HSx3 := hid (HSx.out.drew hd3)
      clear hd3 HLg a0 a1 a2
      have a2 : w3.cell? ⟨p, 2, none⟩ = some (.int .u64 ob) := HSx3.out.bp.cell 2
      go_wp2_with fail
      refine (setLogged_at HSx3.out.sd.ar h h32 on).mono ?_
      rintro e w4 ⟨rfl, wm, hu1, hu2, har4⟩
      have HSx4 := hid (HSx3.out.upd2 hu1 hu2 (by simp) (by simp) har4)
      clear hu1 hu2 har4 a2 HWw
      go_upto_region 39 with fail
      obtain ⟨X, W, hT, hI⟩ := class_mk (Sx w' A tc bc tm bm tl bl L lc lm ll p kind (65536 + (h : Int)) ob oc cs ms ls cs ms (ls.set h (if on then 1 else 0)))
      have H0 : Hid (∃ q, w4.drew = W q) := hid (hI _ (HSx4.out.drew ⟨1, rfl⟩))
      have hne : Nonempty X := ⟨H0.out.choose⟩
      have a2 : ∀ q, (W q).cell? ⟨p, 2, none⟩ = some (.int .u64 ob) := fun q => (hT q).bp.cell 2
      have l2 : ∀ q, (W q).cell? ⟨L, 2, none⟩ = some (.slice (some ⟨ll, 0, none⟩) 32768 32768) := fun q => (hT q).sd.lst.lb.cell 2
      have HTT := hid hT
      clear hT hI
      refine wp_region_class_last W rfl (by kernel_rfl) (by kernel_rfl) (by kernel_rfl) H0.out ?_
      dsimp only [List.dropLast, List.getLast]
      repeat (go_big_quiet_step (fail))
      refine wpQuiet_nil ?_
      intro z
      have HZ := hid (HTT.out z)
      have fz : (W z).frozen? ⟨ll, h, none⟩ = false := HZ.out.sd.lst.bl.frozen h
      obtain ⟨cv, cz⟩ : ∃ cv, (W z).cell? ⟨ll, h, none⟩ = some cv := ⟨_, HZ.out.sd.lst.celll Hvv.out⟩
      generalize W z = wz at HZ fz cz ⊢
      clear a2 l2
      go_upto_region 40 with fail
      obtain ⟨wy, hwy⟩ : ∃ wy, wz.setCell ⟨ll, h, none⟩ (.bool on) = wy := ⟨_, rfl⟩
      have HSy := hid (HZ.out.stl h on)
      rw [hwy] at HSy
      try rw [hwy]
      clear hwy
      have a1 : wy.cell? ⟨p, 1, none⟩ = some (.int .u64 (65536 + (h : Int))) := HSy.out.bp.cell 1
      go_wp2_with (go_at_call 20; refine (HIh.out _).mono ?_; rintro e wq ⟨rfl, rfl⟩)
      refine (agree_walk HSy.out.sd.ar HSy.out.sd.lst _ _ (by omega) (by omega) (by omega) (by omega)).mono ?_
      rintro e w9 ⟨rfl, hd9⟩
      have HS9 := hid (HSy.out.drew hd9).sd
      clear hd9 a1 HSy
      go_wp2
      exact ⟨⟨i + 1, by omega, by go_num, hid ⟨_, _, _, HS9.out⟩⟩, by simp [intOf]; omega⟩
end Go.Proofs.Qxb6500887a
