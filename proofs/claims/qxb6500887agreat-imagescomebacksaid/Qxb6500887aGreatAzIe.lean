/- Images: ReadImage. -/
import Derived.Test.Qxb6500887aGreatAzId
import Derived.Test.Qxb6500887aGreatAzEc
import Derived.Deep.DeepCutAuto
namespace Go.Proofs.Qxb6500887aGreat
open Go.RowKit
set_option linter.unusedSimpArgs false
set_option linter.unusedVariables false
def hdOk (X : Nat → Nat) : Prop := X 0 = 5501237299694953838 ∧ X 1 = 1 ∧ X 2 = 32768
def AS.setJ (S : AS) (j : Nat) (Y : Nat → Nat) : AS := match j with
  | 0 => { S with C := Y }
  | 1 => { S with M := Y }
  | 2 => { S with L := Y }
  | _ => { S with T := Y }
/-- What ReadImage has written behind j tables. -/
def rdJ (S : AS) (X : Nat → Nat) : Nat → AS
  | 0 => { S.tch with W := fun i => X (3 + i) }
  | j + 1 => (rdJ S X j).setJ j (fun q => X (32771 + tO j + q))
def RdI (X : Nat → Nat) (n : Nat) (S : AS) (cd : Int) (S' : AS) : Prop :=
  (n ≠ 34180 ∧ cd = 4 ∧ S' = S) ∨ (n = 34180 ∧ ¬ hdOk X ∧ cd = 6 ∧ S' = S) ∨ (n = 34180 ∧ hdOk X ∧ ckN X 34179 ≠ X 34179 ∧ cd = 3 ∧ S' = S) ∨ (n = 34180 ∧ hdOk X ∧ ckN X 34179 = X 34179 ∧ cd = 0 ∧ S' = rdJ S X 4)
def RiP (l : AL) (S : AS) (X : Nat → Nat) (n : Nat) (w : World) (e : Ending) (w' : World) : Prop := ∃ (cd : Int) (S' : AS), e = .returned (.int .u8 cd) ∧ Hid (AU l w S' w' ∧ RdI X n S cd S')
section
variable {w w' w0 : World} {g off cap n : Nat} {X Y : Nat → Nat} {l : AL} {S S2 : AS}
theorem AU.setJ (h : AU l w0 S w) {j : Nat} (hj : j < 4) (hT : TB (l.tT j) (l.tB j) (tN j) (tWd j) (tPr j) (tLn j) Y w') (hu : Upd (l.tB j) w w') : AU l w0 (S.setJ j Y) w' ∧ UL l.wr w w' := by
  match j, hj with
  | 0, _ => exact ⟨h.setC hT hu, UL.ofUpd hu l.wr_c⟩
  | 1, _ => exact ⟨h.setM hT hu, UL.ofUpd hu l.wr_m⟩
  | 2, _ => exact ⟨h.setL hT hu, UL.ofUpd hu l.wr_l⟩
  | 3, _ => exact ⟨h.setT hT hu, UL.ofUpd hu l.wr_t⟩
/-- Inside ReadImage. -/
structure RX (w0 : World) (l : AL) (S : AS) (g n : Nat) (X : Nat → Nat) (w : World) : Prop where
  au : AU l w0 S w
  sl : WSl w g 0 n X
  gl : g < w.heap.size
  ng : g ∉ l.all
theorem RX.below (h : RX w0 l S g n X w) (hb : Below w.heap.size w w') : RX w0 l S g n X w' := ⟨h.au.below hb, fun i hi => by rw [hb.cell (show g < w.heap.size from h.gl)]; exact h.sl i hi, by have := h.gl; have := hb.size; omega, h.ng⟩
theorem RX.to (h : RX w0 l S g n X w) (hu : AU l w0 S2 w') (hw : UL l.wr w w') : RX w0 l S2 g n X w' := ⟨hu, fun i hi => by
  rw [World.cell?_of_block (w := w) (hw.block g h.gl (fun hm => h.ng (AL.wr_all hm)))]
  exact h.sl i hi, by have := h.gl; have := hw.size; omega, h.ng⟩
theorem RX.cell (h : RX w0 l S g n X w) {i : Nat} (hi : i < n) : w.cell? ⟨g, i, none⟩ = some (.int .u64 ((X i : Nat) : Int)) := by
  have := h.sl i hi
  rwa [Nat.zero_add] at this
theorem RX.part (h : RX w0 l S g n X w) {o m : Nat} (hm : o + m ≤ n) : WSl w g o m (fun i => X (o + i)) := fun i hi => by
  have := h.sl (o + i) (by omega)
  rwa [Nat.zero_add] at this
set_option maxRecDepth 100000 in
set_option maxHeartbeats 8000000 in
theorem readImageZ (h : AM l S w) (hw : WSl w g 0 n X) (hX : ∀ i, X i < 18446744073709551616) (hgl : g < w.heap.size) (hng : g ∉ l.all) (hn : n ≤ 1000000) (hc : n ≤ cap) (hcm : cap ≤ maxLen) :
    Calls Tryz.prog 21 #[.pointer (some ⟨l.a, 0, none⟩), .slice (some ⟨g, 0, none⟩) n cap] w (RiP l S X n w) := by
  have H0 : Hid (RX w l S g n X w) := hid ⟨AU.start h, hw, hgl, hng⟩
  have HX := hid hX
  clear h hw hX hgl hng
  have HC := hid (imageWordsZ H0.out.au.m)
  by_cases hn0 : n = 34180
  rotate_left
  · have d0 : ((n : Int) != 34180) = true := by simp; omega
    go_enter Tryz.func21, Tryz.ntmps21
    go_wp2_with fail
    refine HC.out.mono ?_
    rintro e w1 ⟨rfl, hb1⟩
    have HF : Hid (AU l w S w1 ∧ RdI X n S 4 S) := hid ⟨H0.out.au.below hb1, .inl ⟨hn0, rfl, rfl⟩⟩
    clear HC hb1 H0
    go_wp2
    go_ret
    exact ⟨4, S, rfl, HF⟩
  have d0 : ((n : Int) != 34180) = false := by simp; omega
  have Hn0 := hid hn0
  have hn9 : 34180 ≤ n := by omega
  clear hn0
  go_enter Tryz.func21, Tryz.ntmps21
  go_wp2_with fail
  refine HC.out.mono ?_
  rintro e w1 ⟨rfl, hb1⟩
  have H1 := hid (H0.out.below hb1)
  clear HC hb1 H0
  obtain ⟨m, hm⟩ : ∃ m, n - 1 = m := ⟨_, rfl⟩
  have hm1 : m + 1 = n := by omega
  have hm9 : m ≤ 1000000 := by omega
  have hmb : 34179 ≤ m := by omega
  have Hm4 : Hid (m = 34179) := hid (by have := Hn0.out; omega)
  clear hm
  obtain ⟨x0, hx0⟩ : ∃ x, X 0 = x := ⟨_, rfl⟩
  obtain ⟨x1, hx1⟩ : ∃ x, X 1 = x := ⟨_, rfl⟩
  obtain ⟨x2, hx2⟩ : ∃ x, X 2 = x := ⟨_, rfl⟩
  obtain ⟨bad, hbad⟩ : ∃ b : Bool, b = true ↔ ¬ hdOk X := ⟨@decide (¬ hdOk X) (Classical.propDecidable _), by simp⟩
  have Hbad := hid hbad
  clear hbad
  have i0 : (0 : Int) < (n : Int) := by omega
  have i1 : (1 : Int) < (n : Int) := by omega
  have i2 : (2 : Int) < (n : Int) := by omega
  go_upto_region 3 with fail
  clear d0
  go_cut [38] from 17 to 38 (fun v wd => v = .bool bad ∧ Hid (RX w l S g n X wd))
  case first =>
    obtain ⟨X', W, HTT, HH0, hne, HCl⟩ := class_below w1
    have HY := hid (fun y => H1.out.below (HTT.out y))
    have y0 : ∀ y, (W y).cell? ⟨g, 0, none⟩ = some (.int .u64 (x0 : Int)) := fun y => by rw [← hx0]; exact (HY.out y).cell (by omega)
    have y1 : ∀ y, (W y).cell? ⟨g, 1, none⟩ = some (.int .u64 (x1 : Int)) := fun y => by rw [← hx1]; exact (HY.out y).cell (by omega)
    have y2 : ∀ y, (W y).cell? ⟨g, 2, none⟩ = some (.int .u64 (x2 : Int)) := fun y => by rw [← hx2]; exact (HY.out y).cell (by omega)
    have ya : ∀ y, (W y).cell? ⟨l.a, 0, none⟩ = some (.slice (some ⟨l.w, 0, none⟩) 32768 32768) := fun y => (HY.out y).au.m.cells.1
    by_cases h0 : x0 = 5501237299694953838
    rotate_left
    · as_aux_lemma =>
      have d0 : ((x0 : Int) != 5501237299694953838) = true := by simp; omega
      refine wp_region_class W (by kernel_rfl) (by kernel_rfl) HH0.out ?_
      repeat (go_big_quiet_step (fail))
      refine wpQuiet_nil ?_
      intro z
      have HZ := hid (HY.out z)
      generalize W z = wz at HZ ⊢
      clear y0 y1 y2 ya HH0 HTT HCl hne HY H1
      have hbb : bad = true := Hbad.out.2 (fun h => h0 (by rw [← hx0]; exact h.1))
      subst hbb
      go_wp2
      go_meet
      case rel => exact ⟨rfl, HZ⟩
    have d0 : ((x0 : Int) != 5501237299694953838) = false := by simp; omega
    by_cases h1 : x1 = 1
    rotate_left
    · as_aux_lemma =>
      have d1 : ((x1 : Int) != 1) = true := by simp; omega
      clear h0
      refine wp_region_class W (by kernel_rfl) (by kernel_rfl) HH0.out ?_
      repeat (go_big_quiet_step (fail))
      refine wpQuiet_nil ?_
      intro z
      have HZ := hid (HY.out z)
      generalize W z = wz at HZ ⊢
      clear y0 y1 y2 ya HH0 HTT HCl hne HY H1
      have hbb : bad = true := Hbad.out.2 (fun h => h1 (by rw [← hx1]; exact h.2.1))
      subst hbb
      go_wp2
      go_meet
      case rel => exact ⟨rfl, HZ⟩
    have d1 : ((x1 : Int) != 1) = false := by simp; omega
    by_cases h2 : x2 = 32768
    rotate_left
    · as_aux_lemma =>
      have d2 : ((x2 : Int) != 32768) = true := by simp; omega
      clear h0 h1
      refine wp_region_class W (by kernel_rfl) (by kernel_rfl) HH0.out ?_
      repeat (go_big_quiet_step (fail))
      refine wpQuiet_nil ?_
      intro z
      have HZ := hid (HY.out z)
      generalize W z = wz at HZ ⊢
      clear y0 y1 y2 ya HH0 HTT HCl hne HY H1
      have hbb : bad = true := Hbad.out.2 (fun h => h2 (by rw [← hx2]; exact h.2.2))
      subst hbb
      go_wp2
      go_meet
      case rel => exact ⟨rfl, HZ⟩
    have d2 : ((x2 : Int) != 32768) = false := by simp; omega
    have hok : Hid (hdOk X) := hid ⟨by rw [hx0]; exact h0, by rw [hx1]; exact h1, by rw [hx2]; exact h2⟩
    clear h0 h1 h2
    refine wp_region_class W (by kernel_rfl) (by kernel_rfl) HH0.out ?_
    repeat (go_big_quiet_step (fail))
    refine wpQuiet_nil ?_
    intro z
    have HZ := hid (HY.out z)
    generalize W z = wz at HZ ⊢
    clear y0 y1 y2 ya HH0 HTT HCl hne HY H1
    have hbb : bad = false := by
      cases bad with
      | false => rfl
      | true => exact absurd hok.out (Hbad.out.1 rfl)
    subst hbb
    go_wp2
    go_meet
    case rel => exact ⟨rfl, HZ⟩
  case rest =>
  obtain ⟨rfl, H2⟩ := hcut
  clear H1 hx0 hx1 hx2
  cases bad with
  | true =>
    as_aux_lemma =>
    have HF : Hid (AU l w S wc ∧ RdI X n S 6 S) := hid ⟨H2.out.au, .inr (.inl ⟨Hn0.out, Hbad.out.1 rfl, rfl, rfl⟩)⟩
    clear H2
    go_wp2
    go_ret
    exact ⟨6, S, rfl, HF⟩
  | false =>
  have hok : Hid (hdOk X) := hid (by
    apply Classical.byContradiction
    intro h
    have := Hbad.out.2 h
    cases this)
  clear Hbad
  have em : (n : Int) - 1 = (m : Int) := by omega
  have hmn : m < n := by omega
  have hmnI : (m : Int) < (n : Int) := by omega
  have hmc : (m : Int) ≤ (cap : Int) := by omega
  have hmc' : m ≤ cap := by omega
  have hc0 : ¬ cap = 0 := by omega
  go_upto_region 6 with fail
  obtain ⟨ck, hck⟩ : ∃ x, ckN X m = x := ⟨_, rfl⟩
  obtain ⟨xm, hxm⟩ : ∃ x, X m = x := ⟨_, rfl⟩
  obtain ⟨bad, hbad⟩ : ∃ b, ((ck : Int) != (xm : Int)) = b := ⟨_, rfl⟩
  obtain ⟨X', W, HTT, HH0, hne, HCl⟩ := class_below wc
  have HY := hid (fun y => H2.out.below (HTT.out y))
  have y0 : ∀ y, (W y).cell? ⟨g, m, none⟩ = some (.int .u64 (xm : Int)) := fun y => by rw [← hxm]; exact (HY.out y).cell hmn
  have HCk := hid (fun y => checksumZ (w := W y) (g := g) (off := 0) (cap := cap) hm9 (fun i hi => (HY.out y).sl i (by omega)) HX.out)
  rw [hck] at HCk
  have Hck := hid hck
  have Hxm := hid hxm
  clear hck hxm
  refine wp_region_class W (by kernel_rfl) (by kernel_rfl) HH0.out ?_
  repeat (go_big_quiet_step ((go_at_call 134; with_reducible exact Calls.class_same (HCk.out _))))
  refine wpQuiet_nil ?_
  intro z
  have H3 := hid (HY.out z)
  generalize W z = w3 at H3 ⊢
  clear y0 HCk HH0 HTT HCl hne HY H2
  have Hbad := hid hbad
  clear hbad
  cases bad with
  | true =>
    as_aux_lemma =>
    have HF : Hid (AU l w S w3 ∧ RdI X n S 3 S) := hid ⟨H3.out.au, .inr (.inr (.inl ⟨Hn0.out, hok.out, by
      have h1 := Hbad.out
      have h2 := Hck.out
      have h3 := Hxm.out
      rw [Hm4.out] at h2 h3
      rw [h2, h3]
      intro e
      rw [e] at h1
      simp at h1, rfl, rfl⟩))⟩
    clear H3
    go_wp2
    go_ret
    exact ⟨3, S, rfl, HF⟩
  | false =>
  have hcx : Hid (ckN X 34179 = X 34179) := hid (by
    have h1 := Hbad.out
    have h2 := Hck.out
    have h3 := Hxm.out
    rw [Hm4.out] at h2 h3
    rw [h2, h3]
    have : (ck : Int) = (xm : Int) := by simpa using h1
    omega)
  clear Hbad Hck Hxm
  obtain ⟨a0, _, _, _, _, _⟩ := H3.out.au.m.cells
  obtain ⟨cr, hcr⟩ : ∃ x, cap - 32771 = x := ⟨_, rfl⟩
  have hcr2 : 1408 ≤ cr := by omega
  have hcr3 : ¬ cr = 0 := by omega
  have hcr4 : cr ≤ maxLen := by omega
  obtain ⟨rl, hrl⟩ : ∃ x, m - 32771 = x := ⟨_, rfl⟩
  have hrl2 : Hid (rl = 1408) := hid (by have := Hm4.out; omega)
  have hrl3 : rl ≤ cr := by omega
  have l1 : (32771 : Int) ≤ (m : Int) := by omega
  have l2 : (32771 : Int) ≤ (cap : Int) := by omega
  have l3 : (m : Int) - 32771 = (rl : Int) := by omega
  have l4 : (cap : Int) - 32771 = (cr : Int) := by omega
  go_upto_region 9 with fail
  clear a0 l1 l2 l3 l4
  have HC := hid (tablesZ H3.out.au.m)
  go_wp2_with fail
  refine HC.out.mono ?_
  rintro e w4 ⟨rfl, hb4⟩
  have H4 := hid (H3.out.below hb4)
  clear HC hb4 H3
  have Hix := hid (fun j hj wz => idx_pt l j hj wz)
  generalize (ptL l).toArray = ar at Hix ⊢
  go_wp2_with fail
  go_loopw [7, 62] (fun v u wr => ∃ (j o : Nat), v = .int .i64 (o : Int) ∧ u = .int .i64 (j : Int) ∧ j ≤ 4 ∧ o ≤ 1408 ∧ Hid (o = tO j ∧ RX w l S g n X wr)) (fun _ u _ => 4 - (intOf u).toNat)
  case atStart => exact ⟨0, 0, rfl, rfl, by omega, by omega, hid ⟨rfl, H4.out⟩⟩
  case round =>
  clear H4
  obtain ⟨j, o, rfl, rfl, hj, ho, HJ⟩ := hrel
  have H5 := hid HJ.out.2
  have Ho := hid HJ.out.1
  clear HJ
  obtain ⟨w5, hw5⟩ : ∃ x, x = wr := ⟨_, rfl⟩
  subst hw5
  by_cases hlt : j < 4
  · have dj : decide ((j : Int) < 4) = true := decide_eq_true (by omega)
    have djn : decide (j < 4) = true := decide_eq_true hlt
    have hix := Hix.out j hlt
    have hst := tO_step hlt
    have hto := tO_le (show j + 1 ≤ 4 by omega)
    obtain ⟨ln, hln⟩ : ∃ x, tLn j = x := ⟨_, rfl⟩
    have hlb := tLn_b hlt
    rw [hln] at hlb hst
    have HC := hid (tabImageWordsZ (H5.out.au.m.tbj hlt))
    rw [hln] at HC
    go_wp2_with fail
    refine HC.out.mono ?_
    rintro e_ w_ ⟨rfl, hw_⟩
    have hs_ := hw_.symm
    clear hw_
    subst hs_
    obtain ⟨o2, ho2⟩ : ∃ x, o + ln = x := ⟨_, rfl⟩
    have eo2 : (o : Int) + (ln : Int) = (o2 : Int) := by omega
    have ho2b : o2 ≤ 1408 := by have := Ho.out; omega
    obtain ⟨cj, hcj⟩ : ∃ x, cr - o = x := ⟨_, rfl⟩
    have k1 : (o : Int) ≤ (o2 : Int) := by omega
    have k2 : (o2 : Int) ≤ (cr : Int) := by omega
    have k3 : (o2 : Int) - (o : Int) = (ln : Int) := by omega
    have k4 : (cr : Int) - (o : Int) = (cj : Int) := by omega
    have k5 : ¬ cr - o = 0 := by omega
    have k6 : o2 - o = ln := by omega
    have HC2 := hid (TB.fitsImage (cap := cj) (H5.out.au.m.tbj hlt) (by rw [hln]; exact hlb.1) (by rw [hln]; exact H5.out.part (o := 32771 + o) (m := ln) (by omega)) (fun i => HX.out _) H5.out.gl)
    rw [hln] at HC2
    have Hln := hid hln
    clear hln
    go_wp2_with fail
    refine HC2.out.mono ?_
    rintro e w6 ⟨rfl, hb6⟩
    have H6 := hid (H5.out.below hb6)
    clear HC2 hb6 H5 k1 k2 k3 k4 k5 k6 HC
    have HC := hid (tabImageWordsZ (H6.out.au.m.tbj hlt))
    rw [Hln.out] at HC
    have HF : Hid (o2 = tO (j + 1) ∧ RX w l S g n X w6) := hid ⟨by rw [← ho2, ← hst, Ho.out], H6.out⟩
    clear Ho Hln hst hto
    go_wp2_with fail
    refine HC.out.mono ?_
    rintro e_ w_ ⟨rfl, hw_⟩
    have hs_ := hw_.symm
    clear hw_ HC
    subst hs_
    go_wp2
    exact ⟨⟨j + 1, o2, by go_num, by go_num, by omega, by omega, HF⟩, by simp [intOf]; omega⟩
  have dj : decide ((j : Int) < 4) = false := decide_eq_false (by omega)
  have djn : decide (j < 4) = false := decide_eq_false hlt
  clear Ho hlt Hix
  have HC := hid (touchZ H5.out.au.m)
  go_wp2_with fail
  refine HC.out.mono ?_
  rintro e w6 ⟨rfl, HU6⟩
  have H6 : Hid (RX w l S.tch g n X w6) := hid (H5.out.to (H5.out.au.trans HU6.out) HU6.out.u)
  clear HC HU6 H5
  go_upto_region 18 with fail
  obtain ⟨c3, hc3⟩ : ∃ x, cap - 3 = x := ⟨_, rfl⟩
  obtain ⟨n3, hn3⟩ : ∃ x, n - 3 = x := ⟨_, rfl⟩
  have k1 : (3 : Int) ≤ (n : Int) := by omega
  have k2 : (3 : Int) ≤ (cap : Int) := by omega
  have k3 : (n : Int) - 3 = (n3 : Int) := by omega
  have k4 : (cap : Int) - 3 = (c3 : Int) := by omega
  have k5 : ¬ c3 = 0 := by omega
  have k6 : ¬ cap - 3 = 0 := by omega
  obtain ⟨X', W, HTT, HH0, hne, HCl⟩ := class_below w6
  have HY := hid (fun y => H6.out.below (HTT.out y))
  have ya : ∀ y, (W y).cell? ⟨l.a, 0, none⟩ = some (.slice (some ⟨l.w, 0, none⟩) 32768 32768) := fun y => (HY.out y).au.m.cells.1
  refine wp_region_class_lastT W rfl (by kernel_rfl) (by kernel_rfl) (by kernel_rfl) HH0.out ?_
  dsimp only [List.dropLast, List.getLast]
  repeat (go_big_quiet_step (fail))
  refine wpQuiet_nil ?_
  intro z
  have HZ := hid (HY.out z)
  generalize W z = wz at HZ ⊢
  clear ya HH0 HTT HCl hne HY H6
  refine wpList_copy_sl rfl _ _ rfl 32768 n3 c3 l.w g 3 S.tch.W (fun i => X (3 + i)) rfl rfl (by omega) HZ.out.au.m.ws (HZ.out.part (by omega)) ?_
  intro w7 hB hU
  have H7 : Hid (RX w l (rdJ S X 0) g n X w7) := hid (HZ.out.to (HZ.out.au.setW hB.out (fun i => HX.out _) hU.out) (UL.ofUpd hU.out l.wr_w))
  clear HZ hB hU k1 k2 k3 k4 k5 k6
  simp only [Act.put, List.setIfInBounds_toArray, List.set_cons_succ, List.set_cons_zero]
  have HC := hid (tablesZ H7.out.au.m)
  go_wp2_with fail
  refine HC.out.mono ?_
  rintro e w8 ⟨rfl, hb8⟩
  have H8 := hid (H7.out.below hb8)
  clear HC hb8 H7
  have Hix := hid (fun j hj wz => idx_pt l j hj wz)
  generalize (ptL l).toArray = ar2 at Hix ⊢
  go_wp2_with fail
  go_loopw [7, 91] (fun v u wr => ∃ (j o : Nat), v = .int .i64 (o : Int) ∧ u = .int .i64 (j : Int) ∧ j ≤ 4 ∧ o ≤ 1408 ∧ Hid (o = tO j ∧ RX w l (rdJ S X j) g n X wr)) (fun _ u _ => 4 - (intOf u).toNat)
  case atStart => exact ⟨0, 0, rfl, rfl, by omega, by omega, hid ⟨rfl, H8.out⟩⟩
  case round =>
  clear H8
  obtain ⟨i, o', rfl, rfl, hi, ho', HJ⟩ := hrel
  have H9 := hid HJ.out.2
  have Ho := hid HJ.out.1
  clear HJ
  obtain ⟨w9, hw9⟩ : ∃ x, x = wr := ⟨_, rfl⟩
  subst hw9
  by_cases hlt : i < 4
  · have di : decide ((i : Int) < 4) = true := decide_eq_true (by omega)
    have din : decide (i < 4) = true := decide_eq_true hlt
    have hix := Hix.out i hlt
    have hst := tO_step hlt
    have hto := tO_le (show i + 1 ≤ 4 by omega)
    obtain ⟨ln, hln⟩ : ∃ x, tLn i = x := ⟨_, rfl⟩
    have hlb := tLn_b hlt
    rw [hln] at hlb hst
    have HC := hid (tabImageWordsZ (H9.out.au.m.tbj hlt))
    rw [hln] at HC
    go_wp2_with fail
    refine HC.out.mono ?_
    rintro e_ w_ ⟨rfl, hw_⟩
    have hs_ := hw_.symm
    clear hw_
    subst hs_
    obtain ⟨o2, ho2⟩ : ∃ x, o' + ln = x := ⟨_, rfl⟩
    have eo2 : (o' : Int) + (ln : Int) = (o2 : Int) := by omega
    have ho2b : o2 ≤ 1408 := by have := Ho.out; omega
    obtain ⟨cj, hcj⟩ : ∃ x, cr - o' = x := ⟨_, rfl⟩
    have k1 : (o' : Int) ≤ (o2 : Int) := by omega
    have k2 : (o2 : Int) ≤ (cr : Int) := by omega
    have k3 : (o2 : Int) - (o' : Int) = (ln : Int) := by omega
    have k4 : (cr : Int) - (o' : Int) = (cj : Int) := by omega
    have k5 : ¬ cr - o' = 0 := by omega
    have k6 : o2 - o' = ln := by omega
    have HC2 := hid (TB.readImage (cap := cj) (H9.out.au.m.tbj hlt) (by rw [hln]; exact hlb.1) (by rw [hln]; exact H9.out.part (o := 32771 + o') (m := ln) (by omega)) (fun i => HX.out _) H9.out.gl)
    have HT : Hid (32771 + o' = 32771 + tO i) := hid (by rw [Ho.out])
    have HC3 : Hid (Calls Tryz.prog 138 #[.pointer (some ⟨l.tT i, 0, none⟩), .slice (some ⟨g, 32771 + o', none⟩) ln cj] w9 fun e w' => e = .returned (.bool true) ∧ Hid (RX w l (rdJ S X (i + 1)) g n X w')) := hid (by
      rw [← hln]
      refine HC2.out.mono ?_
      rintro e w' ⟨rfl, HB⟩
      have hb1 := HB.out.1
      rw [HT.out] at hb1
      obtain ⟨q1, q2⟩ := H9.out.au.setJ hlt hb1 HB.out.2
      exact ⟨rfl, hid (H9.out.to q1 q2)⟩)
    have Hln := hid hln
    clear hln HC2 HT
    go_wp2_with fail
    refine HC3.out.mono ?_
    rintro e w10 ⟨rfl, H10⟩
    clear HC3 H9 k1 k2 k3 k4 k5 k6 HC
    have HC := hid (tabImageWordsZ (H10.out.au.m.tbj hlt))
    rw [Hln.out] at HC
    have HF : Hid (o2 = tO (i + 1) ∧ RX w l (rdJ S X (i + 1)) g n X w10) := hid ⟨by rw [← ho2, ← hst, Ho.out], H10.out⟩
    clear Ho Hln hst hto H10
    go_wp2_with fail
    refine HC.out.mono ?_
    rintro e_ w_ ⟨rfl, hw_⟩
    have hs_ := hw_.symm
    clear hw_ HC
    subst hs_
    go_wp2
    exact ⟨⟨i + 1, o2, by go_num, by go_num, by omega, by omega, HF⟩, by simp [intOf]; omega⟩
  have di : decide ((i : Int) < 4) = false := decide_eq_false (by omega)
  have din : decide (i < 4) = false := decide_eq_false hlt
  have hi4 : i = 4 := by omega
  have HF : Hid (AU l w (rdJ S X 4) w9 ∧ RdI X n S 0 (rdJ S X 4)) := hid ⟨by rw [← hi4]; exact H9.out.au, .inr (.inr (.inr ⟨Hn0.out, hok.out, hcx.out, rfl, rfl⟩))⟩
  clear H9 Ho Hix hi4
  go_wp2
  go_ret
  exact ⟨0, rdJ S X 4, rfl, HF⟩
end
end Go.Proofs.Qxb6500887aGreat
