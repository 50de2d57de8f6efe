/- Images: padding, Sound, FitsImage, ReadImage of a table; tables, ImageWords, checksum. -/
import Derived.Test.Qxb6500887aGreatAzEb
import Derived.Test.Qxb6500887aGreatAzRa
import Derived.Deep.DeepCutAuto
namespace Go.Proofs.Qxb6500887aGreat
open Go.RowKit
set_option linter.unusedSimpArgs false
set_option linter.unusedVariables false
/-- The words of a slice. -/
def WSl (w : World) (g off n : Nat) (X : Nat → Nat) : Prop := ∀ i, i < n → w.cell? ⟨g, off + i, none⟩ = some (.int .u64 ((X i : Nat) : Int))
section
variable {w w' w0 : World} {t b n wd per len g off cap : Nat} {X Y : Nat → Nat} {l : AL} {S : AS}
theorem TK.mod (h : TK n wd per len) : (n : Int).tmod (per : Int) = 0 := by
  rw [h.len]
  show ((per * len % per : Nat) : Int) = 0
  rw [Nat.mul_mod_right]
  rfl
set_option maxRecDepth 100000 in
theorem TB.padding (h : TB t b n wd per len X w) : Calls Tryz.prog 206 #[.pointer (some ⟨t, 0, none⟩)] w fun e w' => e = .returned (.int .u64 0) ∧ Below w.heap.size w w' := by
  have HX := hid h
  have hm := h.k.mod
  have hk := h.k.wd.mul
  have hn := h.k.n
  have hp0 : ((per : Int) == 0) = false := by simp; omega
  clear h
  go_enter Tryz.func206, Tryz.ntmps206
  go_upto_region 1 with fail
  obtain ⟨X', W, HTT, H0, hne, HCl⟩ := class_below w
  have y1 : ∀ y, (W y).cell? ⟨t, 1, none⟩ = some (.int .i64 (n : Int)) := fun y => (HX.out.below (HTT.out y)).cells.2.1
  have y3 : ∀ y, (W y).cell? ⟨t, 3, none⟩ = some (.int .i64 (per : Int)) := fun y => (HX.out.below (HTT.out y)).cells.2.2.2.1
  refine wp_region_class W (by kernel_rfl) (by kernel_rfl) H0.out ?_
  repeat (go_big_quiet_step (fail))
  refine wpQuiet_nil ?_
  intro z
  have HZ := hid (HTT.out z)
  generalize W z = wz at HZ ⊢
  clear y1 y3 H0 HTT HCl hne HX
  go_wp2
  go_ret
  exact ⟨by first | rfl | simp, HZ.out⟩
set_option maxRecDepth 100000 in
set_option maxHeartbeats 1000000 in
theorem TB.sound (h : TB t b n wd per len X w) (hl : 1 ≤ len) : Calls Tryz.prog 130 #[.pointer (some ⟨t, 0, none⟩)] w fun e w' => e = .returned (.bool true) ∧ Below w.heap.size w w' := by
  have HX := hid h
  have hk := h.k.wd.mul
  have hn := h.k.n
  have hs := h.k.small
  have hq : ((n : Int) + (per : Int) - 1).tdiv (per : Int) = (len : Int) := by
    rw [h.k.len, show ((per * len : Nat) : Int) + (per : Int) - 1 = ((per * len + per - 1 : Nat) : Int) by omega]
    show (((per * len + per - 1) / per : Nat) : Int) = (len : Int)
    rw [show per * len + per - 1 = per - 1 + per * len by omega, Nat.add_mul_div_left _ _ (by omega), Nat.div_eq_of_lt (by omega), Nat.zero_add]
  have HP := hid (fun wz (hz : TB t b n wd per len X wz) => hz.padding)
  have hp0 : ((per : Int) == 0) = false := by simp; omega
  have hl0 : ((len : Int) == 0) = false := by simp; omega
  clear h
  obtain ⟨lm, hlm⟩ : ∃ x, len - 1 = x := ⟨_, rfl⟩
  have elm : (len : Int) - 1 = (lm : Int) := by omega
  have hlm2 : lm < len := by omega
  have hlm3 : (lm : Int) < (len : Int) := by omega
  go_enter Tryz.func130, Tryz.ntmps130
  go_upto_region 1 with fail
  obtain ⟨X', W, HTT, H0, hne, HCl⟩ := class_below w
  have y0 : ∀ y, (W y).cell? ⟨t, 0, none⟩ = some (.slice (some ⟨b, 0, none⟩) len len) := fun y => (HX.out.below (HTT.out y)).cells.1
  have y1 : ∀ y, (W y).cell? ⟨t, 1, none⟩ = some (.int .i64 (n : Int)) := fun y => (HX.out.below (HTT.out y)).cells.2.1
  have y3 : ∀ y, (W y).cell? ⟨t, 3, none⟩ = some (.int .i64 (per : Int)) := fun y => (HX.out.below (HTT.out y)).cells.2.2.2.1
  refine wp_region_class W (by kernel_rfl) (by kernel_rfl) H0.out ?_
  repeat (go_big_quiet_step (fail))
  refine wpQuiet_nil ?_
  intro z
  have HZ := hid (HX.out.below (HTT.out z))
  have HB := hid (HTT.out z)
  generalize W z = wz at HZ HB ⊢
  clear y0 y1 y3 H0 HTT HCl hne HX
  clear hq
  go_upto_region 3 with fail
  obtain ⟨X', W, HTT, H0, hne, HCl⟩ := class_below wz
  have HZy := hid (fun y => HZ.out.below (HTT.out y))
  have y0 : ∀ y, (W y).cell? ⟨t, 0, none⟩ = some (.slice (some ⟨b, 0, none⟩) len len) := fun y => (HZy.out y).cells.1
  obtain ⟨xl, hxl⟩ : ∃ x, X lm = x := ⟨_, rfl⟩
  have y1 : ∀ y, (W y).cell? ⟨b, lm, none⟩ = some (.int .u64 ((xl : Nat) : Int)) := fun y => by rw [← hxl]; exact (HZy.out y).word hlm2
  have HPy := hid (fun y => HP.out (W y) (HZy.out y))
  have hand : bits .and .u64 (xl : Int) 0 = 0 := by
    have h1 := HZ.out.lt lm
    rw [hxl] at h1
    have := u64_and xl 0
    simp at this
    exact this (by omega)
  clear hxl
  refine wp_region_class W (by kernel_rfl) (by kernel_rfl) H0.out ?_
  repeat (go_big_quiet_step ((go_at_call 206; with_reducible exact Calls.class_of HCl.out (HPy.out _))))
  refine wpQuiet_nil ?_
  intro z
  have HB2 := hid (HB.out.trans ((HTT.out z).mono HB.out.size))
  generalize W z = w5 at HB2 ⊢
  clear y0 y1 H0 HTT HCl hne HZy HPy HZ HB
  go_wp2
  go_ret
  exact ⟨by first | rfl | simp, HB2.out⟩
set_option maxRecDepth 100000 in
set_option maxHeartbeats 1000000 in
theorem TB.fitsImage (h : TB t b n wd per len X w) (hl : 1 ≤ len) (hw : WSl w g off len Y) (hy : ∀ i, Y i < 18446744073709551616) (hg : g < w.heap.size) : Calls Tryz.prog 136 #[.pointer (some ⟨t, 0, none⟩), .slice (some ⟨g, off, none⟩) len cap] w fun e w' => e = .returned (.bool true) ∧ Below w.heap.size w w' := by
  have HX := hid h
  have HW := hid hw
  have hs := h.k.small
  have HP := hid (fun wz (hz : TB t b n wd per len X wz) => hz.padding)
  have hl0 : ((len : Int) == 0) = false := by simp; omega
  obtain ⟨a0, _, _, _, _, _⟩ := h.cells
  obtain ⟨lm, hlm⟩ : ∃ x, len - 1 = x := ⟨_, rfl⟩
  have elm : (len : Int) - 1 = (lm : Int) := by omega
  have hlm2 : lm < len := by omega
  have hlm3 : (lm : Int) < (len : Int) := by omega
  obtain ⟨xl, hxl⟩ : ∃ x, Y lm = x := ⟨_, rfl⟩
  have hand : bits .and .u64 (xl : Int) 0 = 0 := by
    have h1 := hy lm
    rw [hxl] at h1
    have := u64_and xl 0
    simp at this
    exact this (by omega)
  have HG := hid hg
  clear h hw hy hg
  go_enter Tryz.func136, Tryz.ntmps136
  go_upto_region 3 with fail
  clear a0
  obtain ⟨X', W, HTT, H0, hne, HCl⟩ := class_below w
  have HXy := hid (fun y => HX.out.below (HTT.out y))
  have y1 : ∀ y, (W y).cell? ⟨g, off + lm, none⟩ = some (.int .u64 ((xl : Nat) : Int)) := fun y => by rw [← hxl, (HTT.out y).cell HG.out]; exact HW.out lm hlm2
  have HPy := hid (fun y => HP.out (W y) (HXy.out y))
  clear hxl
  refine wp_region_class W (by kernel_rfl) (by kernel_rfl) H0.out ?_
  repeat (go_big_quiet_step ((go_at_call 206; with_reducible exact Calls.class_of HCl.out (HPy.out _))))
  refine wpQuiet_nil ?_
  intro z
  have HB2 := hid (HTT.out z)
  generalize W z = w5 at HB2 ⊢
  clear y1 H0 HTT HCl hne HXy HPy HX
  go_wp2
  go_ret
  exact ⟨by first | rfl | simp, HB2.out⟩
theorem addr_add (g off j : Nat) : (⟨g, off, none⟩ : Addr).add j = ⟨g, off + j, none⟩ := by unfold Addr.add; split <;> simp_all
/-- Copying words out of a slice over a row. -/
theorem wpList_copy_sl {ops : Array Oper} {rest : List Oper} {oo : Oper} {a : Act} {Q : Exit → Act → World → Prop} (hgd : oo.guard = none) (d s : Operand)
    (ho : oo.op = .call { callee := .builtin .copy, args := #[d, s], argTypes := #[53, 53] }) (len m c b g off : Nat) (X Y : Nat → Nat)
    (hd : a.eval d = .slice (some ⟨b, 0, none⟩) len len) (hs : a.eval s = .slice (some ⟨g, off, none⟩) m c) (hm : len ≤ m) (hb : Blk w b 29 (wdC len X)) (hb' : WSl w g off len Y)
    (h : ∀ w', Hid (Blk w' b 29 (wdC len Y)) → Hid (Upd b w w') → wpList Tryz.prog ops Q rest (a.put oo.dst (goInt len)) w') : wpList Tryz.prog ops Q (oo :: rest) a w := by
  obtain ⟨i, hi, he⟩ := Option.map_eq_some_iff.1 info_u64
  simp only [Prod.mk.injEq] at he
  obtain ⟨e1, e2, e3⟩ := he
  refine wpList_copy_blk (P := Tryz.prog) (w := w) hgd d s 53 53 ho 29 i 1 Tryz.underlying53 hi e2 (some ⟨b, 0, none⟩) (some ⟨g, off, none⟩) len len m c hd hs b 0 29 (wdC len X) (wdC len Y) len (Nat.min_eq_right hm) hb (by rw [wdC_len, Nat.mul_one]) (fun _ => ⟨rfl, _, rfl, fun j v hj => ?_⟩) (by rw [wdC_len, wdC_len]; omega) (wdC_one _ _) ?_
  · by_cases c : j < len
    · have e : v = .int .u64 ((Y j : Nat) : Int) := by
        have h1 : (wdC len Y)[j]? = some (.int .u64 ((Y j : Nat) : Int)) := fnC_get _ c
        exact Option.some.inj (hj.symm.trans h1)
      rw [e, addr_add]
      exact hb' j c
    · rw [List.getElem?_eq_none (by rw [wdC_len]; omega)] at hj
      cases hj
  · intro w' h1 h2
    refine h w' (hid ?_) h2
    have := h1.out
    rw [splice_all (by rw [wdC_len, wdC_len])] at this
    exact this
set_option maxRecDepth 100000 in
set_option maxHeartbeats 1000000 in
theorem TB.readImage (h : TB t b n wd per len X w) (hl : 1 ≤ len) (hw : WSl w g off len Y) (hy : ∀ i, Y i < 18446744073709551616) (hg : g < w.heap.size) : Calls Tryz.prog 138 #[.pointer (some ⟨t, 0, none⟩), .slice (some ⟨g, off, none⟩) len cap] w fun e w' => e = .returned (.bool true) ∧ Hid (TB t b n wd per len Y w' ∧ Upd b w w') := by
  have HC := hid (h.fitsImage (cap := cap) hl hw hy hg)
  have HX := hid h
  have HW := hid hw
  have HG := hid hg
  have HY := hid hy
  clear h hw hy hg
  go_enter Tryz.func138, Tryz.ntmps138
  go_wp2_with fail
  refine HC.out.mono ?_
  rintro e w1 ⟨rfl, hb1⟩
  have HX1 := hid (HX.out.below hb1)
  have HW1 : Hid (WSl w1 g off len Y) := hid (fun i hi => by rw [hb1.cell HG.out]; exact HW.out i hi)
  have HB := hid hb1
  clear HC hb1 HX HW
  obtain ⟨a0, _, _, _, _, _⟩ := HX1.out.cells
  go_wp2_with (refine wpList_copy_sl rfl _ _ rfl len len cap b g off X Y rfl rfl (Nat.le_refl _) HX1.out.wb HW1.out ?_; intro w2 hB hU)
  go_ret
  exact ⟨rfl, hid ⟨⟨HX1.out.tb.upd hU.out HX1.out.ne, hB.out, HY.out, HX1.out.ne, HX1.out.k⟩, (Upd.refl b w |>.ofBelow HB.out).trans hU.out⟩⟩
theorem tabImageWordsZ (h : TB t b n wd per len X w) : Calls Tryz.prog 135 #[.pointer (some ⟨t, 0, none⟩)] w fun e w' => e = .returned (.int .i64 (len : Int)) ∧ w' = w := by
  have hs := h.k.small
  obtain ⟨a0, _, _, _, _, _⟩ := h.cells
  clear h
  go_enter Tryz.func135, Tryz.ntmps135
  go_wp2
  go_ret
  exact ⟨rfl, rfl⟩
end
end Go.Proofs.Qxb6500887aGreat
