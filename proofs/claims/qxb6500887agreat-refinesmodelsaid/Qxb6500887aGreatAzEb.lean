/- CopyFrom and Clone of a table. -/
import Derived.Test.Qxb6500887aGreatAzPb
import Derived.Test.Qxb6500887aGreatAzLa
import Derived.Test.Qxb6500887aGreatCopy
import Derived.Deep.DeepCutAuto
namespace Go.Proofs.Qxb6500887aGreat
open Go.RowKit
set_option linter.unusedSimpArgs false
set_option linter.unusedVariables false
theorem wdC_len (n : Nat) (X : Nat → Nat) : (wdC n X).length = n := fnC_len _ _
theorem wdC_one (n : Nat) (X : Nat → Nat) : ∀ u ∈ wdC n X, u.oneCell' = true := by
  intro u hu
  obtain ⟨r, _, rfl⟩ := List.mem_map.1 hu
  rfl
/-- Copying one row of words over another. -/
theorem wpList_copy_row {ops : Array Oper} {rest : List Oper} {oo : Oper} {a : Act} {w : World} {Q : Exit → Act → World → Prop} (hgd : oo.guard = none) (d s : Operand)
    (ho : oo.op = .call { callee := .builtin .copy, args := #[d, s], argTypes := #[53, 53] }) (len : Nat) (b b' : Nat) (X Y : Nat → Nat)
    (hd : a.eval d = .slice (some ⟨b, 0, none⟩) len len) (hs : a.eval s = .slice (some ⟨b', 0, none⟩) len len) (hb : Blk w b 29 (wdC len X)) (hb' : Blk w b' 29 (wdC len Y))
    (h : ∀ w', Hid (Blk w' b 29 (wdC len Y)) → Hid (Upd b w w') → wpList Tryz.prog ops Q rest (a.put oo.dst (goInt len)) w') : wpList Tryz.prog ops Q (oo :: rest) a w := by
  obtain ⟨i, hi, he⟩ := Option.map_eq_some_iff.1 info_u64
  simp only [Prod.mk.injEq] at he
  obtain ⟨e1, e2, e3⟩ := he
  refine wpList_copy_blk (P := Tryz.prog) (w := w) hgd d s 53 53 ho 29 i 1 Tryz.underlying53 hi e2 (some ⟨b, 0, none⟩) (some ⟨b', 0, none⟩) len len len len hd hs b 0 29 (wdC len X) (wdC len Y) len (Nat.min_self len) hb (by rw [wdC_len, Nat.mul_one]) (fun _ => ⟨rfl, _, rfl, fun j v hj => ?_⟩) (by rw [wdC_len, wdC_len]; omega) (wdC_one _ _) ?_
  · have := hb'.cell j
    rw [hj] at this
    rw [show (⟨b', 0, none⟩ : Addr).add j = ⟨b', j, none⟩ by simp [Addr.add] <;> omega]
    exact this
  · intro w' h1 h2
    refine h w' (hid ?_) h2
    have := h1.out
    rw [splice_all (by rw [wdC_len, wdC_len])] at this
    exact this
section
variable {w w' w0 : World} {t b t' b' n wd per len : Nat} {X Y : Nat → Nat}
set_option maxRecDepth 100000 in
set_option maxHeartbeats 1000000 in
theorem TB.copyFrom (h : TB t b n wd per len X w) (h' : TB t' b' n wd per len Y w) : Calls Tryz.prog 155 #[.pointer (some ⟨t, 0, none⟩), .pointer (some ⟨t', 0, none⟩)] w fun e w' => e = .returned (.bool true) ∧ Hid (TB t b n wd per len Y w' ∧ Upd b w w') := by
  have HC := hid (h.sameShape h')
  have HX := hid h
  have HY := hid h'
  clear h h'
  go_enter Tryz.func155, Tryz.ntmps155
  go_wp2_with fail
  refine HC.out.mono ?_
  rintro e w1 ⟨rfl, hb1⟩
  have HX1 := hid (HX.out.below hb1)
  have HY1 := hid (HY.out.below hb1)
  have HB := hid hb1
  clear HC hb1 HX HY
  go_upto_region 3 with fail
  obtain ⟨X', W, HTT, H0, hne, HCl⟩ := class_below w1
  have y1 : ∀ y, (W y).cell? ⟨t, 0, none⟩ = some (.slice (some ⟨b, 0, none⟩) len len) := fun y => (HX1.out.below (HTT.out y)).cells.1
  have z1 : ∀ y, (W y).cell? ⟨t', 0, none⟩ = some (.slice (some ⟨b', 0, none⟩) len len) := fun y => (HY1.out.below (HTT.out y)).cells.1
  refine wp_region_class_lastT W rfl (by kernel_rfl) (by kernel_rfl) (by kernel_rfl) H0.out ?_
  dsimp only [List.dropLast, List.getLast]
  repeat (go_big_quiet_step (fail))
  refine wpQuiet_nil ?_
  intro z
  have HX2 := hid (HX1.out.below (HTT.out z))
  have HY2 := hid (HY1.out.below (HTT.out z))
  have HB2 := hid (HB.out.trans ((HTT.out z).mono HB.out.size))
  generalize W z = w2 at HX2 HY2 HB2 ⊢
  clear y1 z1 H0 HTT HCl hne HX1 HY1 HB
  refine wpList_copy_row rfl _ _ rfl len b b' X Y rfl rfl HX2.out.wb HY2.out.wb ?_
  intro w3 hB hU
  go_wp2
  go_ret
  exact ⟨rfl, hid ⟨⟨HX2.out.tb.upd hU.out HX2.out.ne, hB.out, HY2.out.lt, HX2.out.ne, HX2.out.k⟩, (Upd.refl b w |>.ofBelow HB2.out).trans hU.out⟩⟩
theorem info_tb : (Tryz.prog.info? 216).map (·.size) = some 6 := by kernel_rfl
attribute [local irreducible] madeCells in
set_option maxRecDepth 100000 in
set_option maxHeartbeats 1000000 in
theorem TB.clone (h : TB t b n wd per len X w) : Calls Tryz.prog 154 #[.pointer (some ⟨t, 0, none⟩)] w fun e w' => ∃ t' b' : Nat, e = .returned (.pointer (some ⟨t', 0, none⟩)) ∧ Hid (TB t' b' n wd per len X w' ∧ Below w.heap.size w w' ∧ w.heap.size ≤ t' ∧ w.heap.size ≤ b') := by
  have hmk := run_make_row' (P := Tryz.prog) 53 29 (.int .u64 0) 8 (by kernel_rfl) info_u64 rfl .i64 .i64 len (by have := h.k.small; omega) (by have := h.k.small; omega)
  have hlen := h.k.small
  have HX := hid h
  obtain ⟨c0, c1, c2, c3, c4, c5⟩ := h.cells
  clear h
  obtain ⟨p, hp⟩ : ∃ p, w.heap.size = p := ⟨_, rfl⟩
  obtain ⟨mk, hmkk⟩ : ∃ x, 2 ^ wd - 1 = x := ⟨_, rfl⟩
  obtain ⟨on, hon⟩ : ∃ x, onW wd = x := ⟨_, rfl⟩
  rw [hmkk] at c4
  rw [hon] at c5
  have H1 : Hid (Blk (w.alloc (.cells #[.slice (some ⟨b, 0, none⟩) len len, .int .i64 (n : Int), .int .u64 (wd : Int), .int .i64 (per : Int), .int .u64 (mk : Int), .int .u64 (on : Int)] 216)) p 216 (tbC b n wd per len) ∧ TB t b n wd per len X (w.alloc (.cells #[.slice (some ⟨b, 0, none⟩) len len, .int .i64 (n : Int), .int .u64 (wd : Int), .int .i64 (per : Int), .int .u64 (mk : Int), .int .u64 (on : Int)] 216)) ∧ Below p w (w.alloc (.cells #[.slice (some ⟨b, 0, none⟩) len len, .int .i64 (n : Int), .int .u64 (wd : Int), .int .i64 (per : Int), .int .u64 (mk : Int), .int .u64 (on : Int)] 216)) ∧ p < (w.alloc (.cells #[.slice (some ⟨b, 0, none⟩) len len, .int .i64 (n : Int), .int .u64 (wd : Int), .int .i64 (per : Int), .int .u64 (mk : Int), .int .u64 (on : Int)] 216)).heap.size) := hid (by
    have kk := Blk.new w (tbC b n wd per len) 216
    unfold tbC at kk ⊢
    rw [hmkk, hon] at kk ⊢
    rw [hp] at kk
    exact ⟨kk, HX.out.below (nbel _ _), by rw [← hp]; exact nbel _ _, by rw [World.size_alloc, hp]; omega⟩)
  go_enter Tryz.func154, Tryz.ntmps154
  go_upto_region 2 with fail
  (try simp only [hp])
  generalize hw1 : World.alloc w _ = w1 at H1 ⊢
  have HL : Hid (t < p ∧ b < p) := hid (by rw [← hp]; exact HX.out.dom)
  clear hw1 c0 c1 c2 c3 c4 c5 HX
  obtain ⟨c0, c1, c2, c3, c4, c5⟩ := H1.out.2.1.cells
  obtain ⟨q, hq⟩ : ∃ q, w1.heap.size = q := ⟨_, rfl⟩
  have hpq : Hid (p < q) := hid (by rw [← hq]; exact H1.out.2.2.2)
  have H2 : Hid (Blk (w1.alloc (.cells (madeCells #[.int .u64 0] len) 29)) q 29 (wdC len z0) ∧ Blk (w1.alloc (.cells (madeCells #[.int .u64 0] len) 29)) p 216 (tbC b n wd per len) ∧ TB t b n wd per len X (w1.alloc (.cells (madeCells #[.int .u64 0] len) 29)) ∧ Below p w (w1.alloc (.cells (madeCells #[.int .u64 0] len) 29))) := hid (by
    have kk : Blk (w1.alloc (.cells (madeCells #[.int .u64 0] len) 29)) w1.heap.size 29 (wdC len z0) := by
      rw [made_u64, ← repl_wdC]
      exact Blk.new w1 _ _
    rw [hq] at kk
    have hb := nbel w1 (.cells (madeCells #[.int .u64 0] len) 29)
    exact ⟨kk, H1.out.1.below hb, H1.out.2.1.below hb, H1.out.2.2.1.trans (hb.mono (by have := H1.out.2.2.2; omega))⟩)
  have hp2 : Hid (t ≠ p ∧ b ≠ p) := hid (by
    have hl := HL.out
    omega)
  have hfz := H2.out.2.1.frozen 0
  have hpc : (w1.alloc (.cells (madeCells #[.int .u64 0] len) 29)).cell? ⟨p, 0, none⟩ = some (.slice (some ⟨b, 0, none⟩) len len) := H2.out.2.1.cell 0
  go_upto_region 3 with fail
  (try simp only [hq])
  clear hfz hpc c0 c1 c2 c3 c4 c5
  have H3 : Hid (TB p q n wd per len z0 ((w1.alloc (.cells (madeCells #[.int .u64 0] len) 29)).setCell ⟨p, 0, none⟩ (.slice (some ⟨q, 0, none⟩) len len)) ∧ TB t b n wd per len X ((w1.alloc (.cells (madeCells #[.int .u64 0] len) 29)).setCell ⟨p, 0, none⟩ (.slice (some ⟨q, 0, none⟩) len len)) ∧ Below p w ((w1.alloc (.cells (madeCells #[.int .u64 0] len) 29)).setCell ⟨p, 0, none⟩ (.slice (some ⟨q, 0, none⟩) len len))) := hid (by
    have hu : Upd p (w1.alloc (.cells (madeCells #[.int .u64 0] len) 29)) ((w1.alloc (.cells (madeCells #[.int .u64 0] len) 29)).setCell ⟨p, 0, none⟩ (.slice (some ⟨q, 0, none⟩) len len)) := (Upd.refl p _).setCell rfl _
    have k1 := H2.out.2.1.set 0 (.slice (some ⟨q, 0, none⟩) len len)
    have hpq' := hpq.out
    exact ⟨⟨k1, H2.out.1.upd hu (by omega), fun _ => (by decide : (0 : Nat) < 18446744073709551616), by omega, H2.out.2.2.1.k⟩, H2.out.2.2.1.upd hu hp2.out.1 hp2.out.2, H2.out.2.2.2.trans (hu.below (Nat.le_refl _) (by rw [World.size_alloc]; have := H1.out.2.2.2; omega))⟩)
  generalize hw2 : World.setCell _ _ _ = w2 at H3 ⊢
  clear hw2 H1 H2 hq
  obtain ⟨X', W, HTT, H0, hne, HCl⟩ := class_below w2
  have y1 : ∀ y, (W y).cell? ⟨p, 0, none⟩ = some (.slice (some ⟨q, 0, none⟩) len len) := fun y => (H3.out.1.below (HTT.out y)).cells.1
  have z1 : ∀ y, (W y).cell? ⟨t, 0, none⟩ = some (.slice (some ⟨b, 0, none⟩) len len) := fun y => (H3.out.2.1.below (HTT.out y)).cells.1
  refine wp_region_class_lastT W rfl (by kernel_rfl) (by kernel_rfl) (by kernel_rfl) H0.out ?_
  dsimp only [List.dropLast, List.getLast]
  repeat (go_big_quiet_step (fail))
  refine wpQuiet_nil ?_
  intro z
  have H4 : Hid (TB p q n wd per len z0 (W z) ∧ TB t b n wd per len X (W z) ∧ Below p w (W z)) := hid ⟨H3.out.1.below (HTT.out z), H3.out.2.1.below (HTT.out z), H3.out.2.2.trans ((HTT.out z).mono (by have := H3.out.1.dom; omega))⟩
  generalize W z = w3 at H4 ⊢
  clear y1 z1 H0 HTT HCl hne H3
  refine wpList_copy_row rfl _ _ rfl len q b z0 X rfl rfl H4.out.1.wb H4.out.2.1.wb ?_
  intro w4 hB hU
  go_wp2
  go_ret
  have hpq' := hpq.out
  exact ⟨p, q, rfl, hid ⟨⟨H4.out.1.tb.upd hU.out H4.out.1.ne, hB.out, H4.out.2.1.lt, H4.out.1.ne, H4.out.1.k⟩, by rw [hp]; exact H4.out.2.2.trans (hU.out.below (by omega) (by have := H4.out.1.dom; omega)), by omega, by omega⟩⟩
end
end Go.Proofs.Qxb6500887aGreat
