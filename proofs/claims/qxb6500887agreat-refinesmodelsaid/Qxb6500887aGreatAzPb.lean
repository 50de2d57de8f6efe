/- FirstDifference and Equal of two arenas. -/
import Derived.Test.Qxb6500887aGreatAzPa
import Derived.Deep.DeepCutAuto
import Derived.Great.BuildSlice
namespace Go.Proofs.Qxb6500887aGreat
open Go.RowKit
set_option linter.unusedSimpArgs false
set_option linter.unusedVariables false
section
variable {S S' : AS} {l l' : AL} {w w' w0 : World}
theorem info_pr : (Tryz.prog.info? 174).map (fun i => (i.zero, i.size, i.bytes)) = some (some (.agg #[.int .u8 0, .pointer none, .pointer none]), 3, 24) := by kernel_rfl
def prL (l l' : AL) (j : Nat) : List Value := [.int .u8 ((j + 2 : Nat) : Int), .pointer (some ⟨l.tT j, 0, none⟩), .pointer (some ⟨l'.tT j, 0, none⟩)]
/-- The row of four pairs. -/
theorem wpList_bsP {ops : Array Oper} {rest : List Oper} {o : Oper} {a : Act} {w : World} {Q : Exit → Act → World → Prop} (hg : o.guard = none) (x0 x1 x2 x3 : Operand) (ho : o.op = .buildSlice 175 4 #[(0, x0), (1, x1), (2, x2), (3, x3)])
    (h0 : a.eval x0 = .agg (prL l l' 0).toArray) (h1 : a.eval x1 = .agg (prL l l' 1).toArray) (h2 : a.eval x2 = .agg (prL l l' 2).toArray) (h3 : a.eval x3 = .agg (prL l l' 3).toArray)
    (h : ∀ g w', w.heap.size = g → w.alloc (.cells (prL l l' 0 ++ prL l l' 1 ++ prL l l' 2 ++ prL l l' 3).toArray 174) = w' → wpList Tryz.prog ops Q rest (a.put o.dst (.slice (some ⟨g, 0, none⟩) 4 4)) w') : wpList Tryz.prog ops Q (o :: rest) a w := by
  obtain ⟨i, hi, he⟩ := Option.map_eq_some_iff.1 info_pr
  simp only [Prod.mk.injEq] at he
  obtain ⟨e1, e2, e3⟩ := he
  refine wpList_buildSlice hg 175 174 4 _ ho (prL l l' 0 ++ prL l l' 1 ++ prL l l' 2 ++ prL l l' 3).toArray i _ Tryz.underlying175 hi e1 (by rw [e2]; decide) (by rw [e2]; decide) ?_ (h _ _ rfl rfl)
  rw [e2]
  simp only [List.map_toArray, List.map_cons, List.map_nil, h0, h1, h2, h3]
  kernel_rfl
/-- Inside FirstDifference. -/
structure FX (w0 : World) (l l' : AL) (S S' : AS) (g : Nat) (w : World) : Prop where
  a : AM l S w
  b : AM l' S' w
  bel : Below w0.heap.size w0 w
  row : Blk w g 174 (prL l l' 0 ++ prL l l' 1 ++ prL l l' 2 ++ prL l l' 3)
theorem FX.below {g : Nat} (h : FX w0 l l' S S' g w) (hb : Below w.heap.size w w') : FX w0 l l' S S' g w' := ⟨h.a.below hb, h.b.below hb, h.bel.trans (hb.mono h.bel.size), h.row.below hb⟩
theorem FX.pair {g j : Nat} (h : FX w0 l l' S S' g w) (hj : j < 4) : w.cell? ⟨g, j * 3, none⟩ = some (.int .u8 ((j + 2 : Nat) : Int)) ∧ w.cell? ⟨g, j * 3 + 1, none⟩ = some (.pointer (some ⟨l.tT j, 0, none⟩)) ∧ w.cell? ⟨g, j * 3 + 2, none⟩ = some (.pointer (some ⟨l'.tT j, 0, none⟩)) := by
  match j, hj with
  | 0, _ => exact ⟨h.row.cell 0, h.row.cell 1, h.row.cell 2⟩
  | 1, _ => exact ⟨h.row.cell 3, h.row.cell 4, h.row.cell 5⟩
  | 2, _ => exact ⟨h.row.cell 6, h.row.cell 7, h.row.cell 8⟩
  | 3, _ => exact ⟨h.row.cell 9, h.row.cell 10, h.row.cell 11⟩
/-- .. with the pair's copy. -/
structure FY (w0 : World) (l l' : AL) (S S' : AS) (g j q : Nat) (w : World) : Prop where
  x : FX w0 l l' S S' g w
  bk : Blk w q 174 (prL l l' j)
theorem FY.below {g j q : Nat} (h : FY w0 l l' S S' g j q w) (hb : Below w.heap.size w w') : FY w0 l l' S S' g j q w' := ⟨h.x.below hb, h.bk.below hb⟩
theorem FY.ps {g j q : Nat} (h : FY w0 l l' S S' g j q w) : w.cell? ⟨q, 0, none⟩ = some (.int .u8 ((j + 2 : Nat) : Int)) ∧ w.cell? ⟨q, 1, none⟩ = some (.pointer (some ⟨l.tT j, 0, none⟩)) ∧ w.cell? ⟨q, 2, none⟩ = some (.pointer (some ⟨l'.tT j, 0, none⟩)) := ⟨h.bk.cell 0, h.bk.cell 1, h.bk.cell 2⟩
theorem tabLenZ {t b n wd per len : Nat} {X : Nat → Nat} (h : TB t b n wd per len X w) : Calls Tryz.prog 152 #[.pointer (some ⟨t, 0, none⟩)] w fun e w' => e = .returned (.int .i64 (n : Int)) ∧ w' = w := by
  obtain ⟨_, a1, _, _, _, _⟩ := h.cells
  clear h
  go_enter Tryz.func152, Tryz.ntmps152
  go_wp2
  go_ret
  exact ⟨rfl, rfl⟩
set_option maxRecDepth 100000 in
set_option maxHeartbeats 4000000 in
theorem fdZ (h : AM l S w) (h' : AM l' S' w) : Calls Tryz.prog 32 #[.pointer (some ⟨l.a, 0, none⟩), .pointer (some ⟨l'.a, 0, none⟩)] w fun e w' => ∃ p i : Nat, e = .returned (.tuple #[.int .u8 (p : Int), .int .i64 (i : Int)]) ∧ Hid (Fd S S' p i ∧ Below w.heap.size w w') := by
  have HX := hid h
  have HY := hid h'
  obtain ⟨a0, a1, a2, a3, a4, _⟩ := h.cells
  obtain ⟨b0, b1, b2, b3, b4, _⟩ := h'.cells
  clear h h'
  go_enter Tryz.func32, Tryz.ntmps32
  go_wp2_with fail
  go_loopw [21] (fun u wr => ∃ (k : Nat), u = .int .i64 (k : Int) ∧ k ≤ 32768 ∧ Hid (eqT k S.W S'.W) ∧ wr = w) (fun u _ => 32768 - (intOf u).toNat)
  case atStart => exact ⟨0, rfl, Nat.zero_le _, hid (fun i hi => by omega), rfl⟩
  case round =>
  obtain ⟨k, rfl, hk, HK, hw_⟩ := hrel
  have hs_ := hw_.symm
  clear hw_
  subst hs_
  by_cases hlt : k < 32768
  · have x0 := HX.out.word hlt
    have y0 := HY.out.word hlt
    have ik : (k : Int) < 32768 := by omega
    by_cases he : S.W k = S'.W k
    · as_aux_lemma =>
      have d0 : (((S.W k : Nat) : Int) != ((S'.W k : Nat) : Int)) = false := by simp [he]
      have HF : Hid (eqT (k + 1) S.W S'.W) := hid (fun i hi => by
        by_cases c : i < k
        · exact HK.out i c
        · rw [show i = k by omega]; exact he)
      clear HK he HX HY a1 a2 a3 a4 b1 b2 b3 b4
      go_wp2
      exact ⟨⟨k + 1, by go_num, by omega, HF, trivial⟩, by simp [intOf]; omega⟩
    · as_aux_lemma =>
      have d0 : (((S.W k : Nat) : Int) != ((S'.W k : Nat) : Int)) = true := by simp; omega
      have HF : Hid (Fd S S' 1 k) := hid (.inr (.inl ⟨rfl, hlt, he, HK.out⟩))
      clear HK he HX HY a1 a2 a3 a4 b1 b2 b3 b4
      go_wp2
      refine bodyPost_ret (results_tmp2 Tryz.results32 _ _ _) rfl ?_
      exact ⟨1, k, rfl, hid ⟨HF.out, Below.refl _ _⟩⟩
  have hkk : k = 32768 := by omega
  subst hkk
  have HW := HK
  clear HK hlt
  go_upto_region 7 with fail
  obtain ⟨X, W, HTT, H0, hne, HCl⟩ := class_below w
  have y1 : ∀ y, (W y).cell? ⟨l.a, 1, none⟩ = some (.pointer (some ⟨l.tc, 0, none⟩)) := fun y => (HX.out.below (HTT.out y)).cells.2.1
  have y2 : ∀ y, (W y).cell? ⟨l.a, 2, none⟩ = some (.pointer (some ⟨l.tm, 0, none⟩)) := fun y => (HX.out.below (HTT.out y)).cells.2.2.1
  have y3 : ∀ y, (W y).cell? ⟨l.a, 3, none⟩ = some (.pointer (some ⟨l.tl, 0, none⟩)) := fun y => (HX.out.below (HTT.out y)).cells.2.2.2.1
  have y4 : ∀ y, (W y).cell? ⟨l.a, 4, none⟩ = some (.pointer (some ⟨l.tt, 0, none⟩)) := fun y => (HX.out.below (HTT.out y)).cells.2.2.2.2.1
  have z1 : ∀ y, (W y).cell? ⟨l'.a, 1, none⟩ = some (.pointer (some ⟨l'.tc, 0, none⟩)) := fun y => (HY.out.below (HTT.out y)).cells.2.1
  have z2 : ∀ y, (W y).cell? ⟨l'.a, 2, none⟩ = some (.pointer (some ⟨l'.tm, 0, none⟩)) := fun y => (HY.out.below (HTT.out y)).cells.2.2.1
  have z3 : ∀ y, (W y).cell? ⟨l'.a, 3, none⟩ = some (.pointer (some ⟨l'.tl, 0, none⟩)) := fun y => (HY.out.below (HTT.out y)).cells.2.2.2.1
  have z4 : ∀ y, (W y).cell? ⟨l'.a, 4, none⟩ = some (.pointer (some ⟨l'.tt, 0, none⟩)) := fun y => (HY.out.below (HTT.out y)).cells.2.2.2.2.1
  clear a0 a1 a2 a3 a4 b0 b1 b2 b3 b4
  refine wp_region_class_tailT W 36 (by kernel_rfl) (by kernel_rfl) (by kernel_rfl) H0.out ?_
  simp only [List.take, List.drop]
  repeat (go_big_quiet_step (fail))
  refine wpQuiet_nil ?_
  intro z
  have HZ : Hid (AM l S (W z) ∧ AM l' S' (W z) ∧ Below w.heap.size w (W z)) := hid ⟨HX.out.below (HTT.out z), HY.out.below (HTT.out z), HTT.out z⟩
  generalize W z = w1 at HZ ⊢
  clear y1 y2 y3 y4 z1 z2 z3 z4 H0 HTT HCl hne HX HY
  refine wpList_bsP (l := l) (l' := l') rfl _ _ _ _ rfl rfl rfl rfl rfl ?_
  intro g w2 hg hw2
  have HF : Hid (FX w l l' S S' g w2) := hid (by
    have kk := Blk.new w1 (prL l l' 0 ++ prL l l' 1 ++ prL l l' 2 ++ prL l l' 3) 174
    rw [hg, hw2] at kk
    have hb : Below w1.heap.size w1 w2 := by rw [← hw2]; exact nbel _ _
    exact ⟨HZ.out.1.below hb, HZ.out.2.1.below hb, HZ.out.2.2.trans (hb.mono HZ.out.2.2.size), kk⟩)
  clear hw2 hg HZ
  go_wp2_with fail
  go_loopw [76] (fun u wv => ∃ (j : Nat), u = .int .i64 (j : Int) ∧ j ≤ 4 ∧ Hid ((∀ j', j' < j → eqT (tN j') (S.te j') (S'.te j')) ∧ FX w l l' S S' g wv)) (fun u _ => 4 - (intOf u).toNat)
  case atStart => exact ⟨0, rfl, Nat.zero_le _, hid ⟨fun j' h => (by omega), HF.out⟩⟩
  case round =>
  clear HF
  obtain ⟨wv, hwv⟩ : ∃ x, x = wr := ⟨_, rfl⟩
  subst hwv
  obtain ⟨j, rfl, hj, HJ⟩ := hrel
  by_cases hlt : j < 4
  rotate_left
  · as_aux_lemma =>
    have hj4 : j = 4 := by omega
    subst hj4
    have HF : Hid (Fd S S' 0 0 ∧ Below w.heap.size w wv) := hid ⟨.inl ⟨rfl, rfl, HW.out, HJ.out.1⟩, HJ.out.2.bel⟩
    clear HJ HW
    go_wp2
    refine bodyPost_ret (results_tmp2 Tryz.results32 _ _ _) rfl ?_
    exact ⟨0, 0, rfl, HF⟩
  obtain ⟨d0, d1, d2⟩ := HJ.out.2.pair hlt
  obtain ⟨q, hq⟩ : ∃ q, wv.heap.size = q := ⟨_, rfl⟩
  have HY : Hid (FY w l l' S S' g j q (wv.alloc (.cells (prL l l' j).toArray 174))) := hid (by
    have kk := Blk.new wv (prL l l' j) 174
    rw [hq] at kk
    exact ⟨HJ.out.2.below (nbel _ _), kk⟩)
  obtain ⟨jp, hjp⟩ : ∃ x : Nat, j + 2 = x := ⟨_, rfl⟩
  have hj5 : jp ≤ 5 := by omega
  dsimp only [prL] at HY
  rw [hjp] at HY d0
  have HJ1 := hid HJ.out.1
  go_upto_region 11 with fail
  (try simp only [hq])
  generalize hwv : World.alloc wv _ = w3 at HY ⊢
  clear hwv hq d0 d1 d2 HJ
  obtain ⟨p0, p1, p2⟩ := HY.out.ps
  rw [hjp] at p0
  have HC := hid (TB.equal (HY.out.x.a.tbj hlt) (HY.out.x.b.tbj hlt))
  go_wp2_with fail
  refine HC.out.mono ?_
  rintro e w4 ⟨r, rfl, HE⟩
  have HY4 := hid (HY.out.below HE.out.2)
  have HEq : Hid (r = true ↔ eqT (tN j) (S.te j) (S'.te j)) := hid HE.out.1
  clear HC HE HY p0 p1 p2
  cases r with
  | true =>
    as_aux_lemma =>
    have HF : Hid ((∀ j', j' < j + 1 → eqT (tN j') (S.te j') (S'.te j')) ∧ FX w l l' S S' g w4) := hid ⟨fun j' h => by
      by_cases c : j' = j
      · rw [c]; exact HEq.out.1 rfl
      · exact HJ1.out j' (by omega), HY4.out.x⟩
    clear HEq HJ1 HY4 HW
    go_wp2
    exact ⟨⟨j + 1, by go_num, by omega, HF⟩, by simp [intOf]; omega⟩
  | false =>
  have HNe : Hid (¬ eqT (tN j) (S.te j) (S'.te j)) := hid (fun h => by have := HEq.out.2 h; cases this)
  clear HEq
  obtain ⟨nn, hnn⟩ : ∃ n, tN j = n := ⟨_, rfl⟩
  have hn2 : nn ≤ 32768 := by
    rw [← hnn]
    match j, hlt with | 0, _ => decide | 1, _ => decide | 2, _ => decide | 3, _ => decide
  have HL := hid (fun wz (hz : FY w l l' S S' g j q wz) => tabLenZ (hz.x.a.tbj hlt))
  have HG1 := hid (fun wz (hz : FY w l l' S S' g j q wz) (i : Nat) (hi : i < tN j) => (hz.x.a.tbj hlt).get i hi)
  have HG2 := hid (fun wz (hz : FY w l l' S S' g j q wz) (i : Nat) (hi : i < tN j) => (hz.x.b.tbj hlt).get i hi)
  rw [hnn] at HL HG1 HG2
  have Hnn := hid hnn
  clear hnn
  go_wp2_with fail
  go_loopw [11] (fun u wi => ∃ (i : Nat), u = .int .i64 (i : Int) ∧ i ≤ nn ∧ Hid (eqT i (S.te j) (S'.te j) ∧ FY w l l' S S' g j q wi)) (fun u _ => nn - (intOf u).toNat)
  case atStart => exact ⟨0, rfl, Nat.zero_le _, hid ⟨fun i hi => (by omega), HY4.out⟩⟩
  case round =>
  clear HY4
  obtain ⟨i, rfl, hi, HI⟩ := hrel
  have HY := hid HI.out.2
  obtain ⟨p0, p1, p2⟩ := HY.out.ps
  rw [hjp] at p0
  go_wp2_with fail
  refine (HL.out _ HY.out).mono ?_
  rintro e_ w_ ⟨rfl, hw_⟩
  have hs_ := hw_.symm
  clear hw_
  subst hs_
  by_cases hin : i < nn
  rotate_left
  · exact (HNe.out (fun x hx => HI.out.1 x (by rw [Hnn.out] at hx; omega))).elim
  have di : decide ((i : Int) < (nn : Int)) = true := decide_eq_true (by omega)
  go_wp2_with fail
  refine (HG1.out _ HY.out i hin).mono ?_
  rintro e w5 ⟨rfl, hd5⟩
  have HY5 := hid (HY.out.below (hd5.below _))
  clear hd5 p0 p1 p2
  obtain ⟨p0, p1, p2⟩ := HY5.out.ps
  rw [hjp] at p0
  go_wp2_with fail
  refine (HG2.out _ HY5.out i hin).mono ?_
  rintro e w6 ⟨rfl, hd6⟩
  have HY6 := hid (HY5.out.below (hd6.below _))
  clear hd6 p0 p1 p2 HY5 HY
  obtain ⟨p0, p1, p2⟩ := HY6.out.ps
  rw [hjp] at p0
  obtain ⟨x1, hx1⟩ : ∃ x, S.te j i = x := ⟨_, rfl⟩
  obtain ⟨x2, hx2⟩ : ∃ x, S'.te j i = x := ⟨_, rfl⟩
  rw [show eN (tWd j) (tPr j) (S.tX j) i = x1 from hx1, show eN (tWd j) (tPr j) (S'.tX j) i = x2 from hx2]
  by_cases he : x1 = x2
  · have d0 : (((x1 : Nat) : Int) != ((x2 : Nat) : Int)) = false := by simp [he]
    have HF : Hid (eqT (i + 1) (S.te j) (S'.te j) ∧ FY w l l' S S' g j q w6) := hid ⟨fun y hy => by
        by_cases c : y < i
        · exact HI.out.1 y c
        · rw [show y = i by omega, hx1, hx2]; exact he, HY6.out⟩
    clear HI he HY6 hx1 hx2 HL HG1 HG2 HNe HJ1 HW
    go_wp2
    exact ⟨⟨i + 1, by go_num, by omega, HF⟩, by simp [intOf]; omega⟩
  · have d0 : (((x1 : Nat) : Int) != ((x2 : Nat) : Int)) = true := by simp; omega
    have HF : Hid (Fd S S' jp i ∧ Below w.heap.size w w6) := hid ⟨.inr (.inr ⟨j, hlt, hjp.symm, HW.out, HJ1.out, by rw [Hnn.out]; exact hin, by rw [hx1, hx2]; exact he, HI.out.1⟩), HY6.out.x.bel⟩
    clear HI he HY6 hx1 hx2 HL HG1 HG2 HNe HJ1 HW
    go_wp2
    refine bodyPost_ret (results_tmp2 Tryz.results32 _ _ _) rfl ?_
    exact ⟨jp, i, rfl, HF⟩
end
end Go.Proofs.Qxb6500887aGreat
