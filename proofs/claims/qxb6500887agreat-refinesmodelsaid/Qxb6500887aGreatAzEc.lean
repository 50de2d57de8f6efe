/- CopyFrom and Clone of an arena (written by tools/mk_azec.py). -/
import Derived.Test.Qxb6500887aGreatAzEb
import Derived.Test.Qxb6500887aGreatAzPc
import Derived.Test.Qxb6500887aGreatTree
import Derived.Deep.DeepCutAuto
namespace Go.Proofs.Qxb6500887aGreat
open Go.RowKit
set_option linter.unusedSimpArgs false
set_option linter.unusedVariables false
/-- What CopyFrom leaves. -/
def cpS (S S' : AS) : AS := ⟨S'.W, S'.C, S'.M, S'.L, S'.T, (S.v + 1) % 18446744073709551616⟩
section
variable {l l' : AL} {S S' S2 : AS} {w w' w0 : World}
theorem AM.setW (h : AM l S w) {W2 : Nat → Nat} (hb : Blk w' l.w 29 (wdC 32768 W2)) (hl : ∀ i, W2 i < 18446744073709551616) (hu : Upd l.w w w') : AM l { S with W := W2 } w' := by
  obtain ⟨e1, e2, e3, e4, e5, e6, e7, e8, e9⟩ := h.ne
  obtain ⟨n1, n2, n3, n4, _⟩ := h.nds
  have t1 : l.tc ≠ l.w := h.tc.tb.tneA h.ws (by decide)
  have t2 : l.tm ≠ l.w := h.tm.tb.tneA h.ws (by decide)
  have t3 : l.tl ≠ l.w := h.tl.tb.tneA h.ws (by decide)
  have t4 : l.tt ≠ l.w := h.tt.tb.tneA h.ws (by decide)
  exact ⟨h.a.upd hu (Ne.symm e1), hb, hl, h.tc.upd hu t1 (Ne.symm n1), h.tm.upd hu t2 (Ne.symm n2), h.tl.upd hu t3 (Ne.symm n3), h.tt.upd hu t4 (Ne.symm n4), h.nd, h.vl⟩
theorem AU.setW (h : AU l w0 S w) {W2 : Nat → Nat} (hb : Blk w' l.w 29 (wdC 32768 W2)) (hl : ∀ i, W2 i < 18446744073709551616) (hu : Upd l.w w w') : AU l w0 { S with W := W2 } w' := ⟨h.m.setW hb hl hu, h.u.trans (UL.ofUpd hu l.wr_w)⟩
/-- Inside CopyFrom. -/
structure CX (w0 : World) (l l' : AL) (S S' : AS) (w : World) : Prop where
  au : AU l w0 S w
  b : AM l' S' w
  dj : ∀ g ∈ l'.all, g ∉ l.all
theorem CX.below (h : CX w0 l l' S S' w) (hb : Below w.heap.size w w') : CX w0 l l' S S' w' := ⟨h.au.below hb, h.b.below hb, h.dj⟩
theorem CX.to (h : CX w0 l l' S S' w) (hu : AU l w0 S2 w') (hw : UL l.wr w w') : CX w0 l l' S2 S' w' := ⟨hu, h.b.of (fun g hg hlt => hw.block g hlt (fun hm => h.dj g hg (AL.wr_all hm))), h.dj⟩
set_option maxRecDepth 100000 in
set_option maxHeartbeats 2000000 in
theorem arCopyFromZ (h : AM l S w) (h' : AM l' S' w) (dj : ∀ g ∈ l'.all, g ∉ l.all) : Calls Tryz.prog 34 #[.pointer (some ⟨l.a, 0, none⟩), .pointer (some ⟨l'.a, 0, none⟩)] w fun e w' => e = .returned (.tuple #[]) ∧ Hid (AU l w (cpS S S') w') := by
  have HT := hid (touchZ h)
  have H0 : Hid (CX w l l' S S' w) := hid ⟨AU.start h, h', dj⟩
  clear h h' dj
  go_enter Tryz.func34, Tryz.ntmps34
  go_wp2_with fail
  refine HT.out.mono ?_
  rintro e w1 ⟨rfl, HU⟩
  have H1 : Hid (CX w l l' S.tch S' w1) := hid (H0.out.to HU.out HU.out.u)
  clear H0 HU HT
  go_upto_region 1 with fail
  obtain ⟨X1, W, HTT, HH0, hne, HCl⟩ := class_below w1
  have HY := hid (fun y => H1.out.below (HTT.out y))
  have y1 : ∀ y, (W y).cell? ⟨l.a, 0, none⟩ = some (.slice (some ⟨l.w, 0, none⟩) 32768 32768) := fun y => (HY.out y).au.m.cells.1
  have z1 : ∀ y, (W y).cell? ⟨l'.a, 0, none⟩ = some (.slice (some ⟨l'.w, 0, none⟩) 32768 32768) := fun y => (HY.out y).b.cells.1
  refine wp_region_class_lastT W rfl (by kernel_rfl) (by kernel_rfl) (by kernel_rfl) HH0.out ?_
  dsimp only [List.dropLast, List.getLast]
  repeat (go_big_quiet_step (fail))
  refine wpQuiet_nil ?_
  intro z
  have HZ := hid (HY.out z)
  generalize W z = wz at HZ ⊢
  clear y1 z1 HH0 HTT HCl hne HY H1
  refine wpList_copy_row rfl _ _ rfl 32768 l.w l'.w S.tch.W S'.W rfl rfl HZ.out.au.m.ws HZ.out.b.ws ?_
  intro w2 hB hU
  have H2 : Hid (CX w l l' { S.tch with W := S'.W } S' w2) := hid (HZ.out.to (HZ.out.au.setW hB.out HZ.out.b.wl hU.out) (UL.ofUpd hU.out l.wr_w))
  clear HZ hB hU
  simp only [Act.put, List.setIfInBounds_toArray, List.set_cons_succ, List.set_cons_zero]
  go_upto_region 2 with fail
  obtain ⟨X2, W, HTT, HH0, hne, HCl⟩ := class_below w2
  have HY := hid (fun y => H2.out.below (HTT.out y))
  have y1 : ∀ y, (W y).cell? ⟨l.a, 1, none⟩ = some (.pointer (some ⟨l.tc, 0, none⟩)) := fun y => (HY.out y).au.m.cells.2.1
  have z1 : ∀ y, (W y).cell? ⟨l'.a, 1, none⟩ = some (.pointer (some ⟨l'.tc, 0, none⟩)) := fun y => (HY.out y).b.cells.2.1
  refine wp_region_class_lastT W rfl (by kernel_rfl) (by kernel_rfl) (by kernel_rfl) HH0.out ?_
  dsimp only [List.dropLast, List.getLast]
  repeat (go_big_quiet_step (fail))
  refine wpQuiet_nil ?_
  intro z
  have HZ := hid (HY.out z)
  generalize W z = wz at HZ ⊢
  clear y1 z1 HH0 HTT HCl hne HY H2
  have HC := hid (HZ.out.au.m.tc.copyFrom HZ.out.b.tc)
  go_wp2_with fail
  refine HC.out.mono ?_
  rintro e w3 ⟨rfl, HB⟩
  have H3 : Hid (CX w l l' { { S.tch with W := S'.W } with C := S'.C } S' w3) := hid (HZ.out.to (HZ.out.au.setC HB.out.1 HB.out.2) (UL.ofUpd HB.out.2 l.wr_c))
  clear HC HB HZ
  go_upto_region 3 with fail
  obtain ⟨X3, W, HTT, HH0, hne, HCl⟩ := class_below w3
  have HY := hid (fun y => H3.out.below (HTT.out y))
  have y1 : ∀ y, (W y).cell? ⟨l.a, 2, none⟩ = some (.pointer (some ⟨l.tm, 0, none⟩)) := fun y => (HY.out y).au.m.cells.2.2.1
  have z1 : ∀ y, (W y).cell? ⟨l'.a, 2, none⟩ = some (.pointer (some ⟨l'.tm, 0, none⟩)) := fun y => (HY.out y).b.cells.2.2.1
  refine wp_region_class_lastT W rfl (by kernel_rfl) (by kernel_rfl) (by kernel_rfl) HH0.out ?_
  dsimp only [List.dropLast, List.getLast]
  repeat (go_big_quiet_step (fail))
  refine wpQuiet_nil ?_
  intro z
  have HZ := hid (HY.out z)
  generalize W z = wz at HZ ⊢
  clear y1 z1 HH0 HTT HCl hne HY H3
  have HC := hid (HZ.out.au.m.tm.copyFrom HZ.out.b.tm)
  go_wp2_with fail
  refine HC.out.mono ?_
  rintro e w4 ⟨rfl, HB⟩
  have H4 : Hid (CX w l l' { { { S.tch with W := S'.W } with C := S'.C } with M := S'.M } S' w4) := hid (HZ.out.to (HZ.out.au.setM HB.out.1 HB.out.2) (UL.ofUpd HB.out.2 l.wr_m))
  clear HC HB HZ
  go_upto_region 4 with fail
  obtain ⟨X4, W, HTT, HH0, hne, HCl⟩ := class_below w4
  have HY := hid (fun y => H4.out.below (HTT.out y))
  have y1 : ∀ y, (W y).cell? ⟨l.a, 3, none⟩ = some (.pointer (some ⟨l.tl, 0, none⟩)) := fun y => (HY.out y).au.m.cells.2.2.2.1
  have z1 : ∀ y, (W y).cell? ⟨l'.a, 3, none⟩ = some (.pointer (some ⟨l'.tl, 0, none⟩)) := fun y => (HY.out y).b.cells.2.2.2.1
  refine wp_region_class_lastT W rfl (by kernel_rfl) (by kernel_rfl) (by kernel_rfl) HH0.out ?_
  dsimp only [List.dropLast, List.getLast]
  repeat (go_big_quiet_step (fail))
  refine wpQuiet_nil ?_
  intro z
  have HZ := hid (HY.out z)
  generalize W z = wz at HZ ⊢
  clear y1 z1 HH0 HTT HCl hne HY H4
  have HC := hid (HZ.out.au.m.tl.copyFrom HZ.out.b.tl)
  go_wp2_with fail
  refine HC.out.mono ?_
  rintro e w5 ⟨rfl, HB⟩
  have H5 : Hid (CX w l l' { { { { S.tch with W := S'.W } with C := S'.C } with M := S'.M } with L := S'.L } S' w5) := hid (HZ.out.to (HZ.out.au.setL HB.out.1 HB.out.2) (UL.ofUpd HB.out.2 l.wr_l))
  clear HC HB HZ
  go_upto_region 5 with fail
  obtain ⟨X5, W, HTT, HH0, hne, HCl⟩ := class_below w5
  have HY := hid (fun y => H5.out.below (HTT.out y))
  have y1 : ∀ y, (W y).cell? ⟨l.a, 4, none⟩ = some (.pointer (some ⟨l.tt, 0, none⟩)) := fun y => (HY.out y).au.m.cells.2.2.2.2.1
  have z1 : ∀ y, (W y).cell? ⟨l'.a, 4, none⟩ = some (.pointer (some ⟨l'.tt, 0, none⟩)) := fun y => (HY.out y).b.cells.2.2.2.2.1
  refine wp_region_class_lastT W rfl (by kernel_rfl) (by kernel_rfl) (by kernel_rfl) HH0.out ?_
  dsimp only [List.dropLast, List.getLast]
  repeat (go_big_quiet_step (fail))
  refine wpQuiet_nil ?_
  intro z
  have HZ := hid (HY.out z)
  generalize W z = wz at HZ ⊢
  clear y1 z1 HH0 HTT HCl hne HY H5
  have HC := hid (HZ.out.au.m.tt.copyFrom HZ.out.b.tt)
  go_wp2_with fail
  refine HC.out.mono ?_
  rintro e w6 ⟨rfl, HB⟩
  have H6 : Hid (CX w l l' { { { { { S.tch with W := S'.W } with C := S'.C } with M := S'.M } with L := S'.L } with T := S'.T } S' w6) := hid (HZ.out.to (HZ.out.au.setT HB.out.1 HB.out.2) (UL.ofUpd HB.out.2 l.wr_t))
  clear HC HB HZ
  go_wp2
  exact bodyPost_end (v := .tuple #[]) (by simp [results, Tryz.results34, go_sem]) rfl ⟨rfl, hid H6.out.au⟩
/-- What has been cloned so far. -/
structure NY (w : World) (l0 : AL) (S : AS) (g : Option Nat) (ps : List (Nat × Nat)) (x : World) : Prop where
  am : AM l0 S x
  bel : Below w.heap.size w x
  ws : ∀ q, g = some q → Blk x q 29 (wdC 32768 z0)
  tb : ∀ j p, ps[j]? = some p → TB p.1 p.2 (tN j) (tWd j) (tPr j) (tLn j) (S.tX j) x ∧ w.heap.size ≤ p.1
  nd : (g.toList ++ ps.map (·.2)).Nodup
  rg : ∀ d ∈ g.toList ++ ps.map (·.2), w.heap.size ≤ d ∧ d < x.heap.size
variable {x y : World} {g : Option Nat} {ps : List (Nat × Nat)} {t b j : Nat}
theorem NY.start (h : AM l S w) : NY w l S none [] w := ⟨h, Below.refl _ _, fun _ e => (by cases e), fun _ _ e => (by simp at e), by simp, by simp⟩
theorem NY.below (h : NY w l S g ps x) (hb : Below x.heap.size x y) : NY w l S g ps y :=
  ⟨h.am.below hb, h.bel.trans (hb.mono h.bel.size), fun q e => (h.ws q e).below hb, fun j p e => ⟨(h.tb j p e).1.below hb, (h.tb j p e).2⟩, h.nd, fun d hd => ⟨(h.rg d hd).1, Nat.lt_of_lt_of_le (h.rg d hd).2 hb.size⟩⟩
theorem NY.words (h : NY w l S none ps x) : NY w l S (some x.heap.size) ps (x.alloc (.cells (madeCells #[.int .u64 0] 32768) 29)) := by
  have hb := nbel x (.cells (madeCells #[.int .u64 0] 32768) 29)
  have k := h.below hb
  refine ⟨k.am, k.bel, fun q e => ?_, k.tb, ?_, ?_⟩
  · cases e
    rw [made_u64, ← repl_wdC]
    exact Blk.new x _ _
  · refine List.nodup_cons.2 ⟨fun hm => ?_, h.nd⟩
    have := (h.rg _ hm).2
    omega
  · intro d hd
    rcases List.mem_cons.1 hd with e | e
    · rw [e]
      exact ⟨h.bel.size, by rw [World.size_alloc]; omega⟩
    · exact k.rg d e
theorem NY.add (h : NY w l S g ps x) (hj : ps.length = j) (hT : TB t b (tN j) (tWd j) (tPr j) (tLn j) (S.tX j) y) (hb : Below x.heap.size x y) (ht : x.heap.size ≤ t) (hbb : x.heap.size ≤ b) : NY w l S g (ps ++ [(t, b)]) y := by
  have k := h.below hb
  have hsz := h.bel.size
  refine ⟨k.am, k.bel, k.ws, fun i p e => ?_, ?_, ?_⟩
  · by_cases c : i < ps.length
    · rw [List.getElem?_append_left c] at e
      exact k.tb i p e
    · rw [List.getElem?_append_right (by omega)] at e
      have : i - ps.length = 0 := by
        by_cases c2 : i - ps.length = 0
        · exact c2
        · rw [List.getElem?_eq_none (by simp; omega)] at e; cases e
      rw [this] at e
      simp at e
      subst e
      have : i = j := by omega
      subst this
      exact ⟨hT, by omega⟩
  · rw [List.map_append, ← List.append_assoc]
    refine List.nodup_append.2 ⟨h.nd, by simp, fun a ha c hc e => ?_⟩
    simp at hc
    have := (h.rg a ha).2
    omega
  · intro d hd
    rw [List.map_append, ← List.append_assoc] at hd
    rcases List.mem_append.1 hd with c | c
    · exact k.rg d c
    · simp at c
      rw [c]
      exact ⟨by omega, hT.dom.2⟩
theorem NY.arena {q c1 c2 m1 m2 l1 l2 t1 t2 : Nat} {v : Nat} (h : NY w l S (some q) [(c1, c2), (m1, m2), (l1, l2), (t1, t2)] x) (hv : S.v = v) :
    ∃ r : AL, r.a = x.heap.size ∧ Hid (AM r { S with W := z0 } (x.alloc (.cells #[.slice (some ⟨q, 0, none⟩) 32768 32768, .pointer (some ⟨c1, 0, none⟩), .pointer (some ⟨m1, 0, none⟩), .pointer (some ⟨l1, 0, none⟩), .pointer (some ⟨t1, 0, none⟩), .int .u64 (v : Int)] 105)) ∧ AM l S (x.alloc (.cells #[.slice (some ⟨q, 0, none⟩) 32768 32768, .pointer (some ⟨c1, 0, none⟩), .pointer (some ⟨m1, 0, none⟩), .pointer (some ⟨l1, 0, none⟩), .pointer (some ⟨t1, 0, none⟩), .int .u64 (v : Int)] 105)) ∧ Below w.heap.size w (x.alloc (.cells #[.slice (some ⟨q, 0, none⟩) 32768 32768, .pointer (some ⟨c1, 0, none⟩), .pointer (some ⟨m1, 0, none⟩), .pointer (some ⟨l1, 0, none⟩), .pointer (some ⟨t1, 0, none⟩), .int .u64 (v : Int)] 105)) ∧ r.above w.heap.size) := by
  subst hv
  have k := h.below (nbel x (.cells #[.slice (some ⟨q, 0, none⟩) 32768 32768, .pointer (some ⟨c1, 0, none⟩), .pointer (some ⟨m1, 0, none⟩), .pointer (some ⟨l1, 0, none⟩), .pointer (some ⟨t1, 0, none⟩), .int .u64 (S.v : Int)] 105))
  have k0 := k.tb 0 _ rfl
  have k1 := k.tb 1 _ rfl
  have k2 := k.tb 2 _ rfl
  have k3 := k.tb 3 _ rfl
  refine ⟨⟨x.heap.size, q, c1, c2, m1, m2, l1, l2, t1, t2⟩, rfl, hid ⟨⟨Blk.new x _ _, k.ws q rfl, fun i => (by decide : (0 : Nat) < 18446744073709551616), k0.1, k1.1, k2.1, k3.1, ?_, h.am.vl⟩, k.am, k.bel, h.bel.size, ?_, k0.2, ?_, k1.2, ?_, k2.2, ?_, k3.2, ?_⟩⟩
  · have := h.nd
    simpa [AL.ds] using this
  · exact (h.rg q (by simp)).1
  · exact (h.rg c2 (by simp)).1
  · exact (h.rg m2 (by simp)).1
  · exact (h.rg l2 (by simp)).1
  · exact (h.rg t2 (by simp)).1
attribute [local irreducible] madeCells in
set_option maxRecDepth 100000 in
set_option maxHeartbeats 4000000 in
theorem arCloneZ (h : AM l S w) : Calls Tryz.prog 33 #[.pointer (some ⟨l.a, 0, none⟩)] w fun e w' => ∃ r : AL, e = .returned (.pointer (some ⟨r.a, 0, none⟩)) ∧ Hid (AM r S w' ∧ Below w.heap.size w w' ∧ r.above w.heap.size) := by
  have hmk : ∀ w : World, (Instr.makeSlice 53 (.int .i64 32768) (.int .i64 32768)).run Tryz.prog w = .ok (.slice (some ⟨w.heap.size, 0, none⟩) 32768 32768) (w.alloc (.cells (madeCells #[.int .u64 0] 32768) 29)) := run_make_row' (P := Tryz.prog) 53 29 (.int .u64 0) 8 (by kernel_rfl) info_u64 rfl .i64 .i64 32768 (by decide) (by decide)
  have P0 : Hid (NY w l S none [] w) := hid (NY.start h)
  obtain ⟨v, hv⟩ : ∃ v, S.v = v := ⟨_, rfl⟩
  have Hv := hid hv
  have HCL : Hid (∀ wz j, j < 4 → AM l S wz → Calls Tryz.prog 154 #[.pointer (some ⟨l.tT j, 0, none⟩)] wz fun e w' => ∃ t' b' : Nat, e = .returned (.pointer (some ⟨t', 0, none⟩)) ∧ Hid (TB t' b' (tN j) (tWd j) (tPr j) (tLn j) (S.tX j) w' ∧ Below wz.heap.size wz w' ∧ wz.heap.size ≤ t' ∧ wz.heap.size ≤ b')) := hid (fun wz j hj hz => (hz.tbj hj).clone)
  have HA := hid h
  clear h hv
  go_enter Tryz.func33, Tryz.ntmps33
  go_upto_region 1 with fail
  go_cut [3] from 4 to 35 (fun u wd => ∃ r : AL, u = .pointer (some ⟨r.a, 0, none⟩) ∧ Hid (AM r { S with W := z0 } wd ∧ AM l S wd ∧ Below w.heap.size w wd ∧ r.above w.heap.size))
  case first =>
    refine wp_region_tree (fun wz => AM l S wz) 33 [0, 1, 2, 3, 4, 6, 7, 8, 9, 11, 12, 13, 14, 16, 17, 18, 19, 21, 22, 23, 24, 26, 27, 28, 29] (.two 5 (.one 10 (.one 15 (.one 20 (.one 25 (.one 30 (.one 31 (.one 32 .leaf))))))) 10 (.two 5 (.one 15 (.one 20 (.one 25 (.one 30 (.one 31 (.one 32 .leaf)))))) 15 (.two 5 (.one 20 (.one 25 (.one 30 (.one 31 (.one 32 .leaf))))) 20 (.two 5 (.one 25 (.one 30 (.one 31 (.one 32 .leaf)))) 25 (.one 5 (.one 30 (.one 31 (.one 32 .leaf)))))))) rfl (by kernel_rfl) (by kernel_rfl) (fun d _ _ _ _ h => by cases d <;> exact h) (HA.out.below (Drew.below ⟨1, rfl⟩ _)) ?_
    apply Exists.intro
    refine ⟨?_, ?_⟩
    · intro W hW
      have a0 : ∀ u, (W u).cell? ⟨l.a, 0, none⟩ = some (.slice (some ⟨l.w, 0, none⟩) 32768 32768) := fun u => (hW u).cells.1
      have a1 : ∀ u, (W u).cell? ⟨l.a, 1, none⟩ = some (.pointer (some ⟨l.tc, 0, none⟩)) := fun u => (hW u).cells.2.1
      have a2 : ∀ u, (W u).cell? ⟨l.a, 2, none⟩ = some (.pointer (some ⟨l.tm, 0, none⟩)) := fun u => (hW u).cells.2.2.1
      have a3 : ∀ u, (W u).cell? ⟨l.a, 3, none⟩ = some (.pointer (some ⟨l.tl, 0, none⟩)) := fun u => (hW u).cells.2.2.2.1
      have a4 : ∀ u, (W u).cell? ⟨l.a, 4, none⟩ = some (.pointer (some ⟨l.tt, 0, none⟩)) := fun u => (hW u).cells.2.2.2.2.1
      have a5 : ∀ u, (W u).cell? ⟨l.a, 5, none⟩ = some (.int .u64 (v : Int)) := fun u => by rw [← Hv.out]; exact (hW u).cells.2.2.2.2.2
      clear hW
      simp only [List.take, opsAt, List.drop, List.cons_append, List.nil_append]
      repeat (go_big_quiet_step (fail))
      exact rfl
    have P1 : Hid (NY w l S none [] w.drew) := hid (P0.out.below (Drew.below ⟨1, rfl⟩ _))
    generalize w.drew = wd at P1 ⊢
    clear HA P0
    simp only [List.take, List.drop, opsAt, List.cons_append, List.nil_append, wpTr]
    refine ⟨?_, ?_⟩
    · obtain ⟨q1, hq1⟩ : ∃ q, wd.heap.size = q := ⟨_, rfl⟩
      have Q1 : Hid (NY w l S (some q1) [] (wd.alloc (.cells (madeCells #[.int .u64 0] 32768) 29))) := hid (by have := P1.out.words; rw [hq1] at this; exact this)
      go_wp2_with fail
      (try simp only [hq1])
      generalize hx : World.alloc wd _ = x1 at Q1 ⊢
      clear hx hq1
      refine ⟨Q1.out.am, ?_⟩
      simp only [List.take, List.drop, opsAt, List.cons_append, List.nil_append, wpTr]
      go_wp2_with fail
      refine (HCL.out _ 0 (by decide) Q1.out.am).mono ?_
      rintro e x2 ⟨t2, b2, rfl, HB⟩
      have Q2 : Hid (NY w l S (some q1) [(t2, b2)] x2) := hid (Q1.out.add rfl HB.out.1 HB.out.2.1 HB.out.2.2.1 HB.out.2.2.2)
      clear HB
      go_wp2_with fail
      refine ⟨Q2.out.am, ?_⟩
      simp only [List.take, List.drop, opsAt, List.cons_append, List.nil_append, wpTr]
      go_wp2_with fail
      refine (HCL.out _ 1 (by decide) Q2.out.am).mono ?_
      rintro e x3 ⟨t3, b3, rfl, HB⟩
      have Q3 : Hid (NY w l S (some q1) [(t2, b2), (t3, b3)] x3) := hid (Q2.out.add rfl HB.out.1 HB.out.2.1 HB.out.2.2.1 HB.out.2.2.2)
      clear HB
      go_wp2_with fail
      refine ⟨Q3.out.am, ?_⟩
      simp only [List.take, List.drop, opsAt, List.cons_append, List.nil_append, wpTr]
      go_wp2_with fail
      refine (HCL.out _ 2 (by decide) Q3.out.am).mono ?_
      rintro e x4 ⟨t4, b4, rfl, HB⟩
      have Q4 : Hid (NY w l S (some q1) [(t2, b2), (t3, b3), (t4, b4)] x4) := hid (Q3.out.add rfl HB.out.1 HB.out.2.1 HB.out.2.2.1 HB.out.2.2.2)
      clear HB
      go_wp2_with fail
      refine ⟨Q4.out.am, ?_⟩
      simp only [List.take, List.drop, opsAt, List.cons_append, List.nil_append, wpTr]
      go_wp2_with fail
      refine (HCL.out _ 3 (by decide) Q4.out.am).mono ?_
      rintro e x5 ⟨t5, b5, rfl, HB⟩
      have Q5 : Hid (NY w l S (some q1) [(t2, b2), (t3, b3), (t4, b4), (t5, b5)] x5) := hid (Q4.out.add rfl HB.out.1 HB.out.2.1 HB.out.2.2.1 HB.out.2.2.2)
      clear HB
      go_wp2_with fail
      refine ⟨Q5.out.am, ?_⟩
      simp only [List.take, List.drop, opsAt, List.cons_append, List.nil_append, wpTr]
      obtain ⟨r, hr, HR⟩ := Q5.out.arena Hv.out
      go_wp2_with fail
      refine ⟨Q5.out.am, ?_⟩
      simp only [List.take, List.drop, opsAt, List.cons_append, List.nil_append, wpTr]
      go_wp2_with fail
      refine ⟨HR.out.2.1, ?_⟩
      simp only [List.take, List.drop, opsAt, List.cons_append, List.nil_append, wpTr]
      go_wp2_with fail
      refine ⟨HR.out.2.1, ?_⟩
      simp only [QN, wpTr]
      go_wp2
      go_meet
      case rel => exact ⟨r, by rw [hr], HR⟩
    · go_wp2_with fail
      refine (HCL.out _ 0 (by decide) P1.out.am).mono ?_
      rintro e x7 ⟨t7, b7, rfl, HB⟩
      have Q7 : Hid (NY w l S none [(t7, b7)] x7) := hid (P1.out.add rfl HB.out.1 HB.out.2.1 HB.out.2.2.1 HB.out.2.2.2)
      clear HB
      go_wp2_with fail
      refine ⟨Q7.out.am, ?_⟩
      simp only [List.take, List.drop, opsAt, List.cons_append, List.nil_append, wpTr]
      refine ⟨?_, ?_⟩
      · obtain ⟨q8, hq8⟩ : ∃ q, x7.heap.size = q := ⟨_, rfl⟩
        have Q8 : Hid (NY w l S (some q8) [(t7, b7)] (x7.alloc (.cells (madeCells #[.int .u64 0] 32768) 29))) := hid (by have := Q7.out.words; rw [hq8] at this; exact this)
        go_wp2_with fail
        (try simp only [hq8])
        generalize hx : World.alloc x7 _ = x8 at Q8 ⊢
        clear hx hq8
        refine ⟨Q8.out.am, ?_⟩
        simp only [List.take, List.drop, opsAt, List.cons_append, List.nil_append, wpTr]
        go_wp2_with fail
        refine (HCL.out _ 1 (by decide) Q8.out.am).mono ?_
        rintro e x9 ⟨t9, b9, rfl, HB⟩
        have Q9 : Hid (NY w l S (some q8) [(t7, b7), (t9, b9)] x9) := hid (Q8.out.add rfl HB.out.1 HB.out.2.1 HB.out.2.2.1 HB.out.2.2.2)
        clear HB
        go_wp2_with fail
        refine ⟨Q9.out.am, ?_⟩
        simp only [List.take, List.drop, opsAt, List.cons_append, List.nil_append, wpTr]
        go_wp2_with fail
        refine (HCL.out _ 2 (by decide) Q9.out.am).mono ?_
        rintro e x10 ⟨t10, b10, rfl, HB⟩
        have Q10 : Hid (NY w l S (some q8) [(t7, b7), (t9, b9), (t10, b10)] x10) := hid (Q9.out.add rfl HB.out.1 HB.out.2.1 HB.out.2.2.1 HB.out.2.2.2)
        clear HB
        go_wp2_with fail
        refine ⟨Q10.out.am, ?_⟩
        simp only [List.take, List.drop, opsAt, List.cons_append, List.nil_append, wpTr]
        go_wp2_with fail
        refine (HCL.out _ 3 (by decide) Q10.out.am).mono ?_
        rintro e x11 ⟨t11, b11, rfl, HB⟩
        have Q11 : Hid (NY w l S (some q8) [(t7, b7), (t9, b9), (t10, b10), (t11, b11)] x11) := hid (Q10.out.add rfl HB.out.1 HB.out.2.1 HB.out.2.2.1 HB.out.2.2.2)
        clear HB
        go_wp2_with fail
        refine ⟨Q11.out.am, ?_⟩
        simp only [List.take, List.drop, opsAt, List.cons_append, List.nil_append, wpTr]
        obtain ⟨r, hr, HR⟩ := Q11.out.arena Hv.out
        go_wp2_with fail
        refine ⟨Q11.out.am, ?_⟩
        simp only [List.take, List.drop, opsAt, List.cons_append, List.nil_append, wpTr]
        go_wp2_with fail
        refine ⟨HR.out.2.1, ?_⟩
        simp only [List.take, List.drop, opsAt, List.cons_append, List.nil_append, wpTr]
        go_wp2_with fail
        refine ⟨HR.out.2.1, ?_⟩
        simp only [QN, wpTr]
        go_wp2
        go_meet
        case rel => exact ⟨r, by rw [hr], HR⟩
      · go_wp2_with fail
        refine (HCL.out _ 1 (by decide) Q7.out.am).mono ?_
        rintro e x13 ⟨t13, b13, rfl, HB⟩
        have Q13 : Hid (NY w l S none [(t7, b7), (t13, b13)] x13) := hid (Q7.out.add rfl HB.out.1 HB.out.2.1 HB.out.2.2.1 HB.out.2.2.2)
        clear HB
        go_wp2_with fail
        refine ⟨Q13.out.am, ?_⟩
        simp only [List.take, List.drop, opsAt, List.cons_append, List.nil_append, wpTr]
        refine ⟨?_, ?_⟩
        · obtain ⟨q14, hq14⟩ : ∃ q, x13.heap.size = q := ⟨_, rfl⟩
          have Q14 : Hid (NY w l S (some q14) [(t7, b7), (t13, b13)] (x13.alloc (.cells (madeCells #[.int .u64 0] 32768) 29))) := hid (by have := Q13.out.words; rw [hq14] at this; exact this)
          go_wp2_with fail
          (try simp only [hq14])
          generalize hx : World.alloc x13 _ = x14 at Q14 ⊢
          clear hx hq14
          refine ⟨Q14.out.am, ?_⟩
          simp only [List.take, List.drop, opsAt, List.cons_append, List.nil_append, wpTr]
          go_wp2_with fail
          refine (HCL.out _ 2 (by decide) Q14.out.am).mono ?_
          rintro e x15 ⟨t15, b15, rfl, HB⟩
          have Q15 : Hid (NY w l S (some q14) [(t7, b7), (t13, b13), (t15, b15)] x15) := hid (Q14.out.add rfl HB.out.1 HB.out.2.1 HB.out.2.2.1 HB.out.2.2.2)
          clear HB
          go_wp2_with fail
          refine ⟨Q15.out.am, ?_⟩
          simp only [List.take, List.drop, opsAt, List.cons_append, List.nil_append, wpTr]
          go_wp2_with fail
          refine (HCL.out _ 3 (by decide) Q15.out.am).mono ?_
          rintro e x16 ⟨t16, b16, rfl, HB⟩
          have Q16 : Hid (NY w l S (some q14) [(t7, b7), (t13, b13), (t15, b15), (t16, b16)] x16) := hid (Q15.out.add rfl HB.out.1 HB.out.2.1 HB.out.2.2.1 HB.out.2.2.2)
          clear HB
          go_wp2_with fail
          refine ⟨Q16.out.am, ?_⟩
          simp only [List.take, List.drop, opsAt, List.cons_append, List.nil_append, wpTr]
          obtain ⟨r, hr, HR⟩ := Q16.out.arena Hv.out
          go_wp2_with fail
          refine ⟨Q16.out.am, ?_⟩
          simp only [List.take, List.drop, opsAt, List.cons_append, List.nil_append, wpTr]
          go_wp2_with fail
          refine ⟨HR.out.2.1, ?_⟩
          simp only [List.take, List.drop, opsAt, List.cons_append, List.nil_append, wpTr]
          go_wp2_with fail
          refine ⟨HR.out.2.1, ?_⟩
          simp only [QN, wpTr]
          go_wp2
          go_meet
          case rel => exact ⟨r, by rw [hr], HR⟩
        · go_wp2_with fail
          refine (HCL.out _ 2 (by decide) Q13.out.am).mono ?_
          rintro e x18 ⟨t18, b18, rfl, HB⟩
          have Q18 : Hid (NY w l S none [(t7, b7), (t13, b13), (t18, b18)] x18) := hid (Q13.out.add rfl HB.out.1 HB.out.2.1 HB.out.2.2.1 HB.out.2.2.2)
          clear HB
          go_wp2_with fail
          refine ⟨Q18.out.am, ?_⟩
          simp only [List.take, List.drop, opsAt, List.cons_append, List.nil_append, wpTr]
          refine ⟨?_, ?_⟩
          · obtain ⟨q19, hq19⟩ : ∃ q, x18.heap.size = q := ⟨_, rfl⟩
            have Q19 : Hid (NY w l S (some q19) [(t7, b7), (t13, b13), (t18, b18)] (x18.alloc (.cells (madeCells #[.int .u64 0] 32768) 29))) := hid (by have := Q18.out.words; rw [hq19] at this; exact this)
            go_wp2_with fail
            (try simp only [hq19])
            generalize hx : World.alloc x18 _ = x19 at Q19 ⊢
            clear hx hq19
            refine ⟨Q19.out.am, ?_⟩
            simp only [List.take, List.drop, opsAt, List.cons_append, List.nil_append, wpTr]
            go_wp2_with fail
            refine (HCL.out _ 3 (by decide) Q19.out.am).mono ?_
            rintro e x20 ⟨t20, b20, rfl, HB⟩
            have Q20 : Hid (NY w l S (some q19) [(t7, b7), (t13, b13), (t18, b18), (t20, b20)] x20) := hid (Q19.out.add rfl HB.out.1 HB.out.2.1 HB.out.2.2.1 HB.out.2.2.2)
            clear HB
            go_wp2_with fail
            refine ⟨Q20.out.am, ?_⟩
            simp only [List.take, List.drop, opsAt, List.cons_append, List.nil_append, wpTr]
            obtain ⟨r, hr, HR⟩ := Q20.out.arena Hv.out
            go_wp2_with fail
            refine ⟨Q20.out.am, ?_⟩
            simp only [List.take, List.drop, opsAt, List.cons_append, List.nil_append, wpTr]
            go_wp2_with fail
            refine ⟨HR.out.2.1, ?_⟩
            simp only [List.take, List.drop, opsAt, List.cons_append, List.nil_append, wpTr]
            go_wp2_with fail
            refine ⟨HR.out.2.1, ?_⟩
            simp only [QN, wpTr]
            go_wp2
            go_meet
            case rel => exact ⟨r, by rw [hr], HR⟩
          · go_wp2_with fail
            refine (HCL.out _ 3 (by decide) Q18.out.am).mono ?_
            rintro e x22 ⟨t22, b22, rfl, HB⟩
            have Q22 : Hid (NY w l S none [(t7, b7), (t13, b13), (t18, b18), (t22, b22)] x22) := hid (Q18.out.add rfl HB.out.1 HB.out.2.1 HB.out.2.2.1 HB.out.2.2.2)
            clear HB
            go_wp2_with fail
            refine ⟨Q22.out.am, ?_⟩
            simp only [List.take, List.drop, opsAt, List.cons_append, List.nil_append, wpTr]
            obtain ⟨q23, hq23⟩ : ∃ q, x22.heap.size = q := ⟨_, rfl⟩
            have Q23 : Hid (NY w l S (some q23) [(t7, b7), (t13, b13), (t18, b18), (t22, b22)] (x22.alloc (.cells (madeCells #[.int .u64 0] 32768) 29))) := hid (by have := Q22.out.words; rw [hq23] at this; exact this)
            go_wp2_with fail
            (try simp only [hq23])
            generalize hx : World.alloc x22 _ = x23 at Q23 ⊢
            clear hx hq23
            refine ⟨Q23.out.am, ?_⟩
            simp only [List.take, List.drop, opsAt, List.cons_append, List.nil_append, wpTr]
            obtain ⟨r, hr, HR⟩ := Q23.out.arena Hv.out
            go_wp2_with fail
            refine ⟨Q23.out.am, ?_⟩
            simp only [List.take, List.drop, opsAt, List.cons_append, List.nil_append, wpTr]
            go_wp2_with fail
            refine ⟨HR.out.2.1, ?_⟩
            simp only [List.take, List.drop, opsAt, List.cons_append, List.nil_append, wpTr]
            go_wp2_with fail
            refine ⟨HR.out.2.1, ?_⟩
            simp only [QN, wpTr]
            go_wp2
            go_meet
            case rel => exact ⟨r, by rw [hr], HR⟩
  case rest =>
  obtain ⟨r, rfl, HR⟩ := hcut
  go_upto_region 2 with fail
  obtain ⟨X2, W, HTT, HH0, hne, HCl⟩ := class_below wc
  have HY : Hid (∀ y, AM r { S with W := z0 } (W y) ∧ AM l S (W y) ∧ Below w.heap.size w (W y)) := hid (fun y => ⟨HR.out.1.below (HTT.out y), HR.out.2.1.below (HTT.out y), HR.out.2.2.1.trans ((HTT.out y).mono HR.out.2.2.1.size)⟩)
  have y1 : ∀ y, (W y).cell? ⟨r.a, 0, none⟩ = some (.slice (some ⟨r.w, 0, none⟩) 32768 32768) := fun y => (HY.out y).1.cells.1
  have z1 : ∀ y, (W y).cell? ⟨l.a, 0, none⟩ = some (.slice (some ⟨l.w, 0, none⟩) 32768 32768) := fun y => (HY.out y).2.1.cells.1
  refine wp_region_class_lastT W rfl (by kernel_rfl) (by kernel_rfl) (by kernel_rfl) HH0.out ?_
  dsimp only [List.dropLast, List.getLast]
  repeat (go_big_quiet_step (fail))
  refine wpQuiet_nil ?_
  intro z
  have HZ := hid (HY.out z)
  generalize W z = wz at HZ ⊢
  clear y1 z1 HH0 HTT HCl hne HY
  refine wpList_copy_row rfl _ _ rfl 32768 r.w l.w z0 S.W rfl rfl HZ.out.1.ws HZ.out.2.1.ws ?_
  intro w2 hB hU
  have HF : Hid (AM r S w2 ∧ Below w.heap.size w w2 ∧ r.above w.heap.size) := hid ⟨HZ.out.1.setW hB.out HZ.out.2.1.wl hU.out, HZ.out.2.2.trans (hU.out.below HR.out.2.2.2.2.1 HZ.out.2.2.size), HR.out.2.2.2⟩
  clear HZ hB hU HR
  go_wp2
  go_ret
  exact ⟨r, rfl, HF⟩
end
end Go.Proofs.Qxb6500887aGreat
