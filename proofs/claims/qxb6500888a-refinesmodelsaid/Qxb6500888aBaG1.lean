/- The ground: index, FieldAddr, ShapeOf, RefAt, SetRefAt, Logged, TestAndSetLogged, CountOf. -/
import Derived.Test.Qxb6500888aBaM
import Derived.Test.Qxb6500888aLast3
import Derived.Test.Qxb6500888aLastT
import Derived.Test.Qxb6500888aMid
import Derived.Test.Qxb6500888aRet
import Derived.Deep.DeepCutAuto
namespace Go.Proofs.Qxb6500888a
open Go.RowKit
set_option linter.unusedSimpArgs false
set_option linter.unusedVariables false

/-- The worlds above w, as a class. -/
theorem class_below (w : World) : ∃ (X : Type) (W : X → World), Hid (∀ x, Below w.heap.size w (W x)) ∧ Hid (∃ y, w.drew = W y) ∧ Nonempty X ∧ Hid (∀ x w', Below (W x).heap.size (W x) w' → ∃ y, w' = W y) := by
  obtain ⟨X, W, hT, hI⟩ := class_mk (fun w' => Below w.heap.size w w')
  have h0 : ∃ y, w.drew = W y := hI _ (Drew.below ⟨1, rfl⟩ _)
  exact ⟨X, W, hid hT, hid h0, ⟨h0.choose⟩, hid (fun x w' hb => hI _ ((hT x).trans (hb.mono (hT x).size)))⟩
set_option maxRecDepth 1000000 in
theorem index_walk {a s : Nat} (ha : 65536 + s = a) (hs : s < 32768) (w : World) :
    Calls Try.prog 68 #[.int .u64 (a : Int)] w fun e w' => e = .returned (.int .i64 (s : Int)) ∧ w' = w := by
  have h1 : (a : Int) - 65536 = (s : Int) := by omega
  have h2 : (s : Int) < 32768 := by omega
  clear ha hs
  go_enter Try.func68, Try.ntmps68
  go_wp2
  go_ret
  exact ⟨rfl, rfl⟩
set_option maxRecDepth 1000000 in
theorem field_walk {a i b : Nat} (hb : a + 1 + i = b) (h : b < 18446744073709551616) (hi : i < 9000) (w : World) :
    Calls Try.prog 35 #[.int .u64 (a : Int), .int .i64 (i : Int)] w fun e w' => e = .returned (.int .u64 (b : Int)) ∧ w' = w := by
  have h1 : (a : Int) + 1 + (i : Int) = (b : Int) := by omega
  have h2 : (a : Int) + 1 < 18446744073709551616 := by omega
  have h3 : (b : Int) < 18446744073709551616 := by omega
  have h4 : (i : Int) < 9000 := by omega
  clear hb h hi
  go_enter Try.func35, Try.ntmps35
  go_wp2
  go_ret
  exact ⟨rfl, rfl⟩
section
variable {w : World} {ρ : Rl} {L : GL} {G : GS}
set_option maxRecDepth 1000000 in
set_option maxHeartbeats 2000000 in
theorem countOf_walk (h : GM w ρ L G) (a : Nat) : Calls Try.prog 34 #[.pointer (some ⟨L.cB, 0, none⟩), .int .u64 (a : Int)] w fun e w' => e = .returned (.int .i64 (G.cnt a : Int)) ∧ w' = w := by
  have c1 := h.ccells.2.2.1
  have hl := h.lookC a
  clear h
  go_enter Try.func34, Try.ntmps34
  go_wp2
  go_ret
  exact ⟨rfl, rfl⟩
set_option maxRecDepth 1000000 in
set_option maxHeartbeats 2000000 in
theorem refAt_walk (h : GM w ρ L G) {a s : Nat} (ha : 65536 + s = a) (hs : s < 32768) : Calls Try.prog 26 #[.pointer (some ⟨L.hB, 0, none⟩), .int .u64 (a : Int)] w fun e w' => e = .returned (.int .u64 (G.word s : Int)) ∧ Below w.heap.size w w' := by
  obtain ⟨X, W, HTT, H0, hne, HC⟩ := class_below w
  have c1 : ∀ y, (W y).cell? ⟨L.hB, 1, none⟩ = some (.slice (some ⟨L.wB, 0, none⟩) 32768 32768) := fun y => (h.below (HTT.out y)).hcells.2.1
  have c2 : ∀ y, (W y).cell? ⟨L.wB, s, none⟩ = some (.int .u64 (G.word s : Int)) := fun y => (h.below (HTT.out y)).wcell hs
  have HI : Hid (∀ w, Calls Try.prog 68 #[.int .u64 (a : Int)] w fun e w' => e = .returned (.int .i64 (s : Int)) ∧ w' = w) := hid (fun w => index_walk ha hs w)
  have i1 : (s : Int) < 32768 := by omega
  generalize G.word s = x at c2 ⊢
  clear h ha hs
  go_enter Try.func26, Try.ntmps26
  go_upto_region 1 with fail
  refine wp_region_class W (by kernel_rfl) (by kernel_rfl) H0.out ?_
  repeat (go_big_quiet_step ((go_at_call 68; exact Calls.class_same (HI.out _))))
  refine wpQuiet_nil ?_
  intro z
  have HZ := hid (HTT.out z)
  generalize W z = wz at HZ ⊢
  clear c1 c2 H0 HTT
  go_wp2
  go_ret
  exact ⟨rfl, HZ.out⟩
set_option maxRecDepth 1000000 in
set_option maxHeartbeats 2000000 in
theorem logged_walk (h : GM w ρ L G) {a s : Nat} (ha : 65536 + s = a) (hs : s < 32768) : Calls Try.prog 25 #[.pointer (some ⟨L.hB, 0, none⟩), .int .u64 (a : Int)] w fun e w' => e = .returned (.bool (G.lg s)) ∧ Below w.heap.size w w' := by
  obtain ⟨X, W, HTT, H0, hne, HC⟩ := class_below w
  have c1 : ∀ y, (W y).cell? ⟨L.hB, 2, none⟩ = some (.slice (some ⟨L.lB, 0, none⟩) 32768 32768) := fun y => (h.below (HTT.out y)).hcells.2.2
  have c2 : ∀ y, (W y).cell? ⟨L.lB, s, none⟩ = some (.bool (G.lg s)) := fun y => (h.below (HTT.out y)).lcell hs
  have HI : Hid (∀ w, Calls Try.prog 68 #[.int .u64 (a : Int)] w fun e w' => e = .returned (.int .i64 (s : Int)) ∧ w' = w) := hid (fun w => index_walk ha hs w)
  have i1 : (s : Int) < 32768 := by omega
  generalize G.lg s = x at c2 ⊢
  clear h ha hs
  go_enter Try.func25, Try.ntmps25
  go_upto_region 1 with fail
  refine wp_region_class W (by kernel_rfl) (by kernel_rfl) H0.out ?_
  repeat (go_big_quiet_step ((go_at_call 68; exact Calls.class_same (HI.out _))))
  refine wpQuiet_nil ?_
  intro z
  have HZ := hid (HTT.out z)
  generalize W z = wz at HZ ⊢
  clear c1 c2 H0 HTT
  go_wp2
  go_ret
  exact ⟨rfl, HZ.out⟩
set_option maxRecDepth 1000000 in
set_option maxHeartbeats 2000000 in
theorem setRefAt_walk (h : GM w ρ L G) {a s : Nat} (ha : 65536 + s = a) (hs : s < 32768) (x : Nat) : Calls Try.prog 66 #[.pointer (some ⟨L.hB, 0, none⟩), .int .u64 (a : Int), .int .u64 (x : Int)] w fun e w' => e = .returned (.tuple #[]) ∧ GM w' ρ L { G with word := fup G.word s x } ∧ Fr gX ρ w ρ w' := by
  obtain ⟨X, W, HTT, H0, hne, HC⟩ := class_below w
  have c1 : ∀ y, (W y).cell? ⟨L.hB, 1, none⟩ = some (.slice (some ⟨L.wB, 0, none⟩) 32768 32768) := fun y => (h.below (HTT.out y)).hcells.2.1
  have HI : Hid (∀ w, Calls Try.prog 68 #[.int .u64 (a : Int)] w fun e w' => e = .returned (.int .i64 (s : Int)) ∧ w' = w) := hid (fun w => index_walk ha hs w)
  have i1 : (s : Int) < 32768 := by omega
  have HH := hid h
  have Hs := hid hs
  clear h ha hs
  go_enter Try.func66, Try.ntmps66
  go_upto_region 0 with fail
  refine wp_region_class_lastT W rfl (by kernel_rfl) (by kernel_rfl) (by kernel_rfl) H0.out ?_
  dsimp only [List.dropLast]
  repeat (go_big_quiet_step ((go_at_call 68; exact Calls.class_same (HI.out _))))
  refine wpQuiet_nil ?_
  intro z
  have HZ := hid (HTT.out z)
  generalize W z = wz at HZ ⊢
  clear c1 H0 HTT
  have hz := HH.out.below HZ.out
  have c2 := hz.wcell Hs.out
  have f2 : wz.frozen? ⟨L.wB, s, none⟩ = false := (hz.wb rfl).frozen _
  have HF := hid (hz.setW Hs.out x)
  clear hz
  go_wp2
  exact bodyPost_end (v := .tuple #[]) (by simp [results, Try.results66, go_sem]) rfl ⟨rfl, HF.out.1, (Fr.below HZ.out).trans HF.out.2⟩
set_option maxRecDepth 1000000 in
set_option maxHeartbeats 2000000 in
theorem testSet_walk (h : GM w ρ L G) {a s : Nat} (ha : 65536 + s = a) (hs : s < 32768) : Calls Try.prog 87 #[.pointer (some ⟨L.hB, 0, none⟩), .int .u64 (a : Int)] w fun e w' => e = .returned (.bool (G.lg s)) ∧ GM w' ρ L { G with lg := fup G.lg s true } ∧ Fr gX ρ w ρ w' := by
  obtain ⟨X, W, HTT, H0, hne, HC⟩ := class_below w
  have c1 : ∀ y, (W y).cell? ⟨L.hB, 2, none⟩ = some (.slice (some ⟨L.lB, 0, none⟩) 32768 32768) := fun y => (h.below (HTT.out y)).hcells.2.2
  have c2 : ∀ y, (W y).cell? ⟨L.lB, s, none⟩ = some (.bool (G.lg s)) := fun y => (h.below (HTT.out y)).lcell hs
  have HI : Hid (∀ w, Calls Try.prog 68 #[.int .u64 (a : Int)] w fun e w' => e = .returned (.int .i64 (s : Int)) ∧ w' = w) := hid (fun w => index_walk ha hs w)
  have i1 : (s : Int) < 32768 := by omega
  obtain ⟨x, hx⟩ : ∃ x, G.lg s = x := ⟨_, rfl⟩
  have Hx := hid hx
  have HH := hid h
  have Hs := hid hs
  rw [hx] at c2
  clear h ha hs hx
  go_enter Try.func87, Try.ntmps87
  go_upto_region 1 with fail
  refine wp_region_class W (by kernel_rfl) (by kernel_rfl) H0.out ?_
  repeat (go_big_quiet_step ((go_at_call 68; exact Calls.class_same (HI.out _))))
  refine wpQuiet_nil ?_
  intro z
  have HZ := hid (HTT.out z)
  generalize W z = wz at HZ ⊢
  clear c1 c2 H0 HTT HC hne
  have HH2 := hid (HH.out.below HZ.out)
  obtain ⟨X, W, HTT, H0, hne, HC⟩ := class_below wz
  have c1 : ∀ y, (W y).cell? ⟨L.hB, 2, none⟩ = some (.slice (some ⟨L.lB, 0, none⟩) 32768 32768) := fun y => (HH2.out.below (HTT.out y)).hcells.2.2
  go_upto_region 2 with fail
  refine wp_region_class_lastT W rfl (by kernel_rfl) (by kernel_rfl) (by kernel_rfl) H0.out ?_
  dsimp only [List.dropLast]
  repeat (go_big_quiet_step ((go_at_call 68; exact Calls.class_same (HI.out _))))
  refine wpQuiet_nil ?_
  intro z2
  have HZ2 := hid (HTT.out z2)
  generalize W z2 = wy at HZ2 ⊢
  clear c1 H0 HTT
  have hz := HH2.out.below HZ2.out
  have c2 := hz.lcell Hs.out
  have f2 : wy.frozen? ⟨L.lB, s, none⟩ = false := (hz.lb rfl).frozen _
  have HF := hid (hz.setL Hs.out true)
  clear hz
  go_wp2
  go_ret
  exact ⟨by rw [Hx.out]; rfl, HF.out.1, ((Fr.below HZ.out).trans (Fr.below HZ2.out)).trans HF.out.2⟩
set_option maxRecDepth 1000000 in
set_option maxHeartbeats 2000000 in
theorem shapeOf_walk (h : GM w ρ L G) (a : Nat) : Calls Try.prog 32 #[.pointer (some ⟨L.hB, 0, none⟩), .int .u64 (a : Int)] w fun e w' => e = .returned (.tuple #[shV ((G.head a).getD (0, 0)), .bool (G.head a).isSome]) ∧ Below w.heap.size w w' := by
  have HH := hid h
  obtain ⟨⟨p, q⟩, hp⟩ : ∃ z, (G.head a).getD (0, 0) = z := ⟨_, rfl⟩
  obtain ⟨b, hb⟩ : ∃ b, (G.head a).isSome = b := ⟨_, rfl⟩
  have Hp := hid (And.intro hp hb)
  rw [hp, hb]
  clear hp hb h
  unfold shV
  dsimp only
  have ag : AggOf Try.prog 73 ([(.int .i64 (p : Int) : Value), .int .i64 (q : Int)]).length := AggOf.struct Try.underlying73 (by kernel_rfl)
  have Ag := hid ag
  clear ag
  obtain ⟨n, hn⟩ : ∃ n, w.heap.size = n := ⟨_, rfl⟩
  go_enter Try.func32, Try.ntmps32
  go_upto_region 1 with fail
  obtain ⟨w1, hw1⟩ : ∃ w1, w.alloc (.cells #[.int .i64 0, .int .i64 0] 73) = w1 := ⟨_, rfl⟩
  have HB1 : Hid (Below w.heap.size w w1) := hid (by rw [← hw1]; exact nbel w _)
  have HN1 : Hid (Blk w1 n 73 [.int .i64 0, .int .i64 0]) := hid (by rw [← hw1, ← hn]; exact Blk.new w [.int .i64 0, .int .i64 0] _)
  (try simp only [hw1])
  have Hn := hid hn
  clear hw1 hn
  have h1 := HH.out.below HB1.out
  have c1 := h1.hcells.1
  have hl := h1.lookHT a
  rw [Hp.out.1, Hp.out.2] at hl
  unfold shV at hl
  dsimp only at hl
  clear h1
  have s0 := HN1.out.cell 0
  have s1 := HN1.out.cell 1
  have f0 := HN1.out.frozen 0
  have f1 := HN1.out.frozen 1
  simp only [List.getElem?_cons_zero, List.getElem?_cons_succ] at s0 s1
  go_upto_region 2 with fail
  obtain ⟨w2, hw2⟩ : ∃ w2, (w1.setCell ⟨n, 0, none⟩ (.int .i64 (p : Int))).setCell ⟨n, 1, none⟩ (.int .i64 (q : Int)) = w2 := ⟨_, rfl⟩
  have HN2 : Hid (Blk w2 n 73 [.int .i64 (p : Int), .int .i64 (q : Int)]) := hid (by rw [← hw2]; exact (HN1.out.set 0 _).set 1 _)
  have HB2 : Hid (Below w.heap.size w w2) := hid (by rw [← hw2]; exact HB1.out.trans (Upd.below (((Upd.refl n w1).setCell (p := ⟨n, 0, none⟩) rfl _).setCell (p := ⟨n, 1, none⟩) rfl _) (by rw [Hn.out]; exact Nat.le_refl _) HB1.out.size))
  (try simp only [hw2])
  clear hw2 s0 s1 f0 f1 c1 hl
  have s0 := HN2.out.cell 0
  have s1 := HN2.out.cell 1
  have f0 := HN2.out.frozen 0
  have f1 := HN2.out.frozen 1
  simp only [List.getElem?_cons_zero, List.getElem?_cons_succ] at s0 s1
  go_wp2
  refine bodyPost_ret (results_cell_tmp Try.results32 rfl Ag.out ((HN2.out.set 0 _).set 1 _)) rfl ⟨rfl, HB2.out.trans (Upd.below (((Upd.refl n w2).setCell (p := ⟨n, 0, none⟩) rfl _).setCell (p := ⟨n, 1, none⟩) rfl _) (by rw [Hn.out]; exact Nat.le_refl _) HB2.out.size)⟩
end
end Go.Proofs.Qxb6500888a
