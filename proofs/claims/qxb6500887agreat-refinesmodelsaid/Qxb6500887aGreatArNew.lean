/- arena.New: four tables of zeros. -/
import Derived.Test.Qxb6500887aGreatArSide
import Derived.Deep.RegionWith
namespace Go.Proofs.Qxb6500887aGreat
open Go.RowKit
set_option linter.unusedSimpArgs false
set_option linter.unusedVariables false

/-- What has been made so far. -/
structure N0 (w x : World) : Prop where
  bel : Below w.heap.size w x
structure N1 (w : World) (t1 b1 : Nat) (x : World) : Prop where
  bel : Below w.heap.size w x
  r1 : TabR x t1 b1 16384 2 32 (List.replicate 16384 0)
  lo : w.heap.size ≤ t1 ∧ w.heap.size ≤ b1
structure N2 (w : World) (t1 b1 t2 b2 : Nat) (x : World) : Prop where
  n1 : N1 w t1 b1 x
  r2 : TabR x t2 b2 16384 1 64 (List.replicate 16384 0)
  d2 : t1 < t2 ∧ t1 < b2 ∧ b1 < t2 ∧ b1 < b2
structure N3 (w : World) (t1 b1 t2 b2 t3 b3 : Nat) (x : World) : Prop where
  n2 : N2 w t1 b1 t2 b2 x
  r3 : TabR x t3 b3 32768 1 64 (List.replicate 32768 0)
  d3 : t1 < t3 ∧ t1 < b3 ∧ b1 < t3 ∧ b1 < b3 ∧ t2 < t3 ∧ t2 < b3 ∧ b2 < t3 ∧ b2 < b3
theorem N0.below {w x y : World} (h : N0 w x) (hb : Below x.heap.size x y) : N0 w y := ⟨h.bel.trans (hb.mono h.bel.size)⟩
theorem N1.below {w x y : World} {t1 b1 : Nat} (h : N1 w t1 b1 x) (hb : Below x.heap.size x y) : N1 w t1 b1 y := ⟨h.bel.trans (hb.mono h.bel.size), h.r1.below hb, h.lo⟩
theorem N2.below {w x y : World} {t1 b1 t2 b2 : Nat} (h : N2 w t1 b1 t2 b2 x) (hb : Below x.heap.size x y) : N2 w t1 b1 t2 b2 y := ⟨h.n1.below hb, h.r2.below hb, h.d2⟩
theorem N3.below {w x y : World} {t1 b1 t2 b2 t3 b3 : Nat} (h : N3 w t1 b1 t2 b2 t3 b3 x) (hb : Below x.heap.size x y) : N3 w t1 b1 t2 b2 t3 b3 y := ⟨h.n2.below hb, h.r3.below hb, h.d3⟩
theorem bel_alloc (x : World) (o : Obj) : Below x.heap.size x (x.alloc o) := Below.alloc (Below.refl _ _) (Nat.le_refl _) _
theorem bel_drew (x : World) : Below x.heap.size x x.drew := Drew.below ⟨1, rfl⟩ _
theorem N0.step {w x y : World} {t b : Nat} (h : N0 w x) (hb : Below x.heap.size x y) (ht : x.heap.size ≤ t) (hbb : x.heap.size ≤ b) (r : TabR y t b 16384 2 32 (List.replicate 16384 0)) : N1 w t b y :=
  ⟨(h.below hb).bel, r, by have := h.bel.size; omega⟩
theorem N1.step {w x y : World} {t1 b1 t b : Nat} (h : N1 w t1 b1 x) (hb : Below x.heap.size x y) (ht : x.heap.size ≤ t) (hbb : x.heap.size ≤ b) (r : TabR y t b 16384 1 64 (List.replicate 16384 0)) : N2 w t1 b1 t b y :=
  ⟨h.below hb, r, by have := h.r1.lt; omega⟩
theorem N2.step {w x y : World} {t1 b1 t2 b2 t b : Nat} (h : N2 w t1 b1 t2 b2 x) (hb : Below x.heap.size x y) (ht : x.heap.size ≤ t) (hbb : x.heap.size ≤ b) (r : TabR y t b 32768 1 64 (List.replicate 32768 0)) : N3 w t1 b1 t2 b2 t b y :=
  ⟨h.below hb, r, by have := h.n1.r1.lt; have := h.r2.lt; omega⟩

def zeros (n : Nat) : List Nat := List.replicate n 0
theorem tabR_ne {w : World} {t b n wd per : Nat} {vals : List Nat} (h : TabR w t b n wd per vals) : t ≠ b := by
  obtain ⟨o, ws, h1, h2, _⟩ := h
  exact h2
theorem N3.arena {w x : World} {t1 b1 t2 b2 t3 b3 : Nat} (h : N3 w t1 b1 t2 b2 t3 b3 x) (wa tt : Value) :
    Below w.heap.size w (x.alloc (.cells #[wa, .pointer (some ⟨t1, 0, none⟩), .pointer (some ⟨t2, 0, none⟩), .pointer (some ⟨t3, 0, none⟩), tt, .int .u64 0] 105)) ∧
    (∀ g ∈ [x.heap.size, t1, b1, t2, b2, t3, b3], w.heap.size ≤ g) ∧
    Ar (x.alloc (.cells #[wa, .pointer (some ⟨t1, 0, none⟩), .pointer (some ⟨t2, 0, none⟩), .pointer (some ⟨t3, 0, none⟩), tt, .int .u64 0] 105)) x.heap.size t1 b1 t2 b2 t3 b3 (zeros 16384) (zeros 16384) (zeros 32768) := by
  have h2 := h.below (bel_alloc x (.cells #[wa, .pointer (some ⟨t1, 0, none⟩), .pointer (some ⟨t2, 0, none⟩), .pointer (some ⟨t3, 0, none⟩), tt, .int .u64 0] 105))
  have l1 := h.n2.n1.r1.lt
  have l2 := h.n2.r2.lt
  have l3 := h.r3.lt
  have e1 := tabR_ne h.n2.n1.r1
  have e2 := tabR_ne h.n2.r2
  have e3 := tabR_ne h.r3
  have d2 := h.n2.d2
  have d3 := h.d3
  have lo := h.n2.n1.lo
  have hs := h.n2.n1.bel.size
  refine ⟨h2.n2.n1.bel, ?_, ⟨wa, tt, 0, Blk.new x [wa, .pointer (some ⟨t1, 0, none⟩), .pointer (some ⟨t2, 0, none⟩), .pointer (some ⟨t3, 0, none⟩), tt, .int .u64 0] _⟩, h2.n2.n1.r1, h2.n2.r2, h2.r3, ?_⟩
  · intro g hg
    simp only [List.mem_cons, List.not_mem_nil, or_false] at hg
    omega
  · simp only [List.nodup_cons, List.mem_cons, List.not_mem_nil, or_false, not_or, not_false_eq_true, List.nodup_nil, and_true]
    omega

set_option maxRecDepth 100000 in
set_option maxHeartbeats 2000000 in
theorem arenaNew_walk (w : World) :
    Calls Tryz.prog 11 #[] w fun e w' => ∃ A tc bc tm bm tl bl, e = .returned (.pointer (some ⟨A, 0, none⟩)) ∧ Below w.heap.size w w' ∧ (∀ g ∈ [A, tc, bc, tm, bm, tl, bl], w.heap.size ≤ g) ∧ Ar w' A tc bc tm bm tl bl (zeros 16384) (zeros 16384) (zeros 32768) := by
  have hmk : ∀ w : World, (Instr.makeSlice 53 (.int .i64 32768) (.int .i64 32768)).run Tryz.prog w = .ok (.slice (some ⟨w.heap.size, 0, none⟩) 32768 32768) (w.alloc (.cells (madeCells #[.int .u64 0] 32768) 29)) := run_make_row' (P := Tryz.prog) 53 29 (.int .u64 0) 8 (by kernel_rfl) info_u64 rfl .i64 .i64 32768 (by omega) (by omega)
  have H1 : Hid (∀ w, Calls Tryz.prog 55 #[.int .i64 16384, .int .u64 2] w fun e w' => ∃ t b, e = .returned (.pointer (some ⟨t, 0, none⟩)) ∧ Below w.heap.size w w' ∧ w.heap.size ≤ t ∧ w.heap.size ≤ b ∧ TabR w' t b 16384 2 32 (List.replicate 16384 0)) := hid (fun w => mustTable_walk 16384 2 32 512 (by omega) (by omega) (by omega) (by omega) w)
  have H2 : Hid (∀ w, Calls Tryz.prog 55 #[.int .i64 16384, .int .u64 1] w fun e w' => ∃ t b, e = .returned (.pointer (some ⟨t, 0, none⟩)) ∧ Below w.heap.size w w' ∧ w.heap.size ≤ t ∧ w.heap.size ≤ b ∧ TabR w' t b 16384 1 64 (List.replicate 16384 0)) := hid (fun w => mustTable_walk 16384 1 64 256 (by omega) (by omega) (by omega) (by omega) w)
  have H3 : Hid (∀ w, Calls Tryz.prog 55 #[.int .i64 32768, .int .u64 1] w fun e w' => ∃ t b, e = .returned (.pointer (some ⟨t, 0, none⟩)) ∧ Below w.heap.size w w' ∧ w.heap.size ≤ t ∧ w.heap.size ≤ b ∧ TabR w' t b 32768 1 64 (List.replicate 32768 0)) := hid (fun w => mustTable_walk 32768 1 64 512 (by omega) (by omega) (by omega) (by omega) w)
  have H4 : Hid (∀ w, Calls Tryz.prog 55 #[.int .i64 2048, .int .u64 4] w fun e w' => ∃ t b, e = .returned (.pointer (some ⟨t, 0, none⟩)) ∧ Below w.heap.size w w' ∧ w.heap.size ≤ t ∧ w.heap.size ≤ b ∧ TabR w' t b 2048 4 16 (List.replicate 2048 0)) := hid (fun w => mustTable_walk 2048 4 16 128 (by omega) (by omega) (by omega) (by omega) w)
  have P0 := hid (N0.mk (Below.refl w.heap.size w))
  go_enter Tryz.func11, Tryz.ntmps11
  go_upto_region 1 with fail
  go_region_with (go_at_call 55; first
    | (with_reducible refine (H1.out _).mono ?_; rintro e x1 ⟨t1, b1, rfl, hb1, ht1, hbb1, hr1⟩; have P1 := hid (N0.step (w := w) (by first | exact P0.out | exact P0.out.below (bel_drew _) | exact P0.out.below (bel_alloc _ _) | exact (P0.out.below (bel_drew _)).below (bel_alloc _ _) | exact (P0.out.below (bel_alloc _ _)).below (bel_drew _)) hb1 ht1 hbb1 hr1); clear hb1 ht1 hbb1 hr1)
    | (with_reducible refine (H2.out _).mono ?_; rintro e x2 ⟨t2, b2, rfl, hb2, ht2, hbb2, hr2⟩; have P2 := hid (N1.step (w := w) (by first | exact P1.out | exact P1.out.below (bel_alloc _ _)) hb2 ht2 hbb2 hr2); clear hb2 ht2 hbb2 hr2)
    | (with_reducible refine (H3.out _).mono ?_; rintro e x3 ⟨t3, b3, rfl, hb3, ht3, hbb3, hr3⟩; have P3 := hid (N2.step (w := w) (by first | exact P2.out | exact P2.out.below (bel_alloc _ _)) hb3 ht3 hbb3 hr3); clear hb3 ht3 hbb3 hr3)
    | (with_reducible refine (H4.out _).mono ?_; rintro e x4 ⟨t4, b4, rfl, hb4, ht4, hbb4, hr4⟩; have P4 := hid ((show N3 w t1 b1 t2 b2 t3 b3 _ by first | exact P3.out | exact P3.out.below (bel_alloc _ _)).below hb4); clear hb4 ht4 hbb4 hr4))
  all_goals go_wp2
  all_goals first
    | (refine bodyPost_ret (v := .pointer (some ⟨x4.heap.size, 0, none⟩)) (by simp [results, Tryz.results11, go_sem]) rfl ⟨x4.heap.size, t1, b1, t2, b2, t3, b3, rfl, ?_⟩
       exact P4.out.arena _ _)
    | (refine bodyPost_ret (v := .pointer (some ⟨x4.heap.size + 1, 0, none⟩)) (by simp [results, Tryz.results11, go_sem]) rfl ⟨x4.heap.size + 1, t1, b1, t2, b2, t3, b3, rfl, ?_⟩
       have h5 := (P4.out.below (bel_alloc x4 (.cells (madeCells #[.int .u64 0] 32768) 29))).arena (.slice (some ⟨x4.heap.size, 0, none⟩) 32768 32768) (.pointer (some ⟨t4, 0, none⟩))
       rw [show (x4.alloc (.cells (madeCells #[.int .u64 0] 32768) 29)).heap.size = x4.heap.size + 1 by simp] at h5
       exact h5)
end Go.Proofs.Qxb6500887aGreat
