/- The model's New (written by tools/mk_awb.py). -/
import Derived.Test.Qxb6500887aGreatAwA
import Derived.Deep.DeepCutAuto
namespace Go.Proofs.Qxb6500887aGreat
open Go.RowKit
set_option linter.unusedSimpArgs false
set_option linter.unusedVariables false
section
variable {P : Program} {ops : Array Oper} {S : World → Prop} {Q : Exit → Act → World → Prop}
theorem take_gen {i n : Nat} {listed : Array Bool} {a : Act} {w : World} {K : Act → World → Prop} (hb : ops[i]?.isSome = true) (ih : ∀ a w, S w → K a w → wpAnyH P .any ops Q S n (listed.setIfInBounds i true) a w) (h : wpList P ops (QH S Q K) (opsAt ops.toList [i]) a w) :
    wpOp P ops Q i (fun a' w' => S w' ∧ wpAnyH P .any ops Q S n (listed.setIfInBounds i true) a' w') a w := by
  cases ho : ops[i]? with
  | none => rw [ho] at hb; simp at hb
  | some o =>
    rw [opsAt_cons ho] at h
    simp only [opsAt, wpList] at h
    unfold wpOp
    simp only [ho]
    by_cases hw : Region.wanted o (yielded ops a.tmps) = true
    · rw [if_pos hw] at h ⊢
      rcases h with h | ⟨h4, h5⟩
      · exact .inl (wp_mono2 (fun e a w he hq => by cases e <;> first | exact absurd rfl he | exact hq) (fun a w hk => ⟨hk.1, ih a w hk.1 hk.2⟩) h)
      · exact .inr ⟨h4, by obtain ⟨a', w', h6⟩ := h5; exact ⟨a', w', h6⟩⟩
    · rw [if_neg hw] at h ⊢
      exact ⟨h.1, ih _ _ h.1 h.2⟩
end
theorem info_intM : (Tryz.prog.info? 3).map (fun i => (i.zero, i.size, i.bytes)) = some (some (.int .i64 0), 1, 8) := by kernel_rfl
theorem info_boolM : (Tryz.prog.info? 4).map (fun i => (i.zero, i.size, i.bytes)) = some (some (.bool false), 1, 1) := by kernel_rfl
theorem made_all (z : Value) (n : Nat) : madeCells #[z] n = (List.replicate n z).toArray := by
  apply Array.ext
  · simp [madeCells]
  · intro i h1 h2
    simp [madeCells, Nat.mod_one]
theorem repl_fnC (n : Nat) (z : Value) : List.replicate n z = fnC n (fun _ => z) := by
  unfold fnC
  rw [List.map_const']
  simp
/-- What has been made so far. -/
structure MZ (w0 : World) (g1 g2 g3 g4 g5 : Option Nat) (w : World) : Prop where
  bel : Below w0.heap.size w0 w
  b1 : ∀ q, g1 = some q → Blk w q 29 (wdC 32768 z0) ∧ w0.heap.size ≤ q
  b2 : ∀ q, g2 = some q → Blk w q 29 (wdC 16384 z0) ∧ w0.heap.size ≤ q
  b3 : ∀ q, g3 = some q → Blk w q 4 (bwC 16384 (fun _ => false)) ∧ w0.heap.size ≤ q
  b4 : ∀ q, g4 = some q → Blk w q 4 (bwC 32768 (fun _ => false)) ∧ w0.heap.size ≤ q
  b5 : ∀ q, g5 = some q → Blk w q 3 (inC 2048 z0) ∧ w0.heap.size ≤ q
  n12 : ∀ p q, g1 = some p → g2 = some q → p ≠ q
  n34 : ∀ p q, g3 = some p → g4 = some q → p ≠ q
section
variable {w w' w0 : World} {g1 g2 g3 g4 g5 : Option Nat}
theorem MZ.below (h : MZ w0 g1 g2 g3 g4 g5 w) (hb : Below w.heap.size w w') : MZ w0 g1 g2 g3 g4 g5 w' := ⟨h.bel.trans (hb.mono h.bel.size), fun q e => ⟨(h.b1 q e).1.below hb, (h.b1 q e).2⟩, fun q e => ⟨(h.b2 q e).1.below hb, (h.b2 q e).2⟩, fun q e => ⟨(h.b3 q e).1.below hb, (h.b3 q e).2⟩, fun q e => ⟨(h.b4 q e).1.below hb, (h.b4 q e).2⟩, fun q e => ⟨(h.b5 q e).1.below hb, (h.b5 q e).2⟩, h.n12, h.n34⟩
theorem MZ.start (w : World) : MZ w none none none none none w := ⟨Below.refl _ _, fun _ e => (by cases e), fun _ e => (by cases e), fun _ e => (by cases e), fun _ e => (by cases e), fun _ e => (by cases e), fun _ _ e => (by cases e), fun _ _ e => (by cases e)⟩
theorem MZ.add1 (h : MZ w0 none g2 g3 g4 g5 w) : MZ w0 (some w.heap.size) g2 g3 g4 g5 (w.alloc (.cells (madeCells #[.int .u64 0] 32768) 29)) := by
  have k := h.below (nbel w (.cells (madeCells #[.int .u64 0] 32768) 29))
  refine ⟨k.bel, fun q e => ?_, k.b2, k.b3, k.b4, k.b5, fun p q e1 e2 => by cases e1; have := (h.b2 q e2).1.lt; omega, k.n34⟩
  cases e
  refine ⟨?_, h.bel.size⟩
  have kk := Blk.new w (List.replicate 32768 (.int .u64 0)) 29
  rw [made_all]
  rw [repl_fnC] at kk ⊢
  exact kk
theorem MZ.add2 (h : MZ w0 g1 none g3 g4 g5 w) : MZ w0 g1 (some w.heap.size) g3 g4 g5 (w.alloc (.cells (madeCells #[.int .u64 0] 16384) 29)) := by
  have k := h.below (nbel w (.cells (madeCells #[.int .u64 0] 16384) 29))
  refine ⟨k.bel, k.b1, fun q e => ?_, k.b3, k.b4, k.b5, fun p q e1 e2 => by cases e2; have := (h.b1 p e1).1.lt; omega, k.n34⟩
  cases e
  refine ⟨?_, h.bel.size⟩
  have kk := Blk.new w (List.replicate 16384 (.int .u64 0)) 29
  rw [made_all]
  rw [repl_fnC] at kk ⊢
  exact kk
theorem MZ.add3 (h : MZ w0 g1 g2 none g4 g5 w) : MZ w0 g1 g2 (some w.heap.size) g4 g5 (w.alloc (.cells (madeCells #[.bool false] 16384) 4)) := by
  have k := h.below (nbel w (.cells (madeCells #[.bool false] 16384) 4))
  refine ⟨k.bel, k.b1, k.b2, fun q e => ?_, k.b4, k.b5, k.n12, fun p q e1 e2 => by cases e1; have := (h.b4 q e2).1.lt; omega⟩
  cases e
  refine ⟨?_, h.bel.size⟩
  have kk := Blk.new w (List.replicate 16384 (.bool false)) 4
  rw [made_all]
  rw [repl_fnC] at kk ⊢
  exact kk
theorem MZ.add4 (h : MZ w0 g1 g2 g3 none g5 w) : MZ w0 g1 g2 g3 (some w.heap.size) g5 (w.alloc (.cells (madeCells #[.bool false] 32768) 4)) := by
  have k := h.below (nbel w (.cells (madeCells #[.bool false] 32768) 4))
  refine ⟨k.bel, k.b1, k.b2, k.b3, fun q e => ?_, k.b5, k.n12, fun p q e1 e2 => by cases e2; have := (h.b3 p e1).1.lt; omega⟩
  cases e
  refine ⟨?_, h.bel.size⟩
  have kk := Blk.new w (List.replicate 32768 (.bool false)) 4
  rw [made_all]
  rw [repl_fnC] at kk ⊢
  exact kk
theorem MZ.add5 (h : MZ w0 g1 g2 g3 g4 none w) : MZ w0 g1 g2 g3 g4 (some w.heap.size) (w.alloc (.cells (madeCells #[.int .i64 0] 2048) 3)) := by
  have k := h.below (nbel w (.cells (madeCells #[.int .i64 0] 2048) 3))
  refine ⟨k.bel, k.b1, k.b2, k.b3, k.b4, fun q e => ?_, k.n12, k.n34⟩
  cases e
  refine ⟨?_, h.bel.size⟩
  have kk := Blk.new w (List.replicate 2048 (.int .i64 0)) 3
  rw [made_all]
  rw [repl_fnC] at kk ⊢
  exact kk
/-- A slot: nothing yet, or a row. -/
def slV (n : Nat) (g : Option Nat) : Value := match g with | none => undef | some q => .slice (some ⟨q, 0, none⟩) n n
def frM (g1 g2 g3 g4 g5 : Option Nat) : Act := { tmps := #[.pointer none, (slV 32768 g1), (slV 16384 g2), (slV 16384 g3), (slV 32768 g4), (slV 2048 g5), undef, undef], defers := [] }
def lsM (g1 g2 g3 g4 g5 : Option Nat) : Array Bool := #[g1.isSome, g2.isSome, g3.isSome, g4.isSome, g5.isSome]
def noN : Option Nat → Nat
  | none => 1
  | some _ => 0
end
/-- A new model. -/
def E0 : ES := ⟨z0, z0, fun _ => false, fun _ => false, z0, 0⟩
def ML.above (l : ML) (n : Nat) : Prop := ∀ g ∈ l.all, n ≤ g
theorem MZ.model {w x : World} {q1 q2 q3 q4 q5 : Nat} (h : MZ w (some q1) (some q2) (some q3) (some q4) (some q5) x) : MM ⟨x.heap.size, q1, q2, q3, q4, q5⟩ E0 (x.alloc (.cells (mdC ⟨x.heap.size, q1, q2, q3, q4, q5⟩ 0).toArray 109)) ∧ Below w.heap.size w (x.alloc (.cells (mdC ⟨x.heap.size, q1, q2, q3, q4, q5⟩ 0).toArray 109)) ∧ ML.above ⟨x.heap.size, q1, q2, q3, q4, q5⟩ w.heap.size := by
  have hb := nbel x (.cells (mdC ⟨x.heap.size, q1, q2, q3, q4, q5⟩ 0).toArray 109)
  have k := h.below hb
  refine ⟨⟨Blk.new x _ _, (k.b1 _ rfl).1, (k.b2 _ rfl).1, (k.b3 _ rfl).1, (k.b4 _ rfl).1, (k.b5 _ rfl).1, h.n12 _ _ rfl rfl, h.n34 _ _ rfl rfl, fun i => (by decide : (0 : Nat) < 18446744073709551616), fun i => Nat.zero_le _, fun i => Nat.zero_le _, by decide⟩, k.bel, fun g hg => ?_⟩
  simp only [ML.all, List.mem_cons, List.not_mem_nil, or_false] at hg
  rcases hg with rfl | rfl | rfl | rfl | rfl | rfl
  · exact h.bel.size
  · exact (h.b1 _ rfl).2
  · exact (h.b2 _ rfl).2
  · exact (h.b3 _ rfl).2
  · exact (h.b4 _ rfl).2
  · exact (h.b5 _ rfl).2
attribute [local irreducible] madeCells in
set_option maxRecDepth 100000 in
set_option maxHeartbeats 4000000 in
theorem modelNewM (w : World) : Calls Tryz.prog 12 #[] w fun e w' => ∃ l : ML, e = .returned (.pointer (some ⟨l.m, 0, none⟩)) ∧ Hid (MM l E0 w' ∧ Below w.heap.size w w' ∧ l.above w.heap.size) := by
  have hm1 : ∀ w : World, (Instr.makeSlice 53 (.int .i64 32768) (.int .i64 32768)).run Tryz.prog w = .ok (.slice (some ⟨w.heap.size, 0, none⟩) 32768 32768) (w.alloc (.cells (madeCells #[.int .u64 0] 32768) 29)) := run_make_row' (P := Tryz.prog) 53 29 (.int .u64 0) 8 (by kernel_rfl) info_u64 rfl .i64 .i64 32768 (by omega) (by omega)
  have hm2 : ∀ w : World, (Instr.makeSlice 53 (.int .i64 16384) (.int .i64 16384)).run Tryz.prog w = .ok (.slice (some ⟨w.heap.size, 0, none⟩) 16384 16384) (w.alloc (.cells (madeCells #[.int .u64 0] 16384) 29)) := run_make_row' (P := Tryz.prog) 53 29 (.int .u64 0) 8 (by kernel_rfl) info_u64 rfl .i64 .i64 16384 (by omega) (by omega)
  have hm3 : ∀ w : World, (Instr.makeSlice 106 (.int .i64 16384) (.int .i64 16384)).run Tryz.prog w = .ok (.slice (some ⟨w.heap.size, 0, none⟩) 16384 16384) (w.alloc (.cells (madeCells #[.bool false] 16384) 4)) := run_make_row' (P := Tryz.prog) 106 4 (.bool false) 1 (by kernel_rfl) info_boolM rfl .i64 .i64 16384 (by omega) (by omega)
  have hm4 : ∀ w : World, (Instr.makeSlice 106 (.int .i64 32768) (.int .i64 32768)).run Tryz.prog w = .ok (.slice (some ⟨w.heap.size, 0, none⟩) 32768 32768) (w.alloc (.cells (madeCells #[.bool false] 32768) 4)) := run_make_row' (P := Tryz.prog) 106 4 (.bool false) 1 (by kernel_rfl) info_boolM rfl .i64 .i64 32768 (by omega) (by omega)
  have hm5 : ∀ w : World, (Instr.makeSlice 107 (.int .i64 2048) (.int .i64 2048)).run Tryz.prog w = .ok (.slice (some ⟨w.heap.size, 0, none⟩) 2048 2048) (w.alloc (.cells (madeCells #[.int .i64 0] 2048) 3)) := run_make_row' (P := Tryz.prog) 107 3 (.int .i64 0) 8 (by kernel_rfl) info_intM rfl .i64 .i64 2048 (by omega) (by omega)
  have P0 : Hid (MZ w none none none none none w.drew) := hid ((MZ.start w).below (Drew.below ⟨1, rfl⟩ _))
  go_enter Tryz.func12, Tryz.ntmps12
  go_upto_region 1 with fail
  refine region_lights (fun _ => True) 5 [] (fun listed => listed == #[false, false, false, false, false]) 5 rfl (by kernel_rfl) (by kernel_rfl) (fun d _ _ _ _ h => by cases d <;> exact h) trivial ?_
  refine ⟨_, fun W _ => rfl, fun listed hl => ?_⟩
  have hl' := eq_of_beq hl
  subst hl'
  clear hl
  simp only [List.take, List.drop]
  generalize hops : List.toArray _ = ops
  generalize hQ : QN Tryz.prog _ _ _ = QQ
  suffices H : ∀ (k : Nat) (g1 g2 g3 g4 g5 : Option Nat) (x : World), noN g1 + noN g2 + noN g3 + noN g4 + noN g5 = k → MZ w g1 g2 g3 g4 g5 x → wpAnyH Tryz.prog .any ops QQ (fun _ => True) k (lsM g1 g2 g3 g4 g5) (frM g1 g2 g3 g4 g5) x from H 5 none none none none none _ rfl P0.out
  intro k
  induction k with
  | zero =>
    intro g1 g2 g3 g4 g5 x hk hz
    obtain ⟨q1, rfl⟩ : ∃ q, g1 = some q := by cases g1 with | none => simp [noN] at hk | some q => exact ⟨q, rfl⟩
    obtain ⟨q2, rfl⟩ : ∃ q, g2 = some q := by cases g2 with | none => simp [noN] at hk | some q => exact ⟨q, rfl⟩
    obtain ⟨q3, rfl⟩ : ∃ q, g3 = some q := by cases g3 with | none => simp [noN] at hk | some q => exact ⟨q, rfl⟩
    obtain ⟨q4, rfl⟩ : ∃ q, g4 = some q := by cases g4 with | none => simp [noN] at hk | some q => exact ⟨q, rfl⟩
    obtain ⟨q5, rfl⟩ : ∃ q, g5 = some q := by cases g5 with | none => simp [noN] at hk | some q => exact ⟨q, rfl⟩
    clear hk
    have HM := hid hz.model
    clear hz P0 hm1 hm2 hm3 hm4 hm5
    refine ⟨by rw [← hops]; kernel_rfl, ?_⟩
    rw [← hQ]
    clear hQ hops
    simp only [QN, frM, slV]
    go_wp2
    refine bodyPost_ret (v := .pointer (some ⟨x.heap.size, 0, none⟩)) (by simp [results, Tryz.results12, go_sem]) rfl ⟨⟨x.heap.size, q1, q2, q3, q4, q5⟩, rfl, HM⟩
  | succ k ih =>
    intro g1 g2 g3 g4 g5 x hk hz
    refine ⟨fun h0 => ?_, fun i hi => ?_⟩
    · exfalso
      have hne : ∀ i, i ∉ Region.ready .any ops (lsM g1 g2 g3 g4 g5) := fun i hi => by rw [h0] at hi; cases hi
      have hr : ∀ i, i < 5 → (lsM g1 g2 g3 g4 g5).getD i true ≠ false := fun i hi hf => hne i (mem_ready.2 ⟨hf, by
        rw [← hops]
        rcases (by omega : i = 0 ∨ i = 1 ∨ i = 2 ∨ i = 3 ∨ i = 4) with rfl | rfl | rfl | rfl | rfl
        all_goals exact ⟨_, rfl, fun e he => absurd he (by simp)⟩⟩)
      have r0 := hr 0 (by omega)
      have r1 := hr 1 (by omega)
      have r2 := hr 2 (by omega)
      have r3 := hr 3 (by omega)
      have r4 := hr 4 (by omega)
      simp [lsM] at r0 r1 r2 r3 r4
      cases g1 <;> cases g2 <;> cases g3 <;> cases g4 <;> cases g5 <;> simp [noN] at hk r0 r1 r2 r3 r4
    · obtain ⟨hun, oi, hoi, _⟩ := mem_ready.1 hi
      have hi5 : i < 5 := by
        have := (Array.getElem?_eq_some_iff.1 hoi).1
        rw [← hops] at this
        simpa using this
      clear hoi hi
      rcases (by omega : i = 0 ∨ i = 1 ∨ i = 2 ∨ i = 3 ∨ i = 4) with rfl | rfl | rfl | rfl | rfl
      · cases g1 with
        | some q => simp [lsM] at hun
        | none =>
          clear hun hi5
          refine take_gen (K := fun a' w' => ∃ q, a' = frM (some q) g2 g3 g4 g5 ∧ MZ w (some q) g2 g3 g4 g5 w') (by rw [← hops]; rfl) ?_ ?_
          · rintro a' x' _ ⟨q, rfl, hz'⟩
            exact ih (some q) g2 g3 g4 g5 x' (by simp only [noN] at hk ⊢; omega) hz'
          · have HZ := hid hz.add1
            clear hz ih hk P0
            rw [← hops]
            simp only [opsAt, List.drop, List.take, List.append_nil]
            rw [show frM none g2 g3 g4 g5 = { tmps := #[.pointer none, undef, (slV 16384 g2), (slV 16384 g3), (slV 32768 g4), (slV 2048 g5), undef, undef], defers := [] } from rfl]
            go_wp2
            simp only [QH]
            exact ⟨trivial, x.heap.size, rfl, HZ.out⟩
      · cases g2 with
        | some q => simp [lsM] at hun
        | none =>
          clear hun hi5
          refine take_gen (K := fun a' w' => ∃ q, a' = frM g1 (some q) g3 g4 g5 ∧ MZ w g1 (some q) g3 g4 g5 w') (by rw [← hops]; rfl) ?_ ?_
          · rintro a' x' _ ⟨q, rfl, hz'⟩
            exact ih g1 (some q) g3 g4 g5 x' (by simp only [noN] at hk ⊢; omega) hz'
          · have HZ := hid hz.add2
            clear hz ih hk P0
            rw [← hops]
            simp only [opsAt, List.drop, List.take, List.append_nil]
            rw [show frM g1 none g3 g4 g5 = { tmps := #[.pointer none, (slV 32768 g1), undef, (slV 16384 g3), (slV 32768 g4), (slV 2048 g5), undef, undef], defers := [] } from rfl]
            go_wp2
            simp only [QH]
            exact ⟨trivial, x.heap.size, rfl, HZ.out⟩
      · cases g3 with
        | some q => simp [lsM] at hun
        | none =>
          clear hun hi5
          refine take_gen (K := fun a' w' => ∃ q, a' = frM g1 g2 (some q) g4 g5 ∧ MZ w g1 g2 (some q) g4 g5 w') (by rw [← hops]; rfl) ?_ ?_
          · rintro a' x' _ ⟨q, rfl, hz'⟩
            exact ih g1 g2 (some q) g4 g5 x' (by simp only [noN] at hk ⊢; omega) hz'
          · have HZ := hid hz.add3
            clear hz ih hk P0
            rw [← hops]
            simp only [opsAt, List.drop, List.take, List.append_nil]
            rw [show frM g1 g2 none g4 g5 = { tmps := #[.pointer none, (slV 32768 g1), (slV 16384 g2), undef, (slV 32768 g4), (slV 2048 g5), undef, undef], defers := [] } from rfl]
            go_wp2
            simp only [QH]
            exact ⟨trivial, x.heap.size, rfl, HZ.out⟩
      · cases g4 with
        | some q => simp [lsM] at hun
        | none =>
          clear hun hi5
          refine take_gen (K := fun a' w' => ∃ q, a' = frM g1 g2 g3 (some q) g5 ∧ MZ w g1 g2 g3 (some q) g5 w') (by rw [← hops]; rfl) ?_ ?_
          · rintro a' x' _ ⟨q, rfl, hz'⟩
            exact ih g1 g2 g3 (some q) g5 x' (by simp only [noN] at hk ⊢; omega) hz'
          · have HZ := hid hz.add4
            clear hz ih hk P0
            rw [← hops]
            simp only [opsAt, List.drop, List.take, List.append_nil]
            rw [show frM g1 g2 g3 none g5 = { tmps := #[.pointer none, (slV 32768 g1), (slV 16384 g2), (slV 16384 g3), undef, (slV 2048 g5), undef, undef], defers := [] } from rfl]
            go_wp2
            simp only [QH]
            exact ⟨trivial, x.heap.size, rfl, HZ.out⟩
      · cases g5 with
        | some q => simp [lsM] at hun
        | none =>
          clear hun hi5
          refine take_gen (K := fun a' w' => ∃ q, a' = frM g1 g2 g3 g4 (some q) ∧ MZ w g1 g2 g3 g4 (some q) w') (by rw [← hops]; rfl) ?_ ?_
          · rintro a' x' _ ⟨q, rfl, hz'⟩
            exact ih g1 g2 g3 g4 (some q) x' (by simp only [noN] at hk ⊢; omega) hz'
          · have HZ := hid hz.add5
            clear hz ih hk P0
            rw [← hops]
            simp only [opsAt, List.drop, List.take, List.append_nil]
            rw [show frM g1 g2 g3 g4 none = { tmps := #[.pointer none, (slV 32768 g1), (slV 16384 g2), (slV 16384 g3), (slV 32768 g4), undef, undef, undef], defers := [] } from rfl]
            go_wp2
            simp only [QH]
            exact ⟨trivial, x.heap.size, rfl, HZ.out⟩
end Go.Proofs.Qxb6500887aGreat
