/- newSCCFinder (written by tools/mk_scdh.py). -/
import Derived.Test.Qxb6500883aGreatDoorScDg
import Derived.Test.Qxb6500883aGreatDoorMade
namespace Go.Proofs.Qxb6500883aGreatDoor
open Go.RowKit
set_option linter.unusedSimpArgs false
set_option linter.unusedVariables false
/-- What has been made so far. -/
structure MZ (σ0 : Rl) (w0 : World) (n : Nat) (g1 g2 g3 g4 g5 : Option Nat) (σ : Rl) (w : World) : Prop where
  fr : Fr XF σ0 w0 σ w
  b1 : ∀ q, g1 = some q → RwN q n (fun _ => 0) 33 σ w
  b2 : ∀ q, g2 = some q → RwN q n (fun _ => 0) 34 σ w
  b3 : ∀ q, g3 = some q → RwB q n (fun _ => false) 35 σ w
  b4 : ∀ q, g4 = some q → RwN q n (fun _ => 0) 36 σ w
  b5 : ∀ q, g5 = some q → (Blk w q 21 (fnC n (fun _ => .int .i32 0)) ∧ σ q = 39)
section
variable {σ0 σ σ' : Rl} {w w' w0 : World} {n : Nat} {g1 g2 g3 g4 g5 : Option Nat}
theorem MZ.frm (h : MZ σ0 w0 n g1 g2 g3 g4 g5 σ w) (hf : Fr (fun _ => false) σ w σ' w') : MZ σ0 w0 n g1 g2 g3 g4 g5 σ' w' :=
  ⟨h.fr.trans (hf.mono (fun c hc => by cases hc)), fun q e => (h.b1 q e).fr hf rfl, fun q e => (h.b2 q e).fr hf rfl, fun q e => (h.b3 q e).fr hf rfl, fun q e => (h.b4 q e).fr hf rfl, fun q e => ⟨hf.keep (h.b5 q e).1 (h.b5 q e).2 rfl, by rw [hf.old _ (h.b5 q e).1.lt]; exact (h.b5 q e).2⟩⟩
theorem MZ.start (σ : Rl) (w : World) (n : Nat) : MZ σ w n none none none none none σ w := ⟨Fr.refl _ _ _, fun _ e => (by cases e), fun _ e => (by cases e), fun _ e => (by cases e), fun _ e => (by cases e), fun _ e => (by cases e)⟩
theorem MZ.add1 (h : MZ σ0 w0 n none g2 g3 g4 g5 σ w) : MZ σ0 w0 n (some w.heap.size) g2 g3 g4 g5 (fup σ w.heap.size 33) (w.alloc (.cells (madeCells #[.int .i32 0] n) 21)) := by
  have k := h.frm (Fr.alloc (fun _ => false) σ w (.cells (madeCells #[.int .i32 0] n) 21) 33)
  refine ⟨k.fr, fun q e => ?_, k.b2, k.b3, k.b4, k.b5⟩
  cases e
  exact RwK.new 21 (fun x : Nat => Value.int .i32 (x : Int)) σ w n 33 0
theorem MZ.add2 (h : MZ σ0 w0 n g1 none g3 g4 g5 σ w) : MZ σ0 w0 n g1 (some w.heap.size) g3 g4 g5 (fup σ w.heap.size 34) (w.alloc (.cells (madeCells #[.int .i32 0] n) 21)) := by
  have k := h.frm (Fr.alloc (fun _ => false) σ w (.cells (madeCells #[.int .i32 0] n) 21) 34)
  refine ⟨k.fr, k.b1, fun q e => ?_, k.b3, k.b4, k.b5⟩
  cases e
  exact RwK.new 21 (fun x : Nat => Value.int .i32 (x : Int)) σ w n 34 0
theorem MZ.add3 (h : MZ σ0 w0 n g1 g2 none g4 g5 σ w) : MZ σ0 w0 n g1 g2 (some w.heap.size) g4 g5 (fup σ w.heap.size 35) (w.alloc (.cells (madeCells #[.bool false] n) 4)) := by
  have k := h.frm (Fr.alloc (fun _ => false) σ w (.cells (madeCells #[.bool false] n) 4) 35)
  refine ⟨k.fr, k.b1, k.b2, fun q e => ?_, k.b4, k.b5⟩
  cases e
  exact RwK.new 4 (fun x : Bool => Value.bool x) σ w n 35 false
theorem MZ.add4 (h : MZ σ0 w0 n g1 g2 g3 none g5 σ w) : MZ σ0 w0 n g1 g2 g3 (some w.heap.size) g5 (fup σ w.heap.size 36) (w.alloc (.cells (madeCells #[.int .i32 0] n) 21)) := by
  have k := h.frm (Fr.alloc (fun _ => false) σ w (.cells (madeCells #[.int .i32 0] n) 21) 36)
  refine ⟨k.fr, k.b1, k.b2, k.b3, fun q e => ?_, k.b5⟩
  cases e
  exact RwK.new 21 (fun x : Nat => Value.int .i32 (x : Int)) σ w n 36 0
theorem MZ.add5 (h : MZ σ0 w0 n g1 g2 g3 g4 none σ w) : MZ σ0 w0 n g1 g2 g3 g4 (some w.heap.size) (fup σ w.heap.size 39) (w.alloc (.cells (madeCells #[.int .i32 0] n) 21)) := by
  have k := h.frm (Fr.alloc (fun _ => false) σ w (.cells (madeCells #[.int .i32 0] n) 21) 39)
  refine ⟨k.fr, k.b1, k.b2, k.b3, k.b4, fun q e => ?_⟩
  cases e
  refine ⟨?_, fup_self _ _ _⟩
  rw [made_fn]
  exact Blk.new w _ _
/-- A slot: nothing yet, or a row. -/
def slV (k n : Nat) (g : Option Nat) : Value := match g with | none => undef | some q => .slice (some ⟨q, 0, none⟩) k n
def frM (gB gS n : Nat) (g1 g2 g3 g4 g5 : Option Nat) : Act := { tmps := #[.pointer (some ⟨gB, 0, none⟩), undef, .pointer none, .int .i64 (n : Int), .pointer (some ⟨gB, 0, none⟩), .pointer (some ⟨gB, 0, none⟩), .pointer (some ⟨gB, 0, none⟩), .slice (some ⟨gS, 0, none⟩) (n + 1) (n + 1), .int .i64 ((n : Int) + 1), .int .i64 (n : Int), .pointer (some ⟨gB, 0, none⟩), .int .i64 (n : Int), (slV n n g1), .int .i64 (n : Int), (slV n n g2), .int .i64 (n : Int), (slV n n g3), .int .i64 (n : Int), (slV n n g4), .int .i64 (n : Int), (slV 0 n g5), undef, undef], defers := [] }
def lsM (g1 g2 g3 g4 g5 : Option Nat) : Array Bool := #[true, true, g1.isSome, true, g2.isSome, true, g3.isSome, true, g4.isSome, true, g5.isSome]
def noN : Option Nat → Nat
  | none => 1
  | some _ => 0
end
section
variable {σ : Rl} {w : World} {A : Gr} {va : Value}
/-- A new finder. -/
theorem MZ.finder {x : World} {σ1 : Rl} {gB gS q1 q2 q3 q4 q5 : Nat} (h : MZ σ w A.length (some q1) (some q2) (some q3) (some q4) (some q5) σ1 x) (hb : Blk w gB 210 [.slice (some ⟨gS, 0, none⟩) (A.length + 1) (A.length + 1), va]) (hrb : σ gB = 29) (hs : RwN gS (A.length + 1) (stA A) 31 σ w) (ha : RowX rtJ w σ 32 va A.flatten) (hn : A.length ≤ 65536) :
    FM (fup σ1 x.heap.size 30) (x.alloc (.cells (fiC ⟨gB, gS, x.heap.size, q1, q2, q3, q4⟩ A.length 0 (.slice none 0 0) (.slice none 0 0) (.slice (some ⟨q5, 0, none⟩) 0 A.length)).toArray 170)) ⟨gB, gS, x.heap.size, q1, q2, q3, q4⟩ A va TJ.zero (onS TJ.zero) (.slice none 0 0) (.slice none 0 0) (.slice (some ⟨q5, 0, none⟩) 0 A.length) ∧ Fr XF σ w (fup σ1 x.heap.size 30) (x.alloc (.cells (fiC ⟨gB, gS, x.heap.size, q1, q2, q3, q4⟩ A.length 0 (.slice none 0 0) (.slice none 0 0) (.slice (some ⟨q5, 0, none⟩) 0 A.length)).toArray 170)) := by
  have hf := Fr.alloc (fun _ => false) σ1 x (.cells (fiC ⟨gB, gS, x.heap.size, q1, q2, q3, q4⟩ A.length 0 (.slice none 0 0) (.slice none 0 0) (.slice (some ⟨q5, 0, none⟩) 0 A.length)).toArray 170) 30
  have k := h.frm hf
  have hlt := h.fr.size
  refine ⟨⟨k.fr.keep hb hrb rfl, by rw [k.fr.old _ hb.lt]; exact hrb, hs.fr k.fr rfl, ha.fr k.fr rfl, Blk.new x _ _, fup_self _ _ _, k.b1 _ rfl, k.b2 _ rfl, (k.b3 _ rfl).congr (fun j _ => by unfold onS TJ.zero; simp), k.b4 _ rfl, RowX.nil _ _ _ _, RowX.nil _ _ _ _, ?_⟩, k.fr⟩
  obtain ⟨e1, e2⟩ := k.b5 _ rfl
  exact RowX.made e1 (by decide) (fun _ => rfl) (by rw [fnC_len]; show _ = A.length * 1; omega) (by unfold maxLen; omega) rfl (Nat.zero_le _) (by rfl) e2
attribute [local irreducible] madeCells in
set_option maxRecDepth 100000 in
set_option maxHeartbeats 4000000 in
theorem newSCCW {gB gS n : Nat} (hn' : A.length = n) (hb : Blk w gB 210 [.slice (some ⟨gS, 0, none⟩) (n + 1) (n + 1), va]) (hrb : σ gB = 29) (hs : RwN gS (n + 1) (stA A) 31 σ w) (ha : RowX rtJ w σ 32 va A.flatten) (hn : n ≤ 65536) :
    Calls Tryz.prog 87 #[.pointer (some ⟨gB, 0, none⟩)] w fun e w' => ∃ sB, e = .returned (.pointer (some ⟨sB, 0, none⟩)) ∧ Hid (∃ L σ' vs vz vo, L.sB = sB ∧ FM σ' w' L A va TJ.zero (onS TJ.zero) vs vz vo ∧ Fr XF σ w σ' w') := by
  have y0 : w.cell? ⟨gB, 0, none⟩ = some (.slice (some ⟨gS, 0, none⟩) (n + 1) (n + 1)) := hb.cell 0
  have i1 : ((n + 1 : Nat) : Int) - 1 = (n : Int) := by omega
  have hm1 : ∀ w : World, (Instr.makeSlice 91 (.int .i64 (n : Int)) (.int .i64 (n : Int))).run Tryz.prog w = .ok (.slice (some ⟨w.heap.size, 0, none⟩) n n) (w.alloc (.cells (madeCells #[.int .i32 0] n) 21)) := fun w => make_i32 n (by omega) w
  have hm3 : ∀ w : World, (Instr.makeSlice 55 (.int .i64 (n : Int)) (.int .i64 (n : Int))).run Tryz.prog w = .ok (.slice (some ⟨w.heap.size, 0, none⟩) n n) (w.alloc (.cells (madeCells #[.bool false] n) 4)) := run_make_row' (P := Tryz.prog) 55 4 (.bool false) 1 (by kernel_rfl) (by kernel_rfl) rfl .i64 .i64 n (by omega) (by omega)
  have hm5 : ∀ w : World, (Instr.makeSlice 91 (.int .i64 0) (.int .i64 (n : Int))).run Tryz.prog w = .ok (.slice (some ⟨w.heap.size, 0, none⟩) 0 n) (w.alloc (.cells (madeCells #[.int .i32 0] n) 21)) := fun w => run_make_lc (P := Tryz.prog) 91 21 (.int .i32 0) 4 (by kernel_rfl) (by kernel_rfl) rfl .i64 .i64 0 n (Nat.zero_le _) (by omega) (by omega) w
  have P0 : Hid (MZ σ w n none none none none none σ w.drew) := hid ((MZ.start σ w n).frm (Fr.below (Drew.below ⟨1, rfl⟩ _)))
  have HB := hid (And.intro hb (And.intro hrb (And.intro hs ha)))
  have Hn := hid hn'
  clear hb hrb hs ha hn'
  go_enter Tryz.func87, Tryz.ntmps87
  go_upto_region 2 with fail
  clear y0
  refine region_lights (fun _ => True) 11 [0, 1, 3, 5, 7, 9] (fun listed => listed == #[true, true, false, true, false, true, false, true, false, true, false]) 5 rfl (by kernel_rfl) (by kernel_rfl) (fun d _ _ _ _ h => by cases d <;> exact h) trivial ?_
  refine ⟨frM gB gS n none none none none none, fun W _ => ?_, fun listed hl => ?_⟩
  · simp only [List.take, opsAt, List.drop, List.cons_append, List.nil_append]
    repeat (go_big_quiet_step (fail))
    exact rfl
  have hl' := eq_of_beq hl
  subst hl'
  clear hl
  simp only [List.take, List.drop]
  generalize hops : List.toArray _ = ops
  generalize hQ : QN Tryz.prog _ _ _ = QQ
  suffices H : ∀ (k : Nat) (g1 g2 g3 g4 g5 : Option Nat) (σx : Rl) (x : World), noN g1 + noN g2 + noN g3 + noN g4 + noN g5 = k → MZ σ w n g1 g2 g3 g4 g5 σx x → wpAnyH Tryz.prog .any ops QQ (fun _ => True) k (lsM g1 g2 g3 g4 g5) (frM gB gS n g1 g2 g3 g4 g5) x from H 5 none none none none none _ _ rfl P0.out
  intro k
  induction k with
  | zero =>
    intro g1 g2 g3 g4 g5 σx x hk hz
    obtain ⟨q1, rfl⟩ : ∃ q, g1 = some q := by cases g1 with | none => simp [noN] at hk | some q => exact ⟨q, rfl⟩
    obtain ⟨q2, rfl⟩ : ∃ q, g2 = some q := by cases g2 with | none => simp [noN] at hk | some q => exact ⟨q, rfl⟩
    obtain ⟨q3, rfl⟩ : ∃ q, g3 = some q := by cases g3 with | none => simp [noN] at hk | some q => exact ⟨q, rfl⟩
    obtain ⟨q4, rfl⟩ : ∃ q, g4 = some q := by cases g4 with | none => simp [noN] at hk | some q => exact ⟨q, rfl⟩
    obtain ⟨q5, rfl⟩ : ∃ q, g5 = some q := by cases g5 with | none => simp [noN] at hk | some q => exact ⟨q, rfl⟩
    clear hk
    have HM : Hid (∃ L σ' vs vz vo, L.sB = x.heap.size ∧ FM σ' (x.alloc (.cells #[.pointer (some ⟨gB, 0, none⟩), .slice (some ⟨q1, 0, none⟩) n n, .slice (some ⟨q2, 0, none⟩) n n, .slice (some ⟨q3, 0, none⟩) n n, .slice none 0 0, .slice (some ⟨q4, 0, none⟩) n n, .slice none 0 0, .slice (some ⟨q5, 0, none⟩) 0 n, .int .i32 0] 170)) L A va TJ.zero (onS TJ.zero) vs vz vo ∧ Fr XF σ w σ' (x.alloc (.cells #[.pointer (some ⟨gB, 0, none⟩), .slice (some ⟨q1, 0, none⟩) n n, .slice (some ⟨q2, 0, none⟩) n n, .slice (some ⟨q3, 0, none⟩) n n, .slice none 0 0, .slice (some ⟨q4, 0, none⟩) n n, .slice none 0 0, .slice (some ⟨q5, 0, none⟩) 0 n, .int .i32 0] 170))) := hid (by
      have hnn := Hn.out
      subst hnn
      have := hz.finder HB.out.1 HB.out.2.1 HB.out.2.2.1 HB.out.2.2.2 hn
      exact ⟨_, _, _, _, _, rfl, this⟩)
    clear hz P0 hm1 hm3 hm5
    refine ⟨by rw [← hops]; kernel_rfl, ?_⟩
    rw [← hQ]
    clear hQ hops
    simp only [QN, frM, slV]
    go_wp2
    refine bodyPost_ret (v := .pointer (some ⟨x.heap.size, 0, none⟩)) (by simp [results, Tryz.results87, go_sem]) rfl ⟨x.heap.size, rfl, HM⟩
  | succ k ih =>
    intro g1 g2 g3 g4 g5 σx x hk hz
    refine ⟨fun h0 => ?_, fun i hi => ?_⟩
    · exfalso
      have hne : ∀ i, i ∉ Region.ready .any ops (lsM g1 g2 g3 g4 g5) := fun i hi => by rw [h0] at hi; cases hi
      have hr : ∀ i, i = 2 ∨ i = 4 ∨ i = 6 ∨ i = 8 ∨ i = 10 → (lsM g1 g2 g3 g4 g5).getD i true ≠ false := fun i hi hf => hne i (mem_ready.2 ⟨hf, by
        rw [← hops]
        rcases hi with rfl | rfl | rfl | rfl | rfl
        all_goals exact ⟨_, rfl, fun e he => by simp at he; subst he; intro _; rfl⟩⟩)
      have r0 := hr 2 (by omega)
      have r1 := hr 4 (by omega)
      have r2 := hr 6 (by omega)
      have r3 := hr 8 (by omega)
      have r4 := hr 10 (by omega)
      simp [lsM] at r0 r1 r2 r3 r4
      cases g1 <;> cases g2 <;> cases g3 <;> cases g4 <;> cases g5 <;> simp [noN] at hk r0 r1 r2 r3 r4
    · obtain ⟨hun, oi, hoi, _⟩ := mem_ready.1 hi
      have hi5 : i < 11 := by
        have := (Array.getElem?_eq_some_iff.1 hoi).1
        rw [← hops] at this
        simpa using this
      clear hoi hi
      rcases (by omega : i = 2 ∨ i = 4 ∨ i = 6 ∨ i = 8 ∨ i = 10 ∨ i = 0 ∨ i = 1 ∨ i = 3 ∨ i = 5 ∨ i = 7 ∨ i = 9) with rfl | rfl | rfl | rfl | rfl | rfl | rfl | rfl | rfl | rfl | rfl
      · cases g1 with
        | some q => simp [lsM] at hun
        | none =>
          clear hun hi5
          refine take_gen (K := fun a' w' => ∃ q σy, a' = frM gB gS n (some q) g2 g3 g4 g5 ∧ MZ σ w n (some q) g2 g3 g4 g5 σy w') (by rw [← hops]; rfl) ?_ ?_
          · rintro a' x' _ ⟨q, σy, rfl, hz'⟩
            exact ih (some q) g2 g3 g4 g5 σy x' (by simp only [noN] at hk ⊢; omega) hz'
          · have HZ := hid hz.add1
            clear hz ih hk P0 hm3 hm5
            rw [← hops]
            simp only [opsAt, List.drop, List.take, List.append_nil]
            rw [show frM gB gS n none g2 g3 g4 g5 = { tmps := #[.pointer (some ⟨gB, 0, none⟩), undef, .pointer none, .int .i64 (n : Int), .pointer (some ⟨gB, 0, none⟩), .pointer (some ⟨gB, 0, none⟩), .pointer (some ⟨gB, 0, none⟩), .slice (some ⟨gS, 0, none⟩) (n + 1) (n + 1), .int .i64 ((n : Int) + 1), .int .i64 (n : Int), .pointer (some ⟨gB, 0, none⟩), .int .i64 (n : Int), undef, .int .i64 (n : Int), (slV n n g2), .int .i64 (n : Int), (slV n n g3), .int .i64 (n : Int), (slV n n g4), .int .i64 (n : Int), (slV 0 n g5), undef, undef], defers := [] } from rfl]
            go_wp2
            simp only [QH]
            exact ⟨trivial, x.heap.size, _, rfl, HZ.out⟩
      · cases g2 with
        | some q => simp [lsM] at hun
        | none =>
          clear hun hi5
          refine take_gen (K := fun a' w' => ∃ q σy, a' = frM gB gS n g1 (some q) g3 g4 g5 ∧ MZ σ w n g1 (some q) g3 g4 g5 σy w') (by rw [← hops]; rfl) ?_ ?_
          · rintro a' x' _ ⟨q, σy, rfl, hz'⟩
            exact ih g1 (some q) g3 g4 g5 σy x' (by simp only [noN] at hk ⊢; omega) hz'
          · have HZ := hid hz.add2
            clear hz ih hk P0 hm3 hm5
            rw [← hops]
            simp only [opsAt, List.drop, List.take, List.append_nil]
            rw [show frM gB gS n g1 none g3 g4 g5 = { tmps := #[.pointer (some ⟨gB, 0, none⟩), undef, .pointer none, .int .i64 (n : Int), .pointer (some ⟨gB, 0, none⟩), .pointer (some ⟨gB, 0, none⟩), .pointer (some ⟨gB, 0, none⟩), .slice (some ⟨gS, 0, none⟩) (n + 1) (n + 1), .int .i64 ((n : Int) + 1), .int .i64 (n : Int), .pointer (some ⟨gB, 0, none⟩), .int .i64 (n : Int), (slV n n g1), .int .i64 (n : Int), undef, .int .i64 (n : Int), (slV n n g3), .int .i64 (n : Int), (slV n n g4), .int .i64 (n : Int), (slV 0 n g5), undef, undef], defers := [] } from rfl]
            go_wp2
            simp only [QH]
            exact ⟨trivial, x.heap.size, _, rfl, HZ.out⟩
      · cases g3 with
        | some q => simp [lsM] at hun
        | none =>
          clear hun hi5
          refine take_gen (K := fun a' w' => ∃ q σy, a' = frM gB gS n g1 g2 (some q) g4 g5 ∧ MZ σ w n g1 g2 (some q) g4 g5 σy w') (by rw [← hops]; rfl) ?_ ?_
          · rintro a' x' _ ⟨q, σy, rfl, hz'⟩
            exact ih g1 g2 (some q) g4 g5 σy x' (by simp only [noN] at hk ⊢; omega) hz'
          · have HZ := hid hz.add3
            clear hz ih hk P0 hm1 hm5
            rw [← hops]
            simp only [opsAt, List.drop, List.take, List.append_nil]
            rw [show frM gB gS n g1 g2 none g4 g5 = { tmps := #[.pointer (some ⟨gB, 0, none⟩), undef, .pointer none, .int .i64 (n : Int), .pointer (some ⟨gB, 0, none⟩), .pointer (some ⟨gB, 0, none⟩), .pointer (some ⟨gB, 0, none⟩), .slice (some ⟨gS, 0, none⟩) (n + 1) (n + 1), .int .i64 ((n : Int) + 1), .int .i64 (n : Int), .pointer (some ⟨gB, 0, none⟩), .int .i64 (n : Int), (slV n n g1), .int .i64 (n : Int), (slV n n g2), .int .i64 (n : Int), undef, .int .i64 (n : Int), (slV n n g4), .int .i64 (n : Int), (slV 0 n g5), undef, undef], defers := [] } from rfl]
            go_wp2
            simp only [QH]
            exact ⟨trivial, x.heap.size, _, rfl, HZ.out⟩
      · cases g4 with
        | some q => simp [lsM] at hun
        | none =>
          clear hun hi5
          refine take_gen (K := fun a' w' => ∃ q σy, a' = frM gB gS n g1 g2 g3 (some q) g5 ∧ MZ σ w n g1 g2 g3 (some q) g5 σy w') (by rw [← hops]; rfl) ?_ ?_
          · rintro a' x' _ ⟨q, σy, rfl, hz'⟩
            exact ih g1 g2 g3 (some q) g5 σy x' (by simp only [noN] at hk ⊢; omega) hz'
          · have HZ := hid hz.add4
            clear hz ih hk P0 hm3 hm5
            rw [← hops]
            simp only [opsAt, List.drop, List.take, List.append_nil]
            rw [show frM gB gS n g1 g2 g3 none g5 = { tmps := #[.pointer (some ⟨gB, 0, none⟩), undef, .pointer none, .int .i64 (n : Int), .pointer (some ⟨gB, 0, none⟩), .pointer (some ⟨gB, 0, none⟩), .pointer (some ⟨gB, 0, none⟩), .slice (some ⟨gS, 0, none⟩) (n + 1) (n + 1), .int .i64 ((n : Int) + 1), .int .i64 (n : Int), .pointer (some ⟨gB, 0, none⟩), .int .i64 (n : Int), (slV n n g1), .int .i64 (n : Int), (slV n n g2), .int .i64 (n : Int), (slV n n g3), .int .i64 (n : Int), undef, .int .i64 (n : Int), (slV 0 n g5), undef, undef], defers := [] } from rfl]
            go_wp2
            simp only [QH]
            exact ⟨trivial, x.heap.size, _, rfl, HZ.out⟩
      · cases g5 with
        | some q => simp [lsM] at hun
        | none =>
          clear hun hi5
          refine take_gen (K := fun a' w' => ∃ q σy, a' = frM gB gS n g1 g2 g3 g4 (some q) ∧ MZ σ w n g1 g2 g3 g4 (some q) σy w') (by rw [← hops]; rfl) ?_ ?_
          · rintro a' x' _ ⟨q, σy, rfl, hz'⟩
            exact ih g1 g2 g3 g4 (some q) σy x' (by simp only [noN] at hk ⊢; omega) hz'
          · have HZ := hid hz.add5
            clear hz ih hk P0 hm1 hm3
            rw [← hops]
            simp only [opsAt, List.drop, List.take, List.append_nil]
            rw [show frM gB gS n g1 g2 g3 g4 none = { tmps := #[.pointer (some ⟨gB, 0, none⟩), undef, .pointer none, .int .i64 (n : Int), .pointer (some ⟨gB, 0, none⟩), .pointer (some ⟨gB, 0, none⟩), .pointer (some ⟨gB, 0, none⟩), .slice (some ⟨gS, 0, none⟩) (n + 1) (n + 1), .int .i64 ((n : Int) + 1), .int .i64 (n : Int), .pointer (some ⟨gB, 0, none⟩), .int .i64 (n : Int), (slV n n g1), .int .i64 (n : Int), (slV n n g2), .int .i64 (n : Int), (slV n n g3), .int .i64 (n : Int), (slV n n g4), .int .i64 (n : Int), undef, undef, undef], defers := [] } from rfl]
            go_wp2
            simp only [QH]
            exact ⟨trivial, x.heap.size, _, rfl, HZ.out⟩
      all_goals (simp [lsM] at hun)
end
end Go.Proofs.Qxb6500883aGreatDoor
