/- Error records: Failed, Before, First, record. -/
import Derived.Test.Qxb6500890aDoorTxB4
namespace Go.Proofs.Qxb6500890aDoor
open Go.RowKit
set_option linter.unusedSimpArgs false
set_option linter.unusedVariables false

structure Er where
  c : Int
  l : Int
  k : Int
def erC (e : Er) : List Value := [.int .i64 e.c, .int .i64 e.l, .int .i64 e.k]
theorem aggEr : AggOf Tryd.prog 29 3 := AggOf.struct Tryd.underlying29 (by kernel_rfl)
theorem info_er : (Tryd.prog.info? 29).map (·.size) = some 3 := by kernel_rfl
theorem er_one (e : Er) : ∀ v ∈ erC e, v.oneCell' = true := by
  intro v hv
  simp [erC] at hv
  rcases hv with rfl | rfl | rfl <;> rfl
def befE (a b : Er) : Bool := if a.l ≠ b.l then decide (a.l < b.l) else decide (a.k < b.k)
def firstE (a b : Er) : Er := if b.c = 0 then a else if a.c = 0 then b else if befE b a then b else a
section
variable {w w' : World}
set_option maxRecDepth 100000
set_option maxHeartbeats 1000000
theorem failed_walk (e : Er) (w : World) : Calls Tryd.prog 68 #[.agg (erC e).toArray] w fun r w' => r = .returned (.bool (e.c != 0)) ∧ Below w.heap.size w w' := by
  obtain ⟨c, l, k⟩ := e
  have HB := hid (nbel w (.cells (erC ⟨c, l, k⟩).toArray 29))
  dsimp only [erC] at HB ⊢
  obtain ⟨b, hb⟩ : ∃ b, (c != 0) = b := ⟨_, rfl⟩
  rw [hb]
  have hb2 : (!(c == 0)) = b := hb
  go_enter Tryd.func68, Tryd.ntmps68
  go_wp2
  go_ret
  exact ⟨rfl, HB.out⟩
theorem before_walk (e f : Er) (w : World) : Calls Tryd.prog 69 #[.agg (erC e).toArray, .agg (erC f).toArray] w fun r w' => r = .returned (.bool (befE e f)) ∧ Below w.heap.size w w' := by
  have HB := hid ((nbel w (.cells (erC e).toArray 29)).trans ((nbel (w.alloc (.cells (erC e).toArray 29)) (.cells (erC f).toArray 29)).mono (by simp)))
  obtain ⟨c, l, k⟩ := e
  obtain ⟨c2, l2, k2⟩ := f
  dsimp only [erC] at HB ⊢
  by_cases h : l = l2
  · have e1 : befE ⟨c, l, k⟩ ⟨c2, l2, k2⟩ = decide (k < k2) := by unfold befE; rw [if_neg (by simpa using h)]
    rw [e1]
    have d1 : (l != l2) = false := by rw [h]; simp
    have d2 : (l == l2) = true := by rw [h]; simp
    clear h e1
    go_enter Tryd.func69, Tryd.ntmps69
    go_wp2
    go_ret
    exact ⟨rfl, HB.out⟩
  · have e1 : befE ⟨c, l, k⟩ ⟨c2, l2, k2⟩ = decide (l < l2) := by unfold befE; rw [if_pos (by simpa using h)]
    rw [e1]
    have d1 : (l != l2) = true := by simpa using h
    have d2 : (l == l2) = false := by simpa using h
    clear h e1
    go_enter Tryd.func69, Tryd.ntmps69
    go_wp2
    go_ret
    exact ⟨rfl, HB.out⟩
/-- First's three blocks. -/
structure F3 (w : World) (p : Nat) (e f : Er) (wr : World) : Prop where
  be : Below w.heap.size w wr
  lo : w.heap.size ≤ p
  b1 : Blk wr p 29 (erC e)
  b2 : Blk wr (p + 1) 29 (erC f)
  b3 : Blk wr (p + 1 + 1) 29 (erC ⟨0, 0, 0⟩)
theorem F3.below {w wr w' : World} {p : Nat} {e f : Er} (h : F3 w p e f wr) (hb : Below wr.heap.size wr w') : F3 w p e f w' := ⟨h.be.trans (hb.mono h.be.size), h.lo, h.b1.below hb, h.b2.below hb, h.b3.below hb⟩
theorem three_new (w : World) (A B C : List Value) (t1 t2 t3 : TypeId) : Blk (((w.alloc (.cells A.toArray t1)).alloc (.cells B.toArray t2)).alloc (.cells C.toArray t3)) w.heap.size t1 A ∧ Blk (((w.alloc (.cells A.toArray t1)).alloc (.cells B.toArray t2)).alloc (.cells C.toArray t3)) (w.heap.size + 1) t2 B ∧ Blk (((w.alloc (.cells A.toArray t1)).alloc (.cells B.toArray t2)).alloc (.cells C.toArray t3)) (w.heap.size + 1 + 1) t3 C ∧ Below w.heap.size w (((w.alloc (.cells A.toArray t1)).alloc (.cells B.toArray t2)).alloc (.cells C.toArray t3)) := by
  have n1 := nbel w (.cells A.toArray t1)
  have k1 := Blk.new w A t1
  have s1 : (w.alloc (.cells A.toArray t1)).heap.size = w.heap.size + 1 := by simp
  generalize w.alloc (.cells A.toArray t1) = w1 at n1 k1 s1
  have n2 := nbel w1 (.cells B.toArray t2)
  have k2 := Blk.new w1 B t2
  have s2 : (w1.alloc (.cells B.toArray t2)).heap.size = w1.heap.size + 1 := by simp
  generalize w1.alloc (.cells B.toArray t2) = w2 at n2 k2 s2
  have n3 := nbel w2 (.cells C.toArray t3)
  have k3 := Blk.new w2 C t3
  rw [s1] at k2
  rw [s2, s1] at k3
  exact ⟨(k1.below n2).below n3, k2.below n3, k3, n1.trans ((n2.trans (n3.mono n2.size)).mono n1.size)⟩
theorem F3.new (w : World) (e f : Er) : F3 w w.heap.size e f (((w.alloc (.cells (erC e).toArray 29)).alloc (.cells (erC f).toArray 29)).alloc (.cells (erC ⟨0, 0, 0⟩).toArray 29)) := by
  obtain ⟨h1, h2, h3, h4⟩ := three_new w (erC e) (erC f) (erC ⟨0, 0, 0⟩) 29 29 29
  exact ⟨h4, Nat.le_refl _, h1, h2, h3⟩
theorem F3.cells {w wr : World} {p : Nat} {c l k c2 l2 k2 : Int} (h : F3 w p ⟨c, l, k⟩ ⟨c2, l2, k2⟩ wr) : (wr.cell? ⟨p, 0, none⟩ = some (.int .i64 c) ∧ wr.cell? ⟨p, 1, none⟩ = some (.int .i64 l) ∧ wr.cell? ⟨p, 2, none⟩ = some (.int .i64 k)) ∧ (wr.cell? ⟨p + 1, 0, none⟩ = some (.int .i64 c2) ∧ wr.cell? ⟨p + 1, 1, none⟩ = some (.int .i64 l2) ∧ wr.cell? ⟨p + 1, 2, none⟩ = some (.int .i64 k2)) := ⟨⟨h.b1.cell 0, h.b1.cell 1, h.b1.cell 2⟩, h.b2.cell 0, h.b2.cell 1, h.b2.cell 2⟩
def FiP (w : World) (e : Er) (r : Ending) (w' : World) : Prop := r = .returned (.agg (erC e).toArray) ∧ Below w.heap.size w w'
theorem first_walk (e f : Er) (w : World) : Calls Tryd.prog 39 #[.agg (erC e).toArray, .agg (erC f).toArray] w fun r w' => FiP w (firstE e f) r w' := by
  have HF0 := hid (F3.new w e f)
  have HFf := hid (failed_walk f)
  have HFe := hid (failed_walk e)
  have HBe := hid (before_walk f e)
  have I0 := hid info_er
  obtain ⟨c, l, k⟩ := e
  obtain ⟨c2, l2, k2⟩ := f
  obtain ⟨p, hp⟩ : ∃ p, w.heap.size = p := ⟨_, rfl⟩
  rw [hp] at HF0
  obtain ⟨fe, hfe⟩ : ∃ x, firstE ⟨c, l, k⟩ ⟨c2, l2, k2⟩ = x := ⟨_, rfl⟩
  rw [hfe]
  have Hfe := hid hfe
  obtain ⟨bb, hbb⟩ : ∃ x, befE ⟨c2, l2, k2⟩ ⟨c, l, k⟩ = x := ⟨_, rfl⟩
  rw [hbb] at HBe
  have Hbb := hid hbb
  clear hfe hbb
  have HN : Hid (∀ (wr w9 : World) (g : Er), F3 w p ⟨c, l, k⟩ ⟨c2, l2, k2⟩ wr → g = fe → Blk w9 (p + 1 + 1) 29 (erC g) → Upd (p + 1 + 1) wr w9 → FiP w fe (.returned (.agg (erC g).toArray)) w9) := hid (fun wr w9 g h1 h2 h3 h4 => ⟨by rw [h2], h1.be.trans (h4.below (by have := h1.lo; omega) h1.be.size)⟩)
  dsimp only [erC] at HF0 HFf HFe HBe ⊢
  go_enter Tryd.func39, Tryd.ntmps39
  go_upto_region 1 with fail
  generalize hwr : (((w.alloc (Obj.cells #[.int .i64 c, .int .i64 l, .int .i64 k] 29)).alloc (Obj.cells #[.int .i64 c2, .int .i64 l2, .int .i64 k2] 29)).alloc (Obj.cells #[.int .i64 0, .int .i64 0, .int .i64 0] 29)) = wr at HF0 ⊢
  clear hwr
  obtain ⟨⟨x1, x2, x3⟩, y1, y2, y3⟩ := HF0.out.cells
  obtain ⟨bf, hbf⟩ : ∃ b, (c2 != 0) = b := ⟨_, rfl⟩
  obtain ⟨be, hbe⟩ : ∃ b, (c != 0) = b := ⟨_, rfl⟩
  rw [hbf] at HFf
  rw [hbe] at HFe
  have Hbf := hid hbf
  have Hbe := hid hbe
  clear hbf hbe
  go_wp2_with fail
  refine (HFf.out _).mono ?_
  rintro r1 w1 ⟨rfl, hb1⟩
  have HF1 := hid (HF0.out.below hb1)
  clear hb1 HF0 x1 x2 x3 y1 y2 y3
  obtain ⟨⟨x1, x2, x3⟩, y1, y2, y3⟩ := HF1.out.cells
  cases bf with
  | false =>
    have HE : Hid ((⟨c, l, k⟩ : Er) = fe) := hid (by
      have h0 : c2 = 0 := by simpa using Hbf.out
      rw [← Hfe.out]; unfold firstE; rw [if_pos h0])
    go_wp2_with (refine wpList_store_blk rfl 29 _ _ rfl (p + 1 + 1) rfl (erC ⟨c, l, k⟩) rfl HF1.out.b3 rfl I0.out (er_one _) ?_; intro w9 HB9 HU9)
    exact bodyPost_ret (results_blk (cs := erC ⟨c, l, k⟩) Tryd.results39 rfl aggEr HB9.out) rfl (HN.out _ _ _ HF1.out HE.out HB9.out HU9.out)
  | true =>
    have h0 : ¬ c2 = 0 := by simpa using Hbf.out
    go_wp2_with fail
    refine (HFe.out _).mono ?_
    rintro r2 w2 ⟨rfl, hb2⟩
    have HF2 := hid (HF1.out.below hb2)
    clear hb2 HF1 x1 x2 x3 y1 y2 y3
    obtain ⟨⟨x1, x2, x3⟩, y1, y2, y3⟩ := HF2.out.cells
    cases be with
    | false =>
      have HE : Hid ((⟨c2, l2, k2⟩ : Er) = fe) := hid (by
        have h1 : c = 0 := by simpa using Hbe.out
        rw [← Hfe.out]; unfold firstE; rw [if_neg h0, if_pos h1])
      clear h0
      go_wp2_with (refine wpList_store_blk rfl 29 _ _ rfl (p + 1 + 1) rfl (erC ⟨c2, l2, k2⟩) rfl HF2.out.b3 rfl I0.out (er_one _) ?_; intro w9 HB9 HU9)
      exact bodyPost_ret (results_blk (cs := erC ⟨c2, l2, k2⟩) Tryd.results39 rfl aggEr HB9.out) rfl (HN.out _ _ _ HF2.out HE.out HB9.out HU9.out)
    | true =>
      have h1 : ¬ c = 0 := by simpa using Hbe.out
      have HE : Hid ((if bb = true then (⟨c2, l2, k2⟩ : Er) else ⟨c, l, k⟩) = fe) := hid (by
        rw [← Hfe.out]; unfold firstE; rw [if_neg h0, if_neg h1, Hbb.out])
      clear h0 h1
      go_wp2_with fail
      refine (HBe.out _).mono ?_
      rintro r3 w3 ⟨rfl, hb3⟩
      have HF3 := hid (HF2.out.below hb3)
      clear hb3 HF2 x1 x2 x3 y1 y2 y3
      obtain ⟨⟨x1, x2, x3⟩, y1, y2, y3⟩ := HF3.out.cells
      cases bb with
      | true =>
        go_wp2_with (refine wpList_store_blk rfl 29 _ _ rfl (p + 1 + 1) rfl (erC ⟨c2, l2, k2⟩) rfl HF3.out.b3 rfl I0.out (er_one _) ?_; intro w9 HB9 HU9)
        exact bodyPost_ret (results_blk (cs := erC ⟨c2, l2, k2⟩) Tryd.results39 rfl aggEr HB9.out) rfl (HN.out _ _ _ HF3.out HE.out HB9.out HU9.out)
      | false =>
        go_wp2_with (refine wpList_store_blk rfl 29 _ _ rfl (p + 1 + 1) rfl (erC ⟨c, l, k⟩) rfl HF3.out.b3 rfl I0.out (er_one _) ?_; intro w9 HB9 HU9)
        exact bodyPost_ret (results_blk (cs := erC ⟨c, l, k⟩) Tryd.results39 rfl aggEr HB9.out) rfl (HN.out _ _ _ HF3.out HE.out HB9.out HU9.out)
end
end Go.Proofs.Qxb6500890aDoor
