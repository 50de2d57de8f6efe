/- diagnostics.finish. -/
import Derived.Test.Qxb6500883aGreatDoorScFb
namespace Go.Proofs.Qxb6500883aGreatDoor
open Go.RowKit
set_option linter.unusedSimpArgs false
set_option linter.unusedVariables false
section
variable {N mg : Nat} {ρ ρ' σ : Rl} {w w' w0 w1 w2 : World} {l : PL} {bs : List UInt8} {F : FS} {U : FV} {c n : Nat} {V V' : CV} {errs : List (Nat × Nat)} {v : Value}
theorem LtM.upd {n0 q g : Nat} {ls : List Nat} (h : LtM n0 w q ls) (hu : Upd g w w') (hg : g < n0) : LtM n0 w' q ls := by
  obtain ⟨v, h1, h2⟩ := h.row
  have hlo := h.lo
  exact ⟨⟨v, h1.upd hu (by omega), h2.upd hu (fun k hk => by have := h2.hi k hk; omega)⟩, h.lo⟩
/-- An error that may be placed already. -/
def ErX (bs : List UInt8) (n : Nat) (w : World) (q : Nat) : Prop := ∃ (k pos : Nat) (pl : Nat × Nat) (m : ByteArray), 0 < m.size ∧ m.size ≤ 35184372088832 ∧ pos ≤ n ∧ Blk w q 41 (erC k pos pl m)
/-- The errors are placed up to entry i. -/
structure FnI (Q : Nat → Prop) (bs : List UInt8) (n ga m gt n0 : Nat) (w0 : World) (i : Nat) (w : World) : Prop where
  e : ∀ q, Q q → ErX bs n w q ∧ q < n0 ∧ q ≠ ga
  r : ∀ j, j < m → ∃ q, w.cell? ⟨ga, j, none⟩ = some (.pointer (some ⟨q, 0, none⟩)) ∧ Q q ∧ (j < i → ∃ k pos, ErM w q bs k pos ∧ pos ≤ n)
  t : LtM n0 w gt (stF bs n)
  lt : ga < n0 ∧ n0 ≤ w.heap.size
  o : w.os = w0.os ∧ w.tape = w0.tape ∧ w.output = w0.output ∧ w0.heap.size ≤ w.heap.size ∧ ∀ g, g < w0.heap.size → ¬ Q g → w.heap[g]? = w0.heap[g]?
theorem FnI.drew {Q : Nat → Prop} {ga m gt n0 i : Nat} (h : FnI Q bs n ga m gt n0 w0 i w) (hd : Drew w w') : FnI Q bs n ga m gt n0 w0 i w' := by
  obtain ⟨x, rfl⟩ := hd
  exact ⟨h.e, fun j hj => by obtain ⟨q, r1, r2, r3⟩ := h.r j hj; exact ⟨q, r1, r2, fun hji => by obtain ⟨k, p, a1, a2⟩ := r3 hji; obtain ⟨m', b1, b2, b3⟩ := a1.e; exact ⟨k, p, ⟨m', b1, b2, b3⟩, a2⟩⟩, h.t.upd (Upd.drewN (Upd.refl 0 w) x) (by have := h.lt; omega), h.lt, h.o⟩
/-- One error is placed. -/
theorem FnI.step {Q : Nat → Prop} {ga m gt n0 i q k pos : Nat} {pl : Nat × Nat} {ms : ByteArray} (h : FnI Q bs n ga m gt n0 w0 i w) (him : i < m) (hQ : Q q) (hc : w.cell? ⟨ga, i, none⟩ = some (.pointer (some ⟨q, 0, none⟩))) (hb : Blk w q 41 (erC k pos pl ms)) (hm : 0 < ms.size) (hm2 : ms.size ≤ 35184372088832) (hp : pos ≤ n) :
    FnI Q bs n ga m gt n0 w0 (i + 1) ((w.setCell ⟨q, 2, none⟩ (.int .i64 ((placeP (bs.take pos)).1 : Int))).setCell ⟨q, 3, none⟩ (.int .i64 ((placeP (bs.take pos)).2 : Int))) := by
  obtain ⟨w2, hw2⟩ : ∃ w2, (w.setCell ⟨q, 2, none⟩ (.int .i64 ((placeP (bs.take pos)).1 : Int))).setCell ⟨q, 3, none⟩ (.int .i64 ((placeP (bs.take pos)).2 : Int)) = w2 := ⟨_, rfl⟩
  have hu : Upd q w w2 := by
    rw [← hw2]
    exact Upd.setCell (Upd.setCell (Upd.refl q w) (p := ⟨q, 2, none⟩) rfl _) (p := ⟨q, 3, none⟩) rfl _
  have hb2 : Blk w2 q 41 (erC k pos (placeP (bs.take pos)) ms) := by
    rw [← hw2]
    exact (hb.set 2 _).set 3 _
  rw [hw2]
  obtain ⟨hq1, hq2, hq3⟩ := h.e q hQ
  have hlt := h.lt
  refine ⟨fun q' hq' => ?_, fun j hj => ?_, h.t.upd hu hq2, ⟨hlt.1, Nat.le_trans hlt.2 hu.size⟩, ⟨hu.os.trans h.o.1, hu.tape.trans h.o.2.1, hu.output.trans h.o.2.2.1, Nat.le_trans h.o.2.2.2.1 hu.size, fun g hg hn => (hu.block g (Nat.lt_of_lt_of_le hg h.o.2.2.2.1) (fun e => by subst e; exact hn hQ)).trans (h.o.2.2.2.2 g hg hn)⟩⟩
  · obtain ⟨e1, e2, e3⟩ := h.e q' hq'
    refine ⟨?_, e2, e3⟩
    by_cases e : q' = q
    · subst e; exact ⟨k, pos, _, ms, hm, hm2, hp, hb2⟩
    · obtain ⟨k', p', pl', m', a1, a2, a3, a4⟩ := e1
      exact ⟨k', p', pl', m', a1, a2, a3, a4.upd hu e⟩
  · obtain ⟨q', r1, r2, r3⟩ := h.r j hj
    obtain ⟨e1, e2, e3⟩ := h.e q' r2
    refine ⟨q', by rw [keepCell j (hu.block ga (by omega) (fun e => hq3 e.symm))]; exact r1, r2, fun hji => ?_⟩
    by_cases e : q' = q
    · subst e; exact ⟨k, pos, ⟨ms, hm, hm2, hb2⟩, hp⟩
    · by_cases e4 : j = i
      · subst e4
        rw [hc] at r1
        cases r1
        exact absurd rfl e
      · obtain ⟨k', p', a1, a2⟩ := r3 (by omega)
        obtain ⟨m', b1, b2, b3⟩ := a1.e
        exact ⟨k', p', ⟨m', b1, b2, b3.upd hu e⟩, a2⟩
/-- What finish leaves: a row of placed errors; besides them only the errors' own blocks and the row were written. -/
def FnQ (bs : List UInt8) (n : Nat) (w0 : World) (Q : Nat → Prop) (ga m : Nat) (w : World) : Prop := (∀ j, j < m → ∃ q k pos, w.cell? ⟨ga, j, none⟩ = some (.pointer (some ⟨q, 0, none⟩)) ∧ ErM w q bs k pos ∧ pos ≤ n) ∧ w.os = w0.os ∧ w.tape = w0.tape ∧ w.output = w0.output ∧ w0.heap.size ≤ w.heap.size ∧ ∀ g, g < w0.heap.size → ¬ Q g → g ≠ ga → w.heap[g]? = w0.heap[g]?
/-- The row of errors as the sort sees it. -/
theorem CM.sorts (h : CM N mg ρ w l bs F U c V errs) (hne : errs ≠ []) : ∃ (ga qa : Nat) (qs : List Nat), V.list = .slice (some ⟨ga, 0, none⟩) errs.length qa ∧ errs.length ≤ qa ∧ qa ≤ maxLen ∧ ρ ga = 9 ∧ (∀ q ∈ qs, ρ q = 10 ∧ ErX bs l.n w q) ∧ (∃ fa, Blk w ga 25 (fnC qa fa) ∧ ∀ i, i < errs.length → PtQ (fun q => q ∈ qs) (fa i)) := by
  obtain ⟨qs, hr, hl, hnd, hq⟩ := h.dg.row
  have hpos : 0 < qs.length := by rw [hl]; exact List.length_pos_iff.2 hne
  rcases hr.own.2 with ⟨_, h0⟩ | ⟨ga, cap, cur, hv, _, hg, hn, hc, hs, ht⟩
  · omega
  · have hrole := hr.role ga (by rw [hv]; rfl)
    have hcs : cur.size = cap := by rw [hs]; show cap * 1 = cap; omega
    refine ⟨ga, cap, qs, by rw [hv, hl], by rw [← hl]; exact hn, hc, hrole, fun q hqm => ?_, ⟨fun i => cur.toList.getD i undef, ?_, fun i hi => ?_⟩⟩
    · obtain ⟨i, hi⟩ := List.mem_iff_getElem?.1 hqm
      obtain ⟨k, m, e1, e2, e3, e4, e5⟩ := hq i q hi
      exact ⟨e5, k.1, k.2, (0, 0), m, e2, e3, h.dg.pos k (List.mem_of_getElem? e1), e4⟩
    · have e : fnC cap (fun i => cur.toList.getD i undef) = cur.toList := by
        apply List.ext_getElem?
        intro i
        by_cases hi : i < cap
        · rw [fnC_get _ hi, List.getD_eq_getElem?_getD, List.getElem?_eq_getElem (by simp [hcs]; exact hi)]
          rfl
        · rw [List.getElem?_eq_none (by rw [fnC_len]; omega), List.getElem?_eq_none (by simp [hcs]; omega)]
      rw [e]
      exact hg
    · obtain ⟨q, hqi⟩ : ∃ q, qs[i]? = some q := ⟨_, List.getElem?_eq_getElem (by rw [hl]; exact hi)⟩
      refine ⟨q, ?_, List.mem_of_getElem? hqi⟩
      have h1 : (qs.flatMap rtQ.f)[i]? = some (.pointer (some ⟨q, 0, none⟩)) := by
        have e2 := getElem?_flatMap_const (f := rtQ.f) (sz := 1) (by decide) qs (fun _ _ => rfl) i
        rw [e2, Nat.div_one, hqi, Nat.mod_one]
        rfl
      rw [← ht, List.getElem?_take] at h1
      show cur.toList.getD i undef = _
      rw [List.getD_eq_getElem?_getD]
      split at h1
      · rw [h1]; rfl
      · cases h1
set_option maxRecDepth 100000 in
set_option maxHeartbeats 8000000 in
theorem finishW (h : CM N mg ρ w l bs F U c V errs) (hne : errs ≠ []) (hl : errs.length ≤ 200000000000) : Calls Tryz.prog 60 #[.pointer (some ⟨c, 1, none⟩)] w fun e w' => ∃ ga qa, e = .returned (.slice (some ⟨ga, 0, none⟩) errs.length qa) ∧ Hid (FnQ bs l.n w (fun q => ρ q = 10) ga errs.length w' ∧ ρ ga = 9) := by
  obtain ⟨ga, qa, qs, hv, hq1, hq2, hr9, hqs, hfa⟩ := h.sorts hne
  obtain ⟨m, hm⟩ : ∃ m, errs.length = m := ⟨_, rfl⟩
  rw [hm] at hv hq1 hfa hl ⊢
  have hm0 : 0 < m := by rw [← hm]; exact List.length_pos_iff.2 hne
  have HM := hid h
  have Hqs := hid hqs
  have Hfa := hid hfa
  have Hr9 := hid hr9
  have Hv := hid hv
  have c1 : w.cell? ⟨c, 1, none⟩ = some (.slice l.a l.n l.c) := h.cells.2.1
  have c2 : w.cell? ⟨c, 2, none⟩ = some (.slice (some ⟨ga, 0, none⟩) m qa) := by rw [← hv]; exact h.cells.2.2
  have hmk : ∀ w : World, (Instr.makeSlice 33 (.int .i64 (m : Int)) (.int .i64 (m : Int))).run Tryz.prog w = .ok (.slice (some ⟨w.heap.size, 0, none⟩) m m) (w.alloc (.cells (madeCells #[.pointer none] m) 25)) := fun w => run_make_row' (P := Tryz.prog) 33 25 (.pointer none) 8 (by kernel_rfl) (by kernel_rfl) rfl .i64 .i64 m (by omega) (by omega) w
  clear h hne hm hqs hfa hr9 hv
  go_enter Tryz.func60, Tryz.ntmps60
  go_upto_region 1 with fail
  have HB : Hid (Below w.heap.size w w.drew) := hid (Drew.below ⟨1, rfl⟩ _)
  have HcB : Hid (∀ wz, Below w.heap.size w wz → wz.cell? ⟨c, 2, none⟩ = some (.slice (some ⟨ga, 0, none⟩) m qa)) := hid (fun wz hb => by rw [keepCell 2 (hb.block c HM.out.cb.lt)]; exact c2)
  refine wp_region_heavy (fun wz => wz.cell? ⟨c, 2, none⟩ = some (.slice (some ⟨ga, 0, none⟩) m qa)) 10 [0, 1, 2, 3, 4, 5, 6, 7, 8] [9] rfl (by kernel_rfl) (by kernel_rfl) (fun d _ _ _ _ h => by cases d <;> exact h) c2 ?_
  generalize w.drew = wd at HB ⊢
  apply Exists.intro
  refine ⟨?_, ?_⟩
  · intro W hW
    have q7 : ∀ z, (W z).cell? ⟨c, 2, none⟩ = some (.slice (some ⟨ga, 0, none⟩) m qa) := fun z => hW z
    clear hW
    simp only [List.take, opsAt, List.drop, List.cons_append, List.nil_append]
    repeat (go_big_quiet_step (fail))
    exact rfl
  simp only [wpHv, opsAt, List.take, List.drop, List.cons_append, List.nil_append]
  obtain ⟨gb, hgb⟩ : ∃ g, wd.heap.size = g := ⟨_, rfl⟩
  obtain ⟨wa, hwa⟩ : ∃ y, wd.alloc (.cells (madeCells #[.pointer none] m) 25) = y := ⟨_, rfl⟩
  have hmk1 := hmk wd
  rw [hgb, hwa] at hmk1
  have HBa : Hid (Below w.heap.size w wa) := hid (by
    have h1 : Below wd.heap.size wd wa := by rw [← hwa]; exact nbel wd _
    exact HB.out.trans (h1.mono HB.out.size))
  have hSr : SrM (fun q => q ∈ qs) ga m qa gb m wa wa := by
    obtain ⟨fa, f1, f2⟩ := Hfa.out
    have hgaw : ga < w.heap.size := f1.lt
    have hsz := HB.out.size
    refine ⟨⟨fa, f1.below HBa.out, f2⟩, ⟨fun _ => .pointer none, ?_, fun _ _ => rfl⟩, fun q hq => ?_, Oth.refl _ _ _, by omega, hq1⟩
    · have := Blk.new wd (fnC m (fun _ => .pointer none)) 25
      rw [← made_fn, hgb] at this
      rw [← hwa]
      exact this
    · obtain ⟨a1, k, p, pl, ms, _, _, _, hb⟩ := Hqs.out q hq
      have hb2 := hb.below HBa.out
      have hlt := hb.lt
      exact ⟨k, p, hb2.cell 0, hb2.cell 1, (fun e => by rw [e, Hr9.out] at a1; cases a1), by omega, hb2.lt⟩
  have HS := hid (sortW m m (Nat.le_refl _) 0 0 qa m (some ⟨ga, 0, none⟩) (some ⟨gb, 0, none⟩) wa hSr (by omega) (by omega) (fun _ => ⟨rfl, rfl⟩) hq1 (Nat.le_refl _) hq2 (by unfold maxLen at hq2 ⊢; omega) (by omega))
  have Hgb := hid hgb
  clear hSr hgb hwa hmk c2
  go_wp2_with fail
  refine ⟨HcB.out _ HBa.out, ?_⟩
  simp only [QN]
  go_wp2_with fail
  refine HS.out.mono ?_
  rintro e w3 ⟨rfl, h3⟩
  have H3 := hid h3.out
  clear h3 HS hmk1
  have HO3 : Hid (∀ g, g < w.heap.size → g ≠ ga → w3.heap[g]? = w.heap[g]?) := hid (fun g hg hne => by
    have hsz := HB.out.size
    have := Hgb.out
    exact (H3.out.o.blk g (Nat.lt_of_lt_of_le hg HBa.out.size) hne (by omega)).trans (HBa.out.block g hg))
  have hcga : c ≠ ga := fun e => by have h1 := HM.out.rc; rw [e, Hr9.out] at h1; cases h1
  have d1 : w3.cell? ⟨c, 1, none⟩ = some (.slice l.a l.n l.c) := by rw [keepCell 1 (HO3.out c HM.out.cb.lt hcga)]; exact c1
  have HSrc : Hid (Src w3 l.a l.n l.c bs) := hid (HM.out.r.src.of (Nat.le_trans HBa.out.size H3.out.o.size) (fun ad ha hlt => HO3.out _ hlt (fun e => by have := HM.out.r.rs ad ha; rw [e, Hr9.out] at this; cases this)))
  have HLt := hid (newLineTableW HSrc.out)
  clear c1
  go_wp2_with fail
  refine HLt.out.mono ?_
  rintro e w4 ⟨gt, rfl, h4⟩
  have H4 := hid h4.out
  clear h4 HLt
  have HI0 : Hid (FnI (fun q => q ∈ qs) bs l.n ga m gt w3.heap.size w4 0 w4) := hid (by
    have hb4 := H4.out.2
    refine ⟨fun q hq => ?_, fun j hj => ?_, H4.out.1, ⟨?_, hb4.size⟩, ⟨rfl, rfl, rfl, Nat.le_refl _, fun _ _ _ => rfl⟩⟩
    · obtain ⟨a1, k, p, pl, ms, b1, b2, b3, hb⟩ := Hqs.out q hq
      have hqga : q ≠ ga := fun e => by rw [e, Hr9.out] at a1; cases a1
      have hb3 : Blk w3 q 41 (erC k p pl ms) := hb.of (HO3.out q hb.lt hqga)
      exact ⟨⟨k, p, pl, ms, b1, b2, b3, hb3.below hb4⟩, hb3.lt, hqga⟩
    · obtain ⟨q, e1, e2, _⟩ := H3.out.get hj
      obtain ⟨fa, f1, _⟩ := H3.out.a
      exact ⟨q, by rw [keepCell j (hb4.block ga f1.lt)]; exact e1, e2, fun hh => absurd hh (Nat.not_lt_zero _)⟩
    · obtain ⟨fa, f1, _⟩ := H3.out.a
      exact f1.lt)
  have HW4 : Hid (w4.os = w.os ∧ w4.tape = w.tape ∧ w4.output = w.output ∧ w.heap.size ≤ w4.heap.size ∧ ∀ g, g < w.heap.size → g ≠ ga → w4.heap[g]? = w.heap[g]?) := hid ⟨H4.out.2.os.trans (H3.out.o.os.trans HBa.out.os), H4.out.2.tape.trans (H3.out.o.tape.trans HBa.out.tape), H4.out.2.output.trans (H3.out.o.output.trans HBa.out.output), Nat.le_trans (Nat.le_trans HBa.out.size H3.out.o.size) H4.out.2.size, fun g hg hn => (H4.out.2.block g (Nat.lt_of_lt_of_le hg (Nat.le_trans HBa.out.size H3.out.o.size))).trans (HO3.out g hg hn)⟩
  have e2 : w4.cell? ⟨c, 2, none⟩ = some (.slice (some ⟨ga, 0, none⟩) m qa) := by
    rw [keepCell 2 (HW4.out.2.2.2.2 c HM.out.cb.lt hcga), ← Hv.out]
    exact HM.out.cells.2.2
  have hle := HM.out.r.src.le
  have hbl := HM.out.r.src.len
  go_upto_region 4 with fail
  clear e2 d1
  go_loopw [27] (fun t wr => ∃ i : Nat, t = .int .i64 (i : Int) ∧ i ≤ m ∧ Hid (FnI (fun q => q ∈ qs) bs l.n ga m gt w3.heap.size w4 i wr)) (fun t _ => m - (intOf t).toNat)
  case atStart => exact ⟨0, rfl, Nat.zero_le _, HI0⟩
  case round =>
  clear HI0
  obtain ⟨i, rfl, hi, HI⟩ := hrel
  have HQ10 : Hid (∀ g, g ∈ qs → ρ g = 10) := hid (fun g hg => (Hqs.out g hg).1)
  by_cases him : i < m
  rotate_left
  · have d1 : decide ((i : Int) < (m : Int)) = false := decide_eq_false (by omega)
    have hcq : c ∉ qs := fun hh => by have h1 := HQ10.out c hh; rw [HM.out.rc] at h1; cases h1
    have e2 : wr.cell? ⟨c, 2, none⟩ = some (.slice (some ⟨ga, 0, none⟩) m qa) := by
      rw [keepCell 2 (HI.out.o.2.2.2.2 c (Nat.lt_of_lt_of_le HM.out.cb.lt HW4.out.2.2.2.1) hcq), keepCell 2 (HW4.out.2.2.2.2 c HM.out.cb.lt hcga), ← Hv.out]
      exact HM.out.cells.2.2
    have HF : Hid (FnQ bs l.n w (fun q => ρ q = 10) ga m wr ∧ ρ ga = 9) := hid (by
      refine ⟨⟨fun j hj => ?_, HI.out.o.1.trans HW4.out.1, HI.out.o.2.1.trans HW4.out.2.1, HI.out.o.2.2.1.trans HW4.out.2.2.1, Nat.le_trans HW4.out.2.2.2.1 HI.out.o.2.2.2.1, fun g hg hn hga => ?_⟩, Hr9.out⟩
      · obtain ⟨q, r1, r2, r3⟩ := HI.out.r j hj
        obtain ⟨k, p, a1, a2⟩ := r3 (by omega)
        exact ⟨q, k, p, r1, a1, a2⟩
      · exact (HI.out.o.2.2.2.2 g (Nat.lt_of_lt_of_le hg HW4.out.2.2.2.1) (fun hh => hn (HQ10.out g hh))).trans (HW4.out.2.2.2.2 g hg hga))
    clear HI
    go_wp2
    go_ret
    exact ⟨_, _, rfl, HF⟩
  have d1 : decide ((i : Int) < (m : Int)) = true := decide_eq_true (by omega)
  have i1 : (i : Int) < (m : Int) := by omega
  obtain ⟨q, r1, r2, _⟩ := HI.out.r i him
  obtain ⟨⟨k, p, pl, ms, b1, b2, b3, hb⟩, hq5, hq6⟩ := HI.out.e q r2
  have y1 : wr.cell? ⟨q, 1, none⟩ = some (.int .i64 (p : Int)) := hb.cell 1
  have HPl := hid (placeW HI.out.t hbl hle p b3)
  have Hst : Hid (∀ wz, Drew wr wz → FnI (fun q => q ∈ qs) bs l.n ga m gt w3.heap.size w4 (i + 1) ((wz.setCell ⟨q, 2, none⟩ (.int .i64 ((placeP (bs.take p)).1 : Int))).setCell ⟨q, 3, none⟩ (.int .i64 ((placeP (bs.take p)).2 : Int))) ∧ wz.cell? ⟨q, 2, none⟩ = some (.int .i64 (pl.1 : Int)) ∧ wz.frozen? ⟨q, 2, none⟩ = false ∧ (wz.setCell ⟨q, 2, none⟩ (.int .i64 ((placeP (bs.take p)).1 : Int))).cell? ⟨q, 3, none⟩ = some (.int .i64 (pl.2 : Int)) ∧ (wz.setCell ⟨q, 2, none⟩ (.int .i64 ((placeP (bs.take p)).1 : Int))).frozen? ⟨q, 3, none⟩ = false) := hid (fun wz hd => by
    have hb' : Blk wz q 41 (erC k p pl ms) := hb.drew hd
    refine ⟨(HI.out.drew hd).step him r2 ?_ hb' b1 b2 b3, hb'.cell 2, hb'.frozen 2, (hb'.set 2 _).cell 3, (hb'.set 2 _).frozen 3⟩
    obtain ⟨x, rfl⟩ := hd
    exact r1)
  clear hb HI
  go_wp2_with fail
  refine HPl.out.mono ?_
  rintro e w5 ⟨rfl, hd5⟩
  obtain ⟨s1, s2, s3, s4, s5⟩ := Hst.out w5 hd5
  have HS1 := hid s1
  obtain ⟨P, hP⟩ : ∃ P, placeP (bs.take p) = P := ⟨_, rfl⟩
  rw [hP] at HS1 s4 s5 ⊢
  obtain ⟨ln, cl⟩ := P
  clear s1 hP HPl hd5 Hst
  simp only [plV]
  go_wp2
  exact ⟨⟨i + 1, by go_num, by omega, HS1⟩, by simp [intOf]; omega⟩
end
end Go.Proofs.Qxb6500883aGreatDoor
