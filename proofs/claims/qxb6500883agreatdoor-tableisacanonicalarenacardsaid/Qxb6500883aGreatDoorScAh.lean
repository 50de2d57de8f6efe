/- parseContainer (written by tools/mk_scah.py). -/
import Derived.Test.Qxb6500883aGreatDoorScAg
namespace Go.Proofs.Qxb6500883aGreatDoor
open Go.RowKit
set_option linter.unusedSimpArgs false
set_option linter.unusedVariables false
theorem Flds.snoc {bs : List UInt8} {n : Nat} {S S2 S1 : PS} {r : Nat} (h : Flds bs n S S2) (h1 : S2.tok.kind = 4) (h2 : (S2.adv bs n).tok.kind = 8) (h3 : Prs bs n .typ ((S2.adv bs n).adv bs n) (.ok S1 r)) (h4 : S1.tok.kind = 7) : Flds bs n S ((S1.adv bs n).addF ⟨S2.word bs, S2.tok.pos, r⟩) := by
  induction h with
  | nil => exact Flds.cons h1 h2 h3 h4 Flds.nil
  | cons a b c d _ ih => exact Flds.cons a b c d (ih h1 h2 h3)
theorem info_fn : (Tryz.prog.info? 201).map (·.size) = some 3 := by kernel_rfl
theorem load_info_fn {w : World} {g : Nat} {x : FN} (h : Blk w g 201 (fnCl x)) : (Instr.loadAt 201 (.pointer (some ⟨g, 0, none⟩))).run Tryz.prog w = .ok (.agg (fnCl x).toArray) w := run_loadAt_mid w g 0 201 (fnCl x) _ h.rangeAt Tryz.underlying201 rfl info_fn
section
variable {N mg : Nat} {ρ ρ' : Rl} {w w' w1 w2 : World} {l : PL} {bs : List UInt8} {S S' : PS} {q n0 fB : Nat} {x x' : DN} {y y' : FN}
theorem FrQ.updL {X : Nat → Bool} {b : Nat} (h : FrQ q X ρ w ρ' w1) (hu : Upd b w1 w2) (hb : w.heap.size ≤ b) : FrQ q X ρ w ρ' w2 :=
  ⟨hu.os.trans h.os, hu.tape.trans h.tape, hu.output.trans h.output, Nat.le_trans h.size hu.size, h.old, fun g hg => h.nw g (Nat.le_trans hu.size hg), fun g hg hq hx => (hu.block g (Nat.lt_of_lt_of_le hg h.size) (by omega)).trans (h.blk g hg hq hx)⟩
/-- Beside the declaration: a field's node in block fB. -/
structure FdB (N mg : Nat) (ρ : Rl) (w : World) (l : PL) (bs : List UInt8) (S : PS) (q : Nat) (x : DN) (n0 fB : Nat) (y : FN) (ρ' : Rl) (w' : World) : Prop where
  d : DcB N mg ρ w l bs S q x n0 ρ' w'
  bf : Blk w' fB 201 (fnCl y)
  zf : ρ' fB = 0
  lf : w.heap.size ≤ fB
theorem FdB.go (h : FdB N mg ρ w l bs S q x n0 fB y ρ' w1) (hg : PGo N mg ρ' w1 l bs S' w2) : ∃ ρ2, FdB N mg ρ w l bs S' q x n0 fB y ρ2 w2 := by
  obtain ⟨ρ2, h1, h2⟩ := hg.m
  have hd := h.d
  exact ⟨ρ2, ⟨h1, hd.f.trans h2, h2.keep hd.bn hd.zn rfl, by rw [h2.old _ hd.bn.lt]; exact hd.zn, hd.lq, hd.lw, hd.hN, hd.hs, hd.qw⟩, h2.keep h.bf h.zf rfl, by rw [h2.old _ h.bf.lt]; exact h.zf, h.lf⟩
theorem FdB.below (h : FdB N mg ρ w l bs S q x n0 fB y ρ' w1) (hb : Below w1.heap.size w1 w2) : FdB N mg ρ w l bs S q x n0 fB y ρ' w2 := ⟨h.d.below hb, h.bf.below hb, h.zf, h.lf⟩
theorem FdB.start (h : DcB N mg ρ w l bs S q x n0 ρ' w1) (hb : Below w1.heap.size w1 w2) (hf : fB = w1.heap.size) (hk : Blk w2 fB 201 (fnCl y)) : FdB N mg ρ w l bs S q x n0 fB y ρ' w2 :=
  ⟨h.below hb, hk, h.m.new (by omega), by have := h.f.size; omega⟩
theorem FdB.setf (h : FdB N mg ρ w l bs S q x n0 fB y ρ' w1) (j : Nat) (u : Value) (hy : (fnCl y).set j u = fnCl y') : FdB N mg ρ w l bs S q x n0 fB y' ρ' (w1.setCell ⟨fB, j, none⟩ u) := by
  have hu : Upd fB w1 (w1.setCell ⟨fB, j, none⟩ u) := (Upd.refl fB w1).setCell rfl _
  have hb := h.bf.set j u
  rw [hy] at hb
  have hd := h.d
  have hlf := h.lf
  have hqw := hd.qw
  exact ⟨⟨hd.m.updL hu h.zf (Nat.le_trans hd.lw hlf) hd.hN hd.hs, hd.f.updL hu hlf, hd.bn.upd hu (by omega), hd.zn, hd.lq, hd.lw, hd.hN, hd.hs, hd.qw⟩, hb, h.zf, h.lf⟩
theorem FdB.nc (h : FdB N mg ρ w l bs S q x n0 fB y ρ' w1) (j : Nat) : w1.cell? ⟨fB, j, none⟩ = (fnCl y)[j]? ∧ w1.frozen? ⟨fB, j, none⟩ = false := ⟨h.bf.cell j, h.bf.frozen j⟩
theorem FdB.no {k : Nat × Nat} (h : FdB N mg ρ w l bs S q x n0 fB y ρ' w1) (hn : PNo N mg ρ' w1 l bs k w2) : Blk w2 fB 201 (fnCl y) ∧ ∀ w3, Upd fB w2 w3 → DcN ρ w l bs q w3 := by
  obtain ⟨⟨⟨q', cs, h1, h2, h3, h4⟩, h5⟩, ρ2, hf⟩ := hn
  have hd := h.d
  have hpq : l.p ≠ fB := fun e => by have := hd.m.r.rp; rw [e, h.zf] at this; cases this
  have hlt := h.bf.lt
  have hsz := hd.f.size
  refine ⟨hf.keep h.bf h.zf rfl, fun w3 hu => ?_⟩
  obtain ⟨m', e1, e2, e3⟩ := h3.e
  exact ⟨k, ⟨⟨q', cs, h1.upd hu hpq, h2, ⟨m', e1, e2, e3.upd hu (by omega)⟩, Nat.le_trans hsz h4⟩, h5⟩, ρ2, (hd.f.trans hf).updL hu h.lf⟩
/-- The loop over the fields. -/
def FlI (N mg : Nat) (ρ : Rl) (w : World) (l : PL) (bs : List UInt8) (S0 : PS) (q : Nat) (x : DN) (n0 : Nat) (wr : World) (M : Nat) : Prop :=
  ∃ (S : PS) (ρ' : Rl), DcB N mg ρ w l bs S q x n0 ρ' wr ∧ Flds bs l.n S0 S ∧ PD S ∧ S.used + M = 65536
set_option maxRecDepth 100000 in
set_option maxHeartbeats 4000000 in
theorem parseContainerW (h : DcB N mg ρ w l bs S q (dn0 S) n0 ρ w) (hk : S.tok.kind = 23) (hD : PD S) : Calls Tryz.prog 81 #[.pointer (some ⟨l.p, 0, none⟩), .pointer (some ⟨q, 0, none⟩)] w (DcQ N mg ρ w l bs S q n0) := by
  have H0 := hid h
  have Hk := hid hk
  have HD := hid hD
  have HA := hid (advW h.m (by omega))
  obtain ⟨tl, htl⟩ : ∃ t, S.fs.types.length = t := ⟨_, rfl⟩
  obtain ⟨el, hel⟩ : ∃ t, S.fs.exprs.length = t := ⟨_, rfl⟩
  have Htl := hid htl
  have Hel := hid hel
  have H0' : Hid (DcB N mg ρ w l bs S q ⟨0, ⟨#[]⟩, 0, -1, -1, 0, 0, tl, 0, el, 0⟩ n0 ρ w) := hid (by have := h; unfold dn0 at this; rw [htl, hel] at this; exact this)
  clear h hk hD htl hel H0
  go_enter Tryz.func81, Tryz.ntmps81
  go_wp2_with fail
  refine HA.out.mono ?_
  rintro e w1 ⟨rfl, hg1⟩
  obtain ⟨ρ1, h1⟩ := H0'.out.go hg1.out
  have H1 := hid h1
  clear HA hg1 h1 H0'
  have c0 : w1.cell? ⟨q, 0, none⟩ = some (.int .u8 0) := (H1.out.nc 0).1
  have f0 : w1.frozen? ⟨q, 0, none⟩ = false := (H1.out.nc 0).2
  have H2 := hid (H1.out.set (x' := ⟨2, ⟨#[]⟩, 0, -1, -1, 0, 0, tl, 0, el, 0⟩) 0 (.int .u8 2) rfl)
  go_upto_region 4 with fail
  generalize hw2 : w1.setCell _ _ = w2 at H2 ⊢
  clear hw2 c0 f0 H1
  by_cases h4 : (S.adv bs l.n).tok.kind = 4
  rotate_left
  · as_aux_lemma =>
    have HP : Hid (DclBad bs l.n S) := hid (DclBad.name (by rw [Hk.out]; decide) (by rw [Hk.out]; decide) h4)
    have HU := hid (nameN H2.out.m h4 ⟨#[116, 104, 101, 32, 110, 97, 109, 101, 32, 111, 102, 32, 116, 104, 101, 32, 99, 111, 110, 116, 97, 105, 110, 101, 114]⟩ (by decide))
    clear h4
    go_wp2_with fail
    refine HU.out.mono ?_
    rintro e w3 ⟨rfl, hn3⟩
    obtain ⟨hb3, hd3⟩ := H2.out.no hn3.out
    have HN := hid (hd3 ((w3.setCell ⟨q, 1, none⟩ (.string ⟨#[]⟩)).setCell ⟨q, 2, none⟩ (.int .i64 0)) (((Upd.refl q w3).setCell rfl _).setCell rfl _))
    have c1 := hb3.cell 1
    have c2 := hb3.cell 2
    have f1 := hb3.frozen 1
    have f2 := hb3.frozen 2
    simp only [dnC, List.getElem?_cons_succ, List.getElem?_cons_zero] at c1 c2
    clear HU hn3 H2 hb3 hd3
    go_wp2
    go_ret
    exact .inr ⟨rfl, HP, HN⟩
  have H4 := hid h4
  have HU := hid (nameY H2.out.m h4 ⟨#[116, 104, 101, 32, 110, 97, 109, 101, 32, 111, 102, 32, 116, 104, 101, 32, 99, 111, 110, 116, 97, 105, 110, 101, 114]⟩)
  clear h4
  obtain ⟨nm, hnm⟩ : ∃ nm, (S.adv bs l.n).word bs = nm := ⟨_, rfl⟩
  obtain ⟨ps, hps⟩ : ∃ ps, (S.adv bs l.n).tok.pos = ps := ⟨_, rfl⟩
  rw [hnm, hps] at HU
  have Hnm := hid hnm
  have Hps := hid hps
  clear hnm hps
  go_wp2_with fail
  refine HU.out.mono ?_
  rintro e w3 ⟨rfl, hg3⟩
  obtain ⟨ρ3, h3⟩ := H2.out.go hg3.out
  have H3 := hid h3
  clear HU hg3 h3 H2
  have c1 : w3.cell? ⟨q, 1, none⟩ = some (.string ⟨#[]⟩) := (H3.out.nc 1).1
  have c2 : w3.cell? ⟨q, 2, none⟩ = some (.int .i64 0) := (H3.out.nc 2).1
  have f1 : w3.frozen? ⟨q, 1, none⟩ = false := (H3.out.nc 1).2
  have f2 : w3.frozen? ⟨q, 2, none⟩ = false := (H3.out.nc 2).2
  have H5 := hid ((H3.out.set (x' := ⟨2, nm, 0, -1, -1, 0, 0, tl, 0, el, 0⟩) 1 (.string nm) rfl).set (x' := ⟨2, nm, ps, -1, -1, 0, 0, tl, 0, el, 0⟩) 2 (.int .i64 (ps : Int)) rfl)
  go_upto_region 7 with fail
  generalize hw5 : World.setCell (World.setCell _ _ _) _ _ = w5 at H5 ⊢
  clear hw5 c1 c2 f1 f2 H3
  by_cases h6 : ((S.adv bs l.n).adv bs l.n).tok.kind = 12
  rotate_left
  · as_aux_lemma =>
    have HP : Hid (DclBad bs l.n S) := hid (DclBad.mark (by rw [Hk.out]; decide) (by rw [Hk.out]; decide) H4.out (by rw [Hk.out]; exact h6))
    have HU := hid (expectN H5.out.m h6 (by decide))
    clear h6
    go_wp2_with fail
    refine HU.out.mono ?_
    rintro e w6 ⟨rfl, hn6⟩
    have HN := hid (H5.out.no' hn6.out)
    clear HU hn6 H5
    go_wp2
    go_ret
    exact .inr ⟨rfl, HP, HN⟩
  have H6k := hid h6
  have HU := hid (expectY H5.out.m h6 (by decide))
  clear h6
  go_wp2_with fail
  refine HU.out.mono ?_
  rintro e w6 ⟨rfl, hg6⟩
  obtain ⟨ρ6, h6⟩ := H5.out.go hg6.out
  have H6 : Hid (DcB N mg ρ w l bs (S.bod bs l.n) q ⟨2, nm, ps, -1, -1, 0, 0, tl, 0, el, 0⟩ n0 ρ6 w6) := hid h6
  clear HU hg6 h6 H5
  have HD6 : Hid (PD (S.bod bs l.n)) := hid (PD.adv (PD.adv (PD.adv HD.out)))
  obtain ⟨fl, hfl⟩ : ∃ t, S.fs.fields.length = t := ⟨_, rfl⟩
  have Hfl := hid hfl
  have hfl2 : fl ≤ 65536 := by
    have h1 := HD6.out.f
    have h2 : (S.bod bs l.n).fs.fields.length = fl := hfl
    have h3 := H6.out.m.ok.hu
    have h4 := H6.out.m.ok.hc
    omega
  obtain ⟨V, hV, hRw⟩ := H6.out.m.r.rows
  obtain ⟨ao, qo, hvo⟩ := hRw.f.shape
  have hvo' : V.f = .slice ao fl qo := by rw [hvo]; congr 1
  have c8 := H6.out.m.cells.2.2.2.1
  have c4 : w6.cell? ⟨l.f, 4, none⟩ = some (.slice ao fl qo) := by rw [← hvo']; exact hV.cell 4
  have c5 : w6.cell? ⟨q, 5, none⟩ = some (.int .i32 0) := (H6.out.nc 5).1
  have f5 : w6.frozen? ⟨q, 5, none⟩ = false := (H6.out.nc 5).2
  have ew : IntKind.i32.wrap (fl : Int) = (fl : Int) := by rw [IntKind.wrap_i32]; omega
  have H7 := hid (H6.out.set (x' := ⟨2, nm, ps, -1, -1, fl, 0, tl, 0, el, 0⟩) 5 (.int .i32 (fl : Int)) rfl)
  clear hV hRw hvo hvo' hfl
  go_upto_region 10 with fail
  generalize hw7 : w6.setCell _ _ = w7 at H7 ⊢
  clear hw7 c8 c4 c5 f5 ew H6
  have HI1 : Hid (∃ M, FlI N mg ρ w l bs (S.bod bs l.n) q ⟨2, nm, ps, -1, -1, fl, 0, tl, 0, el, 0⟩ n0 w7 M) := hid (by
    have h1 := H7.out.m.ok.hu
    have h2 := H7.out.m.ok.hc
    exact ⟨65536 - (S.bod bs l.n).used, S.bod bs l.n, ρ6, H7.out, Flds.nil, HD6.out, by omega⟩)
  clear H7 HD6
  go_loopw [5] (fun _ wr => Hid (∃ M, FlI N mg ρ w l bs (S.bod bs l.n) q ⟨2, nm, ps, -1, -1, fl, 0, tl, 0, el, 0⟩ n0 wr M)) (fun _ wr => leastN (fun M => FlI N mg ρ w l bs (S.bod bs l.n) q ⟨2, nm, ps, -1, -1, fl, 0, tl, 0, el, 0⟩ n0 wr M))
  case atStart => exact HI1
  case round =>
  clear HI1
  have Hsp := hid (leastN_spec hrel.out)
  obtain ⟨Mx, hMx⟩ : ∃ M, leastN (fun M => FlI N mg ρ w l bs (S.bod bs l.n) q ⟨2, nm, ps, -1, -1, fl, 0, tl, 0, el, 0⟩ n0 wr M) = M := ⟨_, rfl⟩
  have HMx := hid hMx
  rw [hMx] at Hsp
  clear hMx hrel
  obtain ⟨S2, ρ2, hdc, hfd, hpd, hus⟩ := Hsp.out
  have H2 := hid hdc
  have HFd := hid hfd
  have HPD := hid hpd
  have Hus := hid hus
  clear hdc hfd hpd hus Hsp
  obtain ⟨_, c3, _⟩ := H2.out.m.cells
  by_cases h13 : S2.tok.kind = 13
  · as_aux_lemma =>
    have q13 : ((S2.tok.kind : Int) != 13) = false := by simp; omega
    obtain ⟨fh, hfh⟩ : ∃ t, S2.fs.fields.length = t := ⟨_, rfl⟩
    have Hfh := hid hfh
    have hfh2 : fh ≤ 65536 := by
      have h1 := HPD.out.f
      have h3 := H2.out.m.ok.hu
      have h4 := H2.out.m.ok.hc
      omega
    obtain ⟨V, hV, hRw⟩ := H2.out.m.r.rows
    obtain ⟨ao, qo, hvo⟩ := hRw.f.shape
    rw [hfh] at hvo
    have c8 := H2.out.m.cells.2.2.2.1
    have c4 : wr.cell? ⟨l.f, 4, none⟩ = some (.slice ao fh qo) := by rw [← hvo]; exact hV.cell 4
    have c5 : wr.cell? ⟨q, 6, none⟩ = some (.int .i32 0) := (H2.out.nc 6).1
    have f5 : wr.frozen? ⟨q, 6, none⟩ = false := (H2.out.nc 6).2
    have ew : IntKind.i32.wrap (fh : Int) = (fh : Int) := by rw [IntKind.wrap_i32]; omega
    have H3 := hid (H2.out.set (x' := ⟨2, nm, ps, -1, -1, fl, fh, tl, 0, el, 0⟩) 6 (.int .i32 (fh : Int)) rfl)
    have HP : Hid (DclOk bs l.n S (S2.adv bs l.n) ⟨2, nm, ps, -1, -1, fl, fh, tl, S2.fs.types.length, el, S2.fs.exprs.length⟩ ∧ PD (S2.adv bs l.n)) := hid (by
      have := DclOk.cnt Hk.out H4.out H6k.out HFd.out h13
      rw [Hnm.out, Hps.out, Htl.out, Hel.out, Hfl.out, Hfh.out] at this
      exact ⟨this, HPD.out.adv⟩)
    have H13 := hid h13
    generalize S2.tok.kind = k9 at c3 q13
    clear hV hRw hvo hfh h13
    go_upto_region 24 with fail
    generalize hw3 : wr.setCell _ _ = w3 at H3 ⊢
    clear hw3 c3 c8 c4 c5 f5 ew H2
    have HA := hid (advW H3.out.m (by rw [H13.out]; decide))
    go_wp2_with fail
    refine HA.out.mono ?_
    rintro e wc ⟨rfl, hgc⟩
    have Hc := hid (H3.out.go hgc.out)
    clear HA hgc H3
    go_wp2
    go_ret
    exact .inl ⟨_, _, rfl, HP, Hc⟩
  have q13 : ((S2.tok.kind : Int) != 13) = true := by simp; omega
  have H13 := hid h13
  generalize S2.tok.kind = k9 at c3 q13
  clear h13
  obtain ⟨fB, hfB⟩ : ∃ b, wr.heap.size = b := ⟨_, rfl⟩
  have H3 : Hid (FdB N mg ρ w l bs S2 q ⟨2, nm, ps, -1, -1, fl, 0, tl, 0, el, 0⟩ n0 fB ⟨⟨#[]⟩, 0, 0⟩ ρ2 (wr.alloc (.cells #[.string ⟨#[]⟩, .int .i64 0, .int .i32 0] 201))) := hid (by
    have k := Blk.new wr [.string ⟨#[]⟩, .int .i64 0, .int .i32 0] 201
    rw [hfB] at k
    exact FdB.start H2.out (nbel wr _) hfB.symm k)
  go_upto_region 12 with fail
  (try simp only [hfB])
  generalize hw3 : wr.alloc _ = w3 at H3 ⊢
  clear hw3 hfB c3 H2
  by_cases h4f : S2.tok.kind = 4
  rotate_left
  · as_aux_lemma =>
    have HP : Hid (DclBad bs l.n S) := hid (DclBad.flds Hk.out H4.out H6k.out HFd.out H13.out (FldBad.name h4f))
    have HU := hid (nameN H3.out.d.m h4f ⟨#[97, 32, 102, 105, 101, 108, 100, 32, 110, 97, 109, 101, 32, 111, 114, 32, 39, 125, 39]⟩ (by decide))
    clear h4f
    go_wp2_with fail
    refine HU.out.mono ?_
    rintro e w4 ⟨rfl, hn3⟩
    obtain ⟨hb3, hd3⟩ := H3.out.no hn3.out
    have HN := hid (hd3 ((w4.setCell ⟨fB, 0, none⟩ (.string ⟨#[]⟩)).setCell ⟨fB, 1, none⟩ (.int .i64 0)) (((Upd.refl fB w4).setCell rfl _).setCell rfl _))
    have c1 := hb3.cell 0
    have c2 := hb3.cell 1
    have f1 := hb3.frozen 0
    have f2 := hb3.frozen 1
    simp only [fnCl, List.getElem?_cons_succ, List.getElem?_cons_zero] at c1 c2
    clear HU hn3 H3 hb3 hd3
    go_wp2
    go_ret
    exact .inr ⟨rfl, HP, HN⟩
  have H4f := hid h4f
  have HU := hid (nameY H3.out.d.m h4f ⟨#[97, 32, 102, 105, 101, 108, 100, 32, 110, 97, 109, 101, 32, 111, 114, 32, 39, 125, 39]⟩)
  clear h4f
  obtain ⟨fm, hfm⟩ : ∃ nm, S2.word bs = nm := ⟨_, rfl⟩
  obtain ⟨fp, hfp⟩ : ∃ ps, S2.tok.pos = ps := ⟨_, rfl⟩
  rw [hfm, hfp] at HU
  have Hfm := hid hfm
  have Hfp := hid hfp
  clear hfm hfp
  go_wp2_with fail
  refine HU.out.mono ?_
  rintro e w4 ⟨rfl, hg4⟩
  obtain ⟨ρ4, h4⟩ := H3.out.go hg4.out
  have H5 := hid h4
  clear HU hg4 h4 H3
  have c1 : w4.cell? ⟨fB, 0, none⟩ = some (.string ⟨#[]⟩) := (H5.out.nc 0).1
  have c2 : w4.cell? ⟨fB, 1, none⟩ = some (.int .i64 0) := (H5.out.nc 1).1
  have f1 : w4.frozen? ⟨fB, 0, none⟩ = false := (H5.out.nc 0).2
  have f2 : w4.frozen? ⟨fB, 1, none⟩ = false := (H5.out.nc 1).2
  have H6 := hid ((H5.out.setf (y' := ⟨fm, 0, 0⟩) 0 (.string fm) rfl).setf (y' := ⟨fm, fp, 0⟩) 1 (.int .i64 (fp : Int)) rfl)
  go_upto_region 15 with fail
  generalize hw5 : World.setCell (World.setCell _ _ _) _ _ = w5 at H6 ⊢
  clear hw5 c1 c2 f1 f2 H5
  by_cases h8 : (S2.adv bs l.n).tok.kind = 8
  rotate_left
  · as_aux_lemma =>
    have HP : Hid (DclBad bs l.n S) := hid (DclBad.flds Hk.out H4.out H6k.out HFd.out H13.out (FldBad.col H4f.out h8))
    have HU := hid (expectN H6.out.d.m h8 (by decide))
    clear h8
    go_wp2_with fail
    refine HU.out.mono ?_
    rintro e w6 ⟨rfl, hn6⟩
    have HN := hid (H6.out.d.no' hn6.out)
    clear HU hn6 H6
    go_wp2
    go_ret
    exact .inr ⟨rfl, HP, HN⟩
  have H8 := hid h8
  have HU := hid (expectY H6.out.d.m h8 (by decide))
  clear h8
  go_wp2_with fail
  refine HU.out.mono ?_
  rintro e w6 ⟨rfl, hg6⟩
  obtain ⟨ρ6, h6⟩ := H6.out.go hg6.out
  have H7 : Hid (FdB N mg ρ w l bs ((S2.adv bs l.n).adv bs l.n) q ⟨2, nm, ps, -1, -1, fl, 0, tl, 0, el, 0⟩ n0 fB ⟨fm, fp, 0⟩ ρ6 w6) := hid h6
  clear HU hg6 h6 H6
  have HD7 : Hid (PD ((S2.adv bs l.n).adv bs l.n)) := hid (PD.adv (PD.adv HPD.out))
  have HX := hid (parseTypeX H7.out.d.m HD7.out.b)
  go_wp2_with fail
  refine HX.out.mono ?_
  rintro e wa (⟨Sa, ra, rfl, HPa, hga⟩ | ⟨ka, ra, rfl, HPa, hna⟩)
  rotate_left
  · as_aux_lemma =>
    have HP : Hid (DclBad bs l.n S) := hid (DclBad.flds Hk.out H4.out H6k.out HFd.out H13.out (FldBad.typ H4f.out H8.out HPa.out))
    obtain ⟨hb3, hd3⟩ := H7.out.no hna.out
    have HN := hid (hd3 (wa.setCell ⟨fB, 2, none⟩ (.int .i32 ra)) ((Upd.refl fB wa).setCell rfl _))
    have c1 := hb3.cell 2
    have f1 := hb3.frozen 2
    simp only [fnCl, List.getElem?_cons_succ, List.getElem?_cons_zero] at c1
    clear HX hna H7 hb3 hd3
    go_wp2
    go_ret
    exact .inr ⟨rfl, HP, HN⟩
  have hmv : Mv ((S2.adv bs l.n).adv bs l.n) Sa 1 0 := HPa.out.mv
  obtain ⟨ρa, ha⟩ := H7.out.go hga.out
  have Ha := hid ha
  have HDa := hid (HD7.out.mv hmv)
  have Hua : Hid (S2.used + 2 ≤ Sa.used) := hid (by
    have h1 := hmv.u
    have h2 : ((S2.adv bs l.n).adv bs l.n).used = S2.used + 1 + 1 := rfl
    omega)
  clear HX hga ha hmv H7
  have c1 : wa.cell? ⟨fB, 2, none⟩ = some (.int .i32 0) := (Ha.out.nc 2).1
  have f1 : wa.frozen? ⟨fB, 2, none⟩ = false := (Ha.out.nc 2).2
  have Hb := hid (Ha.out.setf (y' := ⟨fm, fp, ra⟩) 2 (.int .i32 (ra : Int)) rfl)
  go_upto_region 20 with fail
  generalize hwb : wa.setCell _ _ = wb at Hb ⊢
  clear hwb c1 f1 Ha
  by_cases h7 : Sa.tok.kind = 7
  rotate_left
  · as_aux_lemma =>
    have HP : Hid (DclBad bs l.n S) := hid (DclBad.flds Hk.out H4.out H6k.out HFd.out H13.out (FldBad.semi H4f.out H8.out HPa.out h7))
    have HU := hid (expectN Hb.out.d.m h7 (by decide))
    clear h7
    go_wp2_with fail
    refine HU.out.mono ?_
    rintro e wc ⟨rfl, hnc⟩
    have HN := hid (Hb.out.d.no' hnc.out)
    clear HU hnc Hb
    go_wp2
    go_ret
    exact .inr ⟨rfl, HP, HN⟩
  as_aux_lemma =>
  have H7k := hid h7
  have HU := hid (expectY Hb.out.d.m h7 (by decide))
  clear h7
  go_wp2_with fail
  refine HU.out.mono ?_
  rintro e wc ⟨rfl, hgc⟩
  obtain ⟨ρc, hc⟩ := Hb.out.go hgc.out
  have Hc := hid hc
  clear HU hgc hc Hb
  have HFs : Hid (Flds bs l.n (S.bod bs l.n) ((Sa.adv bs l.n).addF ⟨fm, fp, ra⟩)) := hid (by
    have := HFd.out.snoc H4f.out H8.out HPa.out H7k.out
    rw [Hfm.out, Hfp.out] at this
    exact this)
  obtain ⟨m, hm⟩ : ∃ m, (Sa.adv bs l.n).fs.fields.length = m := ⟨_, rfl⟩
  have Hm := hid hm
  have hm2 : m ≤ 65536 := by
    have h1 := (PD.adv (bs := bs) (n := l.n) HDa.out).f
    have h3 := Hc.out.d.m.ok.hu
    have h4 := Hc.out.d.m.ok.hc
    omega
  clear hm
  obtain ⟨V, hV, hRw⟩ := Hc.out.d.m.r.rows
  obtain ⟨ax, qx, hvx⟩ := hRw.f.shape
  rw [Hm.out] at hvx
  have Hvx := hid hvx
  have HV := hid hV
  have HRw := hid hRw
  clear hV hRw hvx
  have HSx : Hid (∀ wx : World, Below wc.heap.size wc wx → Blk wx fB 201 (fnCl ⟨fm, fp, ra⟩) ∧ wx.cell? ⟨l.p, 8, none⟩ = some (.pointer (some ⟨l.f, 0, none⟩)) ∧ wx.cell? ⟨l.f, 4, none⟩ = some (.slice ax m qx)) := hid (fun wx hx => ⟨Hc.out.bf.below hx, (Hc.out.d.m.below hx).cells.2.2.2.1, by rw [← Hvx.out]; exact (HV.out.below hx).cell 4⟩)
  go_upto_region 22 with fail
  refine wp_region_heavy (fun wx => Blk wx fB 201 (fnCl ⟨fm, fp, ra⟩) ∧ wx.cell? ⟨l.p, 8, none⟩ = some (.pointer (some ⟨l.f, 0, none⟩)) ∧ wx.cell? ⟨l.f, 4, none⟩ = some (.slice ax m qx)) 14 [0, 1, 2, 3, 4, 5, 6, 7, 8, 9, 10, 11] [12, 13] rfl (by kernel_rfl) (by kernel_rfl) (fun d _ _ _ _ h => by cases d <;> exact h) (HSx.out _ (Drew.below ⟨1, rfl⟩ _)) ?_
  apply Exists.intro
  refine ⟨?_, ?_⟩
  · intro W hW
    have j1 : ∀ u, (W u).cell? ⟨l.p, 8, none⟩ = some (.pointer (some ⟨l.f, 0, none⟩)) := fun u => (hW u).2.1
    have j2 : ∀ u, (W u).cell? ⟨l.f, 4, none⟩ = some (.slice ax m qx) := fun u => (hW u).2.2
    have rl : ∀ u, (Instr.loadAt 201 (.pointer (some ⟨fB, 0, none⟩))).run Tryz.prog (W u) = .ok (.agg (fnCl ⟨fm, fp, ra⟩).toArray) (W u) := fun u => load_info_fn (hW u).1
    dsimp only [fnCl] at rl
    have Hrl := hid rl
    clear hW rl
    simp only [List.take, opsAt, List.drop, List.cons_append, List.nil_append]
    repeat (first | (go_big_quiet_want; refine quiet_loadO 201 _ rfl ⟨fB, 0, none⟩ rfl _ (fun w hx => by obtain ⟨x, rfl⟩ := hx; exact Hrl.out x) ?_; simp only [Act.put, List.setIfInBounds_toArray, List.set_cons_succ, List.set_cons_zero]; go_big_quiet_on) | go_big_quiet_step (fail))
    exact rfl
  simp only [List.take, List.drop, opsAt, List.cons_append, List.nil_append, wpHv]
  have HBd : Hid (Below wc.heap.size wc wc.drew) := hid (Drew.below ⟨1, rfl⟩ _)
  generalize wc.drew = wd at HBd ⊢
  go_wp2_with fail
  obtain ⟨k8, hk8⟩ : ∃ k, wd.heap.size = k := ⟨_, rfl⟩
  obtain ⟨wf, hwf⟩ : ∃ wf, wd.alloc (.cells (fnCl ⟨fm, fp, ra⟩).toArray 201) = wf := ⟨_, rfl⟩
  have HBf : Hid (Below wc.heap.size wc wf) := hid (by rw [← hwf]; exact HBd.out.trans ((nbel wd _).mono HBd.out.size))
  have HNw : Hid (∀ ad, some (⟨k8, 0, none⟩ : Addr) = some ad → ∀ j u, ([(⟨fm, fp, ra⟩ : FN)].flatMap rtF.f)[j]? = some u → wf.cell? (ad.add j) = some u) := hid (by rw [← hwf]; exact newX rtF wd ⟨fm, fp, ra⟩ _ hk8.symm)
  dsimp only [fnCl] at hwf
  (try simp only [hwf, hk8])
  refine ⟨HSx.out _ HBf.out, ?_⟩
  clear hwf hk8
  have HCf := hid (Hc.out.below HBf.out)
  have HRwf := hid (HRw.out.fr (X := fun _ => false) (Fr.below HBf.out) (fun _ _ _ => rfl) (ρ' := ρc))
  have hrf := HRwf.out.f
  rw [Hvx.out] at hrf
  refine wpList_app_x okF rfl (.tmp 81) (.tmp 83) hrf rfl [⟨fm, fp, ra⟩] (by simp [Act.eval, Act.put]; done) (some ⟨k8, 0, none⟩) 1 1 (by simp [Act.eval, Act.put]; done) rfl (fun h => by cases h) HNw.out (by have := Hm.out; rw [this]; show (m + 1) * 32 ≤ _; omega) ?_
  intro v8 w8 ρ8 hr8 hf8 _ _
  obtain ⟨a8, q8, h8⟩ := hr8.out.shape
  rw [List.length_append, List.length_singleton, Hm.out] at h8
  subst h8
  have HP8 := hid (HCf.out.d.m.r.grow (V := V) (V' := { V with f := .slice a8 (m + 1) q8 }) (HV.out.below HBf.out) hf8.out (by decide) (by decide) (.slice a8 (m + 1) q8) 4 rfl (HRwf.out.putF hf8.out hr8.out))
  have hk8 : Blk w8 l.f 109 (flC l V) := hf8.out.keep (HV.out.below HBf.out) HCf.out.d.m.r.rf rfl
  have s0 : Blk w8 fB 201 (fnCl ⟨fm, fp, ra⟩) := hf8.out.keep HCf.out.bf HCf.out.zf rfl
  have s1 : w8.cell? ⟨l.p, 8, none⟩ = some (.pointer (some ⟨l.f, 0, none⟩)) := (hf8.out.keep HCf.out.d.m.pb HCf.out.d.m.r.rp rfl).cell 8
  have s2 : w8.cell? ⟨l.f, 4, none⟩ = some (.slice ax m qx) := by rw [← Hvx.out]; exact hk8.cell 4
  have f2 : w8.frozen? ⟨l.f, 4, none⟩ = false := hk8.frozen _
  have H9 : Hid (∃ M, M < Mx ∧ FlI N mg ρ w l bs (S.bod bs l.n) q ⟨2, nm, ps, -1, -1, fl, 0, tl, 0, el, 0⟩ n0 (w8.setCell ⟨l.f, 4, none⟩ (.slice a8 (m + 1) q8)) M) := hid (by
    obtain ⟨p1, p2⟩ := HCf.out.d.m.setF HP8.out.1 HP8.out.2.1
    obtain ⟨ρ9, h9⟩ := HCf.out.d.go (S' := (Sa.adv bs l.n).addF ⟨fm, fp, ra⟩) ⟨ρ8, p1, p2⟩
    have h6 := h9.m.ok.hu
    have h7 := h9.m.ok.hc
    have h8 : ((Sa.adv bs l.n).addF ⟨fm, fp, ra⟩).used = Sa.used + 1 := rfl
    have ha := Hus.out
    have hb := Hua.out
    have hd := PD.adv (bs := bs) (n := l.n) HDa.out
    have hd1 : Sa.fs.fields.length ≤ Sa.used := HDa.out.f
    refine ⟨65536 - (Sa.used + 1), by omega, (Sa.adv bs l.n).addF ⟨fm, fp, ra⟩, ρ9, h9, HFs.out, ⟨⟨hd.b.n, hd.b.o⟩, ?_, hd.d⟩, by omega⟩
    show (Sa.fs.fields ++ [_]).length ≤ Sa.used + 1
    rw [List.length_append, List.length_singleton]
    omega)
  clear hrf hr8 hf8 HNw HBf HBd HP8 hk8 HRwf HV HRw HCf Hc HSx
  go_wp2_with fail
  refine ⟨⟨s0, s1, s2⟩, ?_⟩
  simp only [QN]
  go_wp2
  obtain ⟨M9, hM9, hI9⟩ := H9.out
  refine ⟨hid ⟨M9, hI9⟩, ?_⟩
  refine Nat.lt_of_le_of_lt (leastN_le hI9) ?_
  rw [HMx.out]
  exact hM9
end
end Go.Proofs.Qxb6500883aGreatDoor
