/- Declarations as a relation; parseConst, parseAlias (written by tools/mk_scag.py). -/
import Derived.Test.Qxb6500883aGreatDoorScAf
namespace Go.Proofs.Qxb6500883aGreatDoor
open Go.RowKit
set_option linter.unusedSimpArgs false
set_option linter.unusedVariables false
def PS.addF (S : PS) (x : FN) : PS := { S with fs := S.fs.addF x }
def PS.addD (S : PS) (x : DN) : PS := { S with fs := S.fs.addD x }
/-- Fields read so far. -/
inductive Flds (bs : List UInt8) (n : Nat) : PS → PS → Prop
  | nil {S} : Flds bs n S S
  | cons {S S1 r S'} : S.tok.kind = 4 → (S.adv bs n).tok.kind = 8 → Prs bs n .typ ((S.adv bs n).adv bs n) (.ok S1 r) → S1.tok.kind = 7 → Flds bs n ((S1.adv bs n).addF ⟨S.word bs, S.tok.pos, r⟩) S' → Flds bs n S S'
inductive FldBad (bs : List UInt8) (n : Nat) : PS → Prop
  | name {S} : S.tok.kind ≠ 4 → FldBad bs n S
  | col {S} : S.tok.kind = 4 → (S.adv bs n).tok.kind ≠ 8 → FldBad bs n S
  | typ {S k} : S.tok.kind = 4 → (S.adv bs n).tok.kind = 8 → Prs bs n .typ ((S.adv bs n).adv bs n) (.bad k) → FldBad bs n S
  | semi {S S1 r} : S.tok.kind = 4 → (S.adv bs n).tok.kind = 8 → Prs bs n .typ ((S.adv bs n).adv bs n) (.ok S1 r) → S1.tok.kind ≠ 7 → FldBad bs n S
/-- Behind the keyword, the name and the mark. -/
def PS.bod (S : PS) (bs : List UInt8) (n : Nat) : PS := ((S.adv bs n).adv bs n).adv bs n
/-- A declaration read. -/
inductive DclOk (bs : List UInt8) (n : Nat) : PS → PS → DN → Prop
  | con {S S4 r} : S.tok.kind = 21 → (S.adv bs n).tok.kind = 4 → ((S.adv bs n).adv bs n).tok.kind = 6 → Prs bs n .expr (S.bod bs n) (.ok S4 r) → S4.tok.kind = 7 →
      DclOk bs n S (S4.adv bs n) ⟨0, (S.adv bs n).word bs, (S.adv bs n).tok.pos, -1, (r : Int), 0, 0, S.fs.types.length, S4.fs.types.length, S.fs.exprs.length, S4.fs.exprs.length⟩
  | ali {S S4 r} : S.tok.kind = 22 → (S.adv bs n).tok.kind = 4 → ((S.adv bs n).adv bs n).tok.kind = 6 → Prs bs n .typ (S.bod bs n) (.ok S4 r) → S4.tok.kind = 7 →
      DclOk bs n S (S4.adv bs n) ⟨1, (S.adv bs n).word bs, (S.adv bs n).tok.pos, (r : Int), -1, 0, 0, S.fs.types.length, S4.fs.types.length, S.fs.exprs.length, S4.fs.exprs.length⟩
  | cnt {S S4} : S.tok.kind = 23 → (S.adv bs n).tok.kind = 4 → ((S.adv bs n).adv bs n).tok.kind = 12 → Flds bs n (S.bod bs n) S4 → S4.tok.kind = 13 →
      DclOk bs n S (S4.adv bs n) ⟨2, (S.adv bs n).word bs, (S.adv bs n).tok.pos, -1, -1, S.fs.fields.length, S4.fs.fields.length, S.fs.types.length, S4.fs.types.length, S.fs.exprs.length, S4.fs.exprs.length⟩
inductive DclBad (bs : List UInt8) (n : Nat) : PS → Prop
  | other {S} : S.tok.kind ≠ 21 → S.tok.kind ≠ 22 → S.tok.kind ≠ 23 → DclBad bs n S
  | name {S} : 21 ≤ S.tok.kind → S.tok.kind ≤ 23 → (S.adv bs n).tok.kind ≠ 4 → DclBad bs n S
  | mark {S} : 21 ≤ S.tok.kind → S.tok.kind ≤ 23 → (S.adv bs n).tok.kind = 4 → ((S.adv bs n).adv bs n).tok.kind ≠ (if S.tok.kind = 23 then 12 else 6) → DclBad bs n S
  | expr {S k} : S.tok.kind = 21 → (S.adv bs n).tok.kind = 4 → ((S.adv bs n).adv bs n).tok.kind = 6 → Prs bs n .expr (S.bod bs n) (.bad k) → DclBad bs n S
  | exprS {S S4 r} : S.tok.kind = 21 → (S.adv bs n).tok.kind = 4 → ((S.adv bs n).adv bs n).tok.kind = 6 → Prs bs n .expr (S.bod bs n) (.ok S4 r) → S4.tok.kind ≠ 7 → DclBad bs n S
  | typ {S k} : S.tok.kind = 22 → (S.adv bs n).tok.kind = 4 → ((S.adv bs n).adv bs n).tok.kind = 6 → Prs bs n .typ (S.bod bs n) (.bad k) → DclBad bs n S
  | typS {S S4 r} : S.tok.kind = 22 → (S.adv bs n).tok.kind = 4 → ((S.adv bs n).adv bs n).tok.kind = 6 → Prs bs n .typ (S.bod bs n) (.ok S4 r) → S4.tok.kind ≠ 7 → DclBad bs n S
  | flds {S S4} : S.tok.kind = 23 → (S.adv bs n).tok.kind = 4 → ((S.adv bs n).adv bs n).tok.kind = 12 → Flds bs n (S.bod bs n) S4 → S4.tok.kind ≠ 13 → FldBad bs n S4 → DclBad bs n S
theorem DclOk.hi {bs : List UInt8} {n : Nat} {S S' : PS} {x : DN} (h : DclOk bs n S S' x) : x.tHi = S'.fs.types.length ∧ x.eHi = S'.fs.exprs.length := by
  cases h <;> exact ⟨rfl, rfl⟩
/-- All rows are short. -/
structure PD (S : PS) : Prop where
  b : PB S
  f : S.fs.fields.length ≤ S.used
  d : S.fs.decls.length ≤ S.used
theorem PD.mv {S S' : PS} {k j : Nat} (h : PD S) (hm : Mv S S' k j) : PD S' := ⟨h.b.mv hm, by rw [hm.f]; have := hm.u; have := h.f; omega, by rw [hm.c]; have := hm.u; have := h.d; omega⟩
theorem PD.adv {bs : List UInt8} {n : Nat} {S : PS} (h : PD S) : PD (S.adv bs n) := h.mv (Mv.adv S)
section
variable {N mg : Nat} {ρ ρ' : Rl} {w w' w1 w2 : World} {l : PL} {bs : List UInt8} {S S' : PS} {q n0 : Nat} {x x' : DN}
/-- Inside a function that fills a declaration: the node in block q. -/
structure DcB (N mg : Nat) (ρ : Rl) (w : World) (l : PL) (bs : List UInt8) (S : PS) (q : Nat) (x : DN) (n0 : Nat) (ρ' : Rl) (w' : World) : Prop where
  m : PM N mg ρ' w' l bs S
  f : FrQ q X7 ρ w ρ' w'
  bn : Blk w' q 147 (dnC x)
  zn : ρ' q = 0
  lq : n0 ≤ q
  lw : n0 ≤ w.heap.size
  hN : N ≤ n0
  hs : ∀ ad, l.a = some ad → ad.block < n0
  qw : q < w.heap.size
theorem DcB.go (h : DcB N mg ρ w l bs S q x n0 ρ' w1) (hg : PGo N mg ρ' w1 l bs S' w2) : ∃ ρ2, DcB N mg ρ w l bs S' q x n0 ρ2 w2 := by
  obtain ⟨ρ2, h1, h2⟩ := hg.m
  exact ⟨ρ2, h1, h.f.trans h2, h2.keep h.bn h.zn rfl, by rw [h2.old _ h.bn.lt]; exact h.zn, h.lq, h.lw, h.hN, h.hs, h.qw⟩
theorem DcB.below (h : DcB N mg ρ w l bs S q x n0 ρ' w1) (hb : Below w1.heap.size w1 w2) : DcB N mg ρ w l bs S q x n0 ρ' w2 :=
  ⟨h.m.below hb, h.f.trans (Fr.below hb), h.bn.below hb, h.zn, h.lq, h.lw, h.hN, h.hs, h.qw⟩
theorem DcB.set (h : DcB N mg ρ w l bs S q x n0 ρ' w1) (j : Nat) (u : Value) (hx : (dnC x).set j u = dnC x') : DcB N mg ρ w l bs S q x' n0 ρ' (w1.setCell ⟨q, j, none⟩ u) := by
  have hu : Upd q w1 (w1.setCell ⟨q, j, none⟩ u) := (Upd.refl q w1).setCell rfl _
  have hb := h.bn.set j u
  rw [hx] at hb
  exact ⟨h.m.updL hu h.zn h.lq h.hN h.hs, h.f.updQ hu, hb, h.zn, h.lq, h.lw, h.hN, h.hs, h.qw⟩
theorem DcB.nc (h : DcB N mg ρ w l bs S q x n0 ρ' w1) (j : Nat) : w1.cell? ⟨q, j, none⟩ = (dnC x)[j]? ∧ w1.frozen? ⟨q, j, none⟩ = false := ⟨h.bn.cell j, h.bn.frozen j⟩
/-- A refusal inside. -/
def DcN (ρ : Rl) (w : World) (l : PL) (bs : List UInt8) (q : Nat) (w' : World) : Prop := ∃ k, PF w w' l bs k ∧ ∃ ρ', FrQ q X7 ρ w ρ' w'
theorem DcB.no {k : Nat × Nat} (h : DcB N mg ρ w l bs S q x n0 ρ' w1) (hn : PNo N mg ρ' w1 l bs k w2) : Blk w2 q 147 (dnC x) ∧ ∀ w3, Upd q w2 w3 → DcN ρ w l bs q w3 := by
  obtain ⟨⟨⟨q', cs, h1, h2, h3, h4⟩, h5⟩, ρ2, hf⟩ := hn
  have hpq : l.p ≠ q := fun e => by have := h.m.r.rp; rw [e, h.zn] at this; cases this
  have hqw := h.qw
  have hsz := h.f.size
  refine ⟨hf.keep h.bn h.zn rfl, fun w3 hu => ?_⟩
  obtain ⟨m', e1, e2, e3⟩ := h3.e
  exact ⟨k, ⟨⟨q', cs, h1.upd hu hpq, h2, ⟨m', e1, e2, e3.upd hu (by omega)⟩, Nat.le_trans hsz h4⟩, h5⟩, ρ2, (h.f.trans hf).updQ hu⟩
theorem DcB.no' {k : Nat × Nat} (h : DcB N mg ρ w l bs S q x n0 ρ' w1) (hn : PNo N mg ρ' w1 l bs k w2) : DcN ρ w l bs q w2 := (h.no hn).2 w2 (Upd.refl q w2)
/-- What such a function comes to. -/
def DcQ (N mg : Nat) (ρ : Rl) (w : World) (l : PL) (bs : List UInt8) (S : PS) (q n0 : Nat) (e : Ending) (w' : World) : Prop :=
  (∃ (S' : PS) (x : DN), e = .returned (.bool true) ∧ Hid (DclOk bs l.n S S' x ∧ PD S') ∧ Hid (∃ ρ', DcB N mg ρ w l bs S' q { x with tHi := 0, eHi := 0 } n0 ρ' w')) ∨
  (e = .returned (.bool false) ∧ Hid (DclBad bs l.n S) ∧ Hid (DcN ρ w l bs q w'))
def dn0 (S : PS) : DN := ⟨0, ⟨#[]⟩, 0, -1, -1, 0, 0, S.fs.types.length, 0, S.fs.exprs.length, 0⟩
set_option maxRecDepth 100000 in
set_option maxHeartbeats 4000000 in
theorem parseConstW (h : DcB N mg ρ w l bs S q (dn0 S) n0 ρ w) (hk : S.tok.kind = 21) (hD : PD S) : Calls Tryz.prog 79 #[.pointer (some ⟨l.p, 0, none⟩), .pointer (some ⟨q, 0, none⟩)] w (DcQ N mg ρ w l bs S q n0) := by
  have H0 := hid h
  have Hk := hid hk
  have HD := hid hD
  have HA := hid (advW h.m (by omega))
  obtain ⟨tl, htl⟩ : ∃ t, S.fs.types.length = t := ⟨_, rfl⟩
  obtain ⟨el, hel⟩ : ∃ t, S.fs.exprs.length = t := ⟨_, rfl⟩
  have Htl := hid htl
  have Hel := hid hel
  have H0' : Hid (DcB N mg ρ w l bs S q ⟨0, ⟨#[]⟩, 0, -1, -1, 0, 0, tl, 0, el, 0⟩ n0 ρ w) := hid (by have := h; unfold dn0 at this; rw [htl, hel] at this; exact this)
  clear h hk hD htl hel H0
  go_enter Tryz.func79, Tryz.ntmps79
  go_wp2_with fail
  refine HA.out.mono ?_
  rintro e w1 ⟨rfl, hg1⟩
  obtain ⟨ρ1, h1⟩ := H0'.out.go hg1.out
  have H1 := hid h1
  clear HA hg1 h1 H0'
  have c0 : w1.cell? ⟨q, 0, none⟩ = some (.int .u8 0) := (H1.out.nc 0).1
  have f0 : w1.frozen? ⟨q, 0, none⟩ = false := (H1.out.nc 0).2
  have H2 := hid (H1.out.set (x' := ⟨0, ⟨#[]⟩, 0, -1, -1, 0, 0, tl, 0, el, 0⟩) 0 (.int .u8 0) rfl)
  go_upto_region 4 with fail
  generalize hw2 : w1.setCell _ _ = w2 at H2 ⊢
  clear hw2 c0 f0 H1
  by_cases h4 : (S.adv bs l.n).tok.kind = 4
  rotate_left
  · as_aux_lemma =>
    have HP : Hid (DclBad bs l.n S) := hid (DclBad.name (by rw [Hk.out]; decide) (by rw [Hk.out]; decide) h4)
    have HU := hid (nameN H2.out.m h4 ⟨#[116, 104, 101, 32, 110, 97, 109, 101, 32, 111, 102, 32, 116, 104, 101, 32, 99, 111, 110, 115, 116, 97, 110, 116]⟩ (by decide))
    clear h4
    go_wp2_with fail
    refine HU.out.mono ?_
    rintro e w3 ⟨rfl, hn3⟩
    obtain ⟨hb3, hd3⟩ := H2.out.no hn3.out
    have HN := hid (hd3 ((w3.setCell ⟨q, 1, none⟩ (.string ⟨#[]⟩)).setCell ⟨q, 2, none⟩ (.int .i64 0)) (((Upd.refl q w3).setCell rfl _).setCell rfl _))
    have c1 := hb3.cell 1
    have c2 := hb3.cell 2
    have f1 := hb3.frozen 1
    have f2 := hb3.frozen 2
    simp only [dnC, List.getElem?_cons_succ, List.getElem?_cons_zero] at c1 c2
    clear HU hn3 H2 hb3 hd3
    go_wp2
    go_ret
    exact .inr ⟨rfl, HP, HN⟩
  have H4 := hid h4
  have HU := hid (nameY H2.out.m h4 ⟨#[116, 104, 101, 32, 110, 97, 109, 101, 32, 111, 102, 32, 116, 104, 101, 32, 99, 111, 110, 115, 116, 97, 110, 116]⟩)
  clear h4
  obtain ⟨nm, hnm⟩ : ∃ nm, (S.adv bs l.n).word bs = nm := ⟨_, rfl⟩
  obtain ⟨ps, hps⟩ : ∃ ps, (S.adv bs l.n).tok.pos = ps := ⟨_, rfl⟩
  rw [hnm, hps] at HU
  have Hnm := hid hnm
  have Hps := hid hps
  clear hnm hps
  go_wp2_with fail
  refine HU.out.mono ?_
  rintro e w3 ⟨rfl, hg3⟩
  obtain ⟨ρ3, h3⟩ := H2.out.go hg3.out
  have H3 := hid h3
  clear HU hg3 h3 H2
  have c1 : w3.cell? ⟨q, 1, none⟩ = some (.string ⟨#[]⟩) := (H3.out.nc 1).1
  have c2 : w3.cell? ⟨q, 2, none⟩ = some (.int .i64 0) := (H3.out.nc 2).1
  have f1 : w3.frozen? ⟨q, 1, none⟩ = false := (H3.out.nc 1).2
  have f2 : w3.frozen? ⟨q, 2, none⟩ = false := (H3.out.nc 2).2
  have H5 := hid ((H3.out.set (x' := ⟨0, nm, 0, -1, -1, 0, 0, tl, 0, el, 0⟩) 1 (.string nm) rfl).set (x' := ⟨0, nm, ps, -1, -1, 0, 0, tl, 0, el, 0⟩) 2 (.int .i64 (ps : Int)) rfl)
  go_upto_region 7 with fail
  generalize hw5 : World.setCell (World.setCell _ _ _) _ _ = w5 at H5 ⊢
  clear hw5 c1 c2 f1 f2 H3
  by_cases h6 : ((S.adv bs l.n).adv bs l.n).tok.kind = 6
  rotate_left
  · as_aux_lemma =>
    have HP : Hid (DclBad bs l.n S) := hid (DclBad.mark (by rw [Hk.out]; decide) (by rw [Hk.out]; decide) H4.out (by rw [Hk.out]; exact h6))
    have HU := hid (expectN H5.out.m h6 (by decide))
    clear h6
    go_wp2_with fail
    refine HU.out.mono ?_
    rintro e w6 ⟨rfl, hn6⟩
    have HN := hid (H5.out.no' hn6.out)
    clear HU hn6 H5
    go_wp2
    go_ret
    exact .inr ⟨rfl, HP, HN⟩
  have H6k := hid h6
  have HU := hid (expectY H5.out.m h6 (by decide))
  clear h6
  go_wp2_with fail
  refine HU.out.mono ?_
  rintro e w6 ⟨rfl, hg6⟩
  obtain ⟨ρ6, h6⟩ := H5.out.go hg6.out
  have H6 : Hid (DcB N mg ρ w l bs (S.bod bs l.n) q ⟨0, nm, ps, -1, -1, 0, 0, tl, 0, el, 0⟩ n0 ρ6 w6) := hid h6
  clear HU hg6 h6 H5
  have HD6 : Hid (PD (S.bod bs l.n)) := hid (PD.adv (PD.adv (PD.adv HD.out)))
  have HX := hid (parseExprX H6.out.m HD6.out.b)
  go_wp2_with fail
  refine HX.out.mono ?_
  rintro e wa (⟨Sa, ra, rfl, HPa, hga⟩ | ⟨ka, ra, rfl, HPa, hna⟩)
  rotate_left
  · as_aux_lemma =>
    have HP : Hid (DclBad bs l.n S) := hid (DclBad.expr Hk.out H4.out H6k.out HPa.out)
    obtain ⟨hb3, hd3⟩ := H6.out.no hna.out
    have HN := hid (hd3 (wa.setCell ⟨q, 4, none⟩ (.int .i32 ra)) ((Upd.refl q wa).setCell rfl _))
    have c1 := hb3.cell 4
    have f1 := hb3.frozen 4
    simp only [dnC, List.getElem?_cons_succ, List.getElem?_cons_zero] at c1
    clear HX hna H6 hb3 hd3
    go_wp2
    go_ret
    exact .inr ⟨rfl, HP, HN⟩
  have hmv : Mv (S.bod bs l.n) Sa 1 0 := HPa.out.mv
  obtain ⟨ρa, ha⟩ := H6.out.go hga.out
  have Ha := hid ha
  have HDa := hid (HD6.out.mv hmv)
  clear HX hga ha hmv H6
  have c1 : wa.cell? ⟨q, 4, none⟩ = some (.int .i32 (-1)) := (Ha.out.nc 4).1
  have f1 : wa.frozen? ⟨q, 4, none⟩ = false := (Ha.out.nc 4).2
  have Hb := hid (Ha.out.set (x' := ⟨0, nm, ps, -1, (ra : Int), 0, 0, tl, 0, el, 0⟩) 4 (.int .i32 (ra : Int)) rfl)
  go_upto_region 12 with fail
  generalize hwb : wa.setCell _ _ = wb at Hb ⊢
  clear hwb c1 f1 Ha
  by_cases h7 : Sa.tok.kind = 7
  · as_aux_lemma =>
    have HP : Hid (DclOk bs l.n S (Sa.adv bs l.n) ⟨0, nm, ps, -1, (ra : Int), 0, 0, tl, Sa.fs.types.length, el, Sa.fs.exprs.length⟩ ∧ PD (Sa.adv bs l.n)) := hid (by
      have := DclOk.con Hk.out H4.out H6k.out HPa.out h7
      rw [Hnm.out, Hps.out, Htl.out, Hel.out] at this
      exact ⟨this, HDa.out.adv⟩)
    have HU := hid (expectY Hb.out.m h7 (by decide))
    clear h7
    go_wp2_with fail
    refine HU.out.mono ?_
    rintro e wc ⟨rfl, hgc⟩
    have Hc := hid (Hb.out.go hgc.out)
    clear HU hgc Hb
    go_wp2
    go_ret
    exact .inl ⟨_, _, rfl, HP, Hc⟩
  · as_aux_lemma =>
    have HP : Hid (DclBad bs l.n S) := hid (DclBad.exprS Hk.out H4.out H6k.out HPa.out h7)
    have HU := hid (expectN Hb.out.m h7 (by decide))
    clear h7
    go_wp2_with fail
    refine HU.out.mono ?_
    rintro e wc ⟨rfl, hnc⟩
    have HN := hid (Hb.out.no' hnc.out)
    clear HU hnc Hb
    go_wp2
    go_ret
    exact .inr ⟨rfl, HP, HN⟩
set_option maxRecDepth 100000 in
set_option maxHeartbeats 4000000 in
theorem parseAliasW (h : DcB N mg ρ w l bs S q (dn0 S) n0 ρ w) (hk : S.tok.kind = 22) (hD : PD S) : Calls Tryz.prog 80 #[.pointer (some ⟨l.p, 0, none⟩), .pointer (some ⟨q, 0, none⟩)] w (DcQ N mg ρ w l bs S q n0) := by
  have H0 := hid h
  have Hk := hid hk
  have HD := hid hD
  have HA := hid (advW h.m (by omega))
  obtain ⟨tl, htl⟩ : ∃ t, S.fs.types.length = t := ⟨_, rfl⟩
  obtain ⟨el, hel⟩ : ∃ t, S.fs.exprs.length = t := ⟨_, rfl⟩
  have Htl := hid htl
  have Hel := hid hel
  have H0' : Hid (DcB N mg ρ w l bs S q ⟨0, ⟨#[]⟩, 0, -1, -1, 0, 0, tl, 0, el, 0⟩ n0 ρ w) := hid (by have := h; unfold dn0 at this; rw [htl, hel] at this; exact this)
  clear h hk hD htl hel H0
  go_enter Tryz.func80, Tryz.ntmps80
  go_wp2_with fail
  refine HA.out.mono ?_
  rintro e w1 ⟨rfl, hg1⟩
  obtain ⟨ρ1, h1⟩ := H0'.out.go hg1.out
  have H1 := hid h1
  clear HA hg1 h1 H0'
  have c0 : w1.cell? ⟨q, 0, none⟩ = some (.int .u8 0) := (H1.out.nc 0).1
  have f0 : w1.frozen? ⟨q, 0, none⟩ = false := (H1.out.nc 0).2
  have H2 := hid (H1.out.set (x' := ⟨1, ⟨#[]⟩, 0, -1, -1, 0, 0, tl, 0, el, 0⟩) 0 (.int .u8 1) rfl)
  go_upto_region 4 with fail
  generalize hw2 : w1.setCell _ _ = w2 at H2 ⊢
  clear hw2 c0 f0 H1
  by_cases h4 : (S.adv bs l.n).tok.kind = 4
  rotate_left
  · as_aux_lemma =>
    have HP : Hid (DclBad bs l.n S) := hid (DclBad.name (by rw [Hk.out]; decide) (by rw [Hk.out]; decide) h4)
    have HU := hid (nameN H2.out.m h4 ⟨#[116, 104, 101, 32, 110, 97, 109, 101, 32, 111, 102, 32, 116, 104, 101, 32, 116, 121, 112, 101]⟩ (by decide))
    clear h4
    go_wp2_with fail
    refine HU.out.mono ?_
    rintro e w3 ⟨rfl, hn3⟩
    obtain ⟨hb3, hd3⟩ := H2.out.no hn3.out
    have HN := hid (hd3 ((w3.setCell ⟨q, 1, none⟩ (.string ⟨#[]⟩)).setCell ⟨q, 2, none⟩ (.int .i64 0)) (((Upd.refl q w3).setCell rfl _).setCell rfl _))
    have c1 := hb3.cell 1
    have c2 := hb3.cell 2
    have f1 := hb3.frozen 1
    have f2 := hb3.frozen 2
    simp only [dnC, List.getElem?_cons_succ, List.getElem?_cons_zero] at c1 c2
    clear HU hn3 H2 hb3 hd3
    go_wp2
    go_ret
    exact .inr ⟨rfl, HP, HN⟩
  have H4 := hid h4
  have HU := hid (nameY H2.out.m h4 ⟨#[116, 104, 101, 32, 110, 97, 109, 101, 32, 111, 102, 32, 116, 104, 101, 32, 116, 121, 112, 101]⟩)
  clear h4
  obtain ⟨nm, hnm⟩ : ∃ nm, (S.adv bs l.n).word bs = nm := ⟨_, rfl⟩
  obtain ⟨ps, hps⟩ : ∃ ps, (S.adv bs l.n).tok.pos = ps := ⟨_, rfl⟩
  rw [hnm, hps] at HU
  have Hnm := hid hnm
  have Hps := hid hps
  clear hnm hps
  go_wp2_with fail
  refine HU.out.mono ?_
  rintro e w3 ⟨rfl, hg3⟩
  obtain ⟨ρ3, h3⟩ := H2.out.go hg3.out
  have H3 := hid h3
  clear HU hg3 h3 H2
  have c1 : w3.cell? ⟨q, 1, none⟩ = some (.string ⟨#[]⟩) := (H3.out.nc 1).1
  have c2 : w3.cell? ⟨q, 2, none⟩ = some (.int .i64 0) := (H3.out.nc 2).1
  have f1 : w3.frozen? ⟨q, 1, none⟩ = false := (H3.out.nc 1).2
  have f2 : w3.frozen? ⟨q, 2, none⟩ = false := (H3.out.nc 2).2
  have H5 := hid ((H3.out.set (x' := ⟨1, nm, 0, -1, -1, 0, 0, tl, 0, el, 0⟩) 1 (.string nm) rfl).set (x' := ⟨1, nm, ps, -1, -1, 0, 0, tl, 0, el, 0⟩) 2 (.int .i64 (ps : Int)) rfl)
  go_upto_region 7 with fail
  generalize hw5 : World.setCell (World.setCell _ _ _) _ _ = w5 at H5 ⊢
  clear hw5 c1 c2 f1 f2 H3
  by_cases h6 : ((S.adv bs l.n).adv bs l.n).tok.kind = 6
  rotate_left
  · as_aux_lemma =>
    have HP : Hid (DclBad bs l.n S) := hid (DclBad.mark (by rw [Hk.out]; decide) (by rw [Hk.out]; decide) H4.out (by rw [Hk.out]; exact h6))
    have HU := hid (expectN H5.out.m h6 (by decide))
    clear h6
    go_wp2_with fail
    refine HU.out.mono ?_
    rintro e w6 ⟨rfl, hn6⟩
    have HN := hid (H5.out.no' hn6.out)
    clear HU hn6 H5
    go_wp2
    go_ret
    exact .inr ⟨rfl, HP, HN⟩
  have H6k := hid h6
  have HU := hid (expectY H5.out.m h6 (by decide))
  clear h6
  go_wp2_with fail
  refine HU.out.mono ?_
  rintro e w6 ⟨rfl, hg6⟩
  obtain ⟨ρ6, h6⟩ := H5.out.go hg6.out
  have H6 : Hid (DcB N mg ρ w l bs (S.bod bs l.n) q ⟨1, nm, ps, -1, -1, 0, 0, tl, 0, el, 0⟩ n0 ρ6 w6) := hid h6
  clear HU hg6 h6 H5
  have HD6 : Hid (PD (S.bod bs l.n)) := hid (PD.adv (PD.adv (PD.adv HD.out)))
  have HX := hid (parseTypeX H6.out.m HD6.out.b)
  go_wp2_with fail
  refine HX.out.mono ?_
  rintro e wa (⟨Sa, ra, rfl, HPa, hga⟩ | ⟨ka, ra, rfl, HPa, hna⟩)
  rotate_left
  · as_aux_lemma =>
    have HP : Hid (DclBad bs l.n S) := hid (DclBad.typ Hk.out H4.out H6k.out HPa.out)
    obtain ⟨hb3, hd3⟩ := H6.out.no hna.out
    have HN := hid (hd3 (wa.setCell ⟨q, 3, none⟩ (.int .i32 ra)) ((Upd.refl q wa).setCell rfl _))
    have c1 := hb3.cell 3
    have f1 := hb3.frozen 3
    simp only [dnC, List.getElem?_cons_succ, List.getElem?_cons_zero] at c1
    clear HX hna H6 hb3 hd3
    go_wp2
    go_ret
    exact .inr ⟨rfl, HP, HN⟩
  have hmv : Mv (S.bod bs l.n) Sa 1 0 := HPa.out.mv
  obtain ⟨ρa, ha⟩ := H6.out.go hga.out
  have Ha := hid ha
  have HDa := hid (HD6.out.mv hmv)
  clear HX hga ha hmv H6
  have c1 : wa.cell? ⟨q, 3, none⟩ = some (.int .i32 (-1)) := (Ha.out.nc 3).1
  have f1 : wa.frozen? ⟨q, 3, none⟩ = false := (Ha.out.nc 3).2
  have Hb := hid (Ha.out.set (x' := ⟨1, nm, ps, (ra : Int), -1, 0, 0, tl, 0, el, 0⟩) 3 (.int .i32 (ra : Int)) rfl)
  go_upto_region 12 with fail
  generalize hwb : wa.setCell _ _ = wb at Hb ⊢
  clear hwb c1 f1 Ha
  by_cases h7 : Sa.tok.kind = 7
  · as_aux_lemma =>
    have HP : Hid (DclOk bs l.n S (Sa.adv bs l.n) ⟨1, nm, ps, (ra : Int), -1, 0, 0, tl, Sa.fs.types.length, el, Sa.fs.exprs.length⟩ ∧ PD (Sa.adv bs l.n)) := hid (by
      have := DclOk.ali Hk.out H4.out H6k.out HPa.out h7
      rw [Hnm.out, Hps.out, Htl.out, Hel.out] at this
      exact ⟨this, HDa.out.adv⟩)
    have HU := hid (expectY Hb.out.m h7 (by decide))
    clear h7
    go_wp2_with fail
    refine HU.out.mono ?_
    rintro e wc ⟨rfl, hgc⟩
    have Hc := hid (Hb.out.go hgc.out)
    clear HU hgc Hb
    go_wp2
    go_ret
    exact .inl ⟨_, _, rfl, HP, Hc⟩
  · as_aux_lemma =>
    have HP : Hid (DclBad bs l.n S) := hid (DclBad.typS Hk.out H4.out H6k.out HPa.out h7)
    have HU := hid (expectN Hb.out.m h7 (by decide))
    clear h7
    go_wp2_with fail
    refine HU.out.mono ?_
    rintro e wc ⟨rfl, hnc⟩
    have HN := hid (Hb.out.no' hnc.out)
    clear HU hnc Hb
    go_wp2
    go_ret
    exact .inr ⟨rfl, HP, HN⟩

end
end Go.Proofs.Qxb6500883aGreatDoor
