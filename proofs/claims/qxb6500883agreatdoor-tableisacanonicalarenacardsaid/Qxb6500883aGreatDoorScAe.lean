/- parseOptions (written by tools/mk_scae.py). -/
import Derived.Test.Qxb6500883aGreatDoorScAd
namespace Go.Proofs.Qxb6500883aGreatDoor
open Go.RowKit
set_option linter.unusedSimpArgs false
set_option linter.unusedVariables false
/-- As Fr, but block q may be written. -/
structure FrQ (q : Nat) (X : Nat → Bool) (ρ : Rl) (w : World) (ρ' : Rl) (w' : World) : Prop where
  os : w'.os = w.os
  tape : w'.tape = w.tape
  output : w'.output = w.output
  size : w.heap.size ≤ w'.heap.size
  old : ∀ g, g < w.heap.size → ρ' g = ρ g
  nw : ∀ g, w'.heap.size ≤ g → ρ' g = ρ g
  blk : ∀ g, g < w.heap.size → g ≠ q → X (ρ g) = false → w'.heap[g]? = w.heap[g]?
section
variable {N mg : Nat} {ρ ρ' ρ'' : Rl} {w w' w1 w2 : World} {l : PL} {bs : List UInt8} {S S' : PS} {q : Nat} {X : Nat → Bool}
theorem FrQ.start (q : Nat) (X : Nat → Bool) (ρ : Rl) (w : World) : FrQ q X ρ w ρ w := ⟨rfl, rfl, rfl, Nat.le_refl _, fun _ _ => rfl, fun _ _ => rfl, fun _ _ _ _ => rfl⟩
theorem FrQ.trans (h : FrQ q X ρ w ρ' w1) (k : Fr X ρ' w1 ρ'' w2) : FrQ q X ρ w ρ'' w2 :=
  ⟨k.os.trans h.os, k.tape.trans h.tape, k.output.trans h.output, Nat.le_trans h.size k.size, fun g hg => (k.old g (Nat.lt_of_lt_of_le hg h.size)).trans (h.old g hg), fun g hg => (k.nw g hg).trans (h.nw g (Nat.le_trans k.size hg)), fun g hg hq h0 => (k.blk g (Nat.lt_of_lt_of_le hg h.size) (by rw [h.old g hg]; exact h0)).trans (h.blk g hg hq h0)⟩
theorem FrQ.updQ (h : FrQ q X ρ w ρ' w1) (hu : Upd q w1 w2) : FrQ q X ρ w ρ' w2 :=
  ⟨hu.os.trans h.os, hu.tape.trans h.tape, hu.output.trans h.output, Nat.le_trans h.size hu.size, h.old, fun g hg => h.nw g (Nat.le_trans hu.size hg), fun g hg hq hx => (hu.block g (Nat.lt_of_lt_of_le hg h.size) hq).trans (h.blk g hg hq hx)⟩
theorem FrQ.kepL {v : Value} (h : FrQ q X ρ w ρ' w1) (hk : Kep w1 v w2) (hq : ∀ g, v.ownBlock = some g → w.heap.size ≤ g) : FrQ q X ρ w ρ' w2 :=
  ⟨hk.os.trans h.os, hk.tape.trans h.tape, hk.output.trans h.output, Nat.le_trans h.size hk.size, h.old, fun g hg => h.nw g (Nat.le_trans hk.size hg), fun g hg hn hx => (hk.blk g (Nat.lt_of_lt_of_le hg h.size) (fun g' hg' e => by have := hq g' hg'; omega)).trans (h.blk g hg hn hx)⟩
/-- Inside parseOptions: the node in block q, the options gathered so far. -/
structure OpB (N mg : Nat) (ρ : Rl) (w : World) (l : PL) (bs : List UInt8) (S : PS) (q : Nat) (x : TN) (n0 : Nat) (v : Value) (acc : List Nat) (ρ' : Rl) (w' : World) : Prop where
  m : PM N mg ρ' w' l bs S
  f : FrQ q X7 ρ w ρ' w'
  bn : Blk w' q 157 (tnC x)
  zn : ρ' q = 0
  row : OwR rtO w.heap.size w' v acc
  zr : ∀ g, v.ownBlock = some g → ρ' g = 0
  lq : n0 ≤ q
  lw : n0 ≤ w.heap.size
  hN : N ≤ n0
  hs : ∀ ad, l.a = some ad → ad.block < n0
section
variable {x x' : TN} {n0 : Nat} {v v' : Value} {acc : List Nat}
theorem OpB.go (h : OpB N mg ρ w l bs S q x n0 v acc ρ' w1) (hg : PGo N mg ρ' w1 l bs S' w2) : ∃ ρ2, OpB N mg ρ w l bs S' q x n0 v acc ρ2 w2 := by
  obtain ⟨ρ2, h1, h2⟩ := hg.m
  exact ⟨ρ2, h1, h.f.trans h2, h2.keep h.bn h.zn rfl, by rw [h2.old _ h.bn.lt]; exact h.zn, h.row.of (fun g hg hl => h2.blk g hl (by rw [h.zr g hg]; rfl)), fun g hg => by rw [h2.old _ (h.row.lt g hg)]; exact h.zr g hg, h.lq, h.lw, h.hN, h.hs⟩
theorem OpB.below (h : OpB N mg ρ w l bs S q x n0 v acc ρ' w1) (hb : Below w1.heap.size w1 w2) : OpB N mg ρ w l bs S q x n0 v acc ρ' w2 :=
  ⟨h.m.below hb, h.f.trans (Fr.below hb), h.bn.below hb, h.zn, h.row.below hb, h.zr, h.lq, h.lw, h.hN, h.hs⟩
theorem OpB.app {rs : List Nat} (h : OpB N mg ρ w l bs S q x n0 v acc ρ' w1) (hk : Kep w1 v w2) (hr : OwR rtO w.heap.size w2 v' (acc ++ rs)) (hn : ∀ g, v'.ownBlock = some g → v.ownBlock = some g ∨ w1.heap.size ≤ g) : OpB N mg ρ w l bs S q x n0 v' (acc ++ rs) ρ' w2 := by
  have hlw := h.lw
  refine ⟨h.m.kepL hk (fun g hg => ⟨h.zr g hg, Nat.le_trans hlw (h.row.hi g hg)⟩) h.hN h.hs, h.f.kepL hk h.row.hi, hk.keep h.bn (h.row.ne h.bn (by decide)), h.zn, hr, fun g hg => ?_, h.lq, hlw, h.hN, h.hs⟩
  rcases hn g hg with h1 | h1
  · exact h.zr g h1
  · exact h.m.new h1
theorem OpB.set (h : OpB N mg ρ w l bs S q x n0 v acc ρ' w1) (j : Nat) (u : Value) (hx : (tnC x).set j u = tnC x') : OpB N mg ρ w l bs S q x' n0 v acc ρ' (w1.setCell ⟨q, j, none⟩ u) := by
  have hu : Upd q w1 (w1.setCell ⟨q, j, none⟩ u) := (Upd.refl q w1).setCell rfl _
  have hb := h.bn.set j u
  rw [hx] at hb
  exact ⟨h.m.updL hu h.zn h.lq h.hN h.hs, h.f.updQ hu, hb, h.zn, h.row.upd hu (h.row.ne h.bn (by decide)), h.zr, h.lq, h.lw, h.hN, h.hs⟩
theorem OpB.no {k : Nat × Nat} (h : OpB N mg ρ w l bs S q x n0 v acc ρ' w1) (hn : PNo N mg ρ' w1 l bs k w2) : PF w w2 l bs k ∧ ∃ ρ'', FrQ q X7 ρ w ρ'' w2 := by
  obtain ⟨⟨q', cs, h1, h2, h3, h4⟩, h5⟩ := hn.f
  obtain ⟨ρ'', hf⟩ := hn.m
  exact ⟨⟨⟨q', cs, h1, h2, h3, Nat.le_trans h.f.size h4⟩, h5⟩, ρ'', h.f.trans hf⟩
end
/-- What parseOptions comes to; Sp is the state at the word Union. -/
def OpQ (N mg : Nat) (ρ : Rl) (w : World) (l : PL) (bs : List UInt8) (Sp : PS) (q : Nat) (e : Ending) (w' : World) : Prop :=
  (∃ (S' : PS) (lo hi : Nat), e = .returned (.bool true) ∧ Hid (Prs bs l.n .typ Sp (.ok (S'.addT ⟨7, 0, Sp.tok.pos, ⟨#[]⟩, -1, -1, lo, hi⟩) S'.fs.types.length)) ∧ Hid (∃ ρ', PM N mg ρ' w' l bs S' ∧ FrQ q X7 ρ w ρ' w' ∧ Blk w' q 157 (tnC ⟨7, 0, Sp.tok.pos, ⟨#[]⟩, -1, -1, lo, hi⟩) ∧ ρ' q = 0)) ∨
  (∃ (k : Nat × Nat), e = .returned (.bool false) ∧ Hid (Prs bs l.n .typ Sp (.bad k)) ∧ Hid (PF w w' l bs k ∧ ∃ ρ', FrQ q X7 ρ w ρ' w'))
/-- The loop under way: M tokens may still be used. -/
def OpI (N mg : Nat) (ρ : Rl) (w : World) (l : PL) (bs : List UInt8) (S1 : PS) (q : Nat) (x : TN) (n0 d : Nat) (v : Value) (wr : World) (M : Nat) : Prop :=
  ∃ (S : PS) (acc : List Nat) (ρ' : Rl), OpB N mg ρ w l bs S q x n0 v acc ρ' wr ∧ (∀ o, Prs bs l.n (.opts acc) S o → Prs bs l.n (.opts []) S1 o) ∧ PB S ∧ S.depth = d ∧ S.used + M = 65536 ∧ acc.length ≤ S.used
set_option maxRecDepth 100000 in
set_option maxHeartbeats 4000000 in
theorem parseOptionsW (d : Nat) (ih : d < 32 → ExC 113 N mg l bs .typ (d + 1)) {Sp : PS} {n0 : Nat} (h28 : Sp.tok.kind = 28) (h : PM N mg ρ w l bs (Sp.adv bs l.n)) (hB : PB Sp) (hd : Sp.depth = d) (hq : Blk w q 157 (tnC ⟨7, 0, Sp.tok.pos, ⟨#[]⟩, -1, -1, 0, 0⟩)) (hz : ρ q = 0) (hn0 : n0 ≤ q) (hw0 : n0 ≤ w.heap.size) (hN0 : N ≤ n0) (hs0 : ∀ ad, l.a = some ad → ad.block < n0) :
    Calls Tryz.prog 139 #[.pointer (some ⟨l.p, 0, none⟩), .pointer (some ⟨q, 0, none⟩)] w (OpQ N mg ρ w l bs Sp q) := by
  have IH := hid ih
  have Hd := hid hd
  have HPB := hid hB
  have H28 := hid h28
  have H0 : Hid (OpB N mg ρ w l bs (Sp.adv bs l.n) q ⟨7, 0, Sp.tok.pos, ⟨#[]⟩, -1, -1, 0, 0⟩ n0 (.slice none 0 0) [] ρ w) := hid ⟨h, FrQ.start q X7 ρ w, hq, hz, OwR.nil rtO _ _, (fun g hg => by cases hg), hn0, hw0, hN0, hs0⟩
  clear h hq hz hn0 hw0 hN0 hs0 ih hd hB h28
  go_enter Tryz.func139, Tryz.ntmps139
  by_cases h10 : (Sp.adv bs l.n).tok.kind = 10
  rotate_left
  · as_aux_lemma =>
    have HP : Hid (Prs bs l.n .typ Sp (.bad (Sp.adv bs l.n).unx)) := hid (Prs.brk (by rw [H28.out]; decide) (by rw [H28.out]; decide) h10)
    have HU := hid (openN H0.out.m h10 (by decide))
    go_wp2_with fail
    refine HU.out.mono ?_
    rintro e w2 ⟨rfl, hn2⟩
    have HN := hid (H0.out.no hn2.out)
    clear HU hn2 H0
    go_wp2
    go_ret
    exact .inr ⟨_, rfl, HP, HN⟩
  have H10 := hid h10
  clear h10
  by_cases hdp : d < 32
  rotate_left
  · as_aux_lemma =>
    have hdd : (Sp.adv bs l.n).depth = Sp.depth := rfl
    have HP : Hid (Prs bs l.n .typ Sp (.bad (5, (Sp.adv bs l.n).tok.pos))) := hid (Prs.brkD (by rw [H28.out]; decide) (by rw [H28.out]; decide) H10.out (by rw [Hd.out]; omega))
    have HU := hid (openD H0.out.m H10.out (by rw [hdd, Hd.out]; omega))
    go_wp2_with fail
    refine HU.out.mono ?_
    rintro e w2 ⟨rfl, hn2⟩
    have HN := hid (H0.out.no hn2.out)
    clear HU hn2 H0
    go_wp2
    go_ret
    exact .inr ⟨_, rfl, HP, HN⟩
  have Hdl : Hid (Sp.depth < 32) := hid (by rw [Hd.out]; exact hdp)
  have HU := hid (openY H0.out.m H10.out (by decide) (show (Sp.adv bs l.n).depth < 32 from Hdl.out))
  go_wp2_with fail
  refine HU.out.mono ?_
  rintro e w1 ⟨rfl, hg1⟩
  obtain ⟨ρ1, h1⟩ := H0.out.go hg1.out
  have H1 := hid h1
  clear HU hg1 H0 h1
  obtain ⟨S1, hS1⟩ : ∃ S1, (Sp.adv bs l.n).opn bs l.n = S1 := ⟨_, rfl⟩
  have HS1 := hid hS1
  have HPB1 : Hid (PB S1) := hid (by rw [← hS1]; exact PB.opn (PB.adv HPB.out))
  have Hd1 : Hid (S1.depth = d + 1) := hid (by rw [← hS1]; show Sp.depth + 1 = d + 1; rw [Hd.out])
  rw [hS1] at H1
  clear hS1 HPB
  obtain ⟨_, c3, _⟩ := H1.out.m.cells
  obtain ⟨k1, hk1⟩ : ∃ k, S1.tok.kind = k := ⟨_, rfl⟩
  rw [hk1] at c3
  have Hk1 := hid hk1
  clear hk1
  obtain ⟨b1, hb1⟩ : ∃ b, ((k1 : Int) != 11) = b := ⟨_, rfl⟩
  have Hb1 := hid hb1
  go_upto_if 16 with fail
  clear hb1 c3
  go_cut [5, 6, 7] from 8 to 35 (fun v _ _ wc => ∃ (S2 : PS) (rs : List Nat) (ρ2 : Rl) (ax : Option Addr) (m cp : Nat), v = .slice ax m cp ∧ Hid (OpB N mg ρ w l bs S2 q ⟨7, 0, Sp.tok.pos, ⟨#[]⟩, -1, -1, 0, 0⟩ n0 (.slice ax m cp) rs ρ2 wc) ∧ Hid (Prs bs l.n .typ Sp (S2.uni bs l.n Sp.tok.pos rs) ∧ PB S2 ∧ S2.depth = d + 1 ∧ S2.fs.opts.length + rs.length ≤ 140000))
  case first =>
    cases b1 with
    | false =>
      as_aux_lemma =>
      have HP : Hid (Prs bs l.n .typ Sp (S1.uni bs l.n Sp.tok.pos []) ∧ PB S1 ∧ S1.depth = d + 1 ∧ S1.fs.opts.length + ([] : List Nat).length ≤ 140000) := hid (by
        have h11 : S1.tok.kind = 11 := by rw [Hk1.out]; have := Hb1.out; simp at this; omega
        refine ⟨?_, HPB1.out, Hd1.out, ?_⟩
        · have := Prs.uniE (bs := bs) (n := l.n) H28.out H10.out Hdl.out (by rw [HS1.out]; exact h11)
          rw [HS1.out] at this
          exact this
        · have := (HPB1.out.len H1.out.m.ok).2.2
          show S1.fs.opts.length + 0 ≤ _
          omega)
      go_wp2
      go_meet
      exact ⟨S1, [], ρ1, none, 0, 0, rfl, H1, HP⟩
    | true =>
      have Hno : Hid (S1.tok.kind ≠ 11) := hid (by rw [Hk1.out]; have := Hb1.out; simp at this; omega)
      have HI1 : Hid (∃ M, OpI N mg ρ w l bs S1 q ⟨7, 0, Sp.tok.pos, ⟨#[]⟩, -1, -1, 0, 0⟩ n0 (d + 1) (.slice none 0 0) w1 M) := hid (by
        have h1 := H1.out.m.ok.hu
        have h2 := H1.out.m.ok.hc
        exact ⟨65536 - S1.used, S1, [], ρ1, H1.out, fun o ho => ho, HPB1.out, Hd1.out, by omega, Nat.zero_le _⟩)
      clear H1
      go_upto_region 5 with fail
      go_loopw [5] (fun v wr => ∃ (ax : Option Addr) (m cp : Nat), v = .slice ax m cp ∧ Hid (∃ M, OpI N mg ρ w l bs S1 q ⟨7, 0, Sp.tok.pos, ⟨#[]⟩, -1, -1, 0, 0⟩ n0 (d + 1) (.slice ax m cp) wr M)) (fun v wr => leastN (fun M => OpI N mg ρ w l bs S1 q ⟨7, 0, Sp.tok.pos, ⟨#[]⟩, -1, -1, 0, 0⟩ n0 (d + 1) v wr M))
      case atStart => exact ⟨none, 0, 0, rfl, HI1⟩
      case round =>
      clear HI1
      obtain ⟨ax, m, cp, rfl, HI⟩ := hrel
      have Hsp := hid (leastN_spec HI.out)
      obtain ⟨Mx, hMx⟩ : ∃ M, leastN (fun M => OpI N mg ρ w l bs S1 q ⟨7, 0, Sp.tok.pos, ⟨#[]⟩, -1, -1, 0, 0⟩ n0 (d + 1) (.slice ax m cp) wr M) = M := ⟨_, rfl⟩
      have HMx := hid hMx
      rw [hMx] at Hsp
      clear hMx HI
      obtain ⟨S2, acc, ρ2, hob, hpr, hpb, hdp2, hus, hac⟩ := Hsp.out
      have H2 := hid hob
      have HPr := hid hpr
      have HPB2 := hid hpb
      have Hd2 := hid hdp2
      have Hus := hid hus
      have Hac := hid hac
      clear hob hpr hpb hdp2 hus hac Hsp
      have HX := hid (IH.out hdp ρ2 wr S2 H2.out.m HPB2.out Hd2.out)
      go_wp2_with fail
      refine HX.out.mono ?_
      rintro e w3 (⟨S3, r3, rfl, HP3, hg3⟩ | ⟨k3, r3, rfl, HP3, hn3⟩)
      rotate_left
      · as_aux_lemma =>
        have HP : Hid (Prs bs l.n .typ Sp (.bad k3)) := hid (by
          have := HPr.out _ (Prs.oB HP3.out)
          have := Prs.uni (o := .bad k3) H28.out H10.out Hdl.out (by rw [HS1.out]; exact Hno.out) (by rw [HS1.out]; exact this)
          exact this)
        have HN := hid (H2.out.no hn3.out)
        clear HX hn3 H2
        go_wp2
        go_ret
        exact .inr ⟨_, rfl, HP, HN⟩
      have hmv : Mv S2 S3 1 0 := HP3.out.mv
      obtain ⟨ρ3, h3⟩ := H2.out.go hg3.out
      have H3 := hid h3
      have HPB3 := hid (HPB2.out.mv hmv)
      have Hd3 : Hid (S3.depth = d + 1) := hid (by rw [hmv.d]; exact Hd2.out)
      have Hu3 : Hid (S2.used + 1 ≤ S3.used ∧ S3.used ≤ 65536) := hid (by
        have h5 := HP3.out.use
        have h6 := h3.m.ok.hu
        have h7 := h3.m.ok.hc
        omega)
      have hal : acc.length ≤ 65536 := by have := Hac.out; have := Hu3.out; omega
      clear HX hg3 h3 hmv H2
      go_wp2_with (at_builtin; refine stopHere ?_)
      intro _
      obtain ⟨k8, hk8⟩ : ∃ k, w3.heap.size = k := ⟨_, rfl⟩
      obtain ⟨wf, hwf⟩ : ∃ wf, w3.alloc (.cells #[.int .i32 (r3 : Int)] 144) = wf := ⟨_, rfl⟩
      have HJf : Hid (OpB N mg ρ w l bs S3 q ⟨7, 0, Sp.tok.pos, ⟨#[]⟩, -1, -1, 0, 0⟩ n0 (.slice ax m cp) acc ρ3 wf) := hid (by rw [← hwf]; exact H3.out.below (nbel w3 _))
      have HNw : Hid (∀ ad, some (⟨k8, 0, none⟩ : Addr) = some ad → ∀ i u, ([r3].flatMap rtO.f)[i]? = some u → wf.cell? (ad.add i) = some u) := hid (by rw [← hwf]; exact newX rtO w3 r3 _ hk8.symm)
      (try simp only [hwf, hk8])
      clear hwf hk8 H3
      refine wpList_app_l okO rfl _ _ HJf.out.row rfl [r3] rfl (some ⟨k8, 0, none⟩) 1 1 rfl rfl (fun h => by cases h) HNw.out (by
        show (acc.length + 1) * 4 ≤ _
        omega) HJf.out.f.size ?_
      intro v9 w9 hr9 hk9 hg9
      obtain ⟨a9, q9, rfl⟩ := hr9.out.shape
      have H9 := hid (HJf.out.app hk9.out hr9.out hg9)
      generalize hm9 : (acc ++ [r3]).length = m9 at H9 ⊢
      clear HJf hr9 hk9 hg9 HNw hm9
      obtain ⟨_, c9, _⟩ := H9.out.m.cells
      by_cases h9 : S3.tok.kind = 9
      rotate_left
      · as_aux_lemma =>
        have q9 : ((S3.tok.kind : Int) != 9) = true := by simp; omega
        have HP : Hid (Prs bs l.n .typ Sp (S3.uni bs l.n Sp.tok.pos (acc ++ [r3])) ∧ PB S3 ∧ S3.depth = d + 1 ∧ S3.fs.opts.length + (acc ++ [r3]).length ≤ 140000) := hid (by
          refine ⟨?_, HPB3.out, Hd3.out, ?_⟩
          · have := HPr.out _ (Prs.oE HP3.out h9)
            exact Prs.uni (o := .oks S3 (acc ++ [r3])) H28.out H10.out Hdl.out (by rw [HS1.out]; exact Hno.out) (by rw [HS1.out]; exact this)
          · have h1 := (HPB3.out.len H9.out.m.ok).2.2
            rw [List.length_append, List.length_singleton]
            omega)
        generalize S3.tok.kind = k9 at c9 q9
        clear h9
        go_wp2
        go_meet
        exact ⟨S3, acc ++ [r3], ρ3, a9, m9, _, rfl, H9, HP⟩
      as_aux_lemma =>
      have q9' : ((S3.tok.kind : Int) != 9) = false := by simp; omega
      have HAd := hid (advW H9.out.m (by omega))
      have HI4 : Hid (∀ w5, PGo N mg ρ3 w9 l bs (S3.adv bs l.n) w5 → ∃ M, M < Mx ∧ OpI N mg ρ w l bs S1 q ⟨7, 0, Sp.tok.pos, ⟨#[]⟩, -1, -1, 0, 0⟩ n0 (d + 1) (.slice a9 m9 q9) w5 M) := hid (fun w5 hg5 => by
        obtain ⟨ρ5, h5⟩ := H9.out.go hg5
        have h6 := h5.m.ok.hu
        have h7 := h5.m.ok.hc
        have h8 : (S3.adv bs l.n).used = S3.used + 1 := rfl
        have ha := Hus.out
        have hb := Hu3.out
        have hc := Hac.out
        refine ⟨65536 - (S3.used + 1), by omega, S3.adv bs l.n, acc ++ [r3], ρ5, h5, fun o ho => HPr.out o (Prs.oS HP3.out h9 ho), PB.adv HPB3.out, Hd3.out, by omega, ?_⟩
        rw [List.length_append, List.length_singleton]
        omega)
      generalize S3.tok.kind = k9 at c9 q9'
      go_wp2_with fail
      refine HAd.out.mono ?_
      rintro e w5 ⟨rfl, hg5⟩
      obtain ⟨M5, hM5, hI5⟩ := HI4.out w5 hg5.out
      have HI5 := hid (And.intro hM5 hI5)
      clear HAd hg5 H9 HI4 hM5 hI5
      go_wp2
      refine ⟨⟨a9, m9, q9, rfl, hid ⟨M5, HI5.out.2⟩⟩, ?_⟩
      refine Nat.lt_of_le_of_lt (leastN_le HI5.out.2) ?_
      rw [HMx.out]
      exact HI5.out.1
  case rest =>
  obtain ⟨S2, rs, ρ2, ax, m, cp, rfl, H2, HQ⟩ := hcut
  clear H1 HPB1 Hd1 Hk1 Hb1
  obtain ⟨_, c3, _, c8, _⟩ := H2.out.m.cells
  by_cases h11 : S2.tok.kind = 11
  rotate_left
  · as_aux_lemma =>
    have q11 : ((S2.tok.kind : Int) != 11) = true := by simp; omega
    have HP : Hid (Prs bs l.n .typ Sp (.bad S2.unx)) := hid (by
      have := HQ.out.1
      unfold PS.uni at this
      rw [if_neg h11] at this
      exact this)
    have HU := hid (unexpectedW H2.out.m ⟨#[39, 44, 39, 32, 111, 114, 32, 39, 93, 39]⟩ (by decide))
    generalize S2.tok.kind = k9 at c3 q11
    clear h11
    go_wp2_with fail
    refine HU.out.mono ?_
    rintro e w2 ⟨rfl, hn2⟩
    have HN := hid (H2.out.no hn2.out)
    clear HU hn2 H2
    go_wp2
    go_ret
    exact .inr ⟨_, rfl, HP, HN⟩
  have q11 : ((S2.tok.kind : Int) != 11) = false := by simp; omega
  have H11 := hid h11
  generalize S2.tok.kind = k9 at c3 q11
  clear h11
  obtain ⟨V, hV, hRw⟩ := H2.out.m.r.rows
  obtain ⟨ao, qo, hvo⟩ := hRw.o.shape
  obtain ⟨mo, hmo⟩ : ∃ mo, S2.fs.opts.length = mo := ⟨_, rfl⟩
  rw [hmo] at hvo
  have Hmo := hid hmo
  have c5 : wc.cell? ⟨l.f, 5, none⟩ = some (.slice ao mo qo) := by rw [← hvo]; exact hV.cell 5
  obtain ⟨cq, fq⟩ := H2.out.m.ok.hd |> fun _ => And.intro (H2.out.bn.cell 6) (H2.out.bn.frozen 6)
  have cq' : wc.cell? ⟨q, 6, none⟩ = some (.int .i32 0) := cq
  have hmo2 : mo ≤ 140000 := by have := HQ.out.2.2.2; omega
  have HL : Hid (mo + rs.length ≤ 140000) := hid (by have := HQ.out.2.2.2; omega)
  have ew : IntKind.i32.wrap (mo : Int) = (mo : Int) := by rw [IntKind.wrap_i32]; omega
  have H3 := hid (H2.out.set (x' := ⟨7, 0, Sp.tok.pos, ⟨#[]⟩, -1, -1, mo, 0⟩) 6 (.int .i32 (mo : Int)) rfl)
  clear cq hV hRw hvo hmo
  go_upto_region 14 with fail
  generalize hw3 : wc.setCell _ _ = w3 at H3 ⊢
  clear hw3 c3 c8 c5 cq' fq H2 ew
  obtain ⟨V, hV, hRw⟩ := H3.out.m.r.rows
  obtain ⟨ao, qo, hvo⟩ := hRw.o.shape
  rw [Hmo.out] at hvo
  have Hvo := hid hvo
  have HV := hid hV
  have HRw := hid hRw
  clear hV hRw hvo
  have HSx : Hid (∀ wx : World, Below w3.heap.size w3 wx → wx.cell? ⟨l.p, 8, none⟩ = some (.pointer (some ⟨l.f, 0, none⟩)) ∧ wx.cell? ⟨l.f, 5, none⟩ = some (.slice ao mo qo)) := hid (fun wx hx => ⟨(H3.out.m.below hx).cells.2.2.2.1, by rw [← Hvo.out]; exact (HV.out.below hx).cell 5⟩)
  refine wp_region_heavy (fun wx => wx.cell? ⟨l.p, 8, none⟩ = some (.pointer (some ⟨l.f, 0, none⟩)) ∧ wx.cell? ⟨l.f, 5, none⟩ = some (.slice ao mo qo)) 13 [0, 1, 2, 3, 4, 5, 6, 7, 8, 9, 10, 11] [12] rfl (by kernel_rfl) (by kernel_rfl) (fun d _ _ _ _ h => by cases d <;> exact h) (HSx.out _ (Drew.below ⟨1, rfl⟩ _)) ?_
  apply Exists.intro
  refine ⟨?_, ?_⟩
  · intro W hW
    have j1 : ∀ u, (W u).cell? ⟨l.p, 8, none⟩ = some (.pointer (some ⟨l.f, 0, none⟩)) := fun u => (hW u).1
    have j2 : ∀ u, (W u).cell? ⟨l.f, 5, none⟩ = some (.slice ao mo qo) := fun u => (hW u).2
    clear hW
    simp only [List.take, opsAt, List.drop, List.cons_append, List.nil_append]
    repeat (go_big_quiet_step (fail))
    exact rfl
  simp only [List.take, List.drop, opsAt, List.cons_append, List.nil_append, wpHv]
  have H4 := hid (H3.out.below (Drew.below ⟨1, rfl⟩ _) (w2 := w3.drew))
  have HV4 := hid (HV.out.below (Drew.below ⟨1, rfl⟩ _) (w' := w3.drew))
  have HRw4 := hid (HRw.out.fr (X := fun _ => false) (Fr.below (Drew.below ⟨1, rfl⟩ _)) (fun _ _ _ => rfl) (ρ' := ρ2) (w' := w3.drew))
  generalize w3.drew = w4 at H4 HV4 HRw4 ⊢
  clear H3 HV HRw HSx
  have hrf := HRw4.out.o
  rw [Hvo.out] at hrf
  obtain ⟨hs1, hs2, hs3⟩ := H4.out.row.rx.src
  refine wpList_app_x okO rfl (.tmp 66) (.tmp 67) hrf rfl rs (by simp [Act.eval, Act.put]; done) ax m cp (by simp [Act.eval, Act.put]; done) hs3 hs2 hs1 (by have h1 := HL.out; have h2 := Hmo.out; rw [h2, ← hs3]; show (mo + rs.length) * 4 ≤ _; omega) ?_
  intro v8 w8 ρ8 hr8 hf8 hb8 hb9
  obtain ⟨a8, q8, h8⟩ := hr8.out.shape
  rw [List.length_append, Hmo.out] at h8
  obtain ⟨m8, hm8⟩ : ∃ m8, mo + rs.length = m8 := ⟨_, rfl⟩
  rw [hm8] at h8 HL
  have Hm8 := hid hm8
  subst h8
  clear hm8
  have HP8 := hid (H4.out.m.r.grow (V := V) (V' := { V with o := .slice a8 m8 q8 }) HV4.out hf8.out (by decide) (by decide) (.slice a8 m8 q8) 5 rfl (HRw4.out.putO hf8.out hr8.out))
  have hk8 : Blk w8 l.f 109 (flC l V) := hf8.out.keep HV4.out H4.out.m.r.rf rfl
  have s1 : w8.cell? ⟨l.p, 8, none⟩ = some (.pointer (some ⟨l.f, 0, none⟩)) := (hf8.out.keep H4.out.m.pb H4.out.m.r.rp rfl).cell 8
  have s2 : w8.cell? ⟨l.f, 5, none⟩ = some (.slice ao mo qo) := by rw [← Hvo.out]; exact hk8.cell 5
  have f2 : w8.frozen? ⟨l.f, 5, none⟩ = false := hk8.frozen _
  have H9 : Hid (∃ ρ9, OpB N mg ρ w l bs (S2.addO rs) q ⟨7, 0, Sp.tok.pos, ⟨#[]⟩, -1, -1, mo, 0⟩ n0 (.slice ax m cp) rs ρ9 (w8.setCell ⟨l.f, 5, none⟩ (.slice a8 m8 q8))) := hid (by
    obtain ⟨p1, p2⟩ := H4.out.m.setF HP8.out.1 HP8.out.2.1
    obtain ⟨ρ9, h9⟩ := H4.out.go (S' := S2.addO rs) ⟨ρ8, p1, p2⟩
    exact ⟨ρ9, h9⟩)
  have hk9 := HP8.out.2.2
  have k5 : (w8.setCell ⟨l.f, 5, none⟩ (.slice a8 m8 q8)).cell? ⟨l.f, 5, none⟩ = some (.slice a8 m8 q8) := hk9.cell 5
  clear hrf hs1 hs2 hs3 hr8 hf8 hb8 hb9 HP8 hk8 hk9 H4 HV4 HRw4
  go_wp2_with fail
  refine ⟨⟨s1, s2⟩, ?_⟩
  simp only [QN]
  go_upto_region 15 with fail
  generalize hw9 : w8.setCell _ _ = w9 at H9 k5 ⊢
  clear hw9 s1 s2 f2
  obtain ⟨ρ9, h9⟩ := H9.out
  have H9' := hid h9
  clear H9 h9
  have k8 := H9'.out.m.cells.2.2.2.1
  have cq : w9.cell? ⟨q, 7, none⟩ = some (.int .i32 0) := H9'.out.bn.cell 7
  have fq : w9.frozen? ⟨q, 7, none⟩ = false := H9'.out.bn.frozen 7
  have hl8 : m8 ≤ 140000 := HL.out
  have ew : IntKind.i32.wrap (m8 : Int) = (m8 : Int) := by rw [IntKind.wrap_i32]; omega
  have H10' := hid (H9'.out.set (x' := ⟨7, 0, Sp.tok.pos, ⟨#[]⟩, -1, -1, mo, m8⟩) 7 (.int .i32 (m8 : Int)) rfl)
  go_upto_region 16 with fail
  generalize hwA : w9.setCell _ _ = wA at H10' ⊢
  clear hwA k5 k8 cq fq ew H9'
  have HSh := hid (shutY H10'.out.m (show (S2.addO rs).tok.kind = 11 from H11.out) (by decide) (show 1 ≤ (S2.addO rs).depth by
    show 1 ≤ S2.depth
    rw [HQ.out.2.2.1]
    omega))
  go_wp2_with fail
  refine HSh.out.mono ?_
  rintro e wB ⟨rfl, hgB⟩
  obtain ⟨ρB, hB⟩ := H10'.out.go hgB.out
  have HB := hid hB
  have HP : Hid (Prs bs l.n .typ Sp (.ok (((S2.addO rs).sht bs l.n).addT ⟨7, 0, Sp.tok.pos, ⟨#[]⟩, -1, -1, mo, m8⟩) ((S2.addO rs).sht bs l.n).fs.types.length)) := hid (by
    have := HQ.out.1
    unfold PS.uni at this
    rw [if_pos H11.out, Hmo.out, Hm8.out] at this
    exact this)
  clear HSh hgB H10' hB
  go_wp2
  go_ret
  exact .inl ⟨_, mo, m8, rfl, HP, hid ⟨ρB, HB.out.m, HB.out.f, HB.out.bn, HB.out.zn⟩⟩
end
end Go.Proofs.Qxb6500883aGreatDoor
