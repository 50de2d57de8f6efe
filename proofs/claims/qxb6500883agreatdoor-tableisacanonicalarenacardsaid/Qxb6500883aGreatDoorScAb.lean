/- parsePower (written by tools/mk_scab.py). -/
import Derived.Test.Qxb6500883aGreatDoorScAa
namespace Go.Proofs.Qxb6500883aGreatDoor
open Go.RowKit
set_option linter.unusedSimpArgs false
set_option linter.unusedVariables false
section
variable {N mg : Nat} {ρ ρ' : Rl} {w w' w1 w2 : World} {l : PL} {bs : List UInt8} {S S' : PS}
set_option maxRecDepth 100000 in
set_option maxHeartbeats 4000000 in
theorem parsePowerW (d : Nat) (ih : ExC 156 N mg l bs .atom d) : ExC 154 N mg l bs .power d := by
  intro ρ w S h hB hd
  have IH := hid ih
  have HPB := hid hB
  have Hd := hid hd
  have HA := hid (ih ρ w S h hB hd)
  clear h hB hd ih
  go_enter Tryz.func154, Tryz.ntmps154
  go_wp2_with fail
  refine HA.out.mono ?_
  rintro e w1 (⟨S1, r1, rfl, HP1, hg1⟩ | ⟨k1, r1, rfl, HP1, HN1⟩)
  rotate_left
  · as_aux_lemma =>
    have HP : Hid (Prs bs l.n .power S (.bad k1)) := hid (Prs.powB HP1.out)
    go_wp2
    go_ret2
    exact .inr ⟨_, _, rfl, HP, HN1⟩
  have hmv : Mv S S1 1 0 := HP1.out.mv
  have HPB1 := hid (HPB.out.mv hmv)
  have Hd1 : Hid (S1.depth = d) := hid (by rw [hmv.d]; exact Hd.out)
  obtain ⟨ρ1, hm1, hf1⟩ := hg1.out.m
  have HM1 := hid hm1
  have HF1 := hid hf1
  clear hmv HA HPB Hd hm1 hf1
  have I0 := hid info_tk
  have HO := hid (tkC_one S1.tok)
  have HN1 : Hid (Below w1.heap.size w1 (w1.alloc (.cells #[.int .u8 0, .int .i64 0, .int .i64 0, .int .i64 0, .int .u64 0] 112)) ∧ Blk (w1.alloc (.cells #[.int .u8 0, .int .i64 0, .int .i64 0, .int .i64 0, .int .u64 0] 112)) w1.heap.size 112 [.int .u8 0, .int .i64 0, .int .i64 0, .int .i64 0, .int .u64 0]) := hid ⟨nbel w1 _, Blk.new w1 [.int .u8 0, .int .i64 0, .int .i64 0, .int .i64 0, .int .u64 0] 112⟩
  obtain ⟨_, c3, c4, _⟩ := HM1.out.cells
  obtain ⟨c5, c6, c7⟩ := HM1.out.cells'
  obtain ⟨kd, hkd⟩ : ∃ k, S1.tok.kind = k := ⟨_, rfl⟩
  obtain ⟨ps, hps⟩ : ∃ k, S1.tok.pos = k := ⟨_, rfl⟩
  obtain ⟨en, hen⟩ : ∃ k, S1.tok.en = k := ⟨_, rfl⟩
  obtain ⟨bd, hbd⟩ : ∃ k, S1.tok.bad = k := ⟨_, rfl⟩
  obtain ⟨vl, hvl⟩ : ∃ k, S1.tok.val = k := ⟨_, rfl⟩
  have HTk : Hid (S1.tok = ⟨kd, ps, en, bd, vl⟩) := hid (by rw [← hkd, ← hps, ← hen, ← hbd, ← hvl])
  rw [hkd] at c3
  rw [hps] at c4
  rw [hen] at c5
  rw [hbd] at c6
  rw [hvl] at c7
  rw [HTk.out] at HO
  have Hkd := hid hkd
  clear hkd hps hen hbd hvl
  by_cases h20 : kd = 20
  rotate_left
  · as_aux_lemma =>
    have q20 : ((kd : Int) != 20) = true := by simp; omega
    have HP : Hid (Prs bs l.n .power S (.ok S1 r1)) := hid (Prs.pow1 HP1.out (by rw [Hkd.out]; exact h20))
    clear h20
    go_wp2
    go_ret2
    exact .inl ⟨_, _, rfl, HP, hg1⟩
  have q20 : ((kd : Int) != 20) = false := by simp; omega
  have Hk20 : Hid (S1.tok.kind = 20) := hid (by rw [Hkd.out]; exact h20)
  clear h20 hg1
  go_upto_region 5 with (refine wpList_store_blk rfl 112 _ _ rfl w1.heap.size rfl [.int .u8 (kd : Int), .int .i64 (ps : Int), .int .i64 (en : Int), .int .i64 (bd : Int), .int .u64 (vl : Int)] rfl HN1.out.2 rfl I0.out HO.out ?_; intro w2 HB1 HU1)
  have H2 : Hid (TkB N mg ρ1 w1 l bs S1 w1.heap.size ⟨kd, ps, en, bd, vl⟩ ρ1 w2) := hid (TkB.start HM1.out (HN1.out.1.trans (HU1.out.below (Nat.le_refl _) HN1.out.1.size)) (Nat.le_refl _) HB1.out)
  generalize w1.heap.size = p at H2 ⊢
  clear HB1 HU1 HN1 HO c3 c4 c5 c6 c7
  have HAd := hid (advW H2.out.m (by rw [Hk20.out]; decide))
  go_wp2_with fail
  refine HAd.out.mono ?_
  rintro e w3 ⟨rfl, hg3⟩
  obtain ⟨ρ3, h3⟩ := H2.out.go hg3.out
  have H3 := hid h3
  clear HAd hg3 h3 H2
  have HX := hid (IH.out ρ3 w3 (S1.adv bs l.n) H3.out.m (PB.adv HPB1.out) Hd1.out)
  go_wp2_with fail
  refine HX.out.mono ?_
  rintro e w4 (⟨S4, r4, rfl, HP4, hg4⟩ | ⟨k4, r4, rfl, HP4, hn4⟩)
  rotate_left
  · as_aux_lemma =>
    have HP : Hid (Prs bs l.n .power S (.bad k4)) := hid (Prs.pow2B HP1.out Hk20.out HP4.out)
    have HN := hid (PNo.pre' HF1.out (H3.out.no hn4.out))
    clear HX hn4 H3
    go_wp2
    go_ret2
    exact .inr ⟨_, _, rfl, HP, HN⟩
  as_aux_lemma =>
  have hmv : Mv (S1.adv bs l.n) S4 1 0 := HP4.out.mv
  obtain ⟨ρ4, h4⟩ := H3.out.go hg4.out
  have H4 := hid h4
  have HPB4 := hid ((PB.adv (bs := bs) (l := l) HPB1.out).mv hmv)
  have hlen := (HPB4.out.len H4.out.m.ok).2.1
  have HP : Hid (Prs bs l.n .power S (.ok (S4.addE (enB 6 ps (r1 : Int) (r4 : Int))) S4.fs.exprs.length)) := hid (by
    have := Prs.pow2 HP1.out Hk20.out HP4.out
    rw [HTk.out] at this
    exact this)
  obtain ⟨_, k1, _⟩ := H4.out.cells
  dsimp only at k1
  have HBi := hid (binaryW H4.out.m 6 ps (r1 : Int) (r4 : Int) hlen)
  clear HX hg4 h4 H3 hmv
  go_wp2_with fail
  refine HBi.out.mono ?_
  rintro e w5 ⟨rfl, hg5⟩
  have HG : Hid (PGo N mg ρ w l bs (S4.addE (enB 6 ps (r1 : Int) (r4 : Int))) w5) := hid (PGo.pre' HF1.out (PGo.pre' H4.out.f hg5.out))
  clear HBi hg5 H4
  go_wp2
  go_ret2
  exact .inl ⟨_, _, rfl, HP, HG⟩
end
end Go.Proofs.Qxb6500883aGreatDoor
