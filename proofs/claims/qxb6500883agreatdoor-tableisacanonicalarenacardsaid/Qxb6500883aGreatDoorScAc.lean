/- parseTerm, parseExpr (written by tools/mk_scab.py). -/
import Derived.Test.Qxb6500883aGreatDoorScAb
namespace Go.Proofs.Qxb6500883aGreatDoor
open Go.RowKit
set_option linter.unusedSimpArgs false
set_option linter.unusedVariables false
theorem exists_least {p : Nat → Prop} (h : ∃ n, p n) : ∃ n, p n ∧ ∀ m, p m → n ≤ m := by
  obtain ⟨n, hn⟩ := h
  induction n using Nat.strongRecOn with
  | ind n ih =>
    by_cases e : ∃ m, m < n ∧ p m
    · obtain ⟨m, h1, h2⟩ := e
      exact ih m h1 h2
    · exact ⟨n, hn, fun m hm => Nat.le_of_not_lt (fun hlt => e ⟨m, hlt, hm⟩)⟩
/-- The least number of a kind. -/
noncomputable def leastN (p : Nat → Prop) : Nat := by
  classical
  exact if h : ∃ n, p n then (exists_least h).choose else 0
theorem leastN_spec {p : Nat → Prop} (h : ∃ n, p n) : p (leastN p) := by
  unfold leastN
  rw [dif_pos h]
  exact (exists_least h).choose_spec.1
theorem leastN_le {p : Nat → Prop} {n : Nat} (h : p n) : leastN p ≤ n := by
  unfold leastN
  rw [dif_pos ⟨n, h⟩]
  exact (exists_least ⟨n, h⟩).choose_spec.2 n h
section
variable {N mg : Nat} {ρ ρ' : Rl} {w w' w1 w2 : World} {l : PL} {bs : List UInt8} {S S' : PS}
/-- The loop of parseTerm under way: M tokens may still be used. -/
def termTI (N mg : Nat) (ρ : Rl) (w : World) (l : PL) (bs : List UInt8) (S0 : PS) (d : Nat) (v : Value) (wr : World) (M : Nat) : Prop :=
  ∃ (S : PS) (r : Nat), v = .int .i32 (r : Int) ∧ PGo N mg ρ w l bs S wr ∧ (∀ o, Prs bs l.n (.termT r) S o → Prs bs l.n .term S0 o) ∧ PB S ∧ S.depth = d ∧ S.used + M = 65536
set_option maxRecDepth 100000 in
set_option maxHeartbeats 4000000 in
theorem parseTermW (d : Nat) (ih : ExC 154 N mg l bs .power d) : ExC 133 N mg l bs .term d := by
  intro ρ w S h hB hd
  have IH := hid ih
  have HPB := hid hB
  have Hd := hid hd
  have HA := hid (ih ρ w S h hB hd)
  clear h hB hd ih
  go_enter Tryz.func133, Tryz.ntmps133
  go_wp2_with fail
  refine HA.out.mono ?_
  rintro e w1 (⟨S1, r1, rfl, HP1, hg1⟩ | ⟨k1, r1, rfl, HP1, HN1⟩)
  rotate_left
  · as_aux_lemma =>
    have HP : Hid (Prs bs l.n .term S (.bad k1)) := hid (Prs.termB HP1.out)
    go_wp2
    go_ret2
    exact .inr ⟨_, _, rfl, HP, HN1⟩
  have hmv : Mv S S1 1 0 := HP1.out.mv
  have HI1 : Hid (∃ M, termTI N mg ρ w l bs S d (.int .i32 (r1 : Int)) w1 M) := hid (by
    obtain ⟨ρ1, hm1, hf1⟩ := hg1.out.m
    have h1 := hm1.ok.hu
    have h2 := hm1.ok.hc
    exact ⟨65536 - S1.used, S1, r1, rfl, hg1.out, fun o ho => Prs.term HP1.out ho, HPB.out.mv hmv, by rw [hmv.d]; exact Hd.out, by omega⟩)
  clear hmv HA HPB Hd hg1 HP1
  go_upto_region 4 with fail
  go_loopw [4] (fun v wr => ∃ r : Nat, v = .int .i32 (r : Int) ∧ Hid (∃ M, termTI N mg ρ w l bs S d (.int .i32 (r : Int)) wr M)) (fun v wr => leastN (fun M => termTI N mg ρ w l bs S d v wr M))
  case atStart => exact ⟨r1, rfl, HI1⟩
  case round =>
  clear HI1
  obtain ⟨r, rfl, HI⟩ := hrel
  have Hsp := hid (leastN_spec HI.out)
  obtain ⟨Mx, hMx⟩ : ∃ M, leastN (fun M => termTI N mg ρ w l bs S d (.int .i32 (r : Int)) wr M) = M := ⟨_, rfl⟩
  have HMx := hid hMx
  rw [hMx] at Hsp
  clear hMx HI
  obtain ⟨S1, r', hr', hg1, hpr, hpb, hdp, hus⟩ := Hsp.out
  obtain rfl : r = r' := by
    have := congrArg intOf hr'
    simp [intOf] at this
    omega
  have HG1 := hid hg1
  have HPr := hid hpr
  have HPB1 := hid hpb
  have Hd1 := hid hdp
  have Hus := hid hus
  obtain ⟨ρ1, hm1, hf1⟩ := hg1.m
  have HM1 := hid hm1
  have HF1 := hid hf1
  clear hr' hg1 hpr hpb hdp hus hm1 hf1 Hsp
  have I0 := hid info_tk
  have HO := hid (tkC_one S1.tok)
  have HN1 : Hid (Below wr.heap.size wr (wr.alloc (.cells #[.int .u8 0, .int .i64 0, .int .i64 0, .int .i64 0, .int .u64 0] 112)) ∧ Blk (wr.alloc (.cells #[.int .u8 0, .int .i64 0, .int .i64 0, .int .i64 0, .int .u64 0] 112)) wr.heap.size 112 [.int .u8 0, .int .i64 0, .int .i64 0, .int .i64 0, .int .u64 0]) := hid ⟨nbel wr _, Blk.new wr [.int .u8 0, .int .i64 0, .int .i64 0, .int .i64 0, .int .u64 0] 112⟩
  obtain ⟨_, c3, c4, _⟩ := HM1.out.cells
  obtain ⟨c5, c6, c7⟩ := HM1.out.cells'
  obtain ⟨kd, hkd⟩ : ∃ k, S1.tok.kind = k := ⟨_, rfl⟩
  obtain ⟨ps, hps⟩ : ∃ k, S1.tok.pos = k := ⟨_, rfl⟩
  obtain ⟨en, hen⟩ : ∃ k, S1.tok.en = k := ⟨_, rfl⟩
  obtain ⟨bd, hbd⟩ : ∃ k, S1.tok.bad = k := ⟨_, rfl⟩
  obtain ⟨vl, hvl⟩ : ∃ k, S1.tok.val = k := ⟨_, rfl⟩
  have HTk : Hid (S1.tok = ⟨kd, ps, en, bd, vl⟩) := hid (by rw [← hkd, ← hps, ← hen, ← hbd, ← hvl])
  rw [hkd] at c3
  rw [hps] at c4
  rw [hen] at c5
  rw [hbd] at c6
  rw [hvl] at c7
  rw [HTk.out] at HO
  have Hkd := hid hkd
  clear hkd hps hen hbd hvl
  by_cases hk : kd = 18 ∨ kd = 19
  rotate_left
  · as_aux_lemma =>
    have q1 : ((kd : Int) == 18) = false := by simp; omega
    have q2 : ((kd : Int) == 19) = false := by simp; omega
    have HP : Hid (Prs bs l.n .term S (.ok S1 r)) := hid (HPr.out _ (Prs.tE (by rw [Hkd.out]; omega) (by rw [Hkd.out]; omega)))
    clear hk
    go_wp2
    go_ret2
    exact .inl ⟨_, _, rfl, HP, HG1⟩
  have Hk : Hid (S1.tok.kind = 18 ∨ S1.tok.kind = 19) := hid (by rw [Hkd.out]; exact hk)
  have Hkb := hid hk
  obtain ⟨q, hq⟩ : ∃ q, ((kd : Int) == 18) = q := ⟨_, rfl⟩
  have Hq := hid hq
  have Hq2 : Hid (((kd : Int) == 19) = !q) := hid (by
    rw [← hq]
    rcases hk with rfl | rfl <;> rfl)
  obtain ⟨fo, hfo⟩ : ∃ fo : Nat, (if kd = 19 then 5 else 4) = fo := ⟨_, rfl⟩
  have Hfo := hid hfo
  clear hq hk hfo
  go_upto_region 4 with fail
  go_cut [30] from 17 to 30 (fun v wc => v = .bool true ∧ wc = wr)
  case first =>
    as_aux_lemma =>
    have e1 := Hq.out
    have e2 := Hq2.out
    cases q with
    | true =>
      go_wp2
      go_meet
      exact ⟨rfl, rfl⟩
    | false =>
      go_wp2
      go_meet
      exact ⟨rfl, rfl⟩
  case rest =>
  obtain ⟨rfl, rfl⟩ := hcut
  go_upto_region 6 with (refine wpList_store_blk rfl 112 _ _ rfl wc.heap.size rfl [.int .u8 (kd : Int), .int .i64 (ps : Int), .int .i64 (en : Int), .int .i64 (bd : Int), .int .u64 (vl : Int)] rfl HN1.out.2 rfl I0.out HO.out ?_; intro w2 HB1 HU1)
  have H2 : Hid (TkB N mg ρ1 wc l bs S1 wc.heap.size ⟨kd, ps, en, bd, vl⟩ ρ1 w2) := hid (TkB.start HM1.out (HN1.out.1.trans (HU1.out.below (Nat.le_refl _) HN1.out.1.size)) (Nat.le_refl _) HB1.out)
  generalize wc.heap.size = p at H2 ⊢
  clear HB1 HU1 HN1 HO c3 c4 c5 c6 c7
  have HAd := hid (advW H2.out.m (by rcases Hk.out with h | h <;> rw [h] <;> decide))
  go_wp2_with fail
  refine HAd.out.mono ?_
  rintro e w3 ⟨rfl, hg3⟩
  obtain ⟨ρ3, h3⟩ := H2.out.go hg3.out
  have H3 := hid h3
  clear HAd hg3 h3 H2
  have HX := hid (IH.out ρ3 w3 (S1.adv bs l.n) H3.out.m (PB.adv HPB1.out) Hd1.out)
  go_wp2_with fail
  refine HX.out.mono ?_
  rintro e w4 (⟨S4, r4, rfl, HP4, hg4⟩ | ⟨k4, r4, rfl, HP4, hn4⟩)
  rotate_left
  · as_aux_lemma =>
    have HP : Hid (Prs bs l.n .term S (.bad k4)) := hid (HPr.out _ (Prs.tB Hk.out HP4.out))
    have HN := hid (PNo.pre' HF1.out (H3.out.no hn4.out))
    clear HX hn4 H3
    go_wp2
    go_ret2
    exact .inr ⟨_, _, rfl, HP, HN⟩
  have hmv : Mv (S1.adv bs l.n) S4 1 0 := HP4.out.mv
  obtain ⟨ρ4, h4⟩ := H3.out.go hg4.out
  have H4 := hid h4
  have hmv2 := (Mv.adv (bs := bs) (n := l.n) S1).trans hmv
  have HPB4 := hid (HPB1.out.mv hmv2)
  have hlen := (HPB4.out.len H4.out.m.ok).2.1
  have HPr4 : Hid (∀ o, Prs bs l.n (.termT S4.fs.exprs.length) (S4.addE (enB fo ps (r : Int) (r4 : Int))) o → Prs bs l.n .term S o) := hid (fun o ho => HPr.out o (Prs.tS Hk.out HP4.out (by
    rw [Hkd.out, Hfo.out, HTk.out]
    exact ho)))
  have HI4 : Hid (∀ w5, PGo N mg ρ4 w4 l bs (S4.addE (enB fo ps (r : Int) (r4 : Int))) w5 → ∃ M, M < Mx ∧ termTI N mg ρ w l bs S d (.int .i32 (S4.fs.exprs.length : Int)) w5 M) := hid (fun w5 hg5 => by
    obtain ⟨ρ5, hm5, _⟩ := hg5.m
    have h1 := hm5.ok.hu
    have h2 := hm5.ok.hc
    have hmv3 : Mv S1 (S4.addE (enB fo ps (r : Int) (r4 : Int))) 2 0 := Mv.addE (k := 2) (j := 0) hmv2 _
    have h3 := hmv3.o
    have hmu := hmv.u
    have hau : (S1.adv bs l.n).used = S1.used + 1 := rfl
    have h4u : (S4.addE (enB fo ps (r : Int) (r4 : Int))).used = S4.used := rfl
    have h5 := Hus.out
    refine ⟨65536 - S4.used, by omega, S4.addE (enB fo ps (r : Int) (r4 : Int)), S4.fs.exprs.length, rfl, PGo.pre' HF1.out (PGo.pre' H4.out.f hg5), HPr4.out, HPB1.out.mv hmv3, by rw [hmv3.d]; exact Hd1.out, by omega⟩)
  obtain ⟨k0, k1, _⟩ := H4.out.cells
  dsimp only at k0 k1
  have HBi := hid (binaryW H4.out.m fo ps (r : Int) (r4 : Int) hlen)
  obtain ⟨m4, hm4⟩ : ∃ m, S4.fs.exprs.length = m := ⟨_, rfl⟩
  rw [hm4] at HBi HI4
  have Hq3 := hid hm4
  clear HX hg4 h4 H3 hmv hmv2 hm4 hlen
  cases q with
  | true =>
    as_aux_lemma =>
    have e2 := Hq2.out
    have HFo : Hid (fo = 4) := hid (by rw [← Hfo.out]; have := Hq.out; simp at this; rw [if_neg (by omega)])
    rw [HFo.out] at HBi HI4
    go_wp2_with fail
    refine HBi.out.mono ?_
    rintro e w5 ⟨rfl, hg5⟩
    obtain ⟨M5, hM5, hI5⟩ := HI4.out w5 hg5.out
    have HI5 := hid (And.intro hM5 hI5)
    clear HBi hg5 H4 HI4 hM5 hI5
    go_wp2
    refine ⟨⟨m4, rfl, hid ⟨M5, HI5.out.2⟩⟩, ?_⟩
    refine Nat.lt_of_le_of_lt (leastN_le HI5.out.2) ?_
    rw [HMx.out]
    exact HI5.out.1
  | false =>
    as_aux_lemma =>
    have e2 := Hq2.out
    have HFo : Hid (fo = 5) := hid (by rw [← Hfo.out]; have := Hq2.out; simp at this; rw [if_pos (by omega)])
    rw [HFo.out] at HBi HI4
    go_wp2_with fail
    refine HBi.out.mono ?_
    rintro e w5 ⟨rfl, hg5⟩
    obtain ⟨M5, hM5, hI5⟩ := HI4.out w5 hg5.out
    have HI5 := hid (And.intro hM5 hI5)
    clear HBi hg5 H4 HI4 hM5 hI5
    go_wp2
    refine ⟨⟨m4, rfl, hid ⟨M5, HI5.out.2⟩⟩, ?_⟩
    refine Nat.lt_of_le_of_lt (leastN_le HI5.out.2) ?_
    rw [HMx.out]
    exact HI5.out.1
/-- The loop of parseExpr under way: M tokens may still be used. -/
def exprTI (N mg : Nat) (ρ : Rl) (w : World) (l : PL) (bs : List UInt8) (S0 : PS) (d : Nat) (v : Value) (wr : World) (M : Nat) : Prop :=
  ∃ (S : PS) (r : Nat), v = .int .i32 (r : Int) ∧ PGo N mg ρ w l bs S wr ∧ (∀ o, Prs bs l.n (.exprT r) S o → Prs bs l.n .expr S0 o) ∧ PB S ∧ S.depth = d ∧ S.used + M = 65536
set_option maxRecDepth 100000 in
set_option maxHeartbeats 4000000 in
theorem parseExprW (d : Nat) (ih : ExC 133 N mg l bs .term d) : ExC 112 N mg l bs .expr d := by
  intro ρ w S h hB hd
  have IH := hid ih
  have HPB := hid hB
  have Hd := hid hd
  have HA := hid (ih ρ w S h hB hd)
  clear h hB hd ih
  go_enter Tryz.func112, Tryz.ntmps112
  go_wp2_with fail
  refine HA.out.mono ?_
  rintro e w1 (⟨S1, r1, rfl, HP1, hg1⟩ | ⟨k1, r1, rfl, HP1, HN1⟩)
  rotate_left
  · as_aux_lemma =>
    have HP : Hid (Prs bs l.n .expr S (.bad k1)) := hid (Prs.exprB HP1.out)
    go_wp2
    go_ret2
    exact .inr ⟨_, _, rfl, HP, HN1⟩
  have hmv : Mv S S1 1 0 := HP1.out.mv
  have HI1 : Hid (∃ M, exprTI N mg ρ w l bs S d (.int .i32 (r1 : Int)) w1 M) := hid (by
    obtain ⟨ρ1, hm1, hf1⟩ := hg1.out.m
    have h1 := hm1.ok.hu
    have h2 := hm1.ok.hc
    exact ⟨65536 - S1.used, S1, r1, rfl, hg1.out, fun o ho => Prs.expr HP1.out ho, HPB.out.mv hmv, by rw [hmv.d]; exact Hd.out, by omega⟩)
  clear hmv HA HPB Hd hg1 HP1
  go_upto_region 4 with fail
  go_loopw [4] (fun v wr => ∃ r : Nat, v = .int .i32 (r : Int) ∧ Hid (∃ M, exprTI N mg ρ w l bs S d (.int .i32 (r : Int)) wr M)) (fun v wr => leastN (fun M => exprTI N mg ρ w l bs S d v wr M))
  case atStart => exact ⟨r1, rfl, HI1⟩
  case round =>
  clear HI1
  obtain ⟨r, rfl, HI⟩ := hrel
  have Hsp := hid (leastN_spec HI.out)
  obtain ⟨Mx, hMx⟩ : ∃ M, leastN (fun M => exprTI N mg ρ w l bs S d (.int .i32 (r : Int)) wr M) = M := ⟨_, rfl⟩
  have HMx := hid hMx
  rw [hMx] at Hsp
  clear hMx HI
  obtain ⟨S1, r', hr', hg1, hpr, hpb, hdp, hus⟩ := Hsp.out
  obtain rfl : r = r' := by
    have := congrArg intOf hr'
    simp [intOf] at this
    omega
  have HG1 := hid hg1
  have HPr := hid hpr
  have HPB1 := hid hpb
  have Hd1 := hid hdp
  have Hus := hid hus
  obtain ⟨ρ1, hm1, hf1⟩ := hg1.m
  have HM1 := hid hm1
  have HF1 := hid hf1
  clear hr' hg1 hpr hpb hdp hus hm1 hf1 Hsp
  have I0 := hid info_tk
  have HO := hid (tkC_one S1.tok)
  have HN1 : Hid (Below wr.heap.size wr (wr.alloc (.cells #[.int .u8 0, .int .i64 0, .int .i64 0, .int .i64 0, .int .u64 0] 112)) ∧ Blk (wr.alloc (.cells #[.int .u8 0, .int .i64 0, .int .i64 0, .int .i64 0, .int .u64 0] 112)) wr.heap.size 112 [.int .u8 0, .int .i64 0, .int .i64 0, .int .i64 0, .int .u64 0]) := hid ⟨nbel wr _, Blk.new wr [.int .u8 0, .int .i64 0, .int .i64 0, .int .i64 0, .int .u64 0] 112⟩
  obtain ⟨_, c3, c4, _⟩ := HM1.out.cells
  obtain ⟨c5, c6, c7⟩ := HM1.out.cells'
  obtain ⟨kd, hkd⟩ : ∃ k, S1.tok.kind = k := ⟨_, rfl⟩
  obtain ⟨ps, hps⟩ : ∃ k, S1.tok.pos = k := ⟨_, rfl⟩
  obtain ⟨en, hen⟩ : ∃ k, S1.tok.en = k := ⟨_, rfl⟩
  obtain ⟨bd, hbd⟩ : ∃ k, S1.tok.bad = k := ⟨_, rfl⟩
  obtain ⟨vl, hvl⟩ : ∃ k, S1.tok.val = k := ⟨_, rfl⟩
  have HTk : Hid (S1.tok = ⟨kd, ps, en, bd, vl⟩) := hid (by rw [← hkd, ← hps, ← hen, ← hbd, ← hvl])
  rw [hkd] at c3
  rw [hps] at c4
  rw [hen] at c5
  rw [hbd] at c6
  rw [hvl] at c7
  rw [HTk.out] at HO
  have Hkd := hid hkd
  clear hkd hps hen hbd hvl
  by_cases hk : kd = 16 ∨ kd = 17
  rotate_left
  · as_aux_lemma =>
    have q1 : ((kd : Int) == 16) = false := by simp; omega
    have q2 : ((kd : Int) == 17) = false := by simp; omega
    have HP : Hid (Prs bs l.n .expr S (.ok S1 r)) := hid (HPr.out _ (Prs.eE (by rw [Hkd.out]; omega) (by rw [Hkd.out]; omega)))
    clear hk
    go_wp2
    go_ret2
    exact .inl ⟨_, _, rfl, HP, HG1⟩
  have Hk : Hid (S1.tok.kind = 16 ∨ S1.tok.kind = 17) := hid (by rw [Hkd.out]; exact hk)
  have Hkb := hid hk
  obtain ⟨q, hq⟩ : ∃ q, ((kd : Int) == 16) = q := ⟨_, rfl⟩
  have Hq := hid hq
  have Hq2 : Hid (((kd : Int) == 17) = !q) := hid (by
    rw [← hq]
    rcases hk with rfl | rfl <;> rfl)
  obtain ⟨fo, hfo⟩ : ∃ fo : Nat, (if kd = 17 then 3 else 2) = fo := ⟨_, rfl⟩
  have Hfo := hid hfo
  clear hq hk hfo
  go_upto_region 4 with fail
  go_cut [30] from 17 to 30 (fun v wc => v = .bool true ∧ wc = wr)
  case first =>
    as_aux_lemma =>
    have e1 := Hq.out
    have e2 := Hq2.out
    cases q with
    | true =>
      go_wp2
      go_meet
      exact ⟨rfl, rfl⟩
    | false =>
      go_wp2
      go_meet
      exact ⟨rfl, rfl⟩
  case rest =>
  obtain ⟨rfl, rfl⟩ := hcut
  go_upto_region 6 with (refine wpList_store_blk rfl 112 _ _ rfl wc.heap.size rfl [.int .u8 (kd : Int), .int .i64 (ps : Int), .int .i64 (en : Int), .int .i64 (bd : Int), .int .u64 (vl : Int)] rfl HN1.out.2 rfl I0.out HO.out ?_; intro w2 HB1 HU1)
  have H2 : Hid (TkB N mg ρ1 wc l bs S1 wc.heap.size ⟨kd, ps, en, bd, vl⟩ ρ1 w2) := hid (TkB.start HM1.out (HN1.out.1.trans (HU1.out.below (Nat.le_refl _) HN1.out.1.size)) (Nat.le_refl _) HB1.out)
  generalize wc.heap.size = p at H2 ⊢
  clear HB1 HU1 HN1 HO c3 c4 c5 c6 c7
  have HAd := hid (advW H2.out.m (by rcases Hk.out with h | h <;> rw [h] <;> decide))
  go_wp2_with fail
  refine HAd.out.mono ?_
  rintro e w3 ⟨rfl, hg3⟩
  obtain ⟨ρ3, h3⟩ := H2.out.go hg3.out
  have H3 := hid h3
  clear HAd hg3 h3 H2
  have HX := hid (IH.out ρ3 w3 (S1.adv bs l.n) H3.out.m (PB.adv HPB1.out) Hd1.out)
  go_wp2_with fail
  refine HX.out.mono ?_
  rintro e w4 (⟨S4, r4, rfl, HP4, hg4⟩ | ⟨k4, r4, rfl, HP4, hn4⟩)
  rotate_left
  · as_aux_lemma =>
    have HP : Hid (Prs bs l.n .expr S (.bad k4)) := hid (HPr.out _ (Prs.eB Hk.out HP4.out))
    have HN := hid (PNo.pre' HF1.out (H3.out.no hn4.out))
    clear HX hn4 H3
    go_wp2
    go_ret2
    exact .inr ⟨_, _, rfl, HP, HN⟩
  have hmv : Mv (S1.adv bs l.n) S4 1 0 := HP4.out.mv
  obtain ⟨ρ4, h4⟩ := H3.out.go hg4.out
  have H4 := hid h4
  have hmv2 := (Mv.adv (bs := bs) (n := l.n) S1).trans hmv
  have HPB4 := hid (HPB1.out.mv hmv2)
  have hlen := (HPB4.out.len H4.out.m.ok).2.1
  have HPr4 : Hid (∀ o, Prs bs l.n (.exprT S4.fs.exprs.length) (S4.addE (enB fo ps (r : Int) (r4 : Int))) o → Prs bs l.n .expr S o) := hid (fun o ho => HPr.out o (Prs.eS Hk.out HP4.out (by
    rw [Hkd.out, Hfo.out, HTk.out]
    exact ho)))
  have HI4 : Hid (∀ w5, PGo N mg ρ4 w4 l bs (S4.addE (enB fo ps (r : Int) (r4 : Int))) w5 → ∃ M, M < Mx ∧ exprTI N mg ρ w l bs S d (.int .i32 (S4.fs.exprs.length : Int)) w5 M) := hid (fun w5 hg5 => by
    obtain ⟨ρ5, hm5, _⟩ := hg5.m
    have h1 := hm5.ok.hu
    have h2 := hm5.ok.hc
    have hmv3 : Mv S1 (S4.addE (enB fo ps (r : Int) (r4 : Int))) 2 0 := Mv.addE (k := 2) (j := 0) hmv2 _
    have h3 := hmv3.o
    have hmu := hmv.u
    have hau : (S1.adv bs l.n).used = S1.used + 1 := rfl
    have h4u : (S4.addE (enB fo ps (r : Int) (r4 : Int))).used = S4.used := rfl
    have h5 := Hus.out
    refine ⟨65536 - S4.used, by omega, S4.addE (enB fo ps (r : Int) (r4 : Int)), S4.fs.exprs.length, rfl, PGo.pre' HF1.out (PGo.pre' H4.out.f hg5), HPr4.out, HPB1.out.mv hmv3, by rw [hmv3.d]; exact Hd1.out, by omega⟩)
  obtain ⟨k0, k1, _⟩ := H4.out.cells
  dsimp only at k0 k1
  have HBi := hid (binaryW H4.out.m fo ps (r : Int) (r4 : Int) hlen)
  obtain ⟨m4, hm4⟩ : ∃ m, S4.fs.exprs.length = m := ⟨_, rfl⟩
  rw [hm4] at HBi HI4
  have Hq3 := hid hm4
  clear HX hg4 h4 H3 hmv hmv2 hm4 hlen
  cases q with
  | true =>
    as_aux_lemma =>
    have e2 := Hq2.out
    have HFo : Hid (fo = 2) := hid (by rw [← Hfo.out]; have := Hq.out; simp at this; rw [if_neg (by omega)])
    rw [HFo.out] at HBi HI4
    go_wp2_with fail
    refine HBi.out.mono ?_
    rintro e w5 ⟨rfl, hg5⟩
    obtain ⟨M5, hM5, hI5⟩ := HI4.out w5 hg5.out
    have HI5 := hid (And.intro hM5 hI5)
    clear HBi hg5 H4 HI4 hM5 hI5
    go_wp2
    refine ⟨⟨m4, rfl, hid ⟨M5, HI5.out.2⟩⟩, ?_⟩
    refine Nat.lt_of_le_of_lt (leastN_le HI5.out.2) ?_
    rw [HMx.out]
    exact HI5.out.1
  | false =>
    as_aux_lemma =>
    have e2 := Hq2.out
    have HFo : Hid (fo = 3) := hid (by rw [← Hfo.out]; have := Hq2.out; simp at this; rw [if_pos (by omega)])
    rw [HFo.out] at HBi HI4
    go_wp2_with fail
    refine HBi.out.mono ?_
    rintro e w5 ⟨rfl, hg5⟩
    obtain ⟨M5, hM5, hI5⟩ := HI4.out w5 hg5.out
    have HI5 := hid (And.intro hM5 hI5)
    clear HBi hg5 H4 HI4 hM5 hI5
    go_wp2
    refine ⟨⟨m4, rfl, hid ⟨M5, HI5.out.2⟩⟩, ?_⟩
    refine Nat.lt_of_le_of_lt (leastN_le HI5.out.2) ?_
    rw [HMx.out]
    exact HI5.out.1
/-- Expressions at every depth. -/
theorem exprs_ok (N mg : Nat) (l : PL) (bs : List UInt8) : ∀ k d : Nat, d + k = 33 → ExC 112 N mg l bs .expr d
  | 0, d, h => fun ρ w S hm _ hd => absurd hm.ok.hd (by omega)
  | k + 1, d, h => parseExprW d (parseTermW d (parsePowerW d (parseAtomW d (fun _ => exprs_ok N mg l bs k (d + 1) (by omega)))))
theorem parseExprX (h : PM N mg ρ w l bs S) (hb : PB S) : Calls Tryz.prog 112 #[.pointer (some ⟨l.p, 0, none⟩)] w (ExQ N mg ρ w l bs .expr S) :=
  exprs_ok N mg l bs (33 - S.depth) S.depth (by have := h.ok.hd; omega) ρ w S h hb rfl
end
end Go.Proofs.Qxb6500883aGreatDoor
