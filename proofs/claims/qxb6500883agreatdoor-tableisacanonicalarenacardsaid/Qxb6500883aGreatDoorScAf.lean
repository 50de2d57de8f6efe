/- parseType (written by tools/mk_scaf.py). -/
import Derived.Test.Qxb6500883aGreatDoorScAe
namespace Go.Proofs.Qxb6500883aGreatDoor
open Go.RowKit
set_option linter.unusedSimpArgs false
set_option linter.unusedVariables false
section
variable {N mg : Nat} {ρ ρ' : Rl} {w w' w1 w2 : World} {l : PL} {bs : List UInt8} {S S' : PS} {p q : Nat} {t : Tk} {x x' : TN}
theorem TyB.goQ {ρ2 : Rl} (h : TyB N mg ρ w l bs S p t q x ρ' w1) (hm : PM N mg ρ2 w2 l bs S') (hf : FrQ q X7 ρ' w1 ρ2 w2) (hb : Blk w2 q 157 (tnC x')) (hz : ρ2 q = 0) : TyB N mg ρ w l bs S' p t q x' ρ2 w2 := by
  have hq := h.lq
  have hne := h.ne
  refine ⟨hm, ⟨hf.os.trans h.f.os, hf.tape.trans h.f.tape, hf.output.trans h.f.output, Nat.le_trans h.f.size hf.size, fun g hg => (hf.old g (Nat.lt_of_lt_of_le hg h.f.size)).trans (h.f.old g hg), fun g hg => (hf.nw g hg).trans (h.f.nw g (Nat.le_trans hf.size hg)), fun g hg h0 => (hf.blk g (Nat.lt_of_lt_of_le hg h.f.size) (by omega) (by rw [h.f.old g hg]; exact h0)).trans (h.f.blk g hg h0)⟩, h.bt.of (hf.blk p h.bt.lt hne (by rw [h.zt]; rfl)), hb, by rw [hf.old _ h.bt.lt]; exact h.zt, hz, h.lp, h.lq, h.hN, h.hs⟩
theorem TyB.noQ {k : Nat × Nat} (h : TyB N mg ρ w l bs S p t q x ρ' w1) (hn : PF w1 w2 l bs k ∧ ∃ ρ'', FrQ q X7 ρ' w1 ρ'' w2) : PNo N mg ρ w l bs k w2 := by
  obtain ⟨⟨⟨q', cs, h1, h2, h3, h4⟩, h5⟩, ρ2, hf⟩ := hn
  have hq := h.lq
  exact ⟨⟨⟨q', cs, h1, h2, h3, Nat.le_trans h.f.size h4⟩, h5⟩, ρ2, ⟨hf.os.trans h.f.os, hf.tape.trans h.f.tape, hf.output.trans h.f.output, Nat.le_trans h.f.size hf.size, fun g hg => (hf.old g (Nat.lt_of_lt_of_le hg h.f.size)).trans (h.f.old g hg), fun g hg => (hf.nw g hg).trans (h.f.nw g (Nat.le_trans hf.size hg)), fun g hg h0 => (hf.blk g (Nat.lt_of_lt_of_le hg h.f.size) (by omega) (by rw [h.f.old g hg]; exact h0)).trans (h.f.blk g hg h0)⟩⟩
theorem TkB.ty {n0 : Nat} (h : TkB N mg ρ w l bs S p t ρ' w1) (hq : w1.heap.size = q) (hb : Below w1.heap.size w1 w2) (hk : Blk w2 q 157 (tnC x)) (hN : N ≤ w.heap.size) (hs : ∀ ad, l.a = some ad → ad.block < w.heap.size) : TyB N mg ρ w l bs S p t q x ρ' w2 :=
  ⟨h.m.below hb, h.f.trans (Fr.below hb), h.b.below hb, hk, h.z, h.m.new (by omega), h.lo, by have := h.f.size; omega, hN, hs⟩
/-- A refusal, and then a write to the node. -/
theorem TyB.noT {k : Nat × Nat} (h : TyB N mg ρ w l bs S p t q x ρ' w1) (hn : PNo N mg ρ' w1 l bs k w2) : (∀ (j : Nat) (v : Value), PNo N mg ρ w l bs k (w2.setCell ⟨q, j, none⟩ v)) ∧ ∀ j, j < 8 → (∃ v, w2.cell? ⟨q, j, none⟩ = some v) ∧ w2.frozen? ⟨q, j, none⟩ = false := by
  obtain ⟨⟨⟨q', cs, h1, h2, h3, h4⟩, h5⟩, ρ2, hf⟩ := hn
  have hbn : Blk w2 q 157 (tnC x) := hf.keep h.bn h.zn rfl
  have hq := h.lq
  have hlt := h.bn.lt
  have hpq : l.p ≠ q := fun e => by have := h.m.r.rp; rw [e, h.zn] at this; cases this
  refine ⟨fun j v => ?_, fun j hj => ⟨⟨(tnC x)[j]'hj, by rw [hbn.cell]; exact List.getElem?_eq_getElem _⟩, hbn.frozen j⟩⟩
  have hu : Upd q w2 (w2.setCell ⟨q, j, none⟩ v) := (Upd.refl q w2).setCell rfl _
  obtain ⟨m', e1, e2, e3⟩ := h3.e
  exact ⟨⟨⟨q', cs, h1.upd hu hpq, h2, ⟨m', e1, e2, e3.upd hu (by omega)⟩, Nat.le_trans h.f.size h4⟩, h5⟩, ρ2, (h.f.trans hf).updL hu hq⟩
theorem tnC_one (x : TN) : ∀ u ∈ tnC x, u.oneCell' = true := okT.one x
set_option maxRecDepth 100000 in
set_option maxHeartbeats 8000000 in
theorem parseTypeW (d : Nat) (ih : d < 32 → ExC 113 N mg l bs .typ (d + 1)) : ExC 113 N mg l bs .typ d := by
  intro ρ w S h hB hd
  have IH := hid ih
  have HPB := hid hB
  have Hd := hid hd
  have HM := hid h
  have HTO := hid h.ok.tk
  have HNs : Hid (N ≤ w.heap.size ∧ ∀ ad, l.a = some ad → ad.block < w.heap.size) := hid ⟨h.r.gl.sz, h.r.src.lt⟩
  have I1 := hid info_tn
  clear h hB hd ih
  have I0 := hid info_tk
  have HO := hid (tkC_one S.tok)
  have HN1 : Hid (Below w.heap.size w (w.alloc (.cells #[.int .u8 0, .int .i64 0, .int .i64 0, .int .i64 0, .int .u64 0] 112)) ∧ Blk (w.alloc (.cells #[.int .u8 0, .int .i64 0, .int .i64 0, .int .i64 0, .int .u64 0] 112)) w.heap.size 112 [.int .u8 0, .int .i64 0, .int .i64 0, .int .i64 0, .int .u64 0]) := hid ⟨nbel w _, Blk.new w [.int .u8 0, .int .i64 0, .int .i64 0, .int .i64 0, .int .u64 0] 112⟩
  obtain ⟨_, c3, c4, _⟩ := HM.out.cells
  obtain ⟨c5, c6, c7⟩ := HM.out.cells'
  obtain ⟨kd, hkd⟩ : ∃ k, S.tok.kind = k := ⟨_, rfl⟩
  obtain ⟨ps, hps⟩ : ∃ k, S.tok.pos = k := ⟨_, rfl⟩
  obtain ⟨en, hen⟩ : ∃ k, S.tok.en = k := ⟨_, rfl⟩
  obtain ⟨bd, hbd⟩ : ∃ k, S.tok.bad = k := ⟨_, rfl⟩
  obtain ⟨vl, hvl⟩ : ∃ k, S.tok.val = k := ⟨_, rfl⟩
  have HTk : Hid (S.tok = ⟨kd, ps, en, bd, vl⟩) := hid (by rw [← hkd, ← hps, ← hen, ← hbd, ← hvl])
  rw [hkd] at c3
  rw [hps] at c4
  rw [hen] at c5
  rw [hbd] at c6
  rw [hvl] at c7
  rw [HTk.out] at HO
  have Hkd := hid hkd
  clear hkd hps hen hbd hvl
  rw [HTk.out] at HTO
  go_enter Tryz.func113, Tryz.ntmps113
  go_upto_region 2 with (refine wpList_store_blk rfl 112 _ _ rfl w.heap.size rfl [.int .u8 (kd : Int), .int .i64 (ps : Int), .int .i64 (en : Int), .int .i64 (bd : Int), .int .u64 (vl : Int)] rfl HN1.out.2 rfl I0.out HO.out ?_; intro w1 HB1 HU1)
  have H1 : Hid (TkB N mg ρ w l bs S w.heap.size ⟨kd, ps, en, bd, vl⟩ ρ w1) := hid (TkB.start HM.out (HN1.out.1.trans (HU1.out.below (Nat.le_refl _) HN1.out.1.size)) (Nat.le_refl _) HB1.out)
  generalize hpp : w.heap.size = p at H1 ⊢
  clear hpp HB1 HU1 HN1 HO HM c3 c4 c5 c6 c7
  obtain ⟨_, k1, _⟩ := H1.out.cells
  dsimp only at k1
  have HN2 : Hid (Below w1.heap.size w1 (w1.alloc (.cells #[.int .u8 0, .int .i32 0, .int .i64 0, .string ⟨#[]⟩, .int .i32 0, .int .i32 0, .int .i32 0, .int .i32 0] 157)) ∧ Blk (w1.alloc (.cells #[.int .u8 0, .int .i32 0, .int .i64 0, .string ⟨#[]⟩, .int .i32 0, .int .i32 0, .int .i32 0, .int .i32 0] 157)) w1.heap.size 157 [.int .u8 0, .int .i32 0, .int .i64 0, .string ⟨#[]⟩, .int .i32 0, .int .i32 0, .int .i32 0, .int .i32 0]) := hid ⟨nbel w1 _, Blk.new w1 [.int .u8 0, .int .i32 0, .int .i64 0, .string ⟨#[]⟩, .int .i32 0, .int .i32 0, .int .i32 0, .int .i32 0] 157⟩
  have HO1 := hid (tnC_one ⟨0, 0, ps, ⟨#[]⟩, -1, -1, 0, 0⟩)
  go_upto_region 3 with (refine wpList_store_blk rfl 157 _ _ rfl w1.heap.size rfl [.int .u8 0, .int .i32 0, .int .i64 (ps : Int), .string ⟨#[]⟩, .int .i32 (-1), .int .i32 (-1), .int .i32 0, .int .i32 0] rfl HN2.out.2 rfl I1.out HO1.out ?_; intro w2 HB1 HU1)
  have H2 : Hid (TyB N mg ρ w l bs S p ⟨kd, ps, en, bd, vl⟩ w1.heap.size ⟨0, 0, ps, ⟨#[]⟩, -1, -1, 0, 0⟩ ρ w2) := hid (TkB.ty (n0 := 0) H1.out rfl (HN2.out.1.trans (HU1.out.below (Nat.le_refl _) HN2.out.1.size)) HB1.out HNs.out.1 HNs.out.2)
  generalize hqq : w1.heap.size = q at H2 ⊢
  clear hqq HB1 HU1 HN2 HO1 H1 k1
  obtain ⟨k0, k1, k2⟩ := H2.out.tc
  dsimp only at k0 k1 k2
  have hk38 : kd < 38 := HTO.out.k
  have HBa := hid (fun wz => basicOfW kd hk38 wz)
  cases hbk : basicK kd with
  | some id =>
    have HV : baV kd = .tuple #[.int .i32 (id : Int), .bool true] := by unfold baV; rw [hbk]; rfl
    rw [HV] at HBa
    have HP : Hid (Prs bs l.n .typ S (.ok ((S.adv bs l.n).addT ⟨0, id, ps, ⟨#[]⟩, -1, -1, 0, 0⟩) S.fs.types.length)) := hid (by
      have := Prs.basic (bs := bs) (n := l.n) (S := S) (id := id) (by rw [Hkd.out]; exact hbk)
      rw [HTk.out] at this
      exact this)
    have hk2 : 2 ≤ kd := by
      rcases Nat.lt_or_ge kd 2 with h | h
      · exfalso
        unfold basicK at hbk
        rw [if_neg (by omega), if_neg (by omega), if_neg (by omega)] at hbk
        cases hbk
      · exact h
    clear hbk HV
    as_aux_lemma =>
    have HA := hid (advW H2.out.m (by rw [Hkd.out]; exact hk2))
    go_wp2_with fail
    refine (HBa.out _).mono ?_
    rintro e w3 ⟨rfl, rfl⟩
    go_wp2_with fail
    refine HA.out.mono ?_
    rintro e w4 ⟨rfl, hg4⟩
    obtain ⟨ρ4, h4⟩ := H2.out.go hg4.out
    have H4 := hid h4
    clear HA HBa hg4 h4 H2 k0 k1 k2
    have e0 : w4.cell? ⟨q, 0, none⟩ = some (.int .u8 0) := (H4.out.nc 0).1
    have e1 : w4.cell? ⟨q, 1, none⟩ = some (.int .i32 0) := (H4.out.nc 1).1
    have f0 : w4.frozen? ⟨q, 0, none⟩ = false := (H4.out.nc 0).2
    have f1 : w4.frozen? ⟨q, 1, none⟩ = false := (H4.out.nc 1).2
    have H5 := hid ((H4.out.set (x' := ⟨0, 0, ps, ⟨#[]⟩, -1, -1, 0, 0⟩) 0 (.int .u8 0) rfl).set (x' := ⟨0, id, ps, ⟨#[]⟩, -1, -1, 0, 0⟩) 1 (.int .i32 (id : Int)) rfl)
    go_upto_region 7 with fail
    generalize hw5 : World.setCell (World.setCell _ _ _) _ _ = w5 at H5 ⊢
    clear hw5 e0 e1 f0 f1 H4
    obtain ⟨X0, W, hT, hI⟩ := class_mk (fun w' => Drew w5 w')
    have HD0 : Hid (∃ y, w5.drew = W y) := hid (hI _ ⟨1, rfl⟩)
    have hne : Nonempty X0 := ⟨HD0.out.choose⟩
    have HTT := hid hT
    have j8 : ∀ y, (W y).cell? ⟨l.p, 8, none⟩ = some (.pointer (some ⟨l.f, 0, none⟩)) := fun y => by obtain ⟨m, e⟩ := hT y; rw [e]; exact H5.out.m.cells.2.2.2.1
    have rl : ∀ y, (Instr.loadAt 157 (.pointer (some ⟨q, 0, none⟩))).run Tryz.prog (W y) = .ok (.agg (tnC ⟨0, id, ps, ⟨#[]⟩, -1, -1, 0, 0⟩).toArray) (W y) := fun y => load_info_tn (H5.out.bn.drew (hT y))
    dsimp only [tnC] at rl
    have Hrl := hid rl
    clear hT hI rl
    go_upto_region 7 with fail
    refine wp_region_class_tailT W 5 (by kernel_rfl) (by kernel_rfl) (by kernel_rfl) HD0.out ?_
    dsimp only [List.take, List.drop]
    repeat (first | (go_big_quiet_want; refine quiet_loadO 157 _ rfl ⟨q, 0, none⟩ rfl _ (fun w hx => by obtain ⟨x, rfl⟩ := hx; exact Hrl.out x) ?_; simp only [Act.put, List.setIfInBounds_toArray, List.set_cons_succ, List.set_cons_zero]; go_big_quiet_on) | go_big_quiet_step (fail))
    refine wpQuiet_nil ?_
    intro z
    have HZ := hid (H5.out.below ((HTT.out z).below _))
    generalize W z = wz at HZ ⊢
    clear j8 Hrl HD0 HTT H5
    have HE := hid (addTW HZ.out.m.r ⟨0, id, ps, ⟨#[]⟩, -1, -1, 0, 0⟩ (by have := (PB.len (PB.adv (bs := bs) (l := l) HPB.out) HZ.out.m.ok).1; exact this))
    dsimp only [tnC] at HE
    go_wp2_with fail
    refine HE.out.mono ?_
    rintro e wy ⟨rfl, hry⟩
    have HG : Hid (PGo N mg ρ w l bs (PS.addT (S.adv bs l.n) ⟨0, id, ps, ⟨#[]⟩, -1, -1, 0, 0⟩) wy) := hid (by
      obtain ⟨ρ4, h1, h2⟩ := hry.out
      obtain ⟨h3, h4⟩ := HZ.out.m.setF h1 h2
      exact PGo.pre' HZ.out.f ⟨ρ4, h3, h4⟩)
    clear HE hry HZ
    go_wp2
    go_ret2
    exact .inl ⟨_, _, rfl, HP, HG⟩
  | none =>
  have HV : baV kd = .tuple #[.int .i32 (-1), .bool false] := by unfold baV; rw [hbk]; rfl
  rw [HV] at HBa
  have Hbk := hid hbk
  have hk30 : kd < 30 := by
    rcases Nat.lt_or_ge kd 30 with h | h
    · exact h
    · exfalso
      unfold basicK at hbk
      split at hbk
      · cases hbk
      · split at hbk
        · cases hbk
        · split at hbk
          · cases hbk
          · omega
  clear hbk HV
  go_wp2_with fail
  refine (HBa.out _).mono ?_
  rintro e w3 ⟨rfl, rfl⟩
  clear HBa
  by_cases h29 : kd = 29
  · as_aux_lemma =>
    have q29 : ((kd : Int) == 29) = true := by simp; omega
    have HP : Hid (Prs bs l.n .typ S (.ok ((S.adv bs l.n).addT ⟨1, 0, ps, ⟨#[]⟩, -1, -1, 0, 0⟩) S.fs.types.length)) := hid (by
      have := Prs.none (bs := bs) (n := l.n) (S := S) (by rw [Hkd.out]; exact h29)
      rw [HTk.out] at this
      exact this)
    have HA := hid (advW H2.out.m (by rw [Hkd.out]; omega))
    clear h29
    go_wp2_with fail
    refine HA.out.mono ?_
    rintro e w4 ⟨rfl, hg4⟩
    obtain ⟨ρ4, h4⟩ := H2.out.go hg4.out
    have H4 := hid h4
    clear HA hg4 h4 H2 k0 k1 k2
    have e0 : w4.cell? ⟨q, 0, none⟩ = some (.int .u8 0) := (H4.out.nc 0).1
    have f0 : w4.frozen? ⟨q, 0, none⟩ = false := (H4.out.nc 0).2
    have H5 := hid (H4.out.set (x' := ⟨1, 0, ps, ⟨#[]⟩, -1, -1, 0, 0⟩) 0 (.int .u8 1) rfl)
    go_upto_region 54 with fail
    generalize hw5 : w4.setCell _ _ = w5 at H5 ⊢
    clear hw5 e0 f0 H4
    obtain ⟨X0, W, hT, hI⟩ := class_mk (fun w' => Drew w5 w')
    have HD0 : Hid (∃ y, w5.drew = W y) := hid (hI _ ⟨1, rfl⟩)
    have hne : Nonempty X0 := ⟨HD0.out.choose⟩
    have HTT := hid hT
    have j8 : ∀ y, (W y).cell? ⟨l.p, 8, none⟩ = some (.pointer (some ⟨l.f, 0, none⟩)) := fun y => by obtain ⟨m, e⟩ := hT y; rw [e]; exact H5.out.m.cells.2.2.2.1
    have rl : ∀ y, (Instr.loadAt 157 (.pointer (some ⟨q, 0, none⟩))).run Tryz.prog (W y) = .ok (.agg (tnC ⟨1, 0, ps, ⟨#[]⟩, -1, -1, 0, 0⟩).toArray) (W y) := fun y => load_info_tn (H5.out.bn.drew (hT y))
    dsimp only [tnC] at rl
    have Hrl := hid rl
    clear hT hI rl
    go_upto_region 54 with fail
    refine wp_region_class_tailT W 5 (by kernel_rfl) (by kernel_rfl) (by kernel_rfl) HD0.out ?_
    dsimp only [List.take, List.drop]
    repeat (first | (go_big_quiet_want; refine quiet_loadO 157 _ rfl ⟨q, 0, none⟩ rfl _ (fun w hx => by obtain ⟨x, rfl⟩ := hx; exact Hrl.out x) ?_; simp only [Act.put, List.setIfInBounds_toArray, List.set_cons_succ, List.set_cons_zero]; go_big_quiet_on) | go_big_quiet_step (fail))
    refine wpQuiet_nil ?_
    intro z
    have HZ := hid (H5.out.below ((HTT.out z).below _))
    generalize W z = wz at HZ ⊢
    clear j8 Hrl HD0 HTT H5
    have HE := hid (addTW HZ.out.m.r ⟨1, 0, ps, ⟨#[]⟩, -1, -1, 0, 0⟩ (by have := (PB.len (PB.adv (bs := bs) (l := l) HPB.out) HZ.out.m.ok).1; exact this))
    dsimp only [tnC] at HE
    go_wp2_with fail
    refine HE.out.mono ?_
    rintro e wy ⟨rfl, hry⟩
    have HG : Hid (PGo N mg ρ w l bs (PS.addT (S.adv bs l.n) ⟨1, 0, ps, ⟨#[]⟩, -1, -1, 0, 0⟩) wy) := hid (by
      obtain ⟨ρ4, h1, h2⟩ := hry.out
      obtain ⟨h3, h4⟩ := HZ.out.m.setF h1 h2
      exact PGo.pre' HZ.out.f ⟨ρ4, h3, h4⟩)
    clear HE hry HZ
    go_wp2
    go_ret2
    exact .inl ⟨_, _, rfl, HP, HG⟩
  have q29 : ((kd : Int) == 29) = false := by simp; omega
  by_cases h4 : kd = 4
  · as_aux_lemma =>
    have q4 : ((kd : Int) == 4) = true := by simp; omega
    have HP : Hid (Prs bs l.n .typ S (.ok ((S.adv bs l.n).addT ⟨2, 0, ps, sub bs ps en, -1, -1, 0, 0⟩) S.fs.types.length)) := hid (by
      have := Prs.tname (bs := bs) (n := l.n) (S := S) (by rw [Hkd.out]; exact h4)
      unfold PS.word at this
      rw [HTk.out] at this
      exact this)
    have HA := hid (advW H2.out.m (by rw [Hkd.out]; omega))
    have hpe : ps < en := HTO.out.f (by show 2 ≤ kd; omega)
    have hen : en ≤ l.n := HTO.out.en
    obtain ⟨hcap, _, hcm⟩ := H2.out.m.r.src.cap
    obtain ⟨b, off, ha, _, _⟩ := H2.out.m.r.src.cell (k := ps) (by omega)
    clear h4 h29
    go_wp2_with fail
    refine HA.out.mono ?_
    rintro e w4 ⟨rfl, hg4⟩
    obtain ⟨ρ4, h4⟩ := H2.out.go hg4.out
    have H4 := hid h4
    clear HA hg4 h4 H2 k0 k1 k2
    have e0 : w4.cell? ⟨q, 0, none⟩ = some (.int .u8 0) := (H4.out.nc 0).1
    have f0 : w4.frozen? ⟨q, 0, none⟩ = false := (H4.out.nc 0).2
    have H5 := hid (H4.out.set (x' := ⟨2, 0, ps, ⟨#[]⟩, -1, -1, 0, 0⟩) 0 (.int .u8 2) rfl)
    go_upto_region 17 with fail
    generalize hw5 : w4.setCell _ _ = w5 at H5 ⊢
    clear hw5 e0 f0 H4
    have hsl := slice_in (b := b) (off := off) (n := l.n) (c := l.c) hpe hen hcap hcm
    have hsr := H5.out.m.r.src
    rw [ha] at hsr
    obtain ⟨X0, W, hT, hI⟩ := class_mk (fun w' => Drew w5 w')
    have HD0 : Hid (∃ y, w5.drew = W y) := hid (hI _ ⟨1, rfl⟩)
    have hne : Nonempty X0 := ⟨HD0.out.choose⟩
    have HTT := hid hT
    have j0 : ∀ y, (W y).cell? ⟨l.p, 0, none⟩ = some (.slice (some ⟨b, off, none⟩) l.n l.c) := fun y => by rw [← ha]; obtain ⟨m, e⟩ := hT y; rw [e]; exact H5.out.m.cells.1
    have j1 : ∀ y, (W y).cell? ⟨p, 1, none⟩ = some (.int .i64 (ps : Int)) := fun y => by obtain ⟨m, e⟩ := hT y; rw [e]; exact H5.out.tc.2.1
    have j2 : ∀ y, (W y).cell? ⟨p, 2, none⟩ = some (.int .i64 (en : Int)) := fun y => by obtain ⟨m, e⟩ := hT y; rw [e]; exact H5.out.tc.2.2
    have hst : ∀ y, (convert 28 9 (.slice (some ⟨b, off + ps, none⟩) (en - ps) (l.c - ps))).run Tryz.prog (W y) = .ok (.string (sub bs ps en)) (W y) := fun y => (hsr.below ((hT y).below _)).str hpe hen rfl _
    generalize sub bs ps en = nm at hst HP
    clear hsr hT hI
    refine wp_region_class_tailT W 11 (by kernel_rfl) (by kernel_rfl) (by kernel_rfl) HD0.out ?_
    dsimp only [List.take, List.drop]
    repeat (go_big_quiet_step (fail))
    refine wpQuiet_nil ?_
    intro z
    have H6 := hid (H5.out.below ((HTT.out z).below _))
    generalize W z = w6 at H6 ⊢
    clear j0 j1 j2 hst hsl HD0 HTT H5
    have e3 : w6.cell? ⟨q, 3, none⟩ = some (.string ⟨#[]⟩) := (H6.out.nc 3).1
    have f3 : w6.frozen? ⟨q, 3, none⟩ = false := (H6.out.nc 3).2
    have H7 := hid (H6.out.set (x' := ⟨2, 0, ps, nm, -1, -1, 0, 0⟩) 3 (.string nm) rfl)
    go_upto_region 54 with fail
    generalize hw7 : w6.setCell _ _ = w7 at H7 ⊢
    clear hw7 e3 f3 H6
    obtain ⟨X0, W, hT, hI⟩ := class_mk (fun w' => Drew w7 w')
    have HD0 : Hid (∃ y, w7.drew = W y) := hid (hI _ ⟨1, rfl⟩)
    have hne : Nonempty X0 := ⟨HD0.out.choose⟩
    have HTT := hid hT
    have j8 : ∀ y, (W y).cell? ⟨l.p, 8, none⟩ = some (.pointer (some ⟨l.f, 0, none⟩)) := fun y => by obtain ⟨m, e⟩ := hT y; rw [e]; exact H7.out.m.cells.2.2.2.1
    have rl : ∀ y, (Instr.loadAt 157 (.pointer (some ⟨q, 0, none⟩))).run Tryz.prog (W y) = .ok (.agg (tnC ⟨2, 0, ps, nm, -1, -1, 0, 0⟩).toArray) (W y) := fun y => load_info_tn (H7.out.bn.drew (hT y))
    dsimp only [tnC] at rl
    have Hrl := hid rl
    clear hT hI rl
    go_upto_region 54 with fail
    refine wp_region_class_tailT W 5 (by kernel_rfl) (by kernel_rfl) (by kernel_rfl) HD0.out ?_
    dsimp only [List.take, List.drop]
    repeat (first | (go_big_quiet_want; refine quiet_loadO 157 _ rfl ⟨q, 0, none⟩ rfl _ (fun w hx => by obtain ⟨x, rfl⟩ := hx; exact Hrl.out x) ?_; simp only [Act.put, List.setIfInBounds_toArray, List.set_cons_succ, List.set_cons_zero]; go_big_quiet_on) | go_big_quiet_step (fail))
    refine wpQuiet_nil ?_
    intro z
    have HZ := hid (H7.out.below ((HTT.out z).below _))
    generalize W z = wz at HZ ⊢
    clear j8 Hrl HD0 HTT H7
    have HE := hid (addTW HZ.out.m.r ⟨2, 0, ps, nm, -1, -1, 0, 0⟩ (by have := (PB.len (PB.adv (bs := bs) (l := l) HPB.out) HZ.out.m.ok).1; exact this))
    dsimp only [tnC] at HE
    go_wp2_with fail
    refine HE.out.mono ?_
    rintro e wy ⟨rfl, hry⟩
    have HG : Hid (PGo N mg ρ w l bs (PS.addT (S.adv bs l.n) ⟨2, 0, ps, nm, -1, -1, 0, 0⟩) wy) := hid (by
      obtain ⟨ρ4, h1, h2⟩ := hry.out
      obtain ⟨h3, h4⟩ := HZ.out.m.setF h1 h2
      exact PGo.pre' HZ.out.f ⟨ρ4, h3, h4⟩)
    clear HE hry HZ
    go_wp2
    go_ret2
    exact .inl ⟨_, _, rfl, HP, HG⟩
  have q4 : ((kd : Int) == 4) = false := by simp; omega
  by_cases h24 : 24 ≤ kd
  rotate_left
  · as_aux_lemma =>
    have HP : Hid (Prs bs l.n .typ S (.bad S.unx)) := hid (Prs.typN (by rw [Hkd.out]; exact h4) (by rw [Hkd.out]; exact h24))
    have q24 : ((kd : Int) == 24) = false := by simp; omega
    have q25 : ((kd : Int) == 25) = false := by simp; omega
    have q26 : ((kd : Int) == 26) = false := by simp; omega
    have q27 : ((kd : Int) == 27) = false := by simp; omega
    have q28 : ((kd : Int) == 28) = false := by simp; omega
    have HU := hid (unexpectedW H2.out.m ⟨#[97, 32, 116, 121, 112, 101]⟩ (by decide))
    clear h24 h4 h29 k1 k2
    go_wp2_with fail
    refine HU.out.mono ?_
    rintro e w4 ⟨rfl, hn4⟩
    have HN := hid (H2.out.no hn4.out)
    clear HU hn4 H2
    go_wp2
    go_ret2
    exact .inr ⟨_, _, rfl, HP, HN⟩
  have Hk2 : Hid (2 ≤ S.tok.kind) := hid (by rw [Hkd.out]; omega)
  have Hkr : Hid (24 ≤ S.tok.kind ∧ S.tok.kind ≤ 28) := hid (by rw [Hkd.out]; omega)
  by_cases hv : kd = 24 ∨ kd = 25
  · by_cases hka : kd = 24
    · as_aux_lemma =>
      have Hke : Hid (S.tok.kind = 24) := hid (by rw [Hkd.out]; omega)
      have Hkv : Hid (S.tok.kind = 24 ∨ S.tok.kind = 25) := hid (by rw [Hkd.out]; omega)
      have q24 : ((kd : Int) == 24) = true := by simp; omega
      have q25 : ((kd : Int) == 25) = false := by simp; omega
      clear h4 h29 h24 hv hka
      have e0 : w3.cell? ⟨q, 0, none⟩ = some (.int .u8 0) := (H2.out.nc 0).1
      have f0 : w3.frozen? ⟨q, 0, none⟩ = false := (H2.out.nc 0).2
      have H3 := hid (H2.out.set (x' := ⟨3, 0, ps, ⟨#[]⟩, -1, -1, 0, 0⟩) 0 (.int .u8 3) rfl)
      have k0' : (w3.setCell ⟨q, 0, none⟩ (.int .u8 3)).cell? ⟨p, 0, none⟩ = some (.int .u8 (kd : Int)) := H3.out.tc.1
      go_upto_region 23 with fail
      generalize hw4 : w3.setCell _ _ = w4 at H3 ⊢
      clear hw4 e0 f0 k0'
      clear H2 k0 k1 k2
      have HA := hid (advW H3.out.m Hk2.out)
      go_wp2_with fail
      refine HA.out.mono ?_
      rintro e w5 ⟨rfl, hg5⟩
      obtain ⟨ρ5, h5⟩ := H3.out.go hg5.out
      have H5 := hid h5
      clear HA hg5 h5 H3
      by_cases h10 : (S.adv bs l.n).tok.kind = 10
      rotate_left
      · as_aux_lemma =>
        have HP : Hid (Prs bs l.n .typ S (.bad (S.adv bs l.n).unx)) := hid (Prs.brk Hkr.out.1 Hkr.out.2 h10)
        have HU := hid (openN H5.out.m h10 (by decide))
        go_wp2_with fail
        refine HU.out.mono ?_
        rintro e w6 ⟨rfl, hn6⟩
        have HN := hid (H5.out.no hn6.out)
        clear HU hn6 H5
        go_wp2
        go_ret2
        exact .inr ⟨_, _, rfl, HP, HN⟩
      have H10 := hid h10
      clear h10
      by_cases hdp : d < 32
      rotate_left
      · as_aux_lemma =>
        have HP : Hid (Prs bs l.n .typ S (.bad (5, (S.adv bs l.n).tok.pos))) := hid (Prs.brkD Hkr.out.1 Hkr.out.2 H10.out (by rw [Hd.out]; omega))
        have HU := hid (openD H5.out.m H10.out (show 32 ≤ S.depth by rw [Hd.out]; omega))
        go_wp2_with fail
        refine HU.out.mono ?_
        rintro e w6 ⟨rfl, hn6⟩
        have HN := hid (H5.out.no hn6.out)
        clear HU hn6 H5
        go_wp2
        go_ret2
        exact .inr ⟨_, _, rfl, HP, HN⟩
      have Hdl : Hid (S.depth < 32) := hid (by rw [Hd.out]; exact hdp)
      have HU := hid (openY H5.out.m H10.out (by decide) (show (S.adv bs l.n).depth < 32 from Hdl.out))
      go_wp2_with fail
      refine HU.out.mono ?_
      rintro e w6 ⟨rfl, hg6⟩
      obtain ⟨ρ6, h6⟩ := H5.out.go hg6.out
      have H6 := hid h6
      clear HU hg6 h6 H5
      have HPB6 : Hid (PB ((S.adv bs l.n).opn bs l.n)) := hid (PB.opn (PB.adv HPB.out))
      have HX := hid (IH.out hdp ρ6 w6 ((S.adv bs l.n).opn bs l.n) H6.out.m HPB6.out (by show S.depth + 1 = d + 1; rw [Hd.out]))
      go_wp2_with fail
      refine HX.out.mono ?_
      rintro e w7 (⟨S7, r7, rfl, HP7, hg7⟩ | ⟨k7, r7, rfl, HP7, hn7⟩)
      rotate_left
      · as_aux_lemma =>
        have HP : Hid (Prs bs l.n .typ S (.bad k7)) := hid (Prs.vecB Hkv.out H10.out Hdl.out HP7.out)
        have Ha := hid (H6.out.noT hn7.out)
        clear HX hn7
        obtain ⟨ca, fa⟩ := Ha.out.2 4 (by decide)
        obtain ⟨va, ca⟩ := ca
        have HN := hid (Ha.out.1 4 (.int .i32 r7))
        clear Ha H6
        go_wp2
        go_ret2
        exact .inr ⟨_, _, rfl, HP, HN⟩
      have hmv : Mv ((S.adv bs l.n).opn bs l.n) S7 1 0 := HP7.out.mv
      obtain ⟨ρ7, h7⟩ := H6.out.go hg7.out
      have H7 := hid h7
      have HPB7 := hid (HPB6.out.mv hmv)
      have hd7 : 1 ≤ S7.depth := by rw [hmv.d]; show 1 ≤ S.depth + 1; omega
      clear HX hg7 h7 hmv H6
      have c4 : w7.cell? ⟨q, 4, none⟩ = some (.int .i32 (-1)) := (H7.out.nc 4).1
      have f4 : w7.frozen? ⟨q, 4, none⟩ = false := (H7.out.nc 4).2
      have H8 := hid (H7.out.set (x' := ⟨3, 0, ps, ⟨#[]⟩, (r7 : Int), -1, 0, 0⟩) 4 (.int .i32 (r7 : Int)) rfl)
      go_upto_region 29 with fail
      generalize hw8 : w7.setCell _ _ = w8 at H8 ⊢
      clear hw8 c4 f4 H7
      by_cases h9 : S7.tok.kind = 9
      rotate_left
      · as_aux_lemma =>
        have HP : Hid (Prs bs l.n .typ S (.bad S7.unx)) := hid (Prs.vecC Hkv.out H10.out Hdl.out HP7.out h9)
        have HU := hid (expectN H8.out.m h9 (by decide))
        go_wp2_with fail
        refine HU.out.mono ?_
        rintro e w9 ⟨rfl, hn9⟩
        have HN := hid (H8.out.no hn9.out)
        clear HU hn9 H8
        go_wp2
        go_ret2
        exact .inr ⟨_, _, rfl, HP, HN⟩
      have H9k := hid h9
      have HU := hid (expectY H8.out.m h9 (by decide))
      clear h9
      go_wp2_with fail
      refine HU.out.mono ?_
      rintro e w9 ⟨rfl, hg9⟩
      obtain ⟨ρ9, h9⟩ := H8.out.go hg9.out
      have H9 := hid h9
      clear HU hg9 h9 H8
      have HX := hid (parseExprX H9.out.m (PB.adv HPB7.out))
      have e5 : ∀ wz : World, True := fun _ => trivial
      go_wp2_with fail
      refine HX.out.mono ?_
      rintro e wa (⟨Sa, ra, rfl, HPa, hga⟩ | ⟨ka, ra, rfl, HPa, hna⟩)
      rotate_left
      · as_aux_lemma =>
        have HP : Hid (Prs bs l.n .typ S (.bad ka)) := hid (Prs.vec (o := .bad ka) Hkv.out H10.out Hdl.out HP7.out H9k.out HPa.out)
        have Ha := hid (H9.out.noT hna.out)
        clear HX hna e5
        obtain ⟨ca, fa⟩ := Ha.out.2 5 (by decide)
        obtain ⟨va, ca⟩ := ca
        have HN := hid (Ha.out.1 5 (.int .i32 ra))
        clear Ha H9
        go_wp2
        go_ret2
        exact .inr ⟨_, _, rfl, HP, HN⟩
      have hmv : Mv (S7.adv bs l.n) Sa 1 0 := HPa.out.mv
      obtain ⟨ρa, ha⟩ := H9.out.go hga.out
      have Ha := hid ha
      have HPBa := hid (PB.mv (PB.adv HPB7.out) hmv)
      have hda : 1 ≤ Sa.depth := by rw [hmv.d]; show 1 ≤ S7.depth; exact hd7
      clear HX hga ha hmv H9 e5
      have c5 : wa.cell? ⟨q, 5, none⟩ = some (.int .i32 (-1)) := (Ha.out.nc 5).1
      have f5 : wa.frozen? ⟨q, 5, none⟩ = false := (Ha.out.nc 5).2
      have Hb := hid (Ha.out.set (x' := ⟨3, 0, ps, ⟨#[]⟩, (r7 : Int), (ra : Int), 0, 0⟩) 5 (.int .i32 (ra : Int)) rfl)
      go_upto_region 34 with fail
      generalize hwb : wa.setCell _ _ = wb at Hb ⊢
      clear hwb c5 f5 Ha
      by_cases h11 : Sa.tok.kind = 11
      rotate_left
      · as_aux_lemma =>
        have HP : Hid (Prs bs l.n .typ S (.bad Sa.unx)) := hid (by
          have := Prs.vec (o := .ok Sa ra) Hkv.out H10.out Hdl.out HP7.out H9k.out HPa.out
          unfold Out.shut at this
          dsimp only at this
          rw [if_neg h11] at this
          exact this)
        have HU := hid (shutN Hb.out.m h11 (by decide))
        go_wp2_with fail
        refine HU.out.mono ?_
        rintro e wc ⟨rfl, hnc⟩
        have HN := hid (Hb.out.no hnc.out)
        clear HU hnc Hb
        go_wp2
        go_ret2
        exact .inr ⟨_, _, rfl, HP, HN⟩
      have HP : Hid (Prs bs l.n .typ S (.ok (PS.addT (Sa.sht bs l.n) ⟨3, 0, ps, ⟨#[]⟩, (r7 : Int), (ra : Int), 0, 0⟩) (Sa.sht bs l.n).fs.types.length)) := hid (by
        have := Prs.vec (o := .ok Sa ra) Hkv.out H10.out Hdl.out HP7.out H9k.out HPa.out
        unfold Out.shut at this
        dsimp only at this
        rw [if_pos h11, Hke.out, HTk.out] at this
        exact this)
      have HU := hid (shutY Hb.out.m h11 (by decide) hda)
      clear h11
      go_wp2_with fail
      refine HU.out.mono ?_
      rintro e wc ⟨rfl, hgc⟩
      obtain ⟨ρc, hc⟩ := Hb.out.go hgc.out
      have Hc := hid hc
      have HPBc : Hid (PB (Sa.sht bs l.n)) := hid (by
        obtain ⟨h1, h2⟩ := HPBa.out
        exact ⟨by show Sa.fs.types.length + Sa.fs.exprs.length ≤ Sa.used + 1; omega, by show Sa.fs.opts.length ≤ Sa.used + 1; omega⟩)
      clear HU hgc hc Hb
      obtain ⟨X0, W, hT, hI⟩ := class_mk (fun w' => Drew wc w')
      have HD0 : Hid (∃ y, wc.drew = W y) := hid (hI _ ⟨1, rfl⟩)
      have hne : Nonempty X0 := ⟨HD0.out.choose⟩
      have HTT := hid hT
      have j8 : ∀ y, (W y).cell? ⟨l.p, 8, none⟩ = some (.pointer (some ⟨l.f, 0, none⟩)) := fun y => by obtain ⟨m, e⟩ := hT y; rw [e]; exact Hc.out.m.cells.2.2.2.1
      have rl : ∀ y, (Instr.loadAt 157 (.pointer (some ⟨q, 0, none⟩))).run Tryz.prog (W y) = .ok (.agg (tnC ⟨3, 0, ps, ⟨#[]⟩, (r7 : Int), (ra : Int), 0, 0⟩).toArray) (W y) := fun y => load_info_tn (Hc.out.bn.drew (hT y))
      dsimp only [tnC] at rl
      have Hrl := hid rl
      clear hT hI rl
      go_upto_region 54 with fail
      refine wp_region_class_tailT W 5 (by kernel_rfl) (by kernel_rfl) (by kernel_rfl) HD0.out ?_
      dsimp only [List.take, List.drop]
      repeat (first | (go_big_quiet_want; refine quiet_loadO 157 _ rfl ⟨q, 0, none⟩ rfl _ (fun w hx => by obtain ⟨x, rfl⟩ := hx; exact Hrl.out x) ?_; simp only [Act.put, List.setIfInBounds_toArray, List.set_cons_succ, List.set_cons_zero]; go_big_quiet_on) | go_big_quiet_step (fail))
      refine wpQuiet_nil ?_
      intro z
      have HZ := hid (Hc.out.below ((HTT.out z).below _))
      generalize W z = wz at HZ ⊢
      clear j8 Hrl HD0 HTT Hc
      have HE := hid (addTW HZ.out.m.r ⟨3, 0, ps, ⟨#[]⟩, (r7 : Int), (ra : Int), 0, 0⟩ (by have := (PB.len (HPBc.out) HZ.out.m.ok).1; exact this))
      dsimp only [tnC] at HE
      go_wp2_with fail
      refine HE.out.mono ?_
      rintro e wy ⟨rfl, hry⟩
      have HG : Hid (PGo N mg ρ w l bs (PS.addT (Sa.sht bs l.n) ⟨3, 0, ps, ⟨#[]⟩, (r7 : Int), (ra : Int), 0, 0⟩) wy) := hid (by
        obtain ⟨ρ4, h1, h2⟩ := hry.out
        obtain ⟨h3, h4⟩ := HZ.out.m.setF h1 h2
        exact PGo.pre' HZ.out.f ⟨ρ4, h3, h4⟩)
      clear HE hry HZ
      go_wp2
      go_ret2
      exact .inl ⟨_, _, rfl, HP, HG⟩
    · as_aux_lemma =>
      have hkb : kd = 25 := by omega
      have Hke : Hid (S.tok.kind = 25) := hid (by rw [Hkd.out]; omega)
      have Hkv : Hid (S.tok.kind = 24 ∨ S.tok.kind = 25) := hid (by rw [Hkd.out]; omega)
      have q25 : ((kd : Int) == 25) = true := by simp; omega
      have q24 : ((kd : Int) == 24) = false := by simp; omega
      clear h4 h29 h24 hv hka hkb
      have e0 : w3.cell? ⟨q, 0, none⟩ = some (.int .u8 0) := (H2.out.nc 0).1
      have f0 : w3.frozen? ⟨q, 0, none⟩ = false := (H2.out.nc 0).2
      have H3 := hid ((H2.out.set (x' := ⟨3, 0, ps, ⟨#[]⟩, -1, -1, 0, 0⟩) 0 (.int .u8 3) rfl).set (x' := ⟨4, 0, ps, ⟨#[]⟩, -1, -1, 0, 0⟩) 0 (.int .u8 4) rfl)
      have k0' : (w3.setCell ⟨q, 0, none⟩ (.int .u8 3)).cell? ⟨p, 0, none⟩ = some (.int .u8 (kd : Int)) := (H2.out.set (x' := ⟨3, 0, ps, ⟨#[]⟩, -1, -1, 0, 0⟩) 0 (.int .u8 3) rfl).tc.1
      have e0' : (w3.setCell ⟨q, 0, none⟩ (.int .u8 3)).cell? ⟨q, 0, none⟩ = some (.int .u8 3) := ((H2.out.set (x' := ⟨3, 0, ps, ⟨#[]⟩, -1, -1, 0, 0⟩) 0 (.int .u8 3) rfl).nc 0).1
      go_upto_region 23 with fail
      generalize hw4 : World.setCell (World.setCell _ _ _) _ _ = w4 at H3 ⊢
      clear hw4 e0 f0 k0' e0'
      clear H2 k0 k1 k2
      have HA := hid (advW H3.out.m Hk2.out)
      go_wp2_with fail
      refine HA.out.mono ?_
      rintro e w5 ⟨rfl, hg5⟩
      obtain ⟨ρ5, h5⟩ := H3.out.go hg5.out
      have H5 := hid h5
      clear HA hg5 h5 H3
      by_cases h10 : (S.adv bs l.n).tok.kind = 10
      rotate_left
      · as_aux_lemma =>
        have HP : Hid (Prs bs l.n .typ S (.bad (S.adv bs l.n).unx)) := hid (Prs.brk Hkr.out.1 Hkr.out.2 h10)
        have HU := hid (openN H5.out.m h10 (by decide))
        go_wp2_with fail
        refine HU.out.mono ?_
        rintro e w6 ⟨rfl, hn6⟩
        have HN := hid (H5.out.no hn6.out)
        clear HU hn6 H5
        go_wp2
        go_ret2
        exact .inr ⟨_, _, rfl, HP, HN⟩
      have H10 := hid h10
      clear h10
      by_cases hdp : d < 32
      rotate_left
      · as_aux_lemma =>
        have HP : Hid (Prs bs l.n .typ S (.bad (5, (S.adv bs l.n).tok.pos))) := hid (Prs.brkD Hkr.out.1 Hkr.out.2 H10.out (by rw [Hd.out]; omega))
        have HU := hid (openD H5.out.m H10.out (show 32 ≤ S.depth by rw [Hd.out]; omega))
        go_wp2_with fail
        refine HU.out.mono ?_
        rintro e w6 ⟨rfl, hn6⟩
        have HN := hid (H5.out.no hn6.out)
        clear HU hn6 H5
        go_wp2
        go_ret2
        exact .inr ⟨_, _, rfl, HP, HN⟩
      have Hdl : Hid (S.depth < 32) := hid (by rw [Hd.out]; exact hdp)
      have HU := hid (openY H5.out.m H10.out (by decide) (show (S.adv bs l.n).depth < 32 from Hdl.out))
      go_wp2_with fail
      refine HU.out.mono ?_
      rintro e w6 ⟨rfl, hg6⟩
      obtain ⟨ρ6, h6⟩ := H5.out.go hg6.out
      have H6 := hid h6
      clear HU hg6 h6 H5
      have HPB6 : Hid (PB ((S.adv bs l.n).opn bs l.n)) := hid (PB.opn (PB.adv HPB.out))
      have HX := hid (IH.out hdp ρ6 w6 ((S.adv bs l.n).opn bs l.n) H6.out.m HPB6.out (by show S.depth + 1 = d + 1; rw [Hd.out]))
      go_wp2_with fail
      refine HX.out.mono ?_
      rintro e w7 (⟨S7, r7, rfl, HP7, hg7⟩ | ⟨k7, r7, rfl, HP7, hn7⟩)
      rotate_left
      · as_aux_lemma =>
        have HP : Hid (Prs bs l.n .typ S (.bad k7)) := hid (Prs.vecB Hkv.out H10.out Hdl.out HP7.out)
        have Ha := hid (H6.out.noT hn7.out)
        clear HX hn7
        obtain ⟨ca, fa⟩ := Ha.out.2 4 (by decide)
        obtain ⟨va, ca⟩ := ca
        have HN := hid (Ha.out.1 4 (.int .i32 r7))
        clear Ha H6
        go_wp2
        go_ret2
        exact .inr ⟨_, _, rfl, HP, HN⟩
      have hmv : Mv ((S.adv bs l.n).opn bs l.n) S7 1 0 := HP7.out.mv
      obtain ⟨ρ7, h7⟩ := H6.out.go hg7.out
      have H7 := hid h7
      have HPB7 := hid (HPB6.out.mv hmv)
      have hd7 : 1 ≤ S7.depth := by rw [hmv.d]; show 1 ≤ S.depth + 1; omega
      clear HX hg7 h7 hmv H6
      have c4 : w7.cell? ⟨q, 4, none⟩ = some (.int .i32 (-1)) := (H7.out.nc 4).1
      have f4 : w7.frozen? ⟨q, 4, none⟩ = false := (H7.out.nc 4).2
      have H8 := hid (H7.out.set (x' := ⟨4, 0, ps, ⟨#[]⟩, (r7 : Int), -1, 0, 0⟩) 4 (.int .i32 (r7 : Int)) rfl)
      go_upto_region 29 with fail
      generalize hw8 : w7.setCell _ _ = w8 at H8 ⊢
      clear hw8 c4 f4 H7
      by_cases h9 : S7.tok.kind = 9
      rotate_left
      · as_aux_lemma =>
        have HP : Hid (Prs bs l.n .typ S (.bad S7.unx)) := hid (Prs.vecC Hkv.out H10.out Hdl.out HP7.out h9)
        have HU := hid (expectN H8.out.m h9 (by decide))
        go_wp2_with fail
        refine HU.out.mono ?_
        rintro e w9 ⟨rfl, hn9⟩
        have HN := hid (H8.out.no hn9.out)
        clear HU hn9 H8
        go_wp2
        go_ret2
        exact .inr ⟨_, _, rfl, HP, HN⟩
      have H9k := hid h9
      have HU := hid (expectY H8.out.m h9 (by decide))
      clear h9
      go_wp2_with fail
      refine HU.out.mono ?_
      rintro e w9 ⟨rfl, hg9⟩
      obtain ⟨ρ9, h9⟩ := H8.out.go hg9.out
      have H9 := hid h9
      clear HU hg9 h9 H8
      have HX := hid (parseExprX H9.out.m (PB.adv HPB7.out))
      have e5 : ∀ wz : World, True := fun _ => trivial
      go_wp2_with fail
      refine HX.out.mono ?_
      rintro e wa (⟨Sa, ra, rfl, HPa, hga⟩ | ⟨ka, ra, rfl, HPa, hna⟩)
      rotate_left
      · as_aux_lemma =>
        have HP : Hid (Prs bs l.n .typ S (.bad ka)) := hid (Prs.vec (o := .bad ka) Hkv.out H10.out Hdl.out HP7.out H9k.out HPa.out)
        have Ha := hid (H9.out.noT hna.out)
        clear HX hna e5
        obtain ⟨ca, fa⟩ := Ha.out.2 5 (by decide)
        obtain ⟨va, ca⟩ := ca
        have HN := hid (Ha.out.1 5 (.int .i32 ra))
        clear Ha H9
        go_wp2
        go_ret2
        exact .inr ⟨_, _, rfl, HP, HN⟩
      have hmv : Mv (S7.adv bs l.n) Sa 1 0 := HPa.out.mv
      obtain ⟨ρa, ha⟩ := H9.out.go hga.out
      have Ha := hid ha
      have HPBa := hid (PB.mv (PB.adv HPB7.out) hmv)
      have hda : 1 ≤ Sa.depth := by rw [hmv.d]; show 1 ≤ S7.depth; exact hd7
      clear HX hga ha hmv H9 e5
      have c5 : wa.cell? ⟨q, 5, none⟩ = some (.int .i32 (-1)) := (Ha.out.nc 5).1
      have f5 : wa.frozen? ⟨q, 5, none⟩ = false := (Ha.out.nc 5).2
      have Hb := hid (Ha.out.set (x' := ⟨4, 0, ps, ⟨#[]⟩, (r7 : Int), (ra : Int), 0, 0⟩) 5 (.int .i32 (ra : Int)) rfl)
      go_upto_region 34 with fail
      generalize hwb : wa.setCell _ _ = wb at Hb ⊢
      clear hwb c5 f5 Ha
      by_cases h11 : Sa.tok.kind = 11
      rotate_left
      · as_aux_lemma =>
        have HP : Hid (Prs bs l.n .typ S (.bad Sa.unx)) := hid (by
          have := Prs.vec (o := .ok Sa ra) Hkv.out H10.out Hdl.out HP7.out H9k.out HPa.out
          unfold Out.shut at this
          dsimp only at this
          rw [if_neg h11] at this
          exact this)
        have HU := hid (shutN Hb.out.m h11 (by decide))
        go_wp2_with fail
        refine HU.out.mono ?_
        rintro e wc ⟨rfl, hnc⟩
        have HN := hid (Hb.out.no hnc.out)
        clear HU hnc Hb
        go_wp2
        go_ret2
        exact .inr ⟨_, _, rfl, HP, HN⟩
      have HP : Hid (Prs bs l.n .typ S (.ok (PS.addT (Sa.sht bs l.n) ⟨4, 0, ps, ⟨#[]⟩, (r7 : Int), (ra : Int), 0, 0⟩) (Sa.sht bs l.n).fs.types.length)) := hid (by
        have := Prs.vec (o := .ok Sa ra) Hkv.out H10.out Hdl.out HP7.out H9k.out HPa.out
        unfold Out.shut at this
        dsimp only at this
        rw [if_pos h11, Hke.out, HTk.out] at this
        exact this)
      have HU := hid (shutY Hb.out.m h11 (by decide) hda)
      clear h11
      go_wp2_with fail
      refine HU.out.mono ?_
      rintro e wc ⟨rfl, hgc⟩
      obtain ⟨ρc, hc⟩ := Hb.out.go hgc.out
      have Hc := hid hc
      have HPBc : Hid (PB (Sa.sht bs l.n)) := hid (by
        obtain ⟨h1, h2⟩ := HPBa.out
        exact ⟨by show Sa.fs.types.length + Sa.fs.exprs.length ≤ Sa.used + 1; omega, by show Sa.fs.opts.length ≤ Sa.used + 1; omega⟩)
      clear HU hgc hc Hb
      obtain ⟨X0, W, hT, hI⟩ := class_mk (fun w' => Drew wc w')
      have HD0 : Hid (∃ y, wc.drew = W y) := hid (hI _ ⟨1, rfl⟩)
      have hne : Nonempty X0 := ⟨HD0.out.choose⟩
      have HTT := hid hT
      have j8 : ∀ y, (W y).cell? ⟨l.p, 8, none⟩ = some (.pointer (some ⟨l.f, 0, none⟩)) := fun y => by obtain ⟨m, e⟩ := hT y; rw [e]; exact Hc.out.m.cells.2.2.2.1
      have rl : ∀ y, (Instr.loadAt 157 (.pointer (some ⟨q, 0, none⟩))).run Tryz.prog (W y) = .ok (.agg (tnC ⟨4, 0, ps, ⟨#[]⟩, (r7 : Int), (ra : Int), 0, 0⟩).toArray) (W y) := fun y => load_info_tn (Hc.out.bn.drew (hT y))
      dsimp only [tnC] at rl
      have Hrl := hid rl
      clear hT hI rl
      go_upto_region 54 with fail
      refine wp_region_class_tailT W 5 (by kernel_rfl) (by kernel_rfl) (by kernel_rfl) HD0.out ?_
      dsimp only [List.take, List.drop]
      repeat (first | (go_big_quiet_want; refine quiet_loadO 157 _ rfl ⟨q, 0, none⟩ rfl _ (fun w hx => by obtain ⟨x, rfl⟩ := hx; exact Hrl.out x) ?_; simp only [Act.put, List.setIfInBounds_toArray, List.set_cons_succ, List.set_cons_zero]; go_big_quiet_on) | go_big_quiet_step (fail))
      refine wpQuiet_nil ?_
      intro z
      have HZ := hid (Hc.out.below ((HTT.out z).below _))
      generalize W z = wz at HZ ⊢
      clear j8 Hrl HD0 HTT Hc
      have HE := hid (addTW HZ.out.m.r ⟨4, 0, ps, ⟨#[]⟩, (r7 : Int), (ra : Int), 0, 0⟩ (by have := (PB.len (HPBc.out) HZ.out.m.ok).1; exact this))
      dsimp only [tnC] at HE
      go_wp2_with fail
      refine HE.out.mono ?_
      rintro e wy ⟨rfl, hry⟩
      have HG : Hid (PGo N mg ρ w l bs (PS.addT (Sa.sht bs l.n) ⟨4, 0, ps, ⟨#[]⟩, (r7 : Int), (ra : Int), 0, 0⟩) wy) := hid (by
        obtain ⟨ρ4, h1, h2⟩ := hry.out
        obtain ⟨h3, h4⟩ := HZ.out.m.setF h1 h2
        exact PGo.pre' HZ.out.f ⟨ρ4, h3, h4⟩)
      clear HE hry HZ
      go_wp2
      go_ret2
      exact .inl ⟨_, _, rfl, HP, HG⟩
  have q24 : ((kd : Int) == 24) = false := by simp; omega
  have q25 : ((kd : Int) == 25) = false := by simp; omega
  by_cases hb : kd = 26 ∨ kd = 27
  · by_cases hka : kd = 26
    · as_aux_lemma =>
      have Hke : Hid (S.tok.kind = 26) := hid (by rw [Hkd.out]; omega)
      have Hkv : Hid (S.tok.kind = 26 ∨ S.tok.kind = 27) := hid (by rw [Hkd.out]; omega)
      have q26 : ((kd : Int) == 26) = true := by simp; omega
      have q27 : ((kd : Int) == 27) = false := by simp; omega
      clear h4 h29 h24 hv hb hka
      have e0 : w3.cell? ⟨q, 0, none⟩ = some (.int .u8 0) := (H2.out.nc 0).1
      have f0 : w3.frozen? ⟨q, 0, none⟩ = false := (H2.out.nc 0).2
      have H3 := hid (H2.out.set (x' := ⟨5, 0, ps, ⟨#[]⟩, -1, -1, 0, 0⟩) 0 (.int .u8 5) rfl)
      have k0' : (w3.setCell ⟨q, 0, none⟩ (.int .u8 5)).cell? ⟨p, 0, none⟩ = some (.int .u8 (kd : Int)) := H3.out.tc.1
      go_upto_region 41 with fail
      generalize hw4 : w3.setCell _ _ = w4 at H3 ⊢
      clear hw4 e0 f0 k0'
      clear H2 k0 k1 k2
      have HA := hid (advW H3.out.m Hk2.out)
      go_wp2_with fail
      refine HA.out.mono ?_
      rintro e w5 ⟨rfl, hg5⟩
      obtain ⟨ρ5, h5⟩ := H3.out.go hg5.out
      have H5 := hid h5
      clear HA hg5 h5 H3
      by_cases h10 : (S.adv bs l.n).tok.kind = 10
      rotate_left
      · as_aux_lemma =>
        have HP : Hid (Prs bs l.n .typ S (.bad (S.adv bs l.n).unx)) := hid (Prs.brk Hkr.out.1 Hkr.out.2 h10)
        have HU := hid (openN H5.out.m h10 (by decide))
        go_wp2_with fail
        refine HU.out.mono ?_
        rintro e w6 ⟨rfl, hn6⟩
        have HN := hid (H5.out.no hn6.out)
        clear HU hn6 H5
        go_wp2
        go_ret2
        exact .inr ⟨_, _, rfl, HP, HN⟩
      have H10 := hid h10
      clear h10
      by_cases hdp : d < 32
      rotate_left
      · as_aux_lemma =>
        have HP : Hid (Prs bs l.n .typ S (.bad (5, (S.adv bs l.n).tok.pos))) := hid (Prs.brkD Hkr.out.1 Hkr.out.2 H10.out (by rw [Hd.out]; omega))
        have HU := hid (openD H5.out.m H10.out (show 32 ≤ S.depth by rw [Hd.out]; omega))
        go_wp2_with fail
        refine HU.out.mono ?_
        rintro e w6 ⟨rfl, hn6⟩
        have HN := hid (H5.out.no hn6.out)
        clear HU hn6 H5
        go_wp2
        go_ret2
        exact .inr ⟨_, _, rfl, HP, HN⟩
      have Hdl : Hid (S.depth < 32) := hid (by rw [Hd.out]; exact hdp)
      have HU := hid (openY H5.out.m H10.out (by decide) (show (S.adv bs l.n).depth < 32 from Hdl.out))
      go_wp2_with fail
      refine HU.out.mono ?_
      rintro e w6 ⟨rfl, hg6⟩
      obtain ⟨ρ6, h6⟩ := H5.out.go hg6.out
      have H6 := hid h6
      clear HU hg6 h6 H5
      have HPB6 : Hid (PB ((S.adv bs l.n).opn bs l.n)) := hid (PB.opn (PB.adv HPB.out))
      have HX := hid (parseExprX H6.out.m HPB6.out)
      have e5 : ∀ wz : World, True := fun _ => trivial
      go_wp2_with fail
      refine HX.out.mono ?_
      rintro e wa (⟨Sa, ra, rfl, HPa, hga⟩ | ⟨ka, ra, rfl, HPa, hna⟩)
      rotate_left
      · as_aux_lemma =>
        have HP : Hid (Prs bs l.n .typ S (.bad ka)) := hid (Prs.bits (o := .bad ka) Hkv.out H10.out Hdl.out HPa.out)
        have Ha := hid (H6.out.noT hna.out)
        clear HX hna e5
        obtain ⟨ca, fa⟩ := Ha.out.2 5 (by decide)
        obtain ⟨va, ca⟩ := ca
        have HN := hid (Ha.out.1 5 (.int .i32 ra))
        clear Ha H6
        go_wp2
        go_ret2
        exact .inr ⟨_, _, rfl, HP, HN⟩
      have hmv : Mv ((S.adv bs l.n).opn bs l.n) Sa 1 0 := HPa.out.mv
      obtain ⟨ρa, ha⟩ := H6.out.go hga.out
      have Ha := hid ha
      have HPBa := hid (PB.mv HPB6.out hmv)
      have hda : 1 ≤ Sa.depth := by rw [hmv.d]; show 1 ≤ S.depth + 1; omega
      clear HX hga ha hmv H6 e5
      have c5 : wa.cell? ⟨q, 5, none⟩ = some (.int .i32 (-1)) := (Ha.out.nc 5).1
      have f5 : wa.frozen? ⟨q, 5, none⟩ = false := (Ha.out.nc 5).2
      have Hb := hid (Ha.out.set (x' := ⟨5, 0, ps, ⟨#[]⟩, -1, (ra : Int), 0, 0⟩) 5 (.int .i32 (ra : Int)) rfl)
      go_upto_region 47 with fail
      generalize hwb : wa.setCell _ _ = wb at Hb ⊢
      clear hwb c5 f5 Ha
      by_cases h11 : Sa.tok.kind = 11
      rotate_left
      · as_aux_lemma =>
        have HP : Hid (Prs bs l.n .typ S (.bad Sa.unx)) := hid (by
          have := Prs.bits (o := .ok Sa ra) Hkv.out H10.out Hdl.out HPa.out
          unfold Out.shut at this
          dsimp only at this
          rw [if_neg h11] at this
          exact this)
        have HU := hid (shutN Hb.out.m h11 (by decide))
        go_wp2_with fail
        refine HU.out.mono ?_
        rintro e wc ⟨rfl, hnc⟩
        have HN := hid (Hb.out.no hnc.out)
        clear HU hnc Hb
        go_wp2
        go_ret2
        exact .inr ⟨_, _, rfl, HP, HN⟩
      have HP : Hid (Prs bs l.n .typ S (.ok (PS.addT (Sa.sht bs l.n) ⟨5, 0, ps, ⟨#[]⟩, -1, (ra : Int), 0, 0⟩) (Sa.sht bs l.n).fs.types.length)) := hid (by
        have := Prs.bits (o := .ok Sa ra) Hkv.out H10.out Hdl.out HPa.out
        unfold Out.shut at this
        dsimp only at this
        rw [if_pos h11, Hke.out, HTk.out] at this
        exact this)
      have HU := hid (shutY Hb.out.m h11 (by decide) hda)
      clear h11
      go_wp2_with fail
      refine HU.out.mono ?_
      rintro e wc ⟨rfl, hgc⟩
      obtain ⟨ρc, hc⟩ := Hb.out.go hgc.out
      have Hc := hid hc
      have HPBc : Hid (PB (Sa.sht bs l.n)) := hid (by
        obtain ⟨h1, h2⟩ := HPBa.out
        exact ⟨by show Sa.fs.types.length + Sa.fs.exprs.length ≤ Sa.used + 1; omega, by show Sa.fs.opts.length ≤ Sa.used + 1; omega⟩)
      clear HU hgc hc Hb
      obtain ⟨X0, W, hT, hI⟩ := class_mk (fun w' => Drew wc w')
      have HD0 : Hid (∃ y, wc.drew = W y) := hid (hI _ ⟨1, rfl⟩)
      have hne : Nonempty X0 := ⟨HD0.out.choose⟩
      have HTT := hid hT
      have j8 : ∀ y, (W y).cell? ⟨l.p, 8, none⟩ = some (.pointer (some ⟨l.f, 0, none⟩)) := fun y => by obtain ⟨m, e⟩ := hT y; rw [e]; exact Hc.out.m.cells.2.2.2.1
      have rl : ∀ y, (Instr.loadAt 157 (.pointer (some ⟨q, 0, none⟩))).run Tryz.prog (W y) = .ok (.agg (tnC ⟨5, 0, ps, ⟨#[]⟩, -1, (ra : Int), 0, 0⟩).toArray) (W y) := fun y => load_info_tn (Hc.out.bn.drew (hT y))
      dsimp only [tnC] at rl
      have Hrl := hid rl
      clear hT hI rl
      go_upto_region 54 with fail
      refine wp_region_class_tailT W 5 (by kernel_rfl) (by kernel_rfl) (by kernel_rfl) HD0.out ?_
      dsimp only [List.take, List.drop]
      repeat (first | (go_big_quiet_want; refine quiet_loadO 157 _ rfl ⟨q, 0, none⟩ rfl _ (fun w hx => by obtain ⟨x, rfl⟩ := hx; exact Hrl.out x) ?_; simp only [Act.put, List.setIfInBounds_toArray, List.set_cons_succ, List.set_cons_zero]; go_big_quiet_on) | go_big_quiet_step (fail))
      refine wpQuiet_nil ?_
      intro z
      have HZ := hid (Hc.out.below ((HTT.out z).below _))
      generalize W z = wz at HZ ⊢
      clear j8 Hrl HD0 HTT Hc
      have HE := hid (addTW HZ.out.m.r ⟨5, 0, ps, ⟨#[]⟩, -1, (ra : Int), 0, 0⟩ (by have := (PB.len (HPBc.out) HZ.out.m.ok).1; exact this))
      dsimp only [tnC] at HE
      go_wp2_with fail
      refine HE.out.mono ?_
      rintro e wy ⟨rfl, hry⟩
      have HG : Hid (PGo N mg ρ w l bs (PS.addT (Sa.sht bs l.n) ⟨5, 0, ps, ⟨#[]⟩, -1, (ra : Int), 0, 0⟩) wy) := hid (by
        obtain ⟨ρ4, h1, h2⟩ := hry.out
        obtain ⟨h3, h4⟩ := HZ.out.m.setF h1 h2
        exact PGo.pre' HZ.out.f ⟨ρ4, h3, h4⟩)
      clear HE hry HZ
      go_wp2
      go_ret2
      exact .inl ⟨_, _, rfl, HP, HG⟩
    · as_aux_lemma =>
      have hkb : kd = 27 := by omega
      have Hke : Hid (S.tok.kind = 27) := hid (by rw [Hkd.out]; omega)
      have Hkv : Hid (S.tok.kind = 26 ∨ S.tok.kind = 27) := hid (by rw [Hkd.out]; omega)
      have q27 : ((kd : Int) == 27) = true := by simp; omega
      have q26 : ((kd : Int) == 26) = false := by simp; omega
      clear h4 h29 h24 hv hb hka hkb
      have e0 : w3.cell? ⟨q, 0, none⟩ = some (.int .u8 0) := (H2.out.nc 0).1
      have f0 : w3.frozen? ⟨q, 0, none⟩ = false := (H2.out.nc 0).2
      have H3 := hid ((H2.out.set (x' := ⟨5, 0, ps, ⟨#[]⟩, -1, -1, 0, 0⟩) 0 (.int .u8 5) rfl).set (x' := ⟨6, 0, ps, ⟨#[]⟩, -1, -1, 0, 0⟩) 0 (.int .u8 6) rfl)
      have k0' : (w3.setCell ⟨q, 0, none⟩ (.int .u8 5)).cell? ⟨p, 0, none⟩ = some (.int .u8 (kd : Int)) := (H2.out.set (x' := ⟨5, 0, ps, ⟨#[]⟩, -1, -1, 0, 0⟩) 0 (.int .u8 5) rfl).tc.1
      have e0' : (w3.setCell ⟨q, 0, none⟩ (.int .u8 5)).cell? ⟨q, 0, none⟩ = some (.int .u8 5) := ((H2.out.set (x' := ⟨5, 0, ps, ⟨#[]⟩, -1, -1, 0, 0⟩) 0 (.int .u8 5) rfl).nc 0).1
      go_upto_region 41 with fail
      generalize hw4 : World.setCell (World.setCell _ _ _) _ _ = w4 at H3 ⊢
      clear hw4 e0 f0 k0' e0'
      clear H2 k0 k1 k2
      have HA := hid (advW H3.out.m Hk2.out)
      go_wp2_with fail
      refine HA.out.mono ?_
      rintro e w5 ⟨rfl, hg5⟩
      obtain ⟨ρ5, h5⟩ := H3.out.go hg5.out
      have H5 := hid h5
      clear HA hg5 h5 H3
      by_cases h10 : (S.adv bs l.n).tok.kind = 10
      rotate_left
      · as_aux_lemma =>
        have HP : Hid (Prs bs l.n .typ S (.bad (S.adv bs l.n).unx)) := hid (Prs.brk Hkr.out.1 Hkr.out.2 h10)
        have HU := hid (openN H5.out.m h10 (by decide))
        go_wp2_with fail
        refine HU.out.mono ?_
        rintro e w6 ⟨rfl, hn6⟩
        have HN := hid (H5.out.no hn6.out)
        clear HU hn6 H5
        go_wp2
        go_ret2
        exact .inr ⟨_, _, rfl, HP, HN⟩
      have H10 := hid h10
      clear h10
      by_cases hdp : d < 32
      rotate_left
      · as_aux_lemma =>
        have HP : Hid (Prs bs l.n .typ S (.bad (5, (S.adv bs l.n).tok.pos))) := hid (Prs.brkD Hkr.out.1 Hkr.out.2 H10.out (by rw [Hd.out]; omega))
        have HU := hid (openD H5.out.m H10.out (show 32 ≤ S.depth by rw [Hd.out]; omega))
        go_wp2_with fail
        refine HU.out.mono ?_
        rintro e w6 ⟨rfl, hn6⟩
        have HN := hid (H5.out.no hn6.out)
        clear HU hn6 H5
        go_wp2
        go_ret2
        exact .inr ⟨_, _, rfl, HP, HN⟩
      have Hdl : Hid (S.depth < 32) := hid (by rw [Hd.out]; exact hdp)
      have HU := hid (openY H5.out.m H10.out (by decide) (show (S.adv bs l.n).depth < 32 from Hdl.out))
      go_wp2_with fail
      refine HU.out.mono ?_
      rintro e w6 ⟨rfl, hg6⟩
      obtain ⟨ρ6, h6⟩ := H5.out.go hg6.out
      have H6 := hid h6
      clear HU hg6 h6 H5
      have HPB6 : Hid (PB ((S.adv bs l.n).opn bs l.n)) := hid (PB.opn (PB.adv HPB.out))
      have HX := hid (parseExprX H6.out.m HPB6.out)
      have e5 : ∀ wz : World, True := fun _ => trivial
      go_wp2_with fail
      refine HX.out.mono ?_
      rintro e wa (⟨Sa, ra, rfl, HPa, hga⟩ | ⟨ka, ra, rfl, HPa, hna⟩)
      rotate_left
      · as_aux_lemma =>
        have HP : Hid (Prs bs l.n .typ S (.bad ka)) := hid (Prs.bits (o := .bad ka) Hkv.out H10.out Hdl.out HPa.out)
        have Ha := hid (H6.out.noT hna.out)
        clear HX hna e5
        obtain ⟨ca, fa⟩ := Ha.out.2 5 (by decide)
        obtain ⟨va, ca⟩ := ca
        have HN := hid (Ha.out.1 5 (.int .i32 ra))
        clear Ha H6
        go_wp2
        go_ret2
        exact .inr ⟨_, _, rfl, HP, HN⟩
      have hmv : Mv ((S.adv bs l.n).opn bs l.n) Sa 1 0 := HPa.out.mv
      obtain ⟨ρa, ha⟩ := H6.out.go hga.out
      have Ha := hid ha
      have HPBa := hid (PB.mv HPB6.out hmv)
      have hda : 1 ≤ Sa.depth := by rw [hmv.d]; show 1 ≤ S.depth + 1; omega
      clear HX hga ha hmv H6 e5
      have c5 : wa.cell? ⟨q, 5, none⟩ = some (.int .i32 (-1)) := (Ha.out.nc 5).1
      have f5 : wa.frozen? ⟨q, 5, none⟩ = false := (Ha.out.nc 5).2
      have Hb := hid (Ha.out.set (x' := ⟨6, 0, ps, ⟨#[]⟩, -1, (ra : Int), 0, 0⟩) 5 (.int .i32 (ra : Int)) rfl)
      go_upto_region 47 with fail
      generalize hwb : wa.setCell _ _ = wb at Hb ⊢
      clear hwb c5 f5 Ha
      by_cases h11 : Sa.tok.kind = 11
      rotate_left
      · as_aux_lemma =>
        have HP : Hid (Prs bs l.n .typ S (.bad Sa.unx)) := hid (by
          have := Prs.bits (o := .ok Sa ra) Hkv.out H10.out Hdl.out HPa.out
          unfold Out.shut at this
          dsimp only at this
          rw [if_neg h11] at this
          exact this)
        have HU := hid (shutN Hb.out.m h11 (by decide))
        go_wp2_with fail
        refine HU.out.mono ?_
        rintro e wc ⟨rfl, hnc⟩
        have HN := hid (Hb.out.no hnc.out)
        clear HU hnc Hb
        go_wp2
        go_ret2
        exact .inr ⟨_, _, rfl, HP, HN⟩
      have HP : Hid (Prs bs l.n .typ S (.ok (PS.addT (Sa.sht bs l.n) ⟨6, 0, ps, ⟨#[]⟩, -1, (ra : Int), 0, 0⟩) (Sa.sht bs l.n).fs.types.length)) := hid (by
        have := Prs.bits (o := .ok Sa ra) Hkv.out H10.out Hdl.out HPa.out
        unfold Out.shut at this
        dsimp only at this
        rw [if_pos h11, Hke.out, HTk.out] at this
        exact this)
      have HU := hid (shutY Hb.out.m h11 (by decide) hda)
      clear h11
      go_wp2_with fail
      refine HU.out.mono ?_
      rintro e wc ⟨rfl, hgc⟩
      obtain ⟨ρc, hc⟩ := Hb.out.go hgc.out
      have Hc := hid hc
      have HPBc : Hid (PB (Sa.sht bs l.n)) := hid (by
        obtain ⟨h1, h2⟩ := HPBa.out
        exact ⟨by show Sa.fs.types.length + Sa.fs.exprs.length ≤ Sa.used + 1; omega, by show Sa.fs.opts.length ≤ Sa.used + 1; omega⟩)
      clear HU hgc hc Hb
      obtain ⟨X0, W, hT, hI⟩ := class_mk (fun w' => Drew wc w')
      have HD0 : Hid (∃ y, wc.drew = W y) := hid (hI _ ⟨1, rfl⟩)
      have hne : Nonempty X0 := ⟨HD0.out.choose⟩
      have HTT := hid hT
      have j8 : ∀ y, (W y).cell? ⟨l.p, 8, none⟩ = some (.pointer (some ⟨l.f, 0, none⟩)) := fun y => by obtain ⟨m, e⟩ := hT y; rw [e]; exact Hc.out.m.cells.2.2.2.1
      have rl : ∀ y, (Instr.loadAt 157 (.pointer (some ⟨q, 0, none⟩))).run Tryz.prog (W y) = .ok (.agg (tnC ⟨6, 0, ps, ⟨#[]⟩, -1, (ra : Int), 0, 0⟩).toArray) (W y) := fun y => load_info_tn (Hc.out.bn.drew (hT y))
      dsimp only [tnC] at rl
      have Hrl := hid rl
      clear hT hI rl
      go_upto_region 54 with fail
      refine wp_region_class_tailT W 5 (by kernel_rfl) (by kernel_rfl) (by kernel_rfl) HD0.out ?_
      dsimp only [List.take, List.drop]
      repeat (first | (go_big_quiet_want; refine quiet_loadO 157 _ rfl ⟨q, 0, none⟩ rfl _ (fun w hx => by obtain ⟨x, rfl⟩ := hx; exact Hrl.out x) ?_; simp only [Act.put, List.setIfInBounds_toArray, List.set_cons_succ, List.set_cons_zero]; go_big_quiet_on) | go_big_quiet_step (fail))
      refine wpQuiet_nil ?_
      intro z
      have HZ := hid (Hc.out.below ((HTT.out z).below _))
      generalize W z = wz at HZ ⊢
      clear j8 Hrl HD0 HTT Hc
      have HE := hid (addTW HZ.out.m.r ⟨6, 0, ps, ⟨#[]⟩, -1, (ra : Int), 0, 0⟩ (by have := (PB.len (HPBc.out) HZ.out.m.ok).1; exact this))
      dsimp only [tnC] at HE
      go_wp2_with fail
      refine HE.out.mono ?_
      rintro e wy ⟨rfl, hry⟩
      have HG : Hid (PGo N mg ρ w l bs (PS.addT (Sa.sht bs l.n) ⟨6, 0, ps, ⟨#[]⟩, -1, (ra : Int), 0, 0⟩) wy) := hid (by
        obtain ⟨ρ4, h1, h2⟩ := hry.out
        obtain ⟨h3, h4⟩ := HZ.out.m.setF h1 h2
        exact PGo.pre' HZ.out.f ⟨ρ4, h3, h4⟩)
      clear HE hry HZ
      go_wp2
      go_ret2
      exact .inl ⟨_, _, rfl, HP, HG⟩
  as_aux_lemma =>
  have q26 : ((kd : Int) == 26) = false := by simp; omega
  have q27 : ((kd : Int) == 27) = false := by simp; omega
  have h28 : kd = 28 := by omega
  have q28 : ((kd : Int) == 28) = true := by simp; omega
  have H28 : Hid (S.tok.kind = 28) := hid (by rw [Hkd.out]; exact h28)
  clear h4 h29 h24 hv hb h28
  have e0 : w3.cell? ⟨q, 0, none⟩ = some (.int .u8 0) := (H2.out.nc 0).1
  have f0 : w3.frozen? ⟨q, 0, none⟩ = false := (H2.out.nc 0).2
  have H3 := hid (H2.out.set (x' := ⟨7, 0, ps, ⟨#[]⟩, -1, -1, 0, 0⟩) 0 (.int .u8 7) rfl)
  go_upto_region 51 with fail
  generalize hw4 : w3.setCell _ _ = w4 at H3 ⊢
  clear hw4 e0 f0 H2 k0 k1 k2
  have HA := hid (advW H3.out.m Hk2.out)
  go_wp2_with fail
  refine HA.out.mono ?_
  rintro e w5 ⟨rfl, hg5⟩
  obtain ⟨ρ5, h5⟩ := H3.out.go hg5.out
  have H5 := hid h5
  clear HA hg5 h5 H3
  have HOp := hid (parseOptionsW (q := q) d IH.out H28.out H5.out.m HPB.out Hd.out (by rw [HTk.out]; exact H5.out.bn) H5.out.zn H5.out.lq H5.out.f.size H5.out.hN H5.out.hs)
  go_wp2_with fail
  refine HOp.out.mono ?_
  rintro e w6 (⟨S6, lo, hi, rfl, HP, h6⟩ | ⟨k6, rfl, HP, hn6⟩)
  rotate_left
  · as_aux_lemma =>
    have HN := hid (H5.out.noQ hn6.out)
    clear HOp hn6 H5
    go_wp2
    go_ret2
    exact .inr ⟨_, _, rfl, HP, HN⟩
  obtain ⟨ρ6, g1, g2, g3, g4⟩ := h6.out
  have H6 := hid (H5.out.goQ g1 g2 g3 g4)
  have HPB6 : Hid (PB (PS.addT S6 ⟨7, 0, S.tok.pos, ⟨#[]⟩, -1, -1, lo, hi⟩)) := hid (by
    have hm : Mv S (PS.addT S6 ⟨7, 0, S.tok.pos, ⟨#[]⟩, -1, -1, lo, hi⟩) 1 0 := HP.out.mv
    exact HPB.out.mv hm)
  have HPB7 : Hid (PB S6) := hid (by
    obtain ⟨h1, h2⟩ := HPB6.out
    refine ⟨?_, h2⟩
    have h1 : (S6.fs.types ++ [_]).length + S6.fs.exprs.length ≤ S6.used := h1
    rw [List.length_append, List.length_singleton] at h1
    omega)
  rw [HTk.out] at H6 HP
  dsimp only at H6 HP
  clear HOp h6 H5 g1 g2 g3 g4
  obtain ⟨X0, W, hT, hI⟩ := class_mk (fun w' => Drew w6 w')
  have HD0 : Hid (∃ y, w6.drew = W y) := hid (hI _ ⟨1, rfl⟩)
  have hne : Nonempty X0 := ⟨HD0.out.choose⟩
  have HTT := hid hT
  have j8 : ∀ y, (W y).cell? ⟨l.p, 8, none⟩ = some (.pointer (some ⟨l.f, 0, none⟩)) := fun y => by obtain ⟨m, e⟩ := hT y; rw [e]; exact H6.out.m.cells.2.2.2.1
  have rl : ∀ y, (Instr.loadAt 157 (.pointer (some ⟨q, 0, none⟩))).run Tryz.prog (W y) = .ok (.agg (tnC ⟨7, 0, ps, ⟨#[]⟩, -1, -1, lo, hi⟩).toArray) (W y) := fun y => load_info_tn (H6.out.bn.drew (hT y))
  dsimp only [tnC] at rl
  have Hrl := hid rl
  clear hT hI rl
  go_upto_region 54 with fail
  refine wp_region_class_tailT W 5 (by kernel_rfl) (by kernel_rfl) (by kernel_rfl) HD0.out ?_
  dsimp only [List.take, List.drop]
  repeat (first | (go_big_quiet_want; refine quiet_loadO 157 _ rfl ⟨q, 0, none⟩ rfl _ (fun w hx => by obtain ⟨x, rfl⟩ := hx; exact Hrl.out x) ?_; simp only [Act.put, List.setIfInBounds_toArray, List.set_cons_succ, List.set_cons_zero]; go_big_quiet_on) | go_big_quiet_step (fail))
  refine wpQuiet_nil ?_
  intro z
  have HZ := hid (H6.out.below ((HTT.out z).below _))
  generalize W z = wz at HZ ⊢
  clear j8 Hrl HD0 HTT H6
  have HE := hid (addTW HZ.out.m.r ⟨7, 0, ps, ⟨#[]⟩, -1, -1, lo, hi⟩ (by have := (PB.len (HPB7.out) HZ.out.m.ok).1; exact this))
  dsimp only [tnC] at HE
  go_wp2_with fail
  refine HE.out.mono ?_
  rintro e wy ⟨rfl, hry⟩
  have HG : Hid (PGo N mg ρ w l bs (PS.addT (S6) ⟨7, 0, ps, ⟨#[]⟩, -1, -1, lo, hi⟩) wy) := hid (by
    obtain ⟨ρ4, h1, h2⟩ := hry.out
    obtain ⟨h3, h4⟩ := HZ.out.m.setF h1 h2
    exact PGo.pre' HZ.out.f ⟨ρ4, h3, h4⟩)
  clear HE hry HZ
  go_wp2
  go_ret2
  exact .inl ⟨_, _, rfl, HP, HG⟩
/-- Types at every depth. -/
theorem types_ok (N mg : Nat) (l : PL) (bs : List UInt8) : ∀ k d : Nat, d + k = 33 → ExC 113 N mg l bs .typ d
  | 0, d, h => fun ρ w S hm _ hd => absurd hm.ok.hd (by omega)
  | k + 1, d, h => parseTypeW d (fun _ => types_ok N mg l bs k (d + 1) (by omega))
theorem parseTypeX (h : PM N mg ρ w l bs S) (hb : PB S) : Calls Tryz.prog 113 #[.pointer (some ⟨l.p, 0, none⟩)] w (ExQ N mg ρ w l bs .typ S) :=
  types_ok N mg l bs (33 - S.depth) S.depth (by have := h.ok.hd; omega) ρ w S h hb rfl
end
end Go.Proofs.Qxb6500883aGreatDoor
