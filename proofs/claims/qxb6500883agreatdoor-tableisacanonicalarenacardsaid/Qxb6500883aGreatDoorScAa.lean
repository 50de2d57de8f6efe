/- parseAtom (written by tools/mk_scaa.py). -/
import Derived.Test.Qxb6500883aGreatDoorScZ
namespace Go.Proofs.Qxb6500883aGreatDoor
open Go.RowKit
set_option linter.unusedSimpArgs false
set_option linter.unusedVariables false
/-- What a function that reads an expression or a type comes to. -/
def ExQ (N mg : Nat) (ρ : Rl) (w : World) (l : PL) (bs : List UInt8) (nt : Nt) (S : PS) (e : Ending) (w' : World) : Prop :=
  (∃ (S' : PS) (r : Nat), e = .returned (.tuple #[.int .i32 (r : Int), .bool true]) ∧ Hid (Prs bs l.n nt S (.ok S' r)) ∧ Hid (PGo N mg ρ w l bs S' w')) ∨
  (∃ (k : Nat × Nat) (r : Int), e = .returned (.tuple #[.int .i32 r, .bool false]) ∧ Hid (Prs bs l.n nt S (.bad k)) ∧ Hid (PNo N mg ρ w l bs k w'))
/-- The contract of such a function, at a depth. -/
def ExC (f : FuncId) (N mg : Nat) (l : PL) (bs : List UInt8) (nt : Nt) (d : Nat) : Prop :=
  ∀ (ρ : Rl) (w : World) (S : PS), PM N mg ρ w l bs S → PB S → S.depth = d → Calls Tryz.prog f #[.pointer (some ⟨l.p, 0, none⟩)] w (ExQ N mg ρ w l bs nt S)
section
variable {N mg : Nat} {ρ ρ' : Rl} {w w' w1 w2 : World} {l : PL} {bs : List UInt8} {S S' : PS}
theorem PB.len (h : PB S) {m : Nat} (hk : POk m S) : S.fs.types.length ≤ 65536 ∧ S.fs.exprs.length ≤ 65536 ∧ S.fs.opts.length ≤ 65536 := by
  have h1 := h.n
  have h2 := h.o
  have h3 := hk.hu
  have h4 := hk.hc
  omega
theorem PB.adv (h : PB S) : PB (S.adv bs l.n) := h.mv (Mv.adv S)
theorem PB.opn (h : PB S) : PB (S.opn bs l.n) := by
  obtain ⟨h1, h2⟩ := h
  exact ⟨by show S.fs.types.length + S.fs.exprs.length ≤ S.used + 1; omega, by show S.fs.opts.length ≤ S.used + 1; omega⟩
theorem TkB.load {p : Nat} {t : Tk} {w1 : World} (h : Blk w1 p 112 (tkC t)) : (Instr.loadAt 112 (.pointer (some ⟨p, 0, none⟩))).run Tryz.prog w1 = .ok (.agg (tkC t).toArray) w1 := run_loadAt_mid w1 p 0 112 (tkC t) _ h.rangeAt Tryz.underlying112 rfl info_tk
set_option maxRecDepth 100000 in
set_option maxHeartbeats 4000000 in
theorem parseAtomW (d : Nat) (ih : d < 32 → ExC 112 N mg l bs .expr (d + 1)) : ExC 156 N mg l bs .atom d := by
  intro ρ w S h hB hd
  have IH := hid ih
  have I0 := hid info_tk
  have HM := hid h
  have HPB := hid hB
  have Hd := hid hd
  obtain ⟨_, c3, c4, _⟩ := h.cells
  obtain ⟨c5, c6, c7⟩ := h.cells'
  have HO := hid (tkC_one S.tok)
  have HTO := hid h.ok.tk
  have HN1 : Hid (Below w.heap.size w (w.alloc (.cells #[.int .u8 0, .int .i64 0, .int .i64 0, .int .i64 0, .int .u64 0] 112)) ∧ Blk (w.alloc (.cells #[.int .u8 0, .int .i64 0, .int .i64 0, .int .i64 0, .int .u64 0] 112)) w.heap.size 112 [.int .u8 0, .int .i64 0, .int .i64 0, .int .i64 0, .int .u64 0]) := hid ⟨nbel w _, Blk.new w [.int .u8 0, .int .i64 0, .int .i64 0, .int .i64 0, .int .u64 0] 112⟩
  obtain ⟨kd, hkd⟩ : ∃ k, S.tok.kind = k := ⟨_, rfl⟩
  obtain ⟨ps, hps⟩ : ∃ k, S.tok.pos = k := ⟨_, rfl⟩
  obtain ⟨en, hen⟩ : ∃ k, S.tok.en = k := ⟨_, rfl⟩
  obtain ⟨bd, hbd⟩ : ∃ k, S.tok.bad = k := ⟨_, rfl⟩
  obtain ⟨vl, hvl⟩ : ∃ k, S.tok.val = k := ⟨_, rfl⟩
  have HTk : Hid (S.tok = ⟨kd, ps, en, bd, vl⟩) := hid (by rw [← hkd, ← hps, ← hen, ← hbd, ← hvl])
  rw [hkd] at c3
  rw [hps] at c4
  rw [hen] at c5
  rw [hbd] at c6
  rw [hvl] at c7
  rw [HTk.out] at HO HTO
  clear h hB hd ih hkd hps hen hbd hvl
  go_enter Tryz.func156, Tryz.ntmps156
  go_upto_region 2 with (refine wpList_store_blk rfl 112 _ _ rfl w.heap.size rfl [.int .u8 (kd : Int), .int .i64 (ps : Int), .int .i64 (en : Int), .int .i64 (bd : Int), .int .u64 (vl : Int)] rfl HN1.out.2 rfl I0.out HO.out ?_; intro w1 HB1 HU1)
  have H1 : Hid (TkB N mg ρ w l bs S w.heap.size ⟨kd, ps, en, bd, vl⟩ ρ w1) := hid (TkB.start HM.out (HN1.out.1.trans (HU1.out.below (Nat.le_refl _) HN1.out.1.size)) (Nat.le_refl _) HB1.out)
  generalize w.heap.size = p at H1 ⊢
  clear HB1 HU1 HN1 HO HM c3 c4 c5 c6 c7
  obtain ⟨k0, k1, k2, k3, k4⟩ := H1.out.cells
  dsimp only at k0 k1 k2 k3 k4
  by_cases h5 : kd = 5
  · as_aux_lemma =>
    have q5 : ((kd : Int) == 5) = true := by simp; omega
    have HP : Hid (Prs bs l.n .atom S (.ok ((S.adv bs l.n).addE ⟨0, ps, vl, ⟨#[]⟩, -1, -1⟩) S.fs.exprs.length)) := hid (by
      have := Prs.num (bs := bs) (n := l.n) (S := S) (by rw [HTk.out]; exact h5)
      rw [HTk.out] at this
      exact this)
    have HA := hid (advW H1.out.m (by rw [HTk.out]; show 2 ≤ kd; omega))
    clear h5 k1 k2 k3 k4
    go_wp2_with fail
    refine HA.out.mono ?_
    rintro e w2 ⟨rfl, hg2⟩
    obtain ⟨ρ2, h2⟩ := H1.out.go hg2.out
    have H2 := hid h2
    clear h2 hg2 HA H1
    obtain ⟨_, k1, k2, _, k4⟩ := H2.out.cells
    dsimp only at k1 k2 k4
    obtain ⟨X0, W, hT, hI⟩ := class_mk (fun w' => Drew w2 w')
    have H0 : Hid (∃ y, w2.drew = W y) := hid (hI _ ⟨1, rfl⟩)
    have hne : Nonempty X0 := ⟨H0.out.choose⟩
    have HTT := hid hT
    have j1 : ∀ y, (W y).cell? ⟨p, 1, none⟩ = some (.int .i64 (ps : Int)) := fun y => by obtain ⟨m, e⟩ := hT y; rw [e]; exact k1
    have j4 : ∀ y, (W y).cell? ⟨p, 4, none⟩ = some (.int .u64 (vl : Int)) := fun y => by obtain ⟨m, e⟩ := hT y; rw [e]; exact k4
    have j8 : ∀ y, (W y).cell? ⟨l.p, 8, none⟩ = some (.pointer (some ⟨l.f, 0, none⟩)) := fun y => by obtain ⟨m, e⟩ := hT y; rw [e]; exact H2.out.m.cells.2.2.2.1
    clear hT hI k1 k2 k4
    go_upto_region 5 with fail
    refine wp_region_class_tailT W 9 (by kernel_rfl) (by kernel_rfl) (by kernel_rfl) H0.out ?_
    dsimp only [List.take, List.drop]
    repeat (go_big_quiet_step (fail))
    refine wpQuiet_nil ?_
    intro z
    have H3 := hid (H2.out.below ((HTT.out z).below _))
    generalize W z = w3 at H3 ⊢
    clear j1 j4 j8 H0 HTT H2
    have HE := hid (addEW H3.out.m.r ⟨0, ps, vl, ⟨#[]⟩, -1, -1⟩ (by have := (PB.len (PB.adv (bs := bs) (l := l) HPB.out) H3.out.m.ok).2.1; exact this))
    dsimp only [enC] at HE
    go_wp2_with fail
    refine HE.out.mono ?_
    rintro e w4 ⟨rfl, hr4⟩
    have HG : Hid (PGo N mg ρ w l bs ((S.adv bs l.n).addE ⟨0, ps, vl, ⟨#[]⟩, -1, -1⟩) w4) := hid (by
      obtain ⟨ρ4, h1, h2⟩ := hr4.out
      obtain ⟨h3, h4⟩ := H3.out.m.setF h1 h2
      exact PGo.pre' H3.out.f ⟨ρ4, h3, h4⟩)
    clear HE hr4 H3
    go_wp2
    go_ret2
    exact .inl ⟨_, _, rfl, HP, HG⟩
  have q5 : ((kd : Int) == 5) = false := by simp; omega
  by_cases h4 : kd = 4
  · as_aux_lemma =>
    have q4 : ((kd : Int) == 4) = true := by simp; omega
    have HP : Hid (Prs bs l.n .atom S (.ok ((S.adv bs l.n).addE ⟨1, ps, 0, sub bs ps en, -1, -1⟩) S.fs.exprs.length)) := hid (by
      have := Prs.name (bs := bs) (n := l.n) (S := S) (by rw [HTk.out]; exact h4)
      unfold PS.word at this
      rw [HTk.out] at this
      exact this)
    have HA := hid (advW H1.out.m (by rw [HTk.out]; show 2 ≤ kd; omega))
    have hpe : ps < en := HTO.out.f (by show 2 ≤ kd; omega)
    have hen : en ≤ l.n := HTO.out.en
    obtain ⟨hcap, _, hcm⟩ := H1.out.m.r.src.cap
    obtain ⟨b, off, ha, _, _⟩ := H1.out.m.r.src.cell (k := ps) (by omega)
    clear h5 h4 k1 k2 k3 k4
    go_wp2_with fail
    refine HA.out.mono ?_
    rintro e w2 ⟨rfl, hg2⟩
    obtain ⟨ρ2, h2⟩ := H1.out.go hg2.out
    have H2 := hid h2
    clear h2 hg2 HA H1
    obtain ⟨_, k1, k2, _, k4⟩ := H2.out.cells
    dsimp only at k1 k2 k4
    obtain ⟨k0, _⟩ := H2.out.m.cells
    rw [ha] at k0
    have hsl := slice_in (b := b) (off := off) (n := l.n) (c := l.c) hpe hen hcap hcm
    have hsr := H2.out.m.r.src
    rw [ha] at hsr
    have hst : ∀ m : Nat, (convert 28 9 (.slice (some ⟨b, off + ps, none⟩) (en - ps) (l.c - ps))).run Tryz.prog (w2.drewN m) = .ok (.string (sub bs ps en)) (w2.drewN m) := fun m => (hsr.below ((Drew.refl _).next m |>.below _)).str hpe hen rfl _
    generalize sub bs ps en = nm at hst HP
    clear hsr
    go_upto_region 8 with fail
    go_quiet (fail)
    have H2b := hid (H2.out.below ((Drew.refl w2).next nq |>.below _))
    generalize w2.drewN nq = w2b at H2b ⊢
    clear hst hsl k0 k1 k2 k4 H2
    obtain ⟨_, k1, k2, _, k4⟩ := H2b.out.cells
    dsimp only at k1 k2 k4
    obtain ⟨X0, W, hT, hI⟩ := class_mk (fun w' => Drew w2b w')
    have H0 : Hid (∃ y, w2b.drew = W y) := hid (hI _ ⟨1, rfl⟩)
    have hne : Nonempty X0 := ⟨H0.out.choose⟩
    have HTT := hid hT
    have j1 : ∀ y, (W y).cell? ⟨p, 1, none⟩ = some (.int .i64 (ps : Int)) := fun y => by obtain ⟨m, e⟩ := hT y; rw [e]; exact k1
    have j8 : ∀ y, (W y).cell? ⟨l.p, 8, none⟩ = some (.pointer (some ⟨l.f, 0, none⟩)) := fun y => by obtain ⟨m, e⟩ := hT y; rw [e]; exact H2b.out.m.cells.2.2.2.1
    clear hT hI k1 k2 k4
    go_upto_region 9 with fail
    refine wp_region_class_tailT W 8 (by kernel_rfl) (by kernel_rfl) (by kernel_rfl) H0.out ?_
    dsimp only [List.take, List.drop]
    repeat (go_big_quiet_step (fail))
    refine wpQuiet_nil ?_
    intro z
    have H3 := hid (H2b.out.below ((HTT.out z).below _))
    generalize W z = w3 at H3 ⊢
    clear j1 j8 H0 HTT H2b
    have HE := hid (addEW H3.out.m.r ⟨1, ps, 0, nm, -1, -1⟩ (by have := (PB.len (PB.adv (bs := bs) (l := l) HPB.out) H3.out.m.ok).2.1; exact this))
    dsimp only [enC] at HE
    go_wp2_with fail
    refine HE.out.mono ?_
    rintro e w4 ⟨rfl, hr4⟩
    have HG : Hid (PGo N mg ρ w l bs ((S.adv bs l.n).addE ⟨1, ps, 0, nm, -1, -1⟩) w4) := hid (by
      obtain ⟨ρ4, h1, h2⟩ := hr4.out
      obtain ⟨h3, h4⟩ := H3.out.m.setF h1 h2
      exact PGo.pre' H3.out.f ⟨ρ4, h3, h4⟩)
    clear HE hr4 H3
    go_wp2
    go_ret2
    exact .inl ⟨_, _, rfl, HP, HG⟩
  have q4 : ((kd : Int) == 4) = false := by simp; omega
  by_cases h3 : kd = 3
  · as_aux_lemma =>
    have q3 : ((kd : Int) == 3) = true := by simp; omega
    have HP : Hid (Prs bs l.n .atom S (.bad (3, bd))) := hid (by
      have := Prs.badnum (bs := bs) (n := l.n) (S := S) (by rw [HTk.out]; exact h3)
      rw [HTk.out] at this
      exact this)
    have hbn : bd ≤ l.n := HTO.out.bn
    have HBt := hid (fun (wz : World) (hz : PM N mg ρ wz l bs S) => badNumberTextW hz.r.src hz.r.gl ⟨kd, ps, en, bd, vl⟩ HTO.out h3)
    dsimp only [tkC] at HBt
    clear h5 h4 h3 k1 k2 k4
    go_upto_region 11 with fail
    refine wp_region_heavy (fun wz => TkB N mg ρ w l bs S p ⟨kd, ps, en, bd, vl⟩ ρ wz) 10 [0, 1, 2, 3, 4, 5, 6, 7, 8] [9] rfl (by kernel_rfl) (by kernel_rfl) (fun d _ _ _ _ h => by cases d <;> exact h) (H1.out.below (Drew.below ⟨1, rfl⟩ _)) ?_
    apply Exists.intro
    refine ⟨?_, ?_⟩
    · intro W hW
      have j3 : ∀ u, (W u).cell? ⟨p, 3, none⟩ = some (.int .i64 (bd : Int)) := fun u => (hW u).cells.2.2.2.1
      have jp : ∀ u, (W u).cell? ⟨l.p, 0, none⟩ = some (.slice l.a l.n l.c) := fun u => (hW u).m.cells.1
      have rl : ∀ u, (Instr.loadAt 112 (.pointer (some ⟨p, 0, none⟩))).run Tryz.prog (W u) = .ok (.agg (tkC ⟨kd, ps, en, bd, vl⟩).toArray) (W u) := fun u => TkB.load (hW u).b
      dsimp only [tkC] at rl
      have Hrl := hid rl
      clear hW rl
      simp only [List.take, opsAt, List.drop, List.cons_append, List.nil_append]
      repeat (first | (go_big_quiet_want; refine quiet_loadO 112 _ rfl ⟨p, 0, none⟩ rfl _ (fun w hx => by obtain ⟨x, rfl⟩ := hx; exact Hrl.out x) ?_; simp only [Act.put, List.setIfInBounds_toArray, List.set_cons_succ, List.set_cons_zero]; go_big_quiet_on) | go_big_quiet_step (fail))
      exact rfl
    simp only [List.take, List.drop, opsAt, List.cons_append, List.nil_append, wpHv]
    have H2 := hid (H1.out.below (Drew.below ⟨1, rfl⟩ _) (w2 := w1.drew))
    generalize w1.drew = w2 at H2 ⊢
    have HBz := hid (HBt.out w2 H2.out.m)
    go_wp2_with fail
    refine HBz.out.mono ?_
    rintro e w3 ⟨s3, rfl, hs1, hs2, hb3⟩
    have H3 := hid (H2.out.below hb3.out)
    clear hb3 HBz HBt H2 H1
    go_wp2_with fail
    refine ⟨H3.out, ?_⟩
    simp only [QN]
    have HFl := hid (failW H3.out.m 3 bd s3 hbn hs1 (by omega))
    go_wp2_with fail
    refine HFl.out.mono ?_
    rintro e w4 ⟨rfl, hn4⟩
    have HN := hid (H3.out.no hn4.out)
    clear HFl hn4 H3
    go_wp2
    go_ret2
    exact .inr ⟨_, _, rfl, HP, HN⟩
  have q3 : ((kd : Int) == 3) = false := by simp; omega
  by_cases h14 : kd = 14
  rotate_left
  · as_aux_lemma =>
    have q14 : ((kd : Int) == 14) = false := by simp; omega
    have HP : Hid (Prs bs l.n .atom S (.bad S.unx)) := hid (Prs.atomN (by rw [HTk.out]; exact h5) (by rw [HTk.out]; exact h4) (by rw [HTk.out]; exact h3) (by rw [HTk.out]; exact h14))
    have HU := hid (unexpectedW H1.out.m ⟨#[97, 32, 110, 117, 109, 98, 101, 114, 44, 32, 97, 32, 99, 111, 110, 115, 116, 97, 110, 116, 39, 115, 32, 110, 97, 109, 101, 32, 111, 114, 32, 39, 40, 39]⟩ (by decide))
    clear h5 h4 h3 h14 k1 k2 k3 k4
    go_wp2_with fail
    refine HU.out.mono ?_
    rintro e w2 ⟨rfl, hn2⟩
    have HN := hid (H1.out.no hn2.out)
    clear HU hn2 H1
    go_wp2
    go_ret2
    exact .inr ⟨_, _, rfl, HP, HN⟩
  have q14 : ((kd : Int) == 14) = true := by simp; omega
  have Hk14 : Hid (S.tok.kind = 14) := hid (by rw [HTk.out]; exact h14)
  clear h5 h4 h3 h14 k1 k2 k3 k4
  by_cases hdp : d < 32
  rotate_left
  · as_aux_lemma =>
    have HP : Hid (Prs bs l.n .atom S (.bad (5, S.tok.pos))) := hid (Prs.deep Hk14.out (by rw [Hd.out]; omega))
    have HU := hid (openD H1.out.m Hk14.out (by rw [Hd.out]; omega))
    go_wp2_with fail
    refine HU.out.mono ?_
    rintro e w2 ⟨rfl, hn2⟩
    have HN := hid (H1.out.no hn2.out)
    clear HU hn2 H1
    go_wp2
    go_ret2
    exact .inr ⟨_, _, rfl, HP, HN⟩
  have Hdl : Hid (S.depth < 32) := hid (by rw [Hd.out]; exact hdp)
  have HU := hid (openY H1.out.m Hk14.out (by decide) Hdl.out)
  go_wp2_with fail
  refine HU.out.mono ?_
  rintro e w2 ⟨rfl, hg2⟩
  obtain ⟨ρ2, h2⟩ := H1.out.go hg2.out
  have H2 := hid h2
  clear HU hg2 H1 h2
  have HX := hid (IH.out hdp ρ2 w2 (S.opn bs l.n) H2.out.m (PB.opn HPB.out) (by show S.depth + 1 = d + 1; rw [Hd.out]))
  go_wp2_with fail
  refine HX.out.mono ?_
  rintro e w3 (⟨S3, r3, rfl, hP3, hg3⟩ | ⟨k3, r3, rfl, hP3, hn3⟩)
  rotate_left
  · as_aux_lemma =>
    have HP : Hid (Prs bs l.n .atom S (.bad k3)) := hid (Prs.paren (o := .bad k3) Hk14.out Hdl.out hP3.out)
    have HN := hid (H2.out.no hn3.out)
    clear HX hn3 H2 hP3
    go_wp2
    go_ret2
    exact .inr ⟨_, _, rfl, HP, HN⟩
  obtain ⟨ρ3, h3⟩ := H2.out.go hg3.out
  have H3 := hid h3
  have hmv : Mv (S.opn bs l.n) S3 1 0 := hP3.out.mv
  have hd3 : 1 ≤ S3.depth := by rw [hmv.d]; show 1 ≤ S.depth + 1; omega
  clear HX hg3 H2 h3
  by_cases h15 : S3.tok.kind = 15
  · as_aux_lemma =>
    have HP : Hid (Prs bs l.n .atom S (.ok (S3.sht bs l.n) r3)) := hid (by
      have := Prs.paren (o := .ok S3 r3) Hk14.out Hdl.out hP3.out
      unfold Out.shut at this
      dsimp only at this
      rw [if_pos h15] at this
      exact this)
    have HU := hid (shutY H3.out.m h15 (by decide) hd3)
    clear h15 hmv hd3 hP3
    go_wp2_with fail
    refine HU.out.mono ?_
    rintro e w4 ⟨rfl, hg4⟩
    obtain ⟨ρ4, h4⟩ := H3.out.go hg4.out
    have HG := hid h4.gone
    clear HU hg4 H3 h4
    go_wp2
    go_ret2
    exact .inl ⟨_, _, rfl, HP, HG⟩
  · as_aux_lemma =>
    have HP : Hid (Prs bs l.n .atom S (.bad S3.unx)) := hid (by
      have := Prs.paren (o := .ok S3 r3) Hk14.out Hdl.out hP3.out
      unfold Out.shut at this
      dsimp only at this
      rw [if_neg h15] at this
      exact this)
    have HU := hid (shutN H3.out.m h15 (by decide))
    clear h15 hmv hd3 hP3
    go_wp2_with fail
    refine HU.out.mono ?_
    rintro e w4 ⟨rfl, hn4⟩
    have HN := hid (H3.out.no hn4.out)
    clear HU hn4 H3
    go_wp2
    go_ret2
    exact .inr ⟨_, _, rfl, HP, HN⟩
end
end Go.Proofs.Qxb6500883aGreatDoor
