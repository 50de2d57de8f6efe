/- parseFile (written by tools/mk_scai.py). -/
import Derived.Test.Qxb6500883aGreatDoorScAh
namespace Go.Proofs.Qxb6500883aGreatDoor
open Go.RowKit
set_option linter.unusedSimpArgs false
set_option linter.unusedVariables false
/-- Declarations read so far. -/
inductive FileOk (bs : List UInt8) (n : Nat) : PS → PS → Prop
  | nil {S} : FileOk bs n S S
  | cons {S S1 x S'} : S.tok.kind ≠ 0 → DclOk bs n S S1 x → FileOk bs n (S1.addD x) S' → FileOk bs n S S'
theorem FileOk.snoc {bs : List UInt8} {n : Nat} {S S2 S1 : PS} {x : DN} (h : FileOk bs n S S2) (h0 : S2.tok.kind ≠ 0) (h1 : DclOk bs n S2 S1 x) : FileOk bs n S (S1.addD x) := by
  induction h with
  | nil => exact FileOk.cons h0 h1 FileOk.nil
  | cons a b _ ih => exact FileOk.cons a b (ih h0 h1)
def FileBad (bs : List UInt8) (n : Nat) (S : PS) : Prop := ∃ S', FileOk bs n S S' ∧ S'.tok.kind ≠ 0 ∧ DclBad bs n S'
theorem info_dn : (Tryz.prog.info? 147).map (·.size) = some 11 := by kernel_rfl
theorem load_info_dn {w : World} {g : Nat} {x : DN} (h : Blk w g 147 (dnC x)) : (Instr.loadAt 147 (.pointer (some ⟨g, 0, none⟩))).run Tryz.prog w = .ok (.agg (dnC x).toArray) w := run_loadAt_mid w g 0 147 (dnC x) _ h.rangeAt Tryz.underlying147 rfl info_dn
theorem dnC_one (x : DN) : ∀ u ∈ dnC x, u.oneCell' = true := okD.one x
section
variable {N mg : Nat} {ρ ρ' ρ'' : Rl} {w w' w1 w2 : World} {l : PL} {bs : List UInt8} {S S' : PS} {q n0 : Nat} {x x' : DN} {X : Nat → Bool}
theorem Fr.thenQ (h : Fr X ρ w ρ' w1) (k : FrQ q X ρ' w1 ρ'' w2) (hq : w.heap.size ≤ q) : Fr X ρ w ρ'' w2 :=
  ⟨k.os.trans h.os, k.tape.trans h.tape, k.output.trans h.output, Nat.le_trans h.size k.size, fun g hg => (k.old g (Nat.lt_of_lt_of_le hg h.size)).trans (h.old g hg), fun g hg => (k.nw g hg).trans (h.nw g (Nat.le_trans k.size hg)), fun g hg h0 => (k.blk g (Nat.lt_of_lt_of_le hg h.size) (by omega) (by rw [h.old g hg]; exact h0)).trans (h.blk g hg h0)⟩
/-- The loop over the declarations. -/
def FiI (N mg : Nat) (ρ : Rl) (w : World) (l : PL) (bs : List UInt8) (S0 : PS) (wr : World) (M : Nat) : Prop :=
  ∃ (S : PS) (ρ' : Rl), PM N mg ρ' wr l bs S ∧ Fr X7 ρ w ρ' wr ∧ FileOk bs l.n S0 S ∧ PD S ∧ S.used + M = 65536
/-- What parseFile comes to. -/
def FiQ (N mg : Nat) (ρ : Rl) (w : World) (l : PL) (bs : List UInt8) (S : PS) (e : Ending) (w' : World) : Prop :=
  (∃ (S' : PS), e = .returned (.bool true) ∧ Hid (FileOk bs l.n S S' ∧ S'.tok.kind = 0 ∧ PD S') ∧ Hid (PGo N mg ρ w l bs S' w')) ∨
  (e = .returned (.bool false) ∧ Hid (FileBad bs l.n S) ∧ Hid (∃ k, PNo N mg ρ w l bs k w'))
theorem DclOk.use {n : Nat} (h : DclOk bs n S S' x) : S.used + 3 ≤ S'.used ∧ S'.fs.decls = S.fs.decls := by
  have hf : ∀ {A B : PS}, Flds bs n A B → A.used ≤ B.used ∧ B.fs.decls = A.fs.decls := fun hh => by
    induction hh with
    | nil => exact ⟨Nat.le_refl _, rfl⟩
    | @cons A S1 r B _ _ hp _ _ ih =>
      have hm : Mv ((A.adv bs n).adv bs n) S1 1 0 := hp.mv
      have h1 := hm.u
      have h2 : ((A.adv bs n).adv bs n).used = A.used + 1 + 1 := rfl
      have h3 : ((S1.adv bs n).addF ⟨A.word bs, A.tok.pos, r⟩).used = S1.used + 1 := rfl
      have h4 : ((S1.adv bs n).addF ⟨A.word bs, A.tok.pos, r⟩).fs.decls = S1.fs.decls := rfl
      refine ⟨by omega, ih.2.trans (h4.trans hm.c)⟩
  have hb : (S.bod bs n).used = S.used + 1 + 1 + 1 := rfl
  cases h with
  | @con S4 r _ _ _ hp _ =>
    have hm : Mv (S.bod bs n) S4 1 0 := hp.mv
    have h1 := hm.u
    exact ⟨by show S.used + 3 ≤ S4.used + 1; omega, hm.c⟩
  | @ali S4 r _ _ _ hp _ =>
    have hm : Mv (S.bod bs n) S4 1 0 := hp.mv
    have h1 := hm.u
    exact ⟨by show S.used + 3 ≤ S4.used + 1; omega, hm.c⟩
  | @cnt S4 _ _ _ hp _ =>
    have hm := hf hp
    have h1 := hm.1
    exact ⟨by show S.used + 3 ≤ S4.used + 1; omega, hm.2⟩
set_option maxRecDepth 100000 in
set_option maxHeartbeats 8000000 in
theorem parseFileW (h : PM N mg ρ w l bs S) (hD : PD S) : Calls Tryz.prog 54 #[.pointer (some ⟨l.p, 0, none⟩)] w (FiQ N mg ρ w l bs S) := by
  have HI1 : Hid (∃ M, FiI N mg ρ w l bs S w M) := hid (by
    have h1 := h.ok.hu
    have h2 := h.ok.hc
    exact ⟨65536 - S.used, S, ρ, h, Fr.refl _ _ _, FileOk.nil, hD, by omega⟩)
  clear h hD
  go_enter Tryz.func54, Tryz.ntmps54
  go_upto_region 1 with fail
  go_loopw [4] (fun _ wr => Hid (∃ M, FiI N mg ρ w l bs S wr M)) (fun _ wr => leastN (fun M => FiI N mg ρ w l bs S wr M))
  case atStart => exact HI1
  case round =>
  clear HI1
  have Hsp := hid (leastN_spec hrel.out)
  obtain ⟨Mx, hMx⟩ : ∃ M, leastN (fun M => FiI N mg ρ w l bs S wr M) = M := ⟨_, rfl⟩
  have HMx := hid hMx
  rw [hMx] at Hsp
  clear hMx hrel
  obtain ⟨S2, ρ2, hpm, hfr, hfd, hpd, hus⟩ := Hsp.out
  have H2 := hid hpm
  have HFr := hid hfr
  have HFd := hid hfd
  have HPD := hid hpd
  have Hus := hid hus
  clear hpm hfr hfd hpd hus Hsp
  obtain ⟨_, c3, _⟩ := H2.out.cells
  obtain ⟨kd, hkd⟩ : ∃ k, S2.tok.kind = k := ⟨_, rfl⟩
  rw [hkd] at c3
  have Hkd := hid hkd
  clear hkd
  by_cases h0 : kd = 0
  · as_aux_lemma =>
    have q0 : ((kd : Int) != 0) = false := by simp; omega
    have HP : Hid (FileOk bs l.n S S2 ∧ S2.tok.kind = 0 ∧ PD S2) := hid ⟨HFd.out, by rw [Hkd.out]; exact h0, HPD.out⟩
    have HG : Hid (PGo N mg ρ w l bs S2 wr) := hid ⟨ρ2, H2.out, HFr.out⟩
    clear h0
    go_wp2
    go_ret
    exact .inl ⟨_, rfl, HP, HG⟩
  have q0 : ((kd : Int) != 0) = true := by simp; omega
  have Hk0 : Hid (S2.tok.kind ≠ 0) := hid (by rw [Hkd.out]; exact h0)
  clear h0
  obtain ⟨tl, htl⟩ : ∃ t, S2.fs.types.length = t := ⟨_, rfl⟩
  obtain ⟨el, hel⟩ : ∃ t, S2.fs.exprs.length = t := ⟨_, rfl⟩
  have Htl := hid htl
  have Hel := hid hel
  have hb2 : tl ≤ 65536 ∧ el ≤ 65536 := by
    have := HPD.out.b.len H2.out.ok
    omega
  obtain ⟨V, hV, hRw⟩ := H2.out.r.rows
  obtain ⟨at_, qt, hvt⟩ := hRw.t.shape
  obtain ⟨ae, qe, hve⟩ := hRw.e.shape
  rw [htl] at hvt
  rw [hel] at hve
  have HS : Hid (∀ wx : World, Below wr.heap.size wr wx → wx.cell? ⟨l.p, 8, none⟩ = some (.pointer (some ⟨l.f, 0, none⟩)) ∧ wx.cell? ⟨l.f, 2, none⟩ = some (.slice at_ tl qt) ∧ wx.cell? ⟨l.f, 3, none⟩ = some (.slice ae el qe)) := hid (fun wx hx => ⟨(H2.out.below hx).cells.2.2.2.1, by rw [← hvt]; exact (hV.below hx).cell 2, by rw [← hve]; exact (hV.below hx).cell 3⟩)
  have ewt : IntKind.i32.wrap (tl : Int) = (tl : Int) := by rw [IntKind.wrap_i32]; omega
  have ewe : IntKind.i32.wrap (el : Int) = (el : Int) := by rw [IntKind.wrap_i32]; omega
  clear hV hRw hvt hve htl hel
  go_upto_region 2 with fail
  refine wp_region_alloc (C := fun wx => Below wr.heap.size wr wx) (n := 19) (B := wr.heap.size) (t := 147) (zs := [.int .u8 0, .string ⟨#[]⟩, .int .i64 0, .int .i32 0, .int .i32 0, .int .i32 0, .int .i32 0, .int .i32 0, .int .i32 0, .int .i32 0, .int .i32 0]) rfl rfl rfl (by kernel_rfl) (by kernel_rfl) (by kernel_rfl) ?hr2 (fun _ _ h hb => h.trans (hb.mono h.size)) (fun _ h => h.size) (Below.refl _ _) ?hx2
  case hr2 =>
    intro a w
    simp [go_sem]
  apply Exists.intro
  refine ⟨?_, ?_⟩
  · intro X W hne hX hI
    have j1 : ∀ u, (W u).cell? ⟨l.p, 8, none⟩ = some (.pointer (some ⟨l.f, 0, none⟩)) := fun u => (HS.out _ (hX u)).1
    have j2 : ∀ u, (W u).cell? ⟨l.f, 2, none⟩ = some (.slice at_ tl qt) := fun u => (HS.out _ (hX u)).2.1
    have j3 : ∀ u, (W u).cell? ⟨l.f, 3, none⟩ = some (.slice ae el qe) := fun u => (HS.out _ (hX u)).2.2
    clear hI hX
    dsimp only [List.take]
    repeat (go_big_quiet_step (fail))
    exact wpQuiet_nil rfl
  intro q wx hq hbx hbl
  dsimp only [List.drop]
  have I0 := hid info_dn
  have HBx := hid hbx
  have Hq := hid hq
  have HO := hid (dnC_one ⟨0, ⟨#[]⟩, 0, -1, -1, 0, 0, tl, 0, el, 0⟩)
  clear ewt ewe c3 hbx hq
  refine wpList_store_blk rfl 147 _ _ rfl q rfl [.int .u8 0, .string ⟨#[]⟩, .int .i64 0, .int .i32 (-1), .int .i32 (-1), .int .i32 0, .int .i32 0, .int .i32 (tl : Int), .int .i32 0, .int .i32 (el : Int), .int .i32 0] rfl hbl rfl I0.out HO.out ?_
  intro wy HBy HUy
  have HFy : Hid (Fr X7 ρ w ρ2 wy) := hid (by
    have h1 := HFr.out.trans (Fr.below (X := X7) HBx.out)
    exact h1.updL HUy.out (Nat.le_trans HFr.out.size Hq.out))
  have H3 : Hid (DcB N mg ρ2 wy l bs S2 q (dn0 S2) wr.heap.size ρ2 wy) := hid (by
    have hz : ρ2 q = 0 := H2.out.new Hq.out
    refine ⟨(H2.out.below HBx.out).updL HUy.out hz Hq.out H2.out.r.gl.sz H2.out.r.src.lt, FrQ.start _ _ _ _, ?_, hz, Hq.out, Nat.le_trans HBx.out.size HUy.out.size, H2.out.r.gl.sz, H2.out.r.src.lt, HBy.out.lt⟩
    unfold dn0
    rw [Htl.out, Hel.out]
    exact HBy.out)
  have Hqw : Hid (w.heap.size ≤ q) := hid (Nat.le_trans HFr.out.size Hq.out)
  clear HBx HUy hbl HO HBy H2 HFr HS
  (try simp only [Act.put, List.setIfInBounds_toArray, List.set_cons_succ, List.set_cons_zero])
  have k3 := H3.out.m.cells.2.1
  rw [Hkd.out] at k3
  by_cases h21 : kd = 21
  · have q21 : ((kd : Int) == 21) = true := by simp; omega
    have HC := hid (parseConstW H3.out (by rw [Hkd.out]; exact h21) HPD.out)
    clear h21 
    go_wp2_with fail
    refine HC.out.mono ?_
    rintro e w4 (⟨S4, x, rfl, HD4, h4⟩ | ⟨rfl, HB4, hn4⟩)
    rotate_left
    · have HP : Hid (FileBad bs l.n S) := hid ⟨S2, HFd.out, Hk0.out, HB4.out⟩
      have HN : Hid (∃ k, PNo N mg ρ w l bs k w4) := hid (by
        obtain ⟨k, ⟨⟨q', cs, g1, g2, g3, g4⟩, g5⟩, ρ4, hf4⟩ := hn4.out
        exact ⟨k, ⟨⟨q', cs, g1, g2, g3, Nat.le_trans HFy.out.size g4⟩, g5⟩, ρ4, HFy.out.thenQ hf4 Hqw.out⟩)
      clear HC hn4 H3
      go_wp2
      go_ret
      exact .inr ⟨rfl, HP, HN⟩
    obtain ⟨ρ4, h4⟩ := h4.out
    have H4 := hid h4
    have Hhi := hid HD4.out.1.hi
    obtain ⟨th, hth⟩ : ∃ t, S4.fs.types.length = t := ⟨_, rfl⟩
    obtain ⟨eh, heh⟩ : ∃ t, S4.fs.exprs.length = t := ⟨_, rfl⟩
    have Hth := hid hth
    have Heh := hid heh
    have hb4 : th ≤ 65536 ∧ eh ≤ 65536 := by
      have := HD4.out.2.b.len H4.out.m.ok
      omega
    obtain ⟨V, hV, hRw⟩ := H4.out.m.r.rows
    obtain ⟨at4, qt4, hvt⟩ := hRw.t.shape
    obtain ⟨ae4, qe4, hve⟩ := hRw.e.shape
    rw [hth] at hvt
    rw [heh] at hve
    have j8 := H4.out.m.cells.2.2.2.1
    have j2 : w4.cell? ⟨l.f, 2, none⟩ = some (.slice at4 th qt4) := by rw [← hvt]; exact hV.cell 2
    have z8 : w4.cell? ⟨q, 8, none⟩ = some (.int .i32 0) := (H4.out.nc 8).1
    have f8 : w4.frozen? ⟨q, 8, none⟩ = false := (H4.out.nc 8).2
    have ew : IntKind.i32.wrap (th : Int) = (th : Int) := by rw [IntKind.wrap_i32]; omega
    have H5 := hid (H4.out.set (x' := { x with tHi := th, eHi := 0 }) 8 (.int .i32 (th : Int)) rfl)
    clear HC H3 h4 hV hRw hvt hve hth heh
    go_upto_region 15 with fail
    generalize hw5 : w4.setCell _ _ = w5 at H5 ⊢
    clear hw5 j8 j2 z8 f8 ew H4 k3
    obtain ⟨V, hV, hRw⟩ := H5.out.m.r.rows
    obtain ⟨ae4, qe4, hve⟩ := hRw.e.shape
    rw [Heh.out] at hve
    have j8 := H5.out.m.cells.2.2.2.1
    have j3 : w5.cell? ⟨l.f, 3, none⟩ = some (.slice ae4 eh qe4) := by rw [← hve]; exact hV.cell 3
    have z8 : w5.cell? ⟨q, 10, none⟩ = some (.int .i32 0) := (H5.out.nc 10).1
    have f8 : w5.frozen? ⟨q, 10, none⟩ = false := (H5.out.nc 10).2
    have ew : IntKind.i32.wrap (eh : Int) = (eh : Int) := by rw [IntKind.wrap_i32]; omega
    have H6 := hid (H5.out.set (x' := { x with tHi := th, eHi := eh }) 10 (.int .i32 (eh : Int)) rfl)
    clear hV hRw hve
    go_upto_region 16 with fail
    generalize hw6 : w5.setCell _ _ = w6 at H6 ⊢
    clear hw6 j8 j3 z8 f8 ew H5
    have Hxx : Hid ({ x with tHi := th, eHi := eh } = x) := hid (by
      have h1 := Hhi.out.1
      have h2 := Hhi.out.2
      rw [Hth.out] at h1
      rw [Heh.out] at h2
      rw [← h1, ← h2])
    rw [Hxx.out] at H6
    clear Hxx
    obtain ⟨m, hm⟩ : ∃ m, S4.fs.decls.length = m := ⟨_, rfl⟩
    have Hm := hid hm
    have hm2 : m ≤ 65536 := by
      have h1 := HD4.out.2.d
      have h3 := H6.out.m.ok.hu
      have h4 := H6.out.m.ok.hc
      omega
    clear hm
    obtain ⟨V, hV, hRw⟩ := H6.out.m.r.rows
    obtain ⟨ax, qx, hvx⟩ := hRw.d.shape
    rw [Hm.out] at hvx
    have Hvx := hid hvx
    have HV := hid hV
    have HRw := hid hRw
    clear hV hRw hvx
    have HSx : Hid (∀ wx : World, Below w6.heap.size w6 wx → Blk wx q 147 (dnC x) ∧ wx.cell? ⟨l.p, 8, none⟩ = some (.pointer (some ⟨l.f, 0, none⟩)) ∧ wx.cell? ⟨l.f, 1, none⟩ = some (.slice ax m qx)) := hid (fun wx hx => ⟨H6.out.bn.below hx, (H6.out.m.below hx).cells.2.2.2.1, by rw [← Hvx.out]; exact (HV.out.below hx).cell 1⟩)
    refine wp_region_heavy (fun wx => Blk wx q 147 (dnC x) ∧ wx.cell? ⟨l.p, 8, none⟩ = some (.pointer (some ⟨l.f, 0, none⟩)) ∧ wx.cell? ⟨l.f, 1, none⟩ = some (.slice ax m qx)) 14 [0, 1, 2, 3, 4, 5, 6, 7, 8, 9, 10, 11] [12, 13] rfl (by kernel_rfl) (by kernel_rfl) (fun d _ _ _ _ h => by cases d <;> exact h) (HSx.out _ (Drew.below ⟨1, rfl⟩ _)) ?_
    apply Exists.intro
    refine ⟨?_, ?_⟩
    · intro W hW
      have j1 : ∀ u, (W u).cell? ⟨l.p, 8, none⟩ = some (.pointer (some ⟨l.f, 0, none⟩)) := fun u => (hW u).2.1
      have j2 : ∀ u, (W u).cell? ⟨l.f, 1, none⟩ = some (.slice ax m qx) := fun u => (hW u).2.2
      have rl : ∀ u, (Instr.loadAt 147 (.pointer (some ⟨q, 0, none⟩))).run Tryz.prog (W u) = .ok (.agg (dnC x).toArray) (W u) := fun u => load_info_dn (hW u).1
      dsimp only [dnC] at rl
      have Hrl := hid rl
      clear hW rl
      simp only [List.take, opsAt, List.drop, List.cons_append, List.nil_append]
      repeat (first | (go_big_quiet_want; refine quiet_loadO 147 _ rfl ⟨q, 0, none⟩ rfl _ (fun w hx => by obtain ⟨x, rfl⟩ := hx; exact Hrl.out x) ?_; simp only [Act.put, List.setIfInBounds_toArray, List.set_cons_succ, List.set_cons_zero]; go_big_quiet_on) | go_big_quiet_step (fail))
      exact rfl
    simp only [List.take, List.drop, opsAt, List.cons_append, List.nil_append, wpHv]
    have HBd : Hid (Below w6.heap.size w6 w6.drew) := hid (Drew.below ⟨1, rfl⟩ _)
    generalize w6.drew = wd at HBd ⊢
    go_wp2_with fail
    obtain ⟨k8, hk8⟩ : ∃ k, wd.heap.size = k := ⟨_, rfl⟩
    obtain ⟨wf, hwf⟩ : ∃ wf, wd.alloc (.cells (dnC x).toArray 147) = wf := ⟨_, rfl⟩
    have HBf : Hid (Below w6.heap.size w6 wf) := hid (by rw [← hwf]; exact HBd.out.trans ((nbel wd _).mono HBd.out.size))
    have HNw : Hid (∀ ad, some (⟨k8, 0, none⟩ : Addr) = some ad → ∀ j u, ([x].flatMap rtD.f)[j]? = some u → wf.cell? (ad.add j) = some u) := hid (by rw [← hwf]; exact newX rtD wd x _ hk8.symm)
    dsimp only [dnC] at hwf
    (try simp only [hwf, hk8])
    refine ⟨HSx.out _ HBf.out, ?_⟩
    clear hwf hk8
    have HCf := hid (H6.out.below HBf.out)
    have HRwf := hid (HRw.out.fr (X := fun _ => false) (Fr.below HBf.out) (fun _ _ _ => rfl) (ρ' := ρ4))
    have hrf := HRwf.out.d
    rw [Hvx.out] at hrf
    refine wpList_app_x okD rfl (.tmp 81) (.tmp 83) hrf rfl [x] (by simp [Act.eval, Act.put]; done) (some ⟨k8, 0, none⟩) 1 1 (by simp [Act.eval, Act.put]; done) rfl (fun h => by cases h) HNw.out (by have := Hm.out; rw [this]; show (m + 1) * 64 ≤ _; omega) ?_
    intro v8 w8 ρ8 hr8 hf8 _ _
    obtain ⟨a8, q8, h8⟩ := hr8.out.shape
    rw [List.length_append, List.length_singleton, Hm.out] at h8
    subst h8
    have HP8 := hid (HCf.out.m.r.grow (V := V) (V' := { V with d := .slice a8 (m + 1) q8 }) (HV.out.below HBf.out) hf8.out (by decide) (by decide) (.slice a8 (m + 1) q8) 1 rfl (HRwf.out.putD hf8.out hr8.out))
    have hk8 : Blk w8 l.f 109 (flC l V) := hf8.out.keep (HV.out.below HBf.out) HCf.out.m.r.rf rfl
    have s0 : Blk w8 q 147 (dnC x) := hf8.out.keep HCf.out.bn HCf.out.zn rfl
    have s1 : w8.cell? ⟨l.p, 8, none⟩ = some (.pointer (some ⟨l.f, 0, none⟩)) := (hf8.out.keep HCf.out.m.pb HCf.out.m.r.rp rfl).cell 8
    have s2 : w8.cell? ⟨l.f, 1, none⟩ = some (.slice ax m qx) := by rw [← Hvx.out]; exact hk8.cell 1
    have f2 : w8.frozen? ⟨l.f, 1, none⟩ = false := hk8.frozen _
    have H9 : Hid (∃ M, M < Mx ∧ FiI N mg ρ w l bs S (w8.setCell ⟨l.f, 1, none⟩ (.slice a8 (m + 1) q8)) M) := hid (by
      obtain ⟨p1, p2⟩ := HCf.out.m.setF HP8.out.1 HP8.out.2.1
      have hq1 := HFy.out.thenQ (HCf.out.f.trans p2) Hqw.out
      have h6 : S4.used ≤ S4.cnt := HCf.out.m.ok.hu
      have h7 : S4.cnt ≤ 65536 := HCf.out.m.ok.hc
      have h8 : (PS.addD S4 x).used = S4.used := rfl
      have hu := HD4.out.1.use
      have ha := Hus.out
      have hdd := HPD.out.d
      have hd4 := HD4.out.2
      refine ⟨65536 - S4.used, by omega, S4.addD x, ρ8, p1, hq1, HFd.out.snoc Hk0.out HD4.out.1, ⟨⟨hd4.b.n, hd4.b.o⟩, hd4.f, ?_⟩, by omega⟩
      show (S4.fs.decls ++ [x]).length ≤ S4.used
      rw [List.length_append, List.length_singleton, hu.2]
      omega)
    clear hrf hr8 hf8 HNw HBf HBd HP8 hk8 HRwf HV HRw HCf H6 HSx
    go_wp2_with fail
    refine ⟨⟨s0, s1, s2⟩, ?_⟩
    simp only [QN]
    go_wp2
    obtain ⟨M9, hM9, hI9⟩ := H9.out
    refine ⟨hid ⟨M9, hI9⟩, ?_⟩
    refine Nat.lt_of_le_of_lt (leastN_le hI9) ?_
    rw [HMx.out]
    exact hM9
  have q21 : ((kd : Int) == 21) = false := by simp; omega
  by_cases h22 : kd = 22
  · have q22 : ((kd : Int) == 22) = true := by simp; omega
    have HC := hid (parseAliasW H3.out (by rw [Hkd.out]; exact h22) HPD.out)
    clear h22 h21
    go_wp2_with fail
    refine HC.out.mono ?_
    rintro e w4 (⟨S4, x, rfl, HD4, h4⟩ | ⟨rfl, HB4, hn4⟩)
    rotate_left
    · have HP : Hid (FileBad bs l.n S) := hid ⟨S2, HFd.out, Hk0.out, HB4.out⟩
      have HN : Hid (∃ k, PNo N mg ρ w l bs k w4) := hid (by
        obtain ⟨k, ⟨⟨q', cs, g1, g2, g3, g4⟩, g5⟩, ρ4, hf4⟩ := hn4.out
        exact ⟨k, ⟨⟨q', cs, g1, g2, g3, Nat.le_trans HFy.out.size g4⟩, g5⟩, ρ4, HFy.out.thenQ hf4 Hqw.out⟩)
      clear HC hn4 H3
      go_wp2
      go_ret
      exact .inr ⟨rfl, HP, HN⟩
    obtain ⟨ρ4, h4⟩ := h4.out
    have H4 := hid h4
    have Hhi := hid HD4.out.1.hi
    obtain ⟨th, hth⟩ : ∃ t, S4.fs.types.length = t := ⟨_, rfl⟩
    obtain ⟨eh, heh⟩ : ∃ t, S4.fs.exprs.length = t := ⟨_, rfl⟩
    have Hth := hid hth
    have Heh := hid heh
    have hb4 : th ≤ 65536 ∧ eh ≤ 65536 := by
      have := HD4.out.2.b.len H4.out.m.ok
      omega
    obtain ⟨V, hV, hRw⟩ := H4.out.m.r.rows
    obtain ⟨at4, qt4, hvt⟩ := hRw.t.shape
    obtain ⟨ae4, qe4, hve⟩ := hRw.e.shape
    rw [hth] at hvt
    rw [heh] at hve
    have j8 := H4.out.m.cells.2.2.2.1
    have j2 : w4.cell? ⟨l.f, 2, none⟩ = some (.slice at4 th qt4) := by rw [← hvt]; exact hV.cell 2
    have z8 : w4.cell? ⟨q, 8, none⟩ = some (.int .i32 0) := (H4.out.nc 8).1
    have f8 : w4.frozen? ⟨q, 8, none⟩ = false := (H4.out.nc 8).2
    have ew : IntKind.i32.wrap (th : Int) = (th : Int) := by rw [IntKind.wrap_i32]; omega
    have H5 := hid (H4.out.set (x' := { x with tHi := th, eHi := 0 }) 8 (.int .i32 (th : Int)) rfl)
    clear HC H3 h4 hV hRw hvt hve hth heh
    go_upto_region 15 with fail
    generalize hw5 : w4.setCell _ _ = w5 at H5 ⊢
    clear hw5 j8 j2 z8 f8 ew H4 k3
    obtain ⟨V, hV, hRw⟩ := H5.out.m.r.rows
    obtain ⟨ae4, qe4, hve⟩ := hRw.e.shape
    rw [Heh.out] at hve
    have j8 := H5.out.m.cells.2.2.2.1
    have j3 : w5.cell? ⟨l.f, 3, none⟩ = some (.slice ae4 eh qe4) := by rw [← hve]; exact hV.cell 3
    have z8 : w5.cell? ⟨q, 10, none⟩ = some (.int .i32 0) := (H5.out.nc 10).1
    have f8 : w5.frozen? ⟨q, 10, none⟩ = false := (H5.out.nc 10).2
    have ew : IntKind.i32.wrap (eh : Int) = (eh : Int) := by rw [IntKind.wrap_i32]; omega
    have H6 := hid (H5.out.set (x' := { x with tHi := th, eHi := eh }) 10 (.int .i32 (eh : Int)) rfl)
    clear hV hRw hve
    go_upto_region 16 with fail
    generalize hw6 : w5.setCell _ _ = w6 at H6 ⊢
    clear hw6 j8 j3 z8 f8 ew H5
    have Hxx : Hid ({ x with tHi := th, eHi := eh } = x) := hid (by
      have h1 := Hhi.out.1
      have h2 := Hhi.out.2
      rw [Hth.out] at h1
      rw [Heh.out] at h2
      rw [← h1, ← h2])
    rw [Hxx.out] at H6
    clear Hxx
    obtain ⟨m, hm⟩ : ∃ m, S4.fs.decls.length = m := ⟨_, rfl⟩
    have Hm := hid hm
    have hm2 : m ≤ 65536 := by
      have h1 := HD4.out.2.d
      have h3 := H6.out.m.ok.hu
      have h4 := H6.out.m.ok.hc
      omega
    clear hm
    obtain ⟨V, hV, hRw⟩ := H6.out.m.r.rows
    obtain ⟨ax, qx, hvx⟩ := hRw.d.shape
    rw [Hm.out] at hvx
    have Hvx := hid hvx
    have HV := hid hV
    have HRw := hid hRw
    clear hV hRw hvx
    have HSx : Hid (∀ wx : World, Below w6.heap.size w6 wx → Blk wx q 147 (dnC x) ∧ wx.cell? ⟨l.p, 8, none⟩ = some (.pointer (some ⟨l.f, 0, none⟩)) ∧ wx.cell? ⟨l.f, 1, none⟩ = some (.slice ax m qx)) := hid (fun wx hx => ⟨H6.out.bn.below hx, (H6.out.m.below hx).cells.2.2.2.1, by rw [← Hvx.out]; exact (HV.out.below hx).cell 1⟩)
    refine wp_region_heavy (fun wx => Blk wx q 147 (dnC x) ∧ wx.cell? ⟨l.p, 8, none⟩ = some (.pointer (some ⟨l.f, 0, none⟩)) ∧ wx.cell? ⟨l.f, 1, none⟩ = some (.slice ax m qx)) 14 [0, 1, 2, 3, 4, 5, 6, 7, 8, 9, 10, 11] [12, 13] rfl (by kernel_rfl) (by kernel_rfl) (fun d _ _ _ _ h => by cases d <;> exact h) (HSx.out _ (Drew.below ⟨1, rfl⟩ _)) ?_
    apply Exists.intro
    refine ⟨?_, ?_⟩
    · intro W hW
      have j1 : ∀ u, (W u).cell? ⟨l.p, 8, none⟩ = some (.pointer (some ⟨l.f, 0, none⟩)) := fun u => (hW u).2.1
      have j2 : ∀ u, (W u).cell? ⟨l.f, 1, none⟩ = some (.slice ax m qx) := fun u => (hW u).2.2
      have rl : ∀ u, (Instr.loadAt 147 (.pointer (some ⟨q, 0, none⟩))).run Tryz.prog (W u) = .ok (.agg (dnC x).toArray) (W u) := fun u => load_info_dn (hW u).1
      dsimp only [dnC] at rl
      have Hrl := hid rl
      clear hW rl
      simp only [List.take, opsAt, List.drop, List.cons_append, List.nil_append]
      repeat (first | (go_big_quiet_want; refine quiet_loadO 147 _ rfl ⟨q, 0, none⟩ rfl _ (fun w hx => by obtain ⟨x, rfl⟩ := hx; exact Hrl.out x) ?_; simp only [Act.put, List.setIfInBounds_toArray, List.set_cons_succ, List.set_cons_zero]; go_big_quiet_on) | go_big_quiet_step (fail))
      exact rfl
    simp only [List.take, List.drop, opsAt, List.cons_append, List.nil_append, wpHv]
    have HBd : Hid (Below w6.heap.size w6 w6.drew) := hid (Drew.below ⟨1, rfl⟩ _)
    generalize w6.drew = wd at HBd ⊢
    go_wp2_with fail
    obtain ⟨k8, hk8⟩ : ∃ k, wd.heap.size = k := ⟨_, rfl⟩
    obtain ⟨wf, hwf⟩ : ∃ wf, wd.alloc (.cells (dnC x).toArray 147) = wf := ⟨_, rfl⟩
    have HBf : Hid (Below w6.heap.size w6 wf) := hid (by rw [← hwf]; exact HBd.out.trans ((nbel wd _).mono HBd.out.size))
    have HNw : Hid (∀ ad, some (⟨k8, 0, none⟩ : Addr) = some ad → ∀ j u, ([x].flatMap rtD.f)[j]? = some u → wf.cell? (ad.add j) = some u) := hid (by rw [← hwf]; exact newX rtD wd x _ hk8.symm)
    dsimp only [dnC] at hwf
    (try simp only [hwf, hk8])
    refine ⟨HSx.out _ HBf.out, ?_⟩
    clear hwf hk8
    have HCf := hid (H6.out.below HBf.out)
    have HRwf := hid (HRw.out.fr (X := fun _ => false) (Fr.below HBf.out) (fun _ _ _ => rfl) (ρ' := ρ4))
    have hrf := HRwf.out.d
    rw [Hvx.out] at hrf
    refine wpList_app_x okD rfl (.tmp 81) (.tmp 83) hrf rfl [x] (by simp [Act.eval, Act.put]; done) (some ⟨k8, 0, none⟩) 1 1 (by simp [Act.eval, Act.put]; done) rfl (fun h => by cases h) HNw.out (by have := Hm.out; rw [this]; show (m + 1) * 64 ≤ _; omega) ?_
    intro v8 w8 ρ8 hr8 hf8 _ _
    obtain ⟨a8, q8, h8⟩ := hr8.out.shape
    rw [List.length_append, List.length_singleton, Hm.out] at h8
    subst h8
    have HP8 := hid (HCf.out.m.r.grow (V := V) (V' := { V with d := .slice a8 (m + 1) q8 }) (HV.out.below HBf.out) hf8.out (by decide) (by decide) (.slice a8 (m + 1) q8) 1 rfl (HRwf.out.putD hf8.out hr8.out))
    have hk8 : Blk w8 l.f 109 (flC l V) := hf8.out.keep (HV.out.below HBf.out) HCf.out.m.r.rf rfl
    have s0 : Blk w8 q 147 (dnC x) := hf8.out.keep HCf.out.bn HCf.out.zn rfl
    have s1 : w8.cell? ⟨l.p, 8, none⟩ = some (.pointer (some ⟨l.f, 0, none⟩)) := (hf8.out.keep HCf.out.m.pb HCf.out.m.r.rp rfl).cell 8
    have s2 : w8.cell? ⟨l.f, 1, none⟩ = some (.slice ax m qx) := by rw [← Hvx.out]; exact hk8.cell 1
    have f2 : w8.frozen? ⟨l.f, 1, none⟩ = false := hk8.frozen _
    have H9 : Hid (∃ M, M < Mx ∧ FiI N mg ρ w l bs S (w8.setCell ⟨l.f, 1, none⟩ (.slice a8 (m + 1) q8)) M) := hid (by
      obtain ⟨p1, p2⟩ := HCf.out.m.setF HP8.out.1 HP8.out.2.1
      have hq1 := HFy.out.thenQ (HCf.out.f.trans p2) Hqw.out
      have h6 : S4.used ≤ S4.cnt := HCf.out.m.ok.hu
      have h7 : S4.cnt ≤ 65536 := HCf.out.m.ok.hc
      have h8 : (PS.addD S4 x).used = S4.used := rfl
      have hu := HD4.out.1.use
      have ha := Hus.out
      have hdd := HPD.out.d
      have hd4 := HD4.out.2
      refine ⟨65536 - S4.used, by omega, S4.addD x, ρ8, p1, hq1, HFd.out.snoc Hk0.out HD4.out.1, ⟨⟨hd4.b.n, hd4.b.o⟩, hd4.f, ?_⟩, by omega⟩
      show (S4.fs.decls ++ [x]).length ≤ S4.used
      rw [List.length_append, List.length_singleton, hu.2]
      omega)
    clear hrf hr8 hf8 HNw HBf HBd HP8 hk8 HRwf HV HRw HCf H6 HSx
    go_wp2_with fail
    refine ⟨⟨s0, s1, s2⟩, ?_⟩
    simp only [QN]
    go_wp2
    obtain ⟨M9, hM9, hI9⟩ := H9.out
    refine ⟨hid ⟨M9, hI9⟩, ?_⟩
    refine Nat.lt_of_le_of_lt (leastN_le hI9) ?_
    rw [HMx.out]
    exact hM9
  have q22 : ((kd : Int) == 22) = false := by simp; omega
  by_cases h23 : kd = 23
  · have q23 : ((kd : Int) == 23) = true := by simp; omega
    have HC := hid (parseContainerW H3.out (by rw [Hkd.out]; exact h23) HPD.out)
    clear h23 h21 h22
    go_wp2_with fail
    refine HC.out.mono ?_
    rintro e w4 (⟨S4, x, rfl, HD4, h4⟩ | ⟨rfl, HB4, hn4⟩)
    rotate_left
    · have HP : Hid (FileBad bs l.n S) := hid ⟨S2, HFd.out, Hk0.out, HB4.out⟩
      have HN : Hid (∃ k, PNo N mg ρ w l bs k w4) := hid (by
        obtain ⟨k, ⟨⟨q', cs, g1, g2, g3, g4⟩, g5⟩, ρ4, hf4⟩ := hn4.out
        exact ⟨k, ⟨⟨q', cs, g1, g2, g3, Nat.le_trans HFy.out.size g4⟩, g5⟩, ρ4, HFy.out.thenQ hf4 Hqw.out⟩)
      clear HC hn4 H3
      go_wp2
      go_ret
      exact .inr ⟨rfl, HP, HN⟩
    obtain ⟨ρ4, h4⟩ := h4.out
    have H4 := hid h4
    have Hhi := hid HD4.out.1.hi
    obtain ⟨th, hth⟩ : ∃ t, S4.fs.types.length = t := ⟨_, rfl⟩
    obtain ⟨eh, heh⟩ : ∃ t, S4.fs.exprs.length = t := ⟨_, rfl⟩
    have Hth := hid hth
    have Heh := hid heh
    have hb4 : th ≤ 65536 ∧ eh ≤ 65536 := by
      have := HD4.out.2.b.len H4.out.m.ok
      omega
    obtain ⟨V, hV, hRw⟩ := H4.out.m.r.rows
    obtain ⟨at4, qt4, hvt⟩ := hRw.t.shape
    obtain ⟨ae4, qe4, hve⟩ := hRw.e.shape
    rw [hth] at hvt
    rw [heh] at hve
    have j8 := H4.out.m.cells.2.2.2.1
    have j2 : w4.cell? ⟨l.f, 2, none⟩ = some (.slice at4 th qt4) := by rw [← hvt]; exact hV.cell 2
    have z8 : w4.cell? ⟨q, 8, none⟩ = some (.int .i32 0) := (H4.out.nc 8).1
    have f8 : w4.frozen? ⟨q, 8, none⟩ = false := (H4.out.nc 8).2
    have ew : IntKind.i32.wrap (th : Int) = (th : Int) := by rw [IntKind.wrap_i32]; omega
    have H5 := hid (H4.out.set (x' := { x with tHi := th, eHi := 0 }) 8 (.int .i32 (th : Int)) rfl)
    clear HC H3 h4 hV hRw hvt hve hth heh
    go_upto_region 15 with fail
    generalize hw5 : w4.setCell _ _ = w5 at H5 ⊢
    clear hw5 j8 j2 z8 f8 ew H4 k3
    obtain ⟨V, hV, hRw⟩ := H5.out.m.r.rows
    obtain ⟨ae4, qe4, hve⟩ := hRw.e.shape
    rw [Heh.out] at hve
    have j8 := H5.out.m.cells.2.2.2.1
    have j3 : w5.cell? ⟨l.f, 3, none⟩ = some (.slice ae4 eh qe4) := by rw [← hve]; exact hV.cell 3
    have z8 : w5.cell? ⟨q, 10, none⟩ = some (.int .i32 0) := (H5.out.nc 10).1
    have f8 : w5.frozen? ⟨q, 10, none⟩ = false := (H5.out.nc 10).2
    have ew : IntKind.i32.wrap (eh : Int) = (eh : Int) := by rw [IntKind.wrap_i32]; omega
    have H6 := hid (H5.out.set (x' := { x with tHi := th, eHi := eh }) 10 (.int .i32 (eh : Int)) rfl)
    clear hV hRw hve
    go_upto_region 16 with fail
    generalize hw6 : w5.setCell _ _ = w6 at H6 ⊢
    clear hw6 j8 j3 z8 f8 ew H5
    have Hxx : Hid ({ x with tHi := th, eHi := eh } = x) := hid (by
      have h1 := Hhi.out.1
      have h2 := Hhi.out.2
      rw [Hth.out] at h1
      rw [Heh.out] at h2
      rw [← h1, ← h2])
    rw [Hxx.out] at H6
    clear Hxx
    obtain ⟨m, hm⟩ : ∃ m, S4.fs.decls.length = m := ⟨_, rfl⟩
    have Hm := hid hm
    have hm2 : m ≤ 65536 := by
      have h1 := HD4.out.2.d
      have h3 := H6.out.m.ok.hu
      have h4 := H6.out.m.ok.hc
      omega
    clear hm
    obtain ⟨V, hV, hRw⟩ := H6.out.m.r.rows
    obtain ⟨ax, qx, hvx⟩ := hRw.d.shape
    rw [Hm.out] at hvx
    have Hvx := hid hvx
    have HV := hid hV
    have HRw := hid hRw
    clear hV hRw hvx
    have HSx : Hid (∀ wx : World, Below w6.heap.size w6 wx → Blk wx q 147 (dnC x) ∧ wx.cell? ⟨l.p, 8, none⟩ = some (.pointer (some ⟨l.f, 0, none⟩)) ∧ wx.cell? ⟨l.f, 1, none⟩ = some (.slice ax m qx)) := hid (fun wx hx => ⟨H6.out.bn.below hx, (H6.out.m.below hx).cells.2.2.2.1, by rw [← Hvx.out]; exact (HV.out.below hx).cell 1⟩)
    refine wp_region_heavy (fun wx => Blk wx q 147 (dnC x) ∧ wx.cell? ⟨l.p, 8, none⟩ = some (.pointer (some ⟨l.f, 0, none⟩)) ∧ wx.cell? ⟨l.f, 1, none⟩ = some (.slice ax m qx)) 14 [0, 1, 2, 3, 4, 5, 6, 7, 8, 9, 10, 11] [12, 13] rfl (by kernel_rfl) (by kernel_rfl) (fun d _ _ _ _ h => by cases d <;> exact h) (HSx.out _ (Drew.below ⟨1, rfl⟩ _)) ?_
    apply Exists.intro
    refine ⟨?_, ?_⟩
    · intro W hW
      have j1 : ∀ u, (W u).cell? ⟨l.p, 8, none⟩ = some (.pointer (some ⟨l.f, 0, none⟩)) := fun u => (hW u).2.1
      have j2 : ∀ u, (W u).cell? ⟨l.f, 1, none⟩ = some (.slice ax m qx) := fun u => (hW u).2.2
      have rl : ∀ u, (Instr.loadAt 147 (.pointer (some ⟨q, 0, none⟩))).run Tryz.prog (W u) = .ok (.agg (dnC x).toArray) (W u) := fun u => load_info_dn (hW u).1
      dsimp only [dnC] at rl
      have Hrl := hid rl
      clear hW rl
      simp only [List.take, opsAt, List.drop, List.cons_append, List.nil_append]
      repeat (first | (go_big_quiet_want; refine quiet_loadO 147 _ rfl ⟨q, 0, none⟩ rfl _ (fun w hx => by obtain ⟨x, rfl⟩ := hx; exact Hrl.out x) ?_; simp only [Act.put, List.setIfInBounds_toArray, List.set_cons_succ, List.set_cons_zero]; go_big_quiet_on) | go_big_quiet_step (fail))
      exact rfl
    simp only [List.take, List.drop, opsAt, List.cons_append, List.nil_append, wpHv]
    have HBd : Hid (Below w6.heap.size w6 w6.drew) := hid (Drew.below ⟨1, rfl⟩ _)
    generalize w6.drew = wd at HBd ⊢
    go_wp2_with fail
    obtain ⟨k8, hk8⟩ : ∃ k, wd.heap.size = k := ⟨_, rfl⟩
    obtain ⟨wf, hwf⟩ : ∃ wf, wd.alloc (.cells (dnC x).toArray 147) = wf := ⟨_, rfl⟩
    have HBf : Hid (Below w6.heap.size w6 wf) := hid (by rw [← hwf]; exact HBd.out.trans ((nbel wd _).mono HBd.out.size))
    have HNw : Hid (∀ ad, some (⟨k8, 0, none⟩ : Addr) = some ad → ∀ j u, ([x].flatMap rtD.f)[j]? = some u → wf.cell? (ad.add j) = some u) := hid (by rw [← hwf]; exact newX rtD wd x _ hk8.symm)
    dsimp only [dnC] at hwf
    (try simp only [hwf, hk8])
    refine ⟨HSx.out _ HBf.out, ?_⟩
    clear hwf hk8
    have HCf := hid (H6.out.below HBf.out)
    have HRwf := hid (HRw.out.fr (X := fun _ => false) (Fr.below HBf.out) (fun _ _ _ => rfl) (ρ' := ρ4))
    have hrf := HRwf.out.d
    rw [Hvx.out] at hrf
    refine wpList_app_x okD rfl (.tmp 81) (.tmp 83) hrf rfl [x] (by simp [Act.eval, Act.put]; done) (some ⟨k8, 0, none⟩) 1 1 (by simp [Act.eval, Act.put]; done) rfl (fun h => by cases h) HNw.out (by have := Hm.out; rw [this]; show (m + 1) * 64 ≤ _; omega) ?_
    intro v8 w8 ρ8 hr8 hf8 _ _
    obtain ⟨a8, q8, h8⟩ := hr8.out.shape
    rw [List.length_append, List.length_singleton, Hm.out] at h8
    subst h8
    have HP8 := hid (HCf.out.m.r.grow (V := V) (V' := { V with d := .slice a8 (m + 1) q8 }) (HV.out.below HBf.out) hf8.out (by decide) (by decide) (.slice a8 (m + 1) q8) 1 rfl (HRwf.out.putD hf8.out hr8.out))
    have hk8 : Blk w8 l.f 109 (flC l V) := hf8.out.keep (HV.out.below HBf.out) HCf.out.m.r.rf rfl
    have s0 : Blk w8 q 147 (dnC x) := hf8.out.keep HCf.out.bn HCf.out.zn rfl
    have s1 : w8.cell? ⟨l.p, 8, none⟩ = some (.pointer (some ⟨l.f, 0, none⟩)) := (hf8.out.keep HCf.out.m.pb HCf.out.m.r.rp rfl).cell 8
    have s2 : w8.cell? ⟨l.f, 1, none⟩ = some (.slice ax m qx) := by rw [← Hvx.out]; exact hk8.cell 1
    have f2 : w8.frozen? ⟨l.f, 1, none⟩ = false := hk8.frozen _
    have H9 : Hid (∃ M, M < Mx ∧ FiI N mg ρ w l bs S (w8.setCell ⟨l.f, 1, none⟩ (.slice a8 (m + 1) q8)) M) := hid (by
      obtain ⟨p1, p2⟩ := HCf.out.m.setF HP8.out.1 HP8.out.2.1
      have hq1 := HFy.out.thenQ (HCf.out.f.trans p2) Hqw.out
      have h6 : S4.used ≤ S4.cnt := HCf.out.m.ok.hu
      have h7 : S4.cnt ≤ 65536 := HCf.out.m.ok.hc
      have h8 : (PS.addD S4 x).used = S4.used := rfl
      have hu := HD4.out.1.use
      have ha := Hus.out
      have hdd := HPD.out.d
      have hd4 := HD4.out.2
      refine ⟨65536 - S4.used, by omega, S4.addD x, ρ8, p1, hq1, HFd.out.snoc Hk0.out HD4.out.1, ⟨⟨hd4.b.n, hd4.b.o⟩, hd4.f, ?_⟩, by omega⟩
      show (S4.fs.decls ++ [x]).length ≤ S4.used
      rw [List.length_append, List.length_singleton, hu.2]
      omega)
    clear hrf hr8 hf8 HNw HBf HBd HP8 hk8 HRwf HV HRw HCf H6 HSx
    go_wp2_with fail
    refine ⟨⟨s0, s1, s2⟩, ?_⟩
    simp only [QN]
    go_wp2
    obtain ⟨M9, hM9, hI9⟩ := H9.out
    refine ⟨hid ⟨M9, hI9⟩, ?_⟩
    refine Nat.lt_of_le_of_lt (leastN_le hI9) ?_
    rw [HMx.out]
    exact hM9
  have q23 : ((kd : Int) == 23) = false := by simp; omega
  have HP : Hid (FileBad bs l.n S) := hid ⟨S2, HFd.out, Hk0.out, DclBad.other (by rw [Hkd.out]; exact h21) (by rw [Hkd.out]; exact h22) (by rw [Hkd.out]; exact h23)⟩
  have HU := hid (unexpectedW H3.out.m ⟨#[39, 99, 111, 110, 115, 116, 39, 44, 32, 39, 116, 121, 112, 101, 39, 32, 111, 114, 32, 39, 99, 111, 110, 116, 97, 105, 110, 101, 114, 39]⟩ (by decide))
  clear h21 h22 h23
  go_wp2_with fail
  refine HU.out.mono ?_
  rintro e w4 ⟨rfl, hn4⟩
  have HN : Hid (∃ k, PNo N mg ρ w l bs k w4) := hid ⟨_, PNo.pre' HFy.out hn4.out⟩
  clear HU hn4 H3
  go_wp2
  go_ret
  exact .inr ⟨rfl, HP, HN⟩
end
end Go.Proofs.Qxb6500883aGreatDoor
