/- buildTable: the builder made. -/
import Derived.Test.Qxb6500883aGreatDoorScHk
import Derived.Test.Qxb6500883aGreatDoorTree
namespace Go.Proofs.Qxb6500883aGreatDoor
open Go.RowKit
set_option linter.unusedSimpArgs false
set_option linter.unusedVariables false
def BS.dcl (B : BS) (d : DC) : BS := { B with T := { B.T with decls := B.T.decls ++ [d] } }
def B0 : BS := ⟨T0 8, fun _ => none, fun _ => none, fun _ => -1⟩
/-- The declarations lowered one by one; the names' map. -/
inductive Bld (F : FS) (vf : Nat → Nat) : Nat → BS → (ByteArray → Option Nat) → Prop
  | zero : Bld F vf 0 B0 (fun _ => none)
  | con {i : Nat} {B : BS} {bn : ByteArray → Option Nat} {y : DN} {e : Nat} : Bld F vf i B bn → F.decls[i]? = some y → y.sort = 0 → y.expr = (e : Int) → Bld F vf (i + 1) (B.dcl ⟨0, y.name, vf e, -1⟩) (gup bn y.name (some i))
  | typ {i : Nat} {B B' : BS} {bn : ByteArray → Option Nat} {y : DN} {id : Nat} : Bld F vf i B bn → F.decls[i]? = some y → y.sort ≠ 0 → Low F vf (.dcl i) B B' [id] → Bld F vf (i + 1) (B'.dcl ⟨y.sort, y.name, 0, (id : Int)⟩) (gup bn y.name (some i))
section
variable {τ τ' : Rl} {w w' w0 w1 w2 : World} {tB : Nat} {V V' : TV} {T T' : TS} {M : TMp}
theorem TbM.give {g r : Nat} (h : TbM τ w tB V T) (hg : τ g = 0) : TbM (fup τ g r) w tB V T := by
  have k : ∀ (q c : Nat), c ≠ 0 → τ q = c → fup τ g r q = c := fun q c hc hq => by
    rw [fup_ne _ _ (by intro e; subst e; omega)]; exact hq
  exact ⟨h.b, k _ _ (by decide) h.rb, h.t.rho (fun q => k q _ (by decide)), h.f.rho (fun q => k q _ (by decide)), h.o.rho (fun q => k q _ (by decide)), h.d.rho (fun q => k q _ (by decide))⟩
theorem TbX.give {g r : Nat} (h : TbX τ w tB V T M) (hg : τ g = 0) (hlt : g < w.heap.size) : TbX (fup τ g r) w tB V T M := by
  refine ⟨h.tb.give hg, fun q hq => ?_, h.vs, h.vu, ?_, ?_, h.s, h.u⟩
  · by_cases e : q = g
    · subst e; exact hlt
    · rw [fup_ne _ _ e] at hq; exact h.dom q hq
  · rw [fup_ne _ _ (by intro e; have := h.rs; rw [e, hg] at this; cases this)]; exact h.rs
  · rw [fup_ne _ _ (by intro e; have := h.ru; rw [e, hg] at this; cases this)]; exact h.ru
/-- The builder at work inside buildTable: the names' map beside it (role 60). -/
structure Bst (w0 : World) (nd : Nat) (L : BLy) (B : BS) (mn : Nat) (bn : ByteArray → Option Nat) (V : TV) (ms mu : Nat) (vF : Value) (fps : List Nat) (τ : Rl) (w : World) : Prop where
  bd : BdX τ w L nd B V ms mu vF fps
  ln : L.n = .map (some mn)
  mg : MG (fun s : ByteArray => Value.string s) w mn (fun s => nmV (bn s))
  rm : τ mn = 60
  lo : ∀ g, τ g ≠ 0 → w0.heap.size ≤ g
  b : Below w0.heap.size w0 w
theorem Bst.below {nd mn ms mu : Nat} {L : BLy} {B : BS} {bn : ByteArray → Option Nat} {vF : Value} {fps : List Nat} (h : Bst w0 nd L B mn bn V ms mu vF fps τ w) (hb : Below w.heap.size w w') : Bst w0 nd L B mn bn V ms mu vF fps τ w' :=
  ⟨h.bd.below hb, h.ln, h.mg.below hb, h.rm, h.lo, h.b.trans (hb.mono h.b.size)⟩
theorem BdX.setF {L : BLy} {nd ms mu : Nat} {B : BS} {vF v' : Value} {fps fps' : List Nat} (h : BdX τ w L nd B V ms mu vF fps) (hr : RowX rtI w τ 59 v' fps') : BdX τ (w.setCell ⟨L.b, 3, none⟩ v') L nd B V ms mu v' fps' ∧ Fr XL τ w τ (w.setCell ⟨L.b, 3, none⟩ v') := by
  have hf2 : Fr (fun r => r == 57) τ w τ (w.setCell ⟨L.b, 3, none⟩ v') := Fr.set _ (by show (τ L.b == 57) = true; rw [h.rb]; rfl)
  exact ⟨⟨h.bb.set 3 v', h.rb, h.dt.fr hf2 rfl, hr.fr hf2 rfl, h.tb.fr hf2 (fun r h1 h2 => by simp; omega), h.vn⟩, hf2.one rfl⟩
/-- The builder has changed inside its own blocks; the names' map has not. -/
theorem Bst.step {nd mn ms mu ms' mu' : Nat} {L : BLy} {B B' : BS} {bn : ByteArray → Option Nat} {vF vF' : Value} {fps fps' : List Nat} {X : Nat → Bool} (h : Bst w0 nd L B mn bn V ms mu vF fps τ w) (hf : Fr X τ w τ' w') (h0 : X 0 = false) (h6 : X 60 = false) (hb : BdX τ' w' L nd B' V' ms' mu' vF' fps') : Bst w0 nd L B' mn bn V' ms' mu' vF' fps' τ' w' := by
  refine ⟨hb, h.ln, h.mg.of (hf.blk mn h.mg.lt (by rw [h.rm]; exact h6)), by rw [hf.old _ h.mg.lt]; exact h.rm, fun g hg => ?_, ?_⟩
  · by_cases hlt : g < w.heap.size
    · rw [hf.old g hlt] at hg; exact h.lo g hg
    · have := h.b.size; omega
  · exact h.b.trans ⟨hf.os, hf.tape, hf.output, hf.size, fun g hg => hf.blk g (Nat.lt_of_lt_of_le hg h.b.size) (by
      have : τ g = 0 := by
        cases e : τ g with
        | zero => rfl
        | succ z => have := h.lo g (by rw [e]; exact Nat.succ_ne_zero z); omega
      rw [this]; exact h0)⟩
theorem TbM.setD {ds : List DC} {v' : Value} (h : TbM τ w tB V T) (hr : RowX rtDc w τ 54 v' ds) : TbM τ (w.setCell ⟨tB, 3, none⟩ v') tB { V with d := v' } { T with decls := ds } ∧ Fr (fun c => c == 50) τ w τ (w.setCell ⟨tB, 3, none⟩ v') := by
  have hf2 : Fr (fun c => c == 50) τ w τ (w.setCell ⟨tB, 3, none⟩ v') := Fr.set _ (by show (τ tB == 50) = true; rw [h.rb]; rfl)
  exact ⟨⟨h.b.set 3 v', h.rb, h.t.fr hf2 rfl, h.f.fr hf2 rfl, h.o.fr hf2 rfl, hr.fr hf2 rfl⟩, hf2⟩
/-- Inside the loop over the declarations. -/
structure BlI (F : FS) (vf rk : Nat → Nat) (n nd : Nat) (w0 : World) (L : BLy) (mn R i : Nat) (w : World) : Prop where
  m : ∃ B bn V ms mu vF fps τ, Bst w0 nd L B mn bn V ms mu vF fps τ w ∧ Bld F vf i B bn ∧ fps.length = B.T.types.length ∧ (∀ p ∈ fps, p ≤ n) ∧ BOk B ∧ B.size + phi F rk B.dt R ≤ 200000 ∧ B.T.decls.length = i ∧ ∀ d ∈ B.T.decls, d.sort ≠ 0 → ∃ j : Nat, d.typ = (j : Int) ∧ j < B.T.types.length
/-- The declaration's record is ready in block q. -/
structure BlM (F : FS) (vf rk : Nat → Nat) (n nd : Nat) (w0 : World) (L : BLy) (mn R i q : Nat) (y : DN) (w : World) : Prop where
  m : ∃ B bn V ms mu vF fps τ D, Bst w0 nd L B mn bn V ms mu vF fps τ w ∧ Bld F vf (i + 1) (B.dcl D) (gup bn y.name (some i)) ∧ fps.length = B.T.types.length ∧ (∀ p ∈ fps, p ≤ n) ∧ BOk B ∧ B.size + phi F rk B.dt R ≤ 200000 ∧ B.T.decls.length = i ∧ (∀ d ∈ B.T.decls, d.sort ≠ 0 → ∃ j : Nat, d.typ = (j : Int) ∧ j < B.T.types.length) ∧ (D.sort ≠ 0 → ∃ j : Nat, D.typ = (j : Int) ∧ j < B.T.types.length) ∧ Blk w q 75 (dcC D) ∧ τ q = 0 ∧ w0.heap.size ≤ q
/-- The finished table in memory (roles 60 the names' map, 62 the aliases). -/
structure TbZ (w0 : World) (τ : Rl) (w : World) (tB : Nat) (V : TV) (T : TS) (ga mn : Nat) (al : Nat → Int) (bn : ByteArray → Option Nat) : Prop where
  tb : TbM τ w tB V T
  dom : ∀ g, τ g ≠ 0 → g < w.heap.size
  lo : ∀ g, τ g ≠ 0 → w0.heap.size ≤ g
  va : V.al = .slice (some ⟨ga, 0, none⟩) T.types.length T.types.length
  al : RwJ ga T.types.length al 62 τ w
  vb : V.byN = .map (some mn)
  mg : MG (fun s : ByteArray => Value.string s) w mn (fun s => nmV (bn s))
  rm : τ mn = 60
/-- What buildTable comes to. -/
structure BtQ (F : FS) (vf : Nat → Nat) (n : Nat) (w0 : World) (tB : Nat) (vF : Value) (w : World) : Prop where
  m : ∃ B bn V ga mn fps τ, TbZ w0 τ w tB V B.T ga mn (alK B.T F.decls.length) bn ∧ RowX rtI w τ 59 vF fps ∧ Bld F vf F.decls.length B bn ∧ fps.length = B.T.types.length ∧ (∀ p ∈ fps, p ≤ n) ∧ BOk B ∧ B.size ≤ 200000 ∧ B.T.decls.length = F.decls.length ∧ (∀ d ∈ B.T.decls, d.sort ≠ 0 → ∃ j : Nat, d.typ = (j : Int) ∧ j < B.T.types.length)
  b : Below w0.heap.size w0 w
theorem info_dc : (Tryz.prog.info? 75).map (·.size) = some 4 := by kernel_rfl
theorem load_info_dc {w : World} {g : Nat} {x : DC} (h : Blk w g 75 (dcC x)) : (Instr.loadAt 75 (.pointer (some ⟨g, 0, none⟩))).run Tryz.prog w = .ok (.agg (dcC x).toArray) w := run_loadAt_mid w g 0 75 (dcC x) _ h.rangeAt Tryz.underlying75 rfl info_dc
/-- A bound on the ranks. -/
theorem rk_bound (rk : Nat → Nat) : ∀ n : Nat, ∃ R, ∀ d, d < n → rk d < R
  | 0 => ⟨0, fun d h => absurd h (Nat.not_lt_zero _)⟩
  | n + 1 => by
    obtain ⟨R, h⟩ := rk_bound rk n
    refine ⟨R + rk n + 1, fun d hd => ?_⟩
    by_cases e : d = n
    · subst e; omega
    · have := h d (by omega); omega
/-- The builder, new. -/
theorem Bst.start {tB ms mu mn c gD bB nd : Nat} {v : Value} {wn w5 : World} (h : NwT wn 8 tB ms mu mn v w1) (hb0 : Below w0.heap.size w0 wn) (hb : Below w1.heap.size w1 w5) (hD : Blk w5 gD 47 (madeCells #[.int .i32 0] nd).toList) (hB : Blk w5 bB 181 [.pointer (some ⟨c, 0, none⟩), .pointer (some ⟨tB, 0, none⟩), .slice (some ⟨gD, 0, none⟩) nd nd, .slice none 0 0]) (hg : gD < wn.heap.size ∨ w1.heap.size ≤ gD) (hg2 : w0.heap.size ≤ gD) (hbb : w1.heap.size ≤ bB) (hne : gD ≠ bB) : ∃ V τ, Bst w0 nd ⟨bB, tB, c, gD, .map (some mn)⟩ { B0 with dt := fun _ => 0 } mn (fun _ => none) V ms mu (.slice none 0 0) [] τ w5 := by
  obtain ⟨τ, hT, hM, hr, hlo⟩ := h.m
  have z1 : τ gD = 0 := by
    cases e : τ gD with
    | zero => rfl
    | succ z =>
      have h1 := hT.dom gD (by rw [e]; exact Nat.succ_ne_zero z)
      have h2 := hlo gD (by rw [e]; exact Nat.succ_ne_zero z)
      omega
  have z2 : τ bB = 0 := by
    cases e : τ bB with
    | zero => rfl
    | succ z =>
      have h1 := hT.dom bB (by rw [e]; exact Nat.succ_ne_zero z)
      omega
  have hT5 := hT.below hb
  have hTa := hT5.give (r := 58) z1 hD.lt
  have z3 : fup τ gD 58 bB = 0 := by rw [fup_ne _ _ (Ne.symm hne)]; exact z2
  have hTb := hTa.give (r := 57) z3 hB.lt
  have hmn : mn ≠ gD ∧ mn ≠ bB := ⟨(by intro e; rw [e, z1] at hr; cases hr), (by intro e; rw [e, z2] at hr; cases hr)⟩
  refine ⟨_, fup (fup τ gD 58) bB 57, ⟨⟨hB, fup_self _ _ _, ⟨?_, ?_⟩, RowX.nil _ _ _ _, hTb, rfl⟩, rfl, ?_, ?_, fun g hg3 => ?_, ?_⟩⟩
  · have e : (madeCells #[.int .i32 0] nd).toList = fnC nd (fun j => Value.int .i32 0) := by
      rw [toList_madeCells_one]
      unfold fnC
      rw [List.map_const', List.length_range]
    rw [e] at hD
    exact hD
  · show fup (fup τ gD 58) bB 57 gD = 58
    rw [fup_ne _ _ hne, fup_self]
  · exact hM.below hb
  · rw [fup_ne _ _ hmn.2, fup_ne _ _ hmn.1]; exact hr
  · by_cases e1 : g = bB
    · subst e1
      have := h.b.size
      have := hb0.size
      omega
    · rw [fup_ne _ _ e1] at hg3
      by_cases e2 : g = gD
      · subst e2; exact hg2
      · rw [fup_ne _ _ e2] at hg3
        have := hlo g hg3
        have := hb0.size
        omega
  · have h1 := hb0.trans (h.b.mono hb0.size)
    exact h1.trans (hb.mono h1.size)
end
section
variable {N mg : Nat} {ρ : Rl} {w0 w wz : World} {l : PL} {bs : List UInt8} {F : FS} {U : FV} {c : Nat} {V : CV} {gT gV : Nat} {vf rk : Nat → Nat} {L : BLy} {R : Nat} {τ : Rl} {B : BS}
set_option maxRecDepth 100000 in
set_option maxHeartbeats 4000000 in
theorem buildTableW (hC : LCx N mg ρ w l bs F U c V gT gV vf rk) (hS : ShOk F vf) : Calls Tryz.prog 61 #[.pointer (some ⟨c, 0, none⟩)] w fun e w' => ∃ tB vF, e = .returned (.tuple #[.pointer (some ⟨tB, 0, none⟩), vF]) ∧ Hid (BtQ F vf l.n w tB vF w') := by
  obtain ⟨nd, hnd⟩ : ∃ n, F.decls.length = n := ⟨_, rfl⟩
  obtain ⟨nt, hnt⟩ : ∃ n, F.types.length = n := ⟨_, rfl⟩
  have Hnd := hid hnd
  have Hnt := hid hnt
  have hnd2 : nd ≤ 65536 := by rw [← hnd]; exact hC.sz.d
  have hnt2 : nt ≤ 65536 := by rw [← hnt]; exact hC.sz.t
  obtain ⟨ad, qd, hud⟩ := hC.m.fr.d.shape
  obtain ⟨at_, qt, hut⟩ := hC.m.fr.t.shape
  rw [hnd] at hud
  rw [hnt] at hut
  have HFl : Hid (∀ wz, Below w.heap.size w wz → wz.cell? ⟨l.f, 1, none⟩ = some (.slice ad nd qd) ∧ wz.cell? ⟨l.f, 2, none⟩ = some (.slice at_ nt qt)) := hid (fun wz hz => ⟨by rw [← hud]; exact (hC.fil hz).1, by rw [← hut]; exact (hC.fil hz).2.1⟩)
  have Hud := hid hud
  have c0 := (hC.chk (Below.refl _ _)).1
  have HC := hid hC
  have HS := hid hS
  have HG := hid (fun wz (hz : Below w.heap.size w wz) => newTableW (hC.m.r.gl.below (hz.mono hC.m.r.gl.sz)))
  have hmk : ∀ wz : World, (Instr.makeSlice 58 (.int .i64 (nd : Int)) (.int .i64 (nd : Int))).run Tryz.prog wz = .ok (.slice (some ⟨wz.heap.size, 0, none⟩) nd nd) (wz.alloc (.cells (madeCells #[.int .i32 0] nd) 47)) := fun wz =>
    run_make_lc 58 47 (.int .i32 0) 4 Tryz.underlying58 (by kernel_rfl) rfl .i64 .i64 nd nd (Nat.le_refl _) (by omega) (by omega) wz
  have Hmk := hid hmk
  clear hmk hC hS hnd hnt hud hut
  go_enter Tryz.func61, Tryz.ntmps61
  go_upto_region 2 with fail
  clear c0
  go_cut [5] from 14 to 23 (fun v wc => ∃ L : BLy, v = .pointer (some ⟨L.b, 0, none⟩) ∧ Hid (L.c = c ∧ ∃ mn ms mu V τ, Bst w nd L { B0 with dt := fun _ => 0 } mn (fun _ => none) V ms mu (.slice none 0 0) [] τ wc))
  case first =>
    have HBd : Hid (Below w.heap.size w w.drew) := hid (Drew.below ⟨1, rfl⟩ _)
    refine wp_region_tree (fun wz => wz.cell? ⟨l.f, 1, none⟩ = some (.slice ad nd qd)) 10 [0, 2, 3, 4, 5, 6] (.two 1 (.one 7 (.lit [8] (.one 9 .leaf))) 7 (.one 1 (.lit [8] (.one 9 .leaf)))) rfl (by kernel_rfl) (by kernel_rfl) (fun d _ _ _ _ h => by cases d <;> exact h) (HFl.out _ HBd.out).1 ?_
    apply Exists.intro
    refine ⟨?_, ?_⟩
    · intro W hW
      have q0 : ∀ z, (W z).cell? ⟨l.f, 1, none⟩ = some (.slice ad nd qd) := fun z => hW z
      clear hW
      simp only [List.take, opsAt, List.drop, List.cons_append, List.nil_append]
      repeat (go_big_quiet_step (fail))
      exact rfl
    generalize w.drew = wd at HBd ⊢
    simp only [List.take, List.drop, opsAt, List.cons_append, List.nil_append, wpTr]
    refine ⟨?_, ?_⟩
    · have HA := hid (HG.out wd HBd.out)
      go_wp2_with fail
      refine HA.out.mono ?_
      rintro e w1 ⟨tB, ms, mu, mn, v, rfl, hN⟩
      clear HA
      have HB1 := hid (HBd.out.trans (hN.out.b.mono HBd.out.size))
      go_wp2_with fail
      refine ⟨(HFl.out _ HB1.out).1, ?_⟩
      simp only [List.take, List.drop, opsAt, List.cons_append, List.nil_append, wpTr]
      have hmw := Hmk.out w1
      obtain ⟨gD, hgD⟩ : ∃ p, w1.heap.size = p := ⟨_, rfl⟩
      obtain ⟨w2, hw2⟩ : ∃ x, w1.alloc (.cells (madeCells #[.int .i32 0] nd) 47) = x := ⟨_, rfl⟩
      rw [hgD, hw2] at hmw
      have b2 : Below w1.heap.size w1 w2 := by rw [← hw2]; exact nbel w1 _
      have HB2 := hid (HB1.out.trans (b2.mono HB1.out.size))
      go_wp2_with fail
      refine ⟨(HFl.out _ HB2.out).1, ?_⟩
      (try dsimp only)
      apply Exists.intro
      refine ⟨?_, ?_⟩
      · intro W hW
        (try simp only [List.take, opsAt, List.drop, List.cons_append, List.nil_append])
        repeat (go_big_quiet_step (fail))
        exact rfl
      (try simp only [List.take, List.drop, opsAt, List.cons_append, List.nil_append, wpTr])
      obtain ⟨bB, hbB⟩ : ∃ p, w2.heap.size = p := ⟨_, rfl⟩
      obtain ⟨w5, hw5⟩ : ∃ x, w2.alloc (.cells #[.pointer (some ⟨c, 0, none⟩), .pointer (some ⟨tB, 0, none⟩), .slice (some ⟨gD, 0, none⟩) nd nd, .slice none 0 0] 181) = x := ⟨_, rfl⟩
      have b5 : Below w2.heap.size w2 w5 := by rw [← hw5]; exact nbel w2 _
      have HB5 := hid (HB2.out.trans (b5.mono HB2.out.size))
      have HbB : Hid (Blk w5 bB 181 [.pointer (some ⟨c, 0, none⟩), .pointer (some ⟨tB, 0, none⟩), .slice (some ⟨gD, 0, none⟩) nd nd, .slice none 0 0]) := hid (by
        have := Blk.new w2 [.pointer (some ⟨c, 0, none⟩), .pointer (some ⟨tB, 0, none⟩), .slice (some ⟨gD, 0, none⟩) nd nd, .slice none 0 0] 181
        rw [hbB, hw5] at this
        exact this)
      have HE : Hid (∃ ms mu V τ, Bst w nd ⟨bB, tB, c, gD, .map (some mn)⟩ { B0 with dt := fun _ => 0 } mn (fun _ => none) V ms mu (.slice none 0 0) [] τ w5) := hid (by
        have hD : Blk w5 gD 47 (madeCells #[.int .i32 0] nd).toList := by
          have := Blk.new w1 (madeCells #[.int .i32 0] nd).toList 47
          rw [hgD] at this
          have e : w1.alloc (.cells (madeCells #[.int .i32 0] nd).toList.toArray 47) = w2 := hw2
          rw [e] at this
          exact this.below b5
        have s1 := b2.size
        have s2 : gD < w2.heap.size := by rw [← hw2]; simp; omega
        obtain ⟨V, τ, h⟩ := Bst.start (c := c) hN.out HBd.out (b2.trans (b5.mono b2.size)) hD HbB.out (.inr (by omega)) (by have := HB1.out.size; omega) (by omega) (by omega)
        exact ⟨ms, mu, V, τ, h⟩)
      go_wp2_with fail
      (try simp only [hbB, hw5])
      refine ⟨(HFl.out _ HB5.out).1, ?_⟩
      simp only [QN]
      clear hbB hw5 hgD hw2 hmw b2 b5
      go_wp2_with fail
      go_meet
      exact ⟨⟨bB, tB, c, gD, .map (some mn)⟩, rfl, hid ⟨rfl, mn, HE.out⟩⟩
    · have hmw := Hmk.out wd
      obtain ⟨gD, hgD⟩ : ∃ p, wd.heap.size = p := ⟨_, rfl⟩
      obtain ⟨w1, hw1⟩ : ∃ x, wd.alloc (.cells (madeCells #[.int .i32 0] nd) 47) = x := ⟨_, rfl⟩
      rw [hgD, hw1] at hmw
      have b1 : Below wd.heap.size wd w1 := by rw [← hw1]; exact nbel wd _
      have HB1 := hid (HBd.out.trans (b1.mono HBd.out.size))
      go_wp2_with fail
      refine ⟨(HFl.out _ HB1.out).1, ?_⟩
      simp only [List.take, List.drop, opsAt, List.cons_append, List.nil_append, wpTr]
      have HA := hid (HG.out w1 HB1.out)
      go_wp2_with fail
      refine HA.out.mono ?_
      rintro e w2 ⟨tB, ms, mu, mn, v, rfl, hN⟩
      clear HA
      have HB2 := hid (HB1.out.trans (hN.out.b.mono HB1.out.size))
      go_wp2_with fail
      refine ⟨(HFl.out _ HB2.out).1, ?_⟩
      (try dsimp only)
      apply Exists.intro
      refine ⟨?_, ?_⟩
      · intro W hW
        (try simp only [List.take, opsAt, List.drop, List.cons_append, List.nil_append])
        repeat (go_big_quiet_step (fail))
        exact rfl
      (try simp only [List.take, List.drop, opsAt, List.cons_append, List.nil_append, wpTr])
      obtain ⟨bB, hbB⟩ : ∃ p, w2.heap.size = p := ⟨_, rfl⟩
      obtain ⟨w5, hw5⟩ : ∃ x, w2.alloc (.cells #[.pointer (some ⟨c, 0, none⟩), .pointer (some ⟨tB, 0, none⟩), .slice (some ⟨gD, 0, none⟩) nd nd, .slice none 0 0] 181) = x := ⟨_, rfl⟩
      have b5 : Below w2.heap.size w2 w5 := by rw [← hw5]; exact nbel w2 _
      have HB5 := hid (HB2.out.trans (b5.mono HB2.out.size))
      have HbB : Hid (Blk w5 bB 181 [.pointer (some ⟨c, 0, none⟩), .pointer (some ⟨tB, 0, none⟩), .slice (some ⟨gD, 0, none⟩) nd nd, .slice none 0 0]) := hid (by
        have := Blk.new w2 [.pointer (some ⟨c, 0, none⟩), .pointer (some ⟨tB, 0, none⟩), .slice (some ⟨gD, 0, none⟩) nd nd, .slice none 0 0] 181
        rw [hbB, hw5] at this
        exact this)
      have HE : Hid (∃ ms mu V τ, Bst w nd ⟨bB, tB, c, gD, .map (some mn)⟩ { B0 with dt := fun _ => 0 } mn (fun _ => none) V ms mu (.slice none 0 0) [] τ w5) := hid (by
        have s2 : gD < w1.heap.size := by rw [← hw1]; simp; omega
        have hD : Blk w5 gD 47 (madeCells #[.int .i32 0] nd).toList := by
          have := Blk.new wd (madeCells #[.int .i32 0] nd).toList 47
          rw [hgD] at this
          have e : wd.alloc (.cells (madeCells #[.int .i32 0] nd).toList.toArray 47) = w1 := hw1
          rw [e] at this
          exact (this.below hN.out.b).below b5
        have s1 := hN.out.b.size
        obtain ⟨V, τ, h⟩ := Bst.start (c := c) hN.out HB1.out b5 hD HbB.out (.inl s2) (by have := HBd.out.size; omega) (by omega) (by omega)
        exact ⟨ms, mu, V, τ, h⟩)
      go_wp2_with fail
      (try simp only [hbB, hw5])
      refine ⟨(HFl.out _ HB5.out).1, ?_⟩
      simp only [QN]
      clear hbB hw5 hgD hw1 hmw b1 b5
      go_wp2_with fail
      go_meet
      exact ⟨⟨bB, tB, c, gD, .map (some mn)⟩, rfl, hid ⟨rfl, mn, HE.out⟩⟩
  case rest =>
  obtain ⟨L, rfl, HL⟩ := hcut
  obtain ⟨hLc, mn, ms, mu, V1, τ1, hB⟩ := HL.out
  have Hst := hid hB
  have HLc := hid hLc
  clear hB hLc HL HG Hmk
  have b3 := Hst.out.bd.cells.2.2.2
  have z3 : wc.frozen? ⟨L.b, 3, none⟩ = false := Hst.out.bd.bb.frozen 3
  have f2 := (HFl.out wc Hst.out.b).2
  have e8 : IntKind.i64.wrap (8 + (nt : Int)) = 8 + (nt : Int) := by rw [IntKind.wrap_i64]; omega
  have hmk : (Instr.makeSlice 124 (.int .i32 8) (.int .i64 (8 + (nt : Int)))).run Tryz.prog wc = .ok (.slice (some ⟨wc.heap.size, 0, none⟩) 8 (8 + nt)) (wc.alloc (.cells (madeCells #[.int .i64 0] (8 + nt)) 3)) := by
    have := run_make_lc (P := Tryz.prog) 124 3 (.int .i64 0) 8 Tryz.underlying124 (by kernel_rfl) rfl .i32 .i64 8 (8 + nt) (by omega) (by omega) (by omega) wc
    rw [show ((8 + nt : Nat) : Int) = 8 + (nt : Int) by omega] at this
    exact this
  obtain ⟨gF, hgF⟩ : ∃ p, wc.heap.size = p := ⟨_, rfl⟩
  obtain ⟨wa, hwa⟩ : ∃ x, wc.alloc (.cells (madeCells #[.int .i64 0] (8 + nt)) 3) = x := ⟨_, rfl⟩
  rw [hgF, hwa] at hmk
  have HA : Hid (BdX (fup τ1 gF 59) wa L nd { B0 with dt := fun _ => 0 } V1 ms mu (.slice none 0 0) [] ∧ RowX rtI wa (fup τ1 gF 59) 59 (.slice (some ⟨gF, 0, none⟩) 8 (8 + nt)) (List.replicate 8 0) ∧ Fr (fun _ => false) τ1 wc (fup τ1 gF 59) wa) := hid (by
    have hf := Fr.alloc (fun _ => false) τ1 wc (.cells (madeCells #[.int .i64 0] (8 + nt)) 3) 59
    rw [hgF, hwa] at hf
    have k0 := Blk.new wc (madeCells #[.int .i64 0] (8 + nt)).toList 3
    rw [hgF] at k0
    have k1 : Blk wa gF 3 (madeCells #[.int .i64 0] (8 + nt)).toList := by rw [← hwa]; exact k0
    refine ⟨Hst.out.bd.fr hf (fun _ _ => rfl), RowX.made (K := rtI) k1 (by decide) (fun _ => rfl) ?_ (by show 8 + nt ≤ 9223372036854775807; omega) rfl (by omega) ?_ (fup_self _ _ _), hf⟩
    · show (madeCells #[.int .i64 0] (8 + nt)).toList.length = (8 + nt) * 1
      simp [madeCells]
    · rw [toList_madeCells_one]
      show _ = (List.replicate (8 + nt) (Value.int .i64 0)).take (8 * 1)
      rw [List.take_replicate, Nat.min_eq_left (by omega)]
      rfl)
  have z3a : wa.frozen? ⟨L.b, 3, none⟩ = false := HA.out.1.bb.frozen 3
  have b3a := HA.out.1.cells.2.2.2
  have HS2 : Hid (Bst w nd L { B0 with dt := fun _ => 0 } mn (fun _ => none) V1 ms mu (.slice (some ⟨gF, 0, none⟩) 8 (8 + nt)) (List.replicate 8 0) (fup τ1 gF 59) (wa.setCell ⟨L.b, 3, none⟩ (.slice (some ⟨gF, 0, none⟩) 8 (8 + nt)))) := hid (by
    obtain ⟨a1, a2, a3⟩ := HA.out
    obtain ⟨k1, k2⟩ := a1.setF a2
    exact Hst.out.step ((a3.mono (fun _ h => by cases h)).trans k2) rfl rfl k1)
  obtain ⟨τ2, hτ2⟩ : ∃ t, fup τ1 gF 59 = t := ⟨_, rfl⟩
  rw [hτ2] at HS2
  clear HA Hst hτ2
  go_upto_region 4 with fail
  generalize hws : wa.setCell _ _ = ws at HS2 ⊢
  clear hws b3 z3 f2 e8 hmk hwa hgF z3a b3a
  have b2 := HS2.out.bd.cells.2.2.1
  go_upto_region 5 with fail
  clear b2
  go_loopw [39] (fun t wr => ∃ (i : Nat), t = .int .i64 (i : Int) ∧ i ≤ nd ∧ Hid (Bst w nd L { B0 with dt := fun j => if j < i then -1 else 0 } mn (fun _ => none) V1 ms mu (.slice (some ⟨gF, 0, none⟩) 8 (8 + nt)) (List.replicate 8 0) τ2 wr)) (fun t _ => nd - (intOf t).toNat)
  case atStart => exact ⟨0, rfl, Nat.zero_le _, hid (by simpa using HS2.out)⟩
  case round =>
  obtain ⟨i, rfl, hi2, HI⟩ := hrel
  clear HS2
  by_cases hin : i < nd
  · as_aux_lemma =>
    have d1 : decide ((i : Int) < (nd : Int)) = true := decide_eq_true (by omega)
    have i1 : (i : Int) < (nd : Int) := by omega
    have b2 := HI.out.bd.cells.2.2.1
    have cz := HI.out.bd.dt.get hin
    have cf := HI.out.bd.dt.frozen i
    have HE : Hid (Bst w nd L { B0 with dt := fun j => if j < i + 1 then -1 else 0 } mn (fun _ => none) V1 ms mu (.slice (some ⟨gF, 0, none⟩) 8 (8 + nt)) (List.replicate 8 0) τ2 (wr.setCell ⟨L.gD, i, none⟩ (.int .i32 (-1)))) := hid (by
      obtain ⟨k1, k2, _⟩ := HI.out.bd.setD hin (-1)
      have e : fup (fun j => if j < i then (-1 : Int) else 0) i (-1) = fun j => if j < i + 1 then -1 else 0 := by
        funext j
        by_cases hj : j = i
        · subst hj; rw [fup_self, if_pos (by omega)]
        · rw [fup_ne _ _ hj]
          by_cases h1 : j < i
          · rw [if_pos h1, if_pos (by omega)]
          · rw [if_neg h1, if_neg (by omega)]
      have k3 : BdX τ2 (wr.setCell ⟨L.gD, i, none⟩ (.int .i32 (-1))) L nd { B0 with dt := fup (fun j => if j < i then (-1 : Int) else 0) i (-1) } V1 ms mu (.slice (some ⟨gF, 0, none⟩) 8 (8 + nt)) (List.replicate 8 0) := k1
      rw [e] at k3
      exact HI.out.step k2 rfl rfl k3)
    clear HI
    go_wp2
    exact ⟨⟨i + 1, by go_num, by omega, HE⟩, by simp [intOf]; omega⟩
  have d1 : decide ((i : Int) < (nd : Int)) = false := decide_eq_false (by omega)
  have HS3 : Hid (Bst w nd L B0 mn (fun _ => none) V1 ms mu (.slice (some ⟨gF, 0, none⟩) 8 (8 + nt)) (List.replicate 8 0) τ2 wr) := hid (by
    have h1 := HI.out
    have h2 := h1.bd
    refine ⟨⟨h2.bb, h2.rb, h2.dt.congr (fun j hj => ?_), h2.fp, h2.tb, h2.vn⟩, h1.ln, h1.mg, h1.rm, h1.lo, h1.b⟩
    show (if j < i then (-1 : Int) else 0) = -1
    rw [if_pos (by omega)])
  clear HI
  go_upto_region 9 with fail
  have HBd : Hid (Below wr.heap.size wr wr.drew) := hid (Drew.below ⟨1, rfl⟩ _)
  have HSd := hid (HS3.out.below HBd.out)
  clear HS3
  refine wp_region_heavy (fun wz => wz.cell? ⟨L.b, 1, none⟩ = some (.pointer (some ⟨L.t, 0, none⟩)) ∧ wz.cell? ⟨l.f, 1, none⟩ = some (.slice ad nd qd)) 10 [0, 1, 2, 3, 4, 5, 6, 7, 8] [9] rfl (by kernel_rfl) (by kernel_rfl) (fun d _ _ _ _ h => by cases d <;> exact h) ⟨HSd.out.bd.cells.2.1, (HFl.out _ HSd.out.b).1⟩ ?_
  apply Exists.intro
  refine ⟨?_, ?_⟩
  · intro W hW
    have q0 : ∀ z, (W z).cell? ⟨L.b, 1, none⟩ = some (.pointer (some ⟨L.t, 0, none⟩)) := fun z => (hW z).1
    have q1 : ∀ z, (W z).cell? ⟨l.f, 1, none⟩ = some (.slice ad nd qd) := fun z => (hW z).2
    clear hW
    simp only [List.take, opsAt, List.drop, List.cons_append, List.nil_append]
    repeat (go_big_quiet_step (fail))
    exact rfl
  simp only [List.take, List.drop, opsAt, List.cons_append, List.nil_append, wpHv]
  generalize wr.drew = wd at HBd HSd ⊢
  have hmk : (Instr.makeSlice 71 (.int .i64 0) (.int .i64 (nd : Int))).run Tryz.prog wd = .ok (.slice (some ⟨wd.heap.size, 0, none⟩) 0 nd) (wd.alloc (.cells (madeCells #[.int .u8 0, .string ⟨#[]⟩, .int .u64 0, .int .i32 0] (nd * 4)) 75)) :=
    run_make_k 71 75 (.agg #[.int .u8 0, .string ⟨#[]⟩, .int .u64 0, .int .i32 0]) 4 40 Tryz.underlying71 (by kernel_rfl) .i64 .i64 0 nd (Nat.zero_le _) (by omega) (by omega) wd
  obtain ⟨gL, hgL⟩ : ∃ p, wd.heap.size = p := ⟨_, rfl⟩
  obtain ⟨wa2, hwa2⟩ : ∃ x, wd.alloc (.cells (madeCells #[.int .u8 0, .string ⟨#[]⟩, .int .u64 0, .int .i32 0] (nd * 4)) 75) = x := ⟨_, rfl⟩
  rw [hgL, hwa2] at hmk
  have HA : Hid (BdX (fup τ2 gL 54) wa2 L nd B0 V1 ms mu (.slice (some ⟨gF, 0, none⟩) 8 (8 + nt)) (List.replicate 8 0) ∧ RowX rtDc wa2 (fup τ2 gL 54) 54 (.slice (some ⟨gL, 0, none⟩) 0 nd) [] ∧ Fr (fun _ => false) τ2 wd (fup τ2 gL 54) wa2) := hid (by
    have hf := Fr.alloc (fun _ => false) τ2 wd (.cells (madeCells #[.int .u8 0, .string ⟨#[]⟩, .int .u64 0, .int .i32 0] (nd * 4)) 75) 54
    rw [hgL, hwa2] at hf
    have k0 := Blk.new wd (madeCells #[.int .u8 0, .string ⟨#[]⟩, .int .u64 0, .int .i32 0] (nd * 4)).toList 75
    rw [hgL] at k0
    have k1 : Blk wa2 gL 75 (madeCells #[.int .u8 0, .string ⟨#[]⟩, .int .u64 0, .int .i32 0] (nd * 4)).toList := by rw [← hwa2]; exact k0
    refine ⟨HSd.out.bd.fr hf (fun _ _ => rfl), RowX.made (K := rtDc) k1 (by decide) (fun _ => rfl) ?_ (by show nd ≤ 9223372036854775807; omega) rfl (Nat.zero_le _) (by simp) (fup_self _ _ _), hf⟩
    show (madeCells #[.int .u8 0, .string ⟨#[]⟩, .int .u64 0, .int .i32 0] (nd * 4)).toList.length = nd * 4
    simp [madeCells])
  have c3 : wa2.cell? ⟨L.t, 3, none⟩ = some V1.d := HA.out.1.tb.tb.b.cell 3
  have z3 : wa2.frozen? ⟨L.t, 3, none⟩ = false := HA.out.1.tb.tb.b.frozen 3
  have sS : wa2.cell? ⟨L.b, 1, none⟩ = some (.pointer (some ⟨L.t, 0, none⟩)) := HA.out.1.cells.2.1
  obtain ⟨R, hR⟩ := rk_bound rk nd
  have HR := hid hR
  have HS4 : Hid (BlI F vf rk l.n nd w L mn R 0 (wa2.setCell ⟨L.t, 3, none⟩ (.slice (some ⟨gL, 0, none⟩) 0 nd))) := hid (by
    obtain ⟨a1, a2, a3⟩ := HA.out
    obtain ⟨k1, k2⟩ := a1.tb.tb.setD a2
    have hX : TbX (fup τ2 gL 54) (wa2.setCell ⟨L.t, 3, none⟩ (.slice (some ⟨gL, 0, none⟩) 0 nd)) L.t { V1 with d := .slice (some ⟨gL, 0, none⟩) 0 nd } B0.T ⟨ms, mu, B0.sh, B0.un⟩ := a1.tb.fr' k2 rfl rfl k1 rfl rfl
    have hB := a1.tab k2 rfl rfl rfl (B' := B0) hX rfl rfl
    have hst := HSd.out.step ((a3.mono (fun _ h => by cases h)).trans (k2.mono (Y := XL) (fun c hc => by simp at hc; subst hc; rfl))) rfl rfl hB
    refine ⟨B0, _, _, ms, mu, _, List.replicate 8 0, _, hst, .zero, by simp [B0, T0], fun p hp => ?_, ⟨by show 8 ≤ ((List.range 8).map biR).length; simp, fun d => .inl rfl, fun k i h => (by cases h), fun k i h => (by cases h)⟩, ?_, rfl, fun d hd => (by cases hd)⟩
    · rw [List.mem_replicate] at hp
      omega
    · have h1 := phi_all (F := F) (rk := rk) (dt := B0.dt) (R := R) HC.out.rg
      have h2 := HC.out.sz.t
      have h3 := HC.out.sz.d
      have h4 : B0.size = 8 := rfl
      omega)
  have HBl : Hid (wa2.cell? ⟨l.f, 1, none⟩ = some (.slice ad nd qd)) := hid ((HFl.out _ (by have := HSd.out.b; rw [← hwa2]; exact this.trans ((nbel wd _).mono this.size))).1)
  clear HA hR
  go_wp2_with fail
  (try simp only [hgL, hwa2])
  refine ⟨⟨sS, HBl.out⟩, ?_⟩
  simp only [QN]
  clear hmk hgL hwa2 HBd HSd HBl
  go_upto_region 10 with fail
  generalize hws : wa2.setCell _ _ = wt at HS4 ⊢
  clear hws c3 z3 sS
  have f1 : wt.cell? ⟨l.f, 1, none⟩ = some (.slice ad nd qd) := by
    obtain ⟨_, _, _, _, _, _, _, _, hst, _⟩ := HS4.out.m
    exact (HFl.out _ hst.b).1
  go_upto_region 11 with fail
  clear f1
  go_loopw [66] (fun t wr => ∃ (i : Nat), t = .int .i64 (i : Int) ∧ i ≤ nd ∧ Hid (BlI F vf rk l.n nd w L mn R i wr)) (fun t _ => nd - (intOf t).toNat)
  case atStart => exact ⟨0, rfl, Nat.zero_le _, HS4⟩
  case round =>
  clear HS4
  rename_i i0
  obtain ⟨i, rfl, hi3, HI⟩ := hrel
  by_cases hin2 : i < nd
  rotate_left
  · have d2 : decide ((i : Int) < (nd : Int)) = false := decide_eq_false (by omega)
    obtain ⟨B, bn, V2, ms2, mu2, vF, fps, τ, hst, hbd, hfl, hfn, hO, hsz, hdl, hdt⟩ := HI.out.m
    have hie : i = nd := by omega
    rw [hie] at hbd hdl
    have b1 := hst.bd.cells.2.1
    have hsz2 : B.size ≤ 200000 := by omega
    have htl : B.T.types.length ≤ 1000000 := by unfold BS.size at hsz2; omega
    have HA := hid (noteAliasesW hst.bd.tb.tb hst.bd.tb.dom (fun d hd h1 => hdt d hd (by omega)) htl (by omega))
    have Hst := hid hst
    have HL2 := hid (And.intro hbd (And.intro hfl (And.intro hfn (And.intro hO (And.intro hsz2 (And.intro hdl hdt))))))
    clear hst hbd hfl hfn hO hsz hsz2 hdl hdt HI hie htl
    go_wp2_with fail
    refine HA.out.mono ?_
    rintro e w7 ⟨rfl, h7⟩
    clear HA b1
    obtain ⟨ga, τ7, hN, hgw⟩ := h7.out
    have HN := hid hN
    clear hN h7
    have hbb : Blk w7 L.b 181 (bdC L nd vF) := HN.out.fr.keep Hst.out.bd.bb Hst.out.bd.rb rfl
    have b1 : w7.cell? ⟨L.b, 1, none⟩ = some (.pointer (some ⟨L.t, 0, none⟩)) := hbb.cell 1
    have b3 : w7.cell? ⟨L.b, 3, none⟩ = some vF := hbb.cell 3
    obtain ⟨af, qf, hvf⟩ := Hst.out.bd.fp.shape
    have HF : Hid (∀ wz, Below w7.heap.size w7 wz → BtQ F vf l.n w L.t vF wz) := hid (fun wz hz => by
      obtain ⟨hbd, hfl, hfn, hO, hsz2, hdl, hdt⟩ := HL2.out
      have h1 := Hst.out
      have hN := HN.out.below hz
      have hdm := hN.fr.dom h1.bd.tb.dom
      refine ⟨⟨B, bn, _, ga, mn, fps, τ7, ⟨hN.tb, hdm, fun g hg => ?_, rfl, ?_, ?_, ?_, ?_⟩, h1.bd.fp.fr hN.fr rfl, ?_, hfl, hfn, hO, hsz2, by rw [Hnd.out]; exact hdl, hdt⟩, ?_⟩
      · by_cases hlt : g < wr.heap.size
        · rw [hN.fr.old g hlt] at hg; exact h1.lo g hg
        · have := h1.b.size; omega
      · have := hN.al
        rw [hdl] at this
        rw [Hnd.out]
        exact this
      · show V2.byN = _
        rw [h1.bd.vn, h1.ln]
      · exact h1.mg.of (hN.fr.blk mn h1.mg.lt (by rw [h1.rm]; rfl))
      · rw [hN.fr.old _ h1.mg.lt]; exact h1.rm
      · rw [Hnd.out]; exact hbd
      · exact h1.b.trans ⟨hN.fr.os, hN.fr.tape, hN.fr.output, hN.fr.size, fun g hg => hN.fr.blk g (Nat.lt_of_lt_of_le hg h1.b.size) (by
          have : τ g = 0 := by
            cases e : τ g with
            | zero => rfl
            | succ z => have := h1.lo g (by rw [e]; exact Nat.succ_ne_zero z); omega
          rw [this]; rfl)⟩)
    subst hvf
    clear HN HL2 Hst hbb hgw
    go_upto_region 22 with fail
    obtain ⟨X0, W, hT, hI⟩ := class_mk (fun w' => Drew w7 w')
    have H0 : Hid (∃ y, w7.drew = W y) := hid (hI _ ⟨1, rfl⟩)
    have hne : Nonempty X0 := ⟨H0.out.choose⟩
    have HTT := hid hT
    have a1 : ∀ z, (W z).cell? ⟨L.b, 1, none⟩ = some (.pointer (some ⟨L.t, 0, none⟩)) := fun y => by obtain ⟨m, e⟩ := hT y; rw [e]; exact b1
    have a3 : ∀ z, (W z).cell? ⟨L.b, 3, none⟩ = some (.slice af fps.length qf) := fun y => by obtain ⟨m, e⟩ := hT y; rw [e]; exact b3
    clear hT hI
    refine wp_region_class_tailT W 9 (by kernel_rfl) (by kernel_rfl) (by kernel_rfl) H0.out ?_
    dsimp only [List.take, List.drop]
    repeat (go_big_quiet_step (fail))
    refine wpQuiet_nil ?_
    intro z
    have HD := hid (HTT.out z)
    have HB := hid ((HTT.out z).below w7.heap.size)
    have a1z := a1 z
    have a3z := a3 z
    generalize W z = w8 at HD HB a1z a3z ⊢
    clear H0 HTT a1 a3
    have HF2 := hid (HF.out w8 HB.out)
    clear HF HD HB b1 b3 a1z a3z
    go_wp2
    go_ret2
    exact ⟨L.t, _, rfl, HF2⟩
  have d2 : decide ((i : Int) < (nd : Int)) = true := decide_eq_true (by omega)
  have i2 : (i : Int) < (nd : Int) := by omega
  obtain ⟨y, hy⟩ : ∃ y, F.decls[i]? = some y := ⟨_, List.getElem?_eq_getElem (by rw [Hnd.out]; exact hin2)⟩
  obtain ⟨gd, qd', hud', hcd⟩ := HC.out.dcl hy
  have hbw : Below w.heap.size w wr := by
    obtain ⟨_, _, _, _, _, _, _, _, hst, _⟩ := HI.out.m
    exact hst.b
  have e1 : ad = some ⟨gd, 0, none⟩ := by
    rw [Hud.out] at hud'
    injection hud' with e1 e2 e3
  subst e1
  have HCd : Hid (∀ wz, Below w.heap.size w wz → wz.cell? ⟨gd, i * 11, none⟩ = some (.int .u8 (y.sort : Int)) ∧ wz.cell? ⟨gd, i * 11 + 1, none⟩ = some (.string y.name) ∧ wz.cell? ⟨gd, i * 11 + 4, none⟩ = some (.int .i32 y.expr)) := hid (fun wz hz => ⟨hcd wz hz 0 (by decide), hcd wz hz 1 (by decide), hcd wz hz 4 (by decide)⟩)
  have Hy := hid hy
  have HBw := hid hbw
  have f1 := (HFl.out wr hbw).1
  clear hcd hy hud' hbw
  go_upto_region 14 with fail
  clear f1
  refine wp_region_alloc (C := fun wx => Below wr.heap.size wr wx) (n := 9) (B := wr.heap.size) (t := 75) (zs := [.int .u8 0, .string ⟨#[]⟩, .int .u64 0, .int .i32 0]) rfl rfl rfl (by kernel_rfl) (by kernel_rfl) (by kernel_rfl) ?hr2 (fun _ _ h hb => h.trans (hb.mono h.size)) (fun _ h => h.size) (Below.refl _ _) ?hx2
  case hr2 =>
    intro a w
    simp [go_sem]
  apply Exists.intro
  refine ⟨?_, ?_⟩
  · intro X W hne hX hI
    have j0 : ∀ u, (W u).cell? ⟨gd, i * 11, none⟩ = some (.int .u8 (y.sort : Int)) := fun u => (HCd.out _ (HBw.out.trans ((hX u).mono HBw.out.size))).1
    have j1 : ∀ u, (W u).cell? ⟨gd, i * 11 + 1, none⟩ = some (.string y.name) := fun u => (HCd.out _ (HBw.out.trans ((hX u).mono HBw.out.size))).2.1
    clear hI hX
    dsimp only [List.take]
    repeat (go_big_quiet_step (fail))
    exact wpQuiet_nil rfl
  intro q wx hq hbx hbl
  dsimp only [List.drop]
  have HBx := hid hbx
  have Hq := hid hq
  have HO := hid (okDc.one ⟨y.sort, y.name, 0, -1⟩)
  clear hbx hq
  refine wpList_store_blk rfl 75 _ _ rfl q rfl [.int .u8 (y.sort : Int), .string y.name, .int .u64 0, .int .i32 (-1)] rfl hbl rfl info_dc HO.out ?_
  intro wy HBy HUy
  (try simp only [Act.put, List.setIfInBounds_toArray, List.set_cons_succ, List.set_cons_zero])
  obtain ⟨B, bn, V2, ms2, mu2, vF, fps, τ, hst, hbd, hfl, hfn, hO, hsz, hdl, hdt⟩ := HI.out.m
  have hqz : τ q = 0 := by
    cases e : τ q with
    | zero => rfl
    | succ z => have := hst.bd.tb.dom q (by rw [e]; exact Nat.succ_ne_zero z); have := Hq.out; omega
  have hq0 : w.heap.size ≤ q := by have := hst.b.size; have := Hq.out; omega
  have hsty : Bst w nd L B mn bn V2 ms2 mu2 vF fps τ wy := by
    exact hst.step ((Fr.below HBx.out : Fr XL τ wr τ wx).updN HUy.out Hq.out) rfl rfl ((hst.bd.below HBx.out).upd HUy.out hqz)
  have Hsty := hid hsty
  have HL2 := hid (And.intro hbd (And.intro hfl (And.intro hfn (And.intro hO (And.intro hsz (And.intro hdl (And.intro hdt (And.intro hqz hq0))))))))
  clear hst hbd hfl hfn hO hsz hdl hdt hqz hq0 hsty HUy HBx HO hbl HI HBw Hq
  have n0 := (HCd.out wy Hsty.out.b).1
  obtain ⟨tb, htb⟩ : ∃ b, ((y.sort : Int) == 0) = b := ⟨_, rfl⟩
  have Htb := hid htb
  go_upto_if 88 with fail
  clear htb
  go_cut [7] from 89 to 104 (fun v wc => v = .int .i64 (i : Int) ∧ Hid (BlM F vf rk l.n nd w L mn R i q y wc))
  case first =>
    by_cases hs : y.sort = 0
    · as_aux_lemma =>
      obtain rfl : tb = true := by rw [← Htb.out]; simp; omega
      obtain ⟨e, he, _, hel⟩ := (HC.out.wf.d y (List.mem_of_getElem? Hy.out)).con hs
      have hel2 := (HC.out.wf.d y (List.mem_of_getElem? Hy.out)).e.2
      obtain ⟨ne, hne⟩ : ∃ n, F.exprs.length = n := ⟨_, rfl⟩
      have c7 := (HC.out.chk Hsty.out.b).2.2
      have n4 := (HCd.out wy Hsty.out.b).2.2
      have cv := (HC.out.rv.below Hsty.out.b).get (j := e) (by omega)
      rw [he] at n4
      rw [hne] at c7 hel2
      have i4 : (e : Int) < (ne : Int) := by omega
      have q2 : wy.cell? ⟨q, 2, none⟩ = some (.int .u64 0) := HBy.out.cell 2
      have qz : wy.frozen? ⟨q, 2, none⟩ = false := HBy.out.frozen 2
      have HE : Hid (∀ wz, Below wy.heap.size wy wz → BlM F vf rk l.n nd w L mn R i q y (wz.setCell ⟨q, 2, none⟩ (.int .u64 (vf e : Int)))) := hid (fun wz hz => by
        obtain ⟨hbd, hfl, hfn, hO, hsz, hdl, hdt, hqz, hq0⟩ := HL2.out
        have hs1 := Hsty.out.below hz
        have hu : Upd q wz (wz.setCell ⟨q, 2, none⟩ (.int .u64 (vf e : Int))) := (Upd.refl q wz).setCell rfl _
        have hf2 : Bst w nd L B mn bn V2 ms2 mu2 vF fps τ (wz.setCell ⟨q, 2, none⟩ (.int .u64 (vf e : Int))) := by
          exact ⟨hs1.bd.upd hu hqz, hs1.ln, hs1.mg.upd hu (fun e1 => by have := hs1.rm; rw [e1, hqz] at this; cases this), hs1.rm, hs1.lo, Below.updN hs1.b hu hq0 hs1.b.size⟩
        refine ⟨B, bn, V2, ms2, mu2, vF, fps, τ, ⟨0, y.name, vf e, -1⟩, hf2, .con hbd Hy.out hs he, hfl, hfn, hO, hsz, hdl, hdt, fun h => absurd rfl h, ?_, hqz, hq0⟩
        have := (HBy.out.below hz).set 2 (.int .u64 (vf e : Int))
        rw [hs] at this
        exact this)
      obtain ⟨ve, hve⟩ : ∃ v, vf e = v := ⟨_, rfl⟩
      rw [hve] at cv HE
      clear HL2 Hsty HBy hel hve hne n0 hs
      go_upto_region 16 with fail
      obtain ⟨X0, W, hT, hI⟩ := class_mk (fun w' => Drew wy w')
      have H0 : Hid (∃ y, wy.drew = W y) := hid (hI _ ⟨1, rfl⟩)
      have hne : Nonempty X0 := ⟨H0.out.choose⟩
      have HTT := hid hT
      have a7 : ∀ z, (W z).cell? ⟨c, 7, none⟩ = some (.slice (some ⟨gV, 0, none⟩) ne ne) := fun y => by obtain ⟨m, e⟩ := hT y; rw [e]; exact c7
      have a4 : ∀ z, (W z).cell? ⟨gd, i * 11 + 4, none⟩ = some (.int .i32 (e : Int)) := fun y => by obtain ⟨m, e⟩ := hT y; rw [e]; exact n4
      have av : ∀ z, (W z).cell? ⟨gV, e, none⟩ = some (.int .u64 (ve : Int)) := fun y => by obtain ⟨m, e⟩ := hT y; rw [e]; exact cv
      have a2 : ∀ z, (W z).cell? ⟨q, 2, none⟩ = some (.int .u64 0) := fun y => by obtain ⟨m, e⟩ := hT y; rw [e]; exact q2
      have az : ∀ z, (W z).frozen? ⟨q, 2, none⟩ = false := fun y => by obtain ⟨m, e⟩ := hT y; rw [e]; exact qz
      clear hT hI
      refine wp_region_class_tailT W 10 (by kernel_rfl) (by kernel_rfl) (by kernel_rfl) H0.out ?_
      dsimp only [List.take, List.drop]
      repeat (go_big_quiet_step (fail))
      refine wpQuiet_nil ?_
      intro z
      have HD := hid (HTT.out z)
      have HB := hid ((HTT.out z).below wy.heap.size)
      have a7z := a7 z
      have a4z := a4 z
      have avz := av z
      have a2z := a2 z
      have azz := az z
      generalize W z = w7 at HD HB a7z a4z avz a2z azz ⊢
      clear H0 HTT a7 a4 av a2 az
      have HF := hid (HE.out w7 HB.out)
      clear HE HD HB c7 n4 cv q2 qz
      go_wp2_with fail
      go_meet
      exact ⟨rfl, HF⟩
    · as_aux_lemma =>
      obtain rfl : tb = false := by rw [← Htb.out]; simp; omega
      have ei : IntKind.i32.wrap (i : Int) = (i : Int) := by rw [IntKind.wrap_i32]; omega
      have HA := hid (lowD HC.out HS.out HLc.out (rk i) i y (Nat.le_refl _) Hy.out hs R (HR.out i hin2) τ wy B ⟨V2, ms2, mu2, vF, fps, by rw [Hnd.out]; exact Hsty.out.bd, HL2.out.2.1, HL2.out.2.2.1, Hsty.out.lo⟩ Hsty.out.b HL2.out.2.2.2.1 (by have := HL2.out.2.2.2.2.1; omega))
      have Hs := hid hs
      clear hs n0
      go_wp2_with fail
      refine HA.out.mono ?_
      rintro e w7 ⟨id, rfl, h7⟩
      clear HA
      obtain ⟨τ7, B7, k1, ⟨V7, ms7, mu7, vF7, fps7, k2, k2a, k2b, k2c⟩, k3, k4, k5⟩ := h7.out
      obtain ⟨hbd, hfl, hfn, hO, hsz, hdl, hdt, hqz, hq0⟩ := HL2.out
      have hb7 : Blk w7 q 75 [.int .u8 (y.sort : Int), .string y.name, .int .u64 0, .int .i32 (-1)] := k3.keep HBy.out hqz rfl
      have q3 : w7.cell? ⟨q, 3, none⟩ = some (.int .i32 (-1)) := hb7.cell 3
      have qz : w7.frozen? ⟨q, 3, none⟩ = false := hb7.frozen 3
      have HF : Hid (BlM F vf rk l.n nd w L mn R i q y (w7.setCell ⟨q, 3, none⟩ (.int .i32 (id : Int)))) := hid (by
        have hq7 : τ7 q = 0 := by rw [k3.old q HBy.out.lt]; exact hqz
        have hu : Upd q w7 (w7.setCell ⟨q, 3, none⟩ (.int .i32 (id : Int))) := (Upd.refl q w7).setCell rfl _
        rw [Hnd.out] at k2
        have hs1 := Hsty.out.step k3 rfl rfl k2
        have hf2 : Bst w nd L B7 mn bn V7 ms7 mu7 vF7 fps7 τ7 (w7.setCell ⟨q, 3, none⟩ (.int .i32 (id : Int))) := by
          exact ⟨hs1.bd.upd hu hq7, hs1.ln, hs1.mg.upd hu (fun e1 => by have := hs1.rm; rw [e1, hq7] at this; cases this), hs1.rm, hs1.lo, Below.updN hs1.b hu hq0 hs1.b.size⟩
        have hok := k1.ok HC.out.wf hO
        have hd7 : B7.T.decls = B.T.decls := k1.ext.d
        refine ⟨B7, bn, V7, ms7, mu7, vF7, fps7, τ7, ⟨y.sort, y.name, 0, (id : Int)⟩, hf2, .typ hbd Hy.out Hs.out k1, k2a, k2b, hok.1, by omega, by rw [hd7]; exact hdl, fun d hd h0 => ?_, fun _ => ⟨id, rfl, hok.2.2.2 id (by simp)⟩, hb7.set 3 _, hq7, hq0⟩
        rw [hd7] at hd
        obtain ⟨j, j1, j2⟩ := hdt d hd h0
        exact ⟨j, j1, by have := hok.2.1; omega⟩)
      clear k1 k2 k2a k2b k2c k3 k4 k5 hbd hfl hfn hO hsz hdl hdt hqz hq0 hb7 h7 HL2 Hsty HBy
      go_wp2_with fail
      go_meet
      exact ⟨rfl, HF⟩
  case rest =>
  obtain ⟨rfl, HM⟩ := hcut
  clear HL2 Hsty HBy n0
  obtain ⟨B, bn, V2, ms2, mu2, vF, fps, τ, D, hst, hbd, hfl, hfn, hO, hsz, hdl, hdt, hDt, hBq, hqz, hq0⟩ := HM.out.m
  have Hst := hid hst
  have HBq := hid hBq
  have HL2 := hid (And.intro hbd (And.intro hfl (And.intro hfn (And.intro hO (And.intro hsz (And.intro hdl (And.intro hdt (And.intro hDt (And.intro hqz hq0)))))))))
  clear hst hbd hfl hfn hO hsz hdl hdt hDt hBq hqz hq0 HM
  have ei : IntKind.i32.wrap (i : Int) = (i : Int) := by rw [IntKind.wrap_i32]; omega
  have b1 := Hst.out.bd.cells.2.1
  have t4 : wc.cell? ⟨L.t, 4, none⟩ = some (.map (some mn)) := by rw [← Hst.out.ln, ← Hst.out.bd.vn]; exact Hst.out.bd.tb.tb.b.cell 4
  have n1 := (HCd.out wc Hst.out.b).2.1
  go_upto_region 18 with fail
  obtain ⟨X0, W, hT, hI⟩ := class_mk (fun w' => Drew wc w')
  have H0 : Hid (∃ y, wc.drew = W y) := hid (hI _ ⟨1, rfl⟩)
  have hne : Nonempty X0 := ⟨H0.out.choose⟩
  have HTT := hid hT
  have a1 : ∀ z, (W z).cell? ⟨L.b, 1, none⟩ = some (.pointer (some ⟨L.t, 0, none⟩)) := fun y => by obtain ⟨m, e⟩ := hT y; rw [e]; exact b1
  have a4 : ∀ z, (W z).cell? ⟨L.t, 4, none⟩ = some (.map (some mn)) := fun y => by obtain ⟨m, e⟩ := hT y; rw [e]; exact t4
  have an : ∀ z, (W z).cell? ⟨gd, i * 11 + 1, none⟩ = some (.string y.name) := fun y => by obtain ⟨m, e⟩ := hT y; rw [e]; exact n1
  clear hT hI
  refine wp_region_class_tailT W 13 (by kernel_rfl) (by kernel_rfl) (by kernel_rfl) H0.out ?_
  dsimp only [List.take, List.drop]
  repeat (go_big_quiet_step (fail))
  refine wpQuiet_nil ?_
  intro z
  have HD := hid (HTT.out z)
  have HB := hid ((HTT.out z).below wc.heap.size)
  have a1z := a1 z
  have a4z := a4 z
  have anz := an z
  generalize W z = w8 at HD HB a1z a4z anz ⊢
  clear H0 HTT a1 a4 an
  clear b1 t4 n1 a1z a4z anz HD
  have Hs8 := hid (Hst.out.below HB.out)
  have HB8 := hid (HBq.out.below HB.out)
  clear Hst HBq HB
  obtain ⟨w9, hput, hg9, hu9⟩ := Hs8.out.mg.put (P := Tryz.prog) Tryz.underlying89 (keyStr Tryz.underlying9) y.name (.int .i32 (i : Int))
  have Hs9 : Hid (Bst w nd L B mn (gup bn y.name (some i)) V2 ms2 mu2 vF fps τ w9 ∧ Blk w9 q 75 (dcC D)) := hid (by
    have h1 := Hs8.out
    have hf : Fr (fun r => r == 60) τ w8 τ w9 := Fr.upd hu9 (by show (τ mn == 60) = true; rw [h1.rm]; rfl)
    have hmn : w.heap.size ≤ mn := h1.lo mn (by rw [h1.rm]; decide)
    refine ⟨⟨h1.bd.tab hf rfl rfl rfl (h1.bd.tb.fr hf (fun r h1 h2 => by simp; omega)) rfl rfl, h1.ln, ?_, h1.rm, h1.lo, Below.updN h1.b hu9 hmn h1.b.size⟩, hf.keep HB8.out HL2.out.2.2.2.2.2.2.2.2.1 rfl⟩
    have e : (fun s => nmV (gup bn y.name (some i) s)) = gup (fun s => nmV (bn s)) y.name (some (.int .i32 (i : Int))) := by
      funext s
      by_cases hq : s = y.name
      · subst hq; simp only [gup_self]; rfl
      · simp only [gup_ne _ _ hq]
    rw [e]
    exact hg9)
  clear hg9 hu9
  go_upto_region 19 with fail
  clear hput Hs8 HB8
  have HBd : Hid (Below w9.heap.size w9 w9.drew) := hid (Drew.below ⟨1, rfl⟩ _)
  obtain ⟨ax, qx, hvx⟩ := Hs9.out.1.bd.tb.tb.d.shape
  rw [HL2.out.2.2.2.2.2.1] at hvx
  have Hvx := hid hvx
  clear hvx
  have HSS : Hid (∀ wx, Below w9.heap.size w9 wx → wx.cell? ⟨L.b, 1, none⟩ = some (.pointer (some ⟨L.t, 0, none⟩)) ∧ wx.cell? ⟨L.t, 3, none⟩ = some (.slice ax i qx) ∧ Blk wx q 75 (dcC D)) := hid (fun wx hx => ⟨(Hs9.out.1.bd.below hx).cells.2.1, by rw [← Hvx.out]; exact (Hs9.out.1.bd.below hx).tb.tb.b.cell 3, Hs9.out.2.below hx⟩)
  refine wp_region_heavy (fun wz => wz.cell? ⟨L.b, 1, none⟩ = some (.pointer (some ⟨L.t, 0, none⟩)) ∧ wz.cell? ⟨L.t, 3, none⟩ = some (.slice ax i qx) ∧ Blk wz q 75 (dcC D)) 14 [0, 1, 2, 3, 4, 5, 6, 7, 8, 9, 10, 11] [12, 13] rfl (by kernel_rfl) (by kernel_rfl) (fun d _ _ _ _ h => by cases d <;> exact h) (HSS.out _ HBd.out) ?_
  apply Exists.intro
  refine ⟨?_, ?_⟩
  · intro W hW
    have k1 : ∀ u, (W u).cell? ⟨L.b, 1, none⟩ = some (.pointer (some ⟨L.t, 0, none⟩)) := fun u => (hW u).1
    have k2 : ∀ u, (W u).cell? ⟨L.t, 3, none⟩ = some (.slice ax i qx) := fun u => (hW u).2.1
    have rl : ∀ u, (Instr.loadAt 75 (.pointer (some ⟨q, 0, none⟩))).run Tryz.prog (W u) = .ok (.agg (dcC D).toArray) (W u) := fun u => load_info_dc (hW u).2.2
    dsimp only [dcC] at rl
    have Hrl := hid rl
    clear hW rl
    simp only [List.take, opsAt, List.drop, List.cons_append, List.nil_append]
    repeat (first | (go_big_quiet_want; refine quiet_loadO 75 _ rfl ⟨q, 0, none⟩ rfl _ (fun w hx => by obtain ⟨x, rfl⟩ := hx; exact Hrl.out x) ?_; simp only [Act.put, List.setIfInBounds_toArray, List.set_cons_succ, List.set_cons_zero]; go_big_quiet_on) | go_big_quiet_step (fail))
    exact rfl
  simp only [List.take, List.drop, opsAt, List.cons_append, List.nil_append, wpHv]
  generalize w9.drew = wd at HBd ⊢
  go_wp2_with fail
  obtain ⟨k8, hk8⟩ : ∃ k, wd.heap.size = k := ⟨_, rfl⟩
  obtain ⟨wf, hwf⟩ : ∃ wf, wd.alloc (.cells (dcC D).toArray 75) = wf := ⟨_, rfl⟩
  have HBf : Hid (Below w9.heap.size w9 wf) := hid (by rw [← hwf]; exact HBd.out.trans ((nbel wd _).mono HBd.out.size))
  have HNw : Hid (∀ ad, some (⟨k8, 0, none⟩ : Addr) = some ad → ∀ j u, ([D].flatMap rtDc.f)[j]? = some u → wf.cell? (ad.add j) = some u) := hid (by rw [← hwf]; exact newX rtDc wd D _ hk8.symm)
  dsimp only [dcC] at hwf
  (try simp only [hwf, hk8])
  refine ⟨HSS.out _ HBf.out, ?_⟩
  clear hwf hk8
  have HSf := hid (Hs9.out.1.below HBf.out)
  have hrf := HSf.out.bd.tb.tb.d
  rw [Hvx.out] at hrf
  refine wpList_app_x okDc rfl (.tmp 128) (.tmp 130) hrf rfl [D] (by simp [Act.eval, Act.put]; done) (some ⟨k8, 0, none⟩) 1 1 (by simp [Act.eval, Act.put]; done) rfl (fun h => by cases h) HNw.out (by have := HL2.out.2.2.2.2.2.1; rw [this]; show (i + 1) * 40 ≤ _; omega) ?_
  intro v8 wg τ8 hr8 hf8 _ _
  obtain ⟨a8, q8, h8⟩ := hr8.out.shape
  rw [List.length_append, List.length_singleton, HL2.out.2.2.2.2.2.1] at h8
  subst h8
  have HP8 := hid (HSf.out.bd.tb.tb.appD hr8.out hf8.out)
  have hk8 : Blk wg L.t 95 (tbC V2) := hf8.out.keep HSf.out.bd.tb.tb.b HSf.out.bd.tb.tb.rb rfl
  have hb8 : Blk wg L.b 181 (bdC L nd vF) := hf8.out.keep HSf.out.bd.bb HSf.out.bd.rb rfl
  have s1 : wg.cell? ⟨L.b, 1, none⟩ = some (.pointer (some ⟨L.t, 0, none⟩)) := hb8.cell 1
  have s3 : wg.cell? ⟨L.t, 3, none⟩ = some (.slice ax i qx) := by rw [← Hvx.out]; exact hk8.cell 3
  have s4 : Blk wg q 75 (dcC D) := hf8.out.keep (c := 0) (Hs9.out.2.below HBf.out) HL2.out.2.2.2.2.2.2.2.2.1 rfl
  have f3 : wg.frozen? ⟨L.t, 3, none⟩ = false := hk8.frozen _
  have HF : Hid (BlI F vf rk l.n nd w L mn R (i + 1) (wg.setCell ⟨L.t, 3, none⟩ (.slice a8 (i + 1) q8))) := hid (by
    obtain ⟨hbd, hfl, hfn, hO, hsz, hdl, hdt, hDt, hqz, hq0⟩ := HL2.out
    obtain ⟨k1, k2⟩ := HP8.out
    have hX : TbX τ8 (wg.setCell ⟨L.t, 3, none⟩ (.slice a8 (i + 1) q8)) L.t { V2 with d := .slice a8 (i + 1) q8 } (B.dcl D).T ⟨ms2, mu2, (B.dcl D).sh, (B.dcl D).un⟩ := HSf.out.bd.tb.fr' k2 rfl rfl k1 rfl rfl
    have hB := HSf.out.bd.tab k2 rfl rfl rfl (B' := B.dcl D) hX rfl rfl
    refine ⟨B.dcl D, _, _, ms2, mu2, vF, fps, τ8, HSf.out.step k2 rfl rfl hB, hbd, hfl, hfn, ⟨hO.t, hO.d, hO.s, hO.u⟩, hsz, ?_, fun d hd h0 => ?_⟩
    · show (B.T.decls ++ [D]).length = i + 1
      rw [List.length_append, hdl]
      rfl
    · have hd : d ∈ B.T.decls ++ [D] := hd
      rcases List.mem_append.1 hd with h | h
      · exact hdt d h h0
      · simp at h; subst h; exact hDt h0)
  clear hrf hr8 hf8 HSf HNw HBf HBd HP8 hk8 hb8 HL2 Hs9 HSS
  go_wp2_with fail
  refine ⟨⟨s1, s3, s4⟩, ?_⟩
  simp only [QN]
  go_wp2
  exact ⟨⟨i + 1, by go_num, by omega, HF⟩, by simp [intOf]; omega⟩
end
end Go.Proofs.Qxb6500883aGreatDoor
