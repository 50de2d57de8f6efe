/- measure, walked. -/
import Derived.Test.Qxb6500883aGreatDoorScMb
namespace Go.Proofs.Qxb6500883aGreatDoor
open Go.RowKit
set_option linter.unusedSimpArgs false
set_option linter.unusedVariables false
/-- What lies in memory beside the checker while measuring. -/
structure MzT (n0 tB : Nat) (Vt : TV) (T' : TS) (nt ga mn gv : Nat) (al : Nat → Int) (bn : ByteArray → Option Nat) (vd : Nat → Nat) (vF : Value) (fps : List Nat) (ρ τ : Rl) (w : World) : Prop where
  tb : TbM τ w tB Vt T'
  vd : RwV gv nt vd 63 τ w
  fp : RowX rtI w τ 59 vF fps
  al : RwJ ga nt al 62 τ w
  mg : MG (fun s : ByteArray => Value.string s) w mn (fun s => nmV (bn s))
  rm : τ mn = 60
  ti : ∀ g, τ g ≠ 0 → ρ g = 0 ∧ n0 ≤ g
  dm : ∀ g, τ g ≠ 0 → g < w.heap.size
/-- What stays from the world w0 on. -/
structure MzK (ρ0 τ0 : Rl) (w0 : World) (ρ τ : Rl) (w : World) : Prop where
  os : w.os = w0.os
  tape : w.tape = w0.tape
  output : w.output = w0.output
  size : w0.heap.size ≤ w.heap.size
  rl : ∀ g, g < w0.heap.size → ρ g = ρ0 g ∧ τ g = τ0 g
  bk : ∀ g, g < w0.heap.size → XD (ρ0 g) = false → τ0 g = 0 → w.heap[g]? = w0.heap[g]?
section
variable {n0 tB nt ga mn gv : Nat} {Vt : TV} {T T' T'' : TS} {al : Nat → Int} {bn : ByteArray → Option Nat} {vd : Nat → Nat} {vF : Value} {fps : List Nat} {ρ ρ' τ τ' ρ0 τ0 : Rl} {w w' w0 : World}
theorem MzT.fr {X : Nat → Bool} (h : MzT n0 tB Vt T' nt ga mn gv al bn vd vF fps ρ τ w) (hf : Fr X τ w τ w') (hX : ∀ r, r ≠ 0 → X r = false) (hr : ∀ g, τ g ≠ 0 → ρ' g = 0) : MzT n0 tB Vt T' nt ga mn gv al bn vd vF fps ρ' τ w' :=
  ⟨h.tb.fr hf (fun r h1 _ => hX r (by omega)), h.vd.fr hf (hX 63 (by decide)), h.fp.fr hf (hX 59 (by decide)), h.al.fr hf (hX 62 (by decide)), h.mg.of (hf.blk mn h.mg.lt (by rw [h.rm]; exact hX 60 (by decide))), h.rm, fun g hg => ⟨hr g hg, (h.ti g hg).2⟩, fun g hg => Nat.lt_of_lt_of_le (h.dm g hg) hf.size⟩
theorem MzT.below (h : MzT n0 tB Vt T' nt ga mn gv al bn vd vF fps ρ τ w) (hb : Below w.heap.size w w') : MzT n0 tB Vt T' nt ga mn gv al bn vd vF fps ρ τ w' := h.fr (X := fun _ => false) (Fr.below hb) (fun _ _ => rfl) (fun g hg => (h.ti g hg).1)
theorem MzT.setV (h : MzT n0 tB Vt T' nt ga mn gv al bn vd vF fps ρ τ w) {j : Nat} (hj : j < nt) (v : Nat) : MzT n0 tB Vt T' nt ga mn gv al bn (fup vd j v) vF fps ρ τ (w.setCell ⟨gv, j, none⟩ (.int .u8 (v : Int))) ∧ Fr (fun r => r == 63) τ w τ (w.setCell ⟨gv, j, none⟩ (.int .u8 (v : Int))) := by
  have hf : Fr (fun r => r == 63) τ w τ (w.setCell ⟨gv, j, none⟩ (.int .u8 (v : Int))) := Fr.set _ (by show (τ gv == 63) = true; rw [h.vd.2]; rfl)
  exact ⟨⟨h.tb.fr hf (fun r h1 h2 => by simp; omega), h.vd.set hj v, h.fp.fr hf rfl, h.al.fr hf rfl, h.mg.of (hf.blk mn h.mg.lt (by rw [h.rm]; rfl)), h.rm, h.ti, fun g hg => Nat.lt_of_lt_of_le (h.dm g hg) hf.size⟩, hf⟩
theorem MzT.tab (h : MzT n0 tB Vt T' nt ga mn gv al bn vd vF fps ρ τ w) (ht : TbM τ w' tB Vt T'') (hf : Fr (fun c => c == 51) τ w τ w') : MzT n0 tB Vt T'' nt ga mn gv al bn vd vF fps ρ τ w' :=
  ⟨ht, h.vd.fr hf rfl, h.fp.fr hf rfl, h.al.fr hf rfl, h.mg.of (hf.blk mn h.mg.lt (by rw [h.rm]; rfl)), h.rm, h.ti, fun g hg => Nat.lt_of_lt_of_le (h.dm g hg) hf.size⟩
theorem MzK.tau {X : Nat → Bool} (h : MzK ρ0 τ0 w0 ρ τ w) (hf : Fr X τ w τ w') (h0 : X 0 = false) : MzK ρ0 τ0 w0 ρ τ w' :=
  ⟨hf.os.trans h.os, hf.tape.trans h.tape, hf.output.trans h.output, Nat.le_trans h.size hf.size, h.rl, fun g hg h1 h2 => (hf.blk g (Nat.lt_of_lt_of_le hg h.size) (by rw [(h.rl g hg).2, h2]; exact h0)).trans (h.bk g hg h1 h2)⟩
theorem MzK.rho (h : MzK ρ0 τ0 w0 ρ τ w) (hf : Fr XD ρ w ρ' w') : MzK ρ0 τ0 w0 ρ' τ w' :=
  ⟨hf.os.trans h.os, hf.tape.trans h.tape, hf.output.trans h.output, Nat.le_trans h.size hf.size, fun g hg => ⟨(hf.old g (Nat.lt_of_lt_of_le hg h.size)).trans (h.rl g hg).1, (h.rl g hg).2⟩, fun g hg h1 h2 => (hf.blk g (Nat.lt_of_lt_of_le hg h.size) (by rw [(h.rl g hg).1]; exact h1)).trans (h.bk g hg h1 h2)⟩
theorem MzK.below (h : MzK ρ0 τ0 w0 ρ τ w) (hb : Below w.heap.size w w') : MzK ρ0 τ0 w0 ρ τ w' := h.tau (X := fun _ => false) (Fr.below hb) rfl
end
/-- Measuring under way. -/
structure MzI (N mg : Nat) (l : PL) (bs : List UInt8) (F : FS) (U : FV) (c : Nat) (V : CV) (n0 tB : Nat) (Vt : TV) (T : TS) (ga mn gv : Nat) (al : Nat → Int) (bn : ByteArray → Option Nat) (vF : Value) (fps : List Nat) (ρ0 τ0 : Rl) (w0 : World) (i : Nat) (w : World) : Prop where
  m : ∃ (ρ τ : Rl) (v' : Value) (errs : List (Nat × Nat)) (T' : TS) (vd : Nat → Nat), CM N mg ρ w l bs F U c { V with list := v' } errs ∧ MzT n0 tB Vt T' T.types.length ga mn gv al bn vd vF fps ρ τ w ∧ MzK ρ0 τ0 w0 ρ τ w ∧ MzP T T' vd errs i
section
variable {N mg : Nat} {l : PL} {bs : List UInt8} {F : FS} {U : FV} {c : Nat} {V : CV} {n0 tB ga mn : Nat} {Vt : TV} {T : TS} {al : Nat → Int} {bn : ByteArray → Option Nat} {vF : Value} {fps : List Nat} {ρ0 τ0 : Rl} {w0 w : World}
set_option maxRecDepth 100000 in
set_option maxHeartbeats 8000000 in
theorem measureW {w00 : World} (hC : CM N mg ρ0 w0 l bs F U c V []) (hZ : TbZ w00 τ0 w0 tB Vt T ga mn al bn) (hfp : RowX rtI w0 τ0 59 vF fps) (hn0 : w00.heap.size = n0) (hti : ∀ g, τ0 g ≠ 0 → ρ0 g = 0) (hN : N ≤ n0) (hsr : ∀ ad, l.a = some ad → ad.block < n0) (hT : TStr T) (hB : AllB T) (h8 : 8 ≤ T.types.length) (hzs : ∀ (i : Nat) (x : TR), 8 ≤ i → T.types[i]? = some x → x.size = 0) (hlt : T.types.length ≤ 200000) (hl1 : T.flds.length ≤ 200000) (hl2 : T.opts.length ≤ 200000) (hl3 : T.decls.length ≤ 200000) (hfl : fps.length = T.types.length) (hfn : ∀ p ∈ fps, p ≤ l.n) (hab : ∀ i, al i = -1 ∨ ∃ j : Nat, al i = (j : Int) ∧ j < T.decls.length) (hrf : ∀ id, id < T.types.length → (rf T al id).length ≤ 35000000000000) :
    Calls Tryz.prog 62 #[.pointer (some ⟨tB, 0, none⟩), vF, .pointer (some ⟨c, 1, none⟩)] w0 fun e w' => e = .returned (.tuple #[]) ∧ Hid (∃ gv, MzI N mg l bs F U c V n0 tB Vt T ga mn gv al bn vF fps ρ0 τ0 w0 T.types.length w') := by
  obtain ⟨nt, hnt⟩ : ∃ n, T.types.length = n := ⟨_, rfl⟩
  obtain ⟨gt, qt, hvt⟩ : ∃ gt qt, Vt.t = .slice (some ⟨gt, 0, none⟩) nt qt := by
    obtain ⟨x, hx⟩ : ∃ x, T.types[0]? = some x := ⟨_, List.getElem?_eq_getElem (by omega)⟩
    obtain ⟨gt, q, hv, _⟩ := hZ.tb.ty hx
    exact ⟨gt, q, by rw [hv, hnt]⟩
  have c0 : w0.cell? ⟨tB, 0, none⟩ = some (.slice (some ⟨gt, 0, none⟩) nt qt) := by rw [← hvt]; exact hZ.tb.b.cell 0
  have hmk : (Instr.makeSlice 183 (.int .i64 (nt : Int)) (.int .i64 (nt : Int))).run Tryz.prog w0 = .ok (.slice (some ⟨w0.heap.size, 0, none⟩) nt nt) (w0.alloc (.cells (madeCells #[.int .u8 0] nt) 185)) :=
    run_make_lc 183 185 (.int .u8 0) 1 Tryz.underlying183 (by kernel_rfl) rfl .i64 .i64 nt nt (Nat.le_refl _) (by omega) (by omega) w0
  obtain ⟨gv, hgv⟩ : ∃ p, w0.heap.size = p := ⟨_, rfl⟩
  obtain ⟨wa, hwa⟩ : ∃ x, w0.alloc (.cells (madeCells #[.int .u8 0] nt) 185) = x := ⟨_, rfl⟩
  rw [hgv, hwa] at hmk
  have HSt : Hid (MzI N mg l bs F U c V n0 tB Vt T ga mn gv al bn vF fps ρ0 τ0 w0 8 wa) := hid (by
    have hf := Fr.alloc (fun _ => false) τ0 w0 (.cells (madeCells #[.int .u8 0] nt) 185) 63
    rw [hgv, hwa] at hf
    have hb : Below w0.heap.size w0 wa := by rw [← hwa]; exact nbel w0 _
    have hn := RwK.new 185 (fun x : Nat => Value.int .u8 (x : Int)) τ0 w0 nt 63 0
    rw [hgv] at hn
    have hn : RwV gv nt (fun _ => 0) 63 (fup τ0 gv 63) wa := by rw [← hwa]; exact hn
    refine ⟨ρ0, fup τ0 gv 63, V.list, [], T, fun _ => 0, hC.below hb, ⟨hZ.tb.fr hf (fun _ _ _ => rfl), by rw [hnt]; exact hn, hfp.fr hf rfl, hZ.al.fr hf rfl, hZ.mg.below hb, by rw [hf.old mn hZ.mg.lt]; exact hZ.rm, fun g hg => ?_, hf.dom hZ.dom⟩, ⟨hb.os, hb.tape, hb.output, hb.size, fun g hg => ⟨rfl, hf.old g hg⟩, fun g hg _ _ => hb.block g hg⟩, ⟨SameS.refl T, hB, fun _ _ => rfl, fun _ _ => ⟨rfl, rfl⟩, fun j x h1 h2 => by omega, fun _ _ _ => rfl, fun h => absurd rfl h, Nat.zero_le _⟩⟩
    by_cases e : g = gv
    · subst e
      have h1 := hC.new (p := g) (by omega)
      have h2 : n0 ≤ g := by
        have h3 := hZ.lo tB (by rw [hZ.tb.rb]; decide)
        have h4 := hZ.tb.b.lt
        omega
      exact ⟨h1, h2⟩
    · rw [fup_ne _ _ e] at hg
      exact ⟨hti g hg, by rw [← hn0]; exact hZ.lo g hg⟩)
  have HX := hid (And.intro hT (And.intro hzs (And.intro hl1 (And.intro hl2 (And.intro hl3 (And.intro hfl (And.intro hfn (And.intro hab (And.intro hrf (And.intro hN (And.intro hsr hZ.va)))))))))))
  have Hvt := hid hvt
  have Hnt := hid hnt
  rw [hnt] at hlt h8
  obtain ⟨gf, qf, rfl⟩ : ∃ gf qf, vF = .slice (some ⟨gf, 0, none⟩) fps.length qf := by
    obtain ⟨p, hp⟩ : ∃ p, fps[0]? = some p := ⟨_, List.getElem?_eq_getElem (by omega)⟩
    obtain ⟨gf, q, hv, _⟩ := hfp.get (by decide) (fun _ => rfl) hp
    exact ⟨gf, q, hv⟩
  clear hC hZ hfp hti hN hsr hT hB hzs hl1 hl2 hl3 hfl hfn hab hrf hvt hnt hgv
  --LOOP
  have HX0 := HX.out
  obtain ⟨hT, hzs, hl1, hl2, hl3, hfl, hfn, hab, hrf, hN, hsr, hva⟩ := HX0
  go_enter Tryz.func62, Tryz.ntmps62
  clear hT hzs hl1 hl2 hl3 hfl hfn hab hrf hN hsr hva
  go_upto_region 1 with fail
  clear c0 hmk hwa
  go_upto_region 2 with fail
  go_loopw [7] (fun t wr => ∃ (i : Nat), t = .int .i64 (i : Int) ∧ 8 ≤ i ∧ i ≤ nt ∧ Hid (MzI N mg l bs F U c V n0 tB Vt T ga mn gv al bn (.slice (some ⟨gf, 0, none⟩) fps.length qf) fps ρ0 τ0 w0 i wr)) (fun t _ => nt - (intOf t).toNat)
  case atStart => exact ⟨8, rfl, Nat.le_refl _, h8, HSt⟩
  case round =>
  obtain ⟨i, rfl, hi8, hin0, HI⟩ := hrel
  clear HSt
  have c0 : wr.cell? ⟨tB, 0, none⟩ = some (.slice (some ⟨gt, 0, none⟩) nt qt) := by
    obtain ⟨ρ, τ, v', errs, T', vd, hC, hM, hK, hP⟩ := HI.out.m
    rw [← Hvt.out]; exact hM.tb.b.cell 0
  by_cases hin : i < nt
  rotate_left
  · have d1 : decide ((i : Int) < (nt : Int)) = false := decide_eq_false (by omega)
    have HQ : Hid (∃ gv, MzI N mg l bs F U c V n0 tB Vt T ga mn gv al bn (.slice (some ⟨gf, 0, none⟩) fps.length qf) fps ρ0 τ0 w0 T.types.length wr) := hid ⟨gv, by
      have : T.types.length = i := by rw [Hnt.out]; omega
      rw [this]; exact HI.out⟩
    clear HI
    go_wp2
    exact bodyPost_end (v := .tuple #[]) (by simp [results, Tryz.results62, go_sem]) rfl ⟨rfl, HQ⟩
  have d1 : decide ((i : Int) < (nt : Int)) = true := decide_eq_true (by omega)
  have i1 : (i : Int) < (nt : Int) := by omega
  have ew : IntKind.i32.wrap (i : Int) = (i : Int) := by rw [IntKind.wrap_i32]; omega
  obtain ⟨ρ, τ, v', errs, T', vd, hC, hM, hK, hP⟩ := HI.out.m
  obtain ⟨x, hx⟩ : ∃ x, T.types[i]? = some x := ⟨_, List.getElem?_eq_getElem (by rw [Hnt.out]; exact hin)⟩
  have hx' : T'.types[i]? = some x := by rw [hP.un i (Nat.le_refl _)]; exact hx
  have hln : T'.types.length = nt := by rw [hP.s.n]; exact Hnt.out
  have hst' : StrOk T' i x := hP.s.tstr HX.out.1 i x hi8 hx'
  have HXX := HX.out
  have Hel := hid hP.le
  have HPt := partsTaintedW hM.tb hx' hst' (gv := gv) (vd := vd) (σ := τ) (rr := 63) (by rw [hP.s.n]; exact hM.vd) (by omega) (by rw [hP.s.f]; exact HXX.2.2.1) (by rw [hP.s.o]; exact HXX.2.2.2.1)
  rw [hln] at HPt
  have HPt := hid HPt
  have HC1 := hid hC
  have HM1 := hid hM
  have HK1 := hid hK
  have HP1 := hid hP
  have Hx := hid hx
  have Hx' := hid hx'
  have Hst := hid hst'
  have Hln := hid hln
  clear HI hC hM hK hP hx hx' hst' hln HXX
  go_upto_region 5 with fail
  go_wp2_with fail
  refine HPt.out.mono ?_
  rintro e w1 ⟨rfl, hb1⟩
  have HM2 := hid (HM1.out.below hb1)
  have HC2 := hid (HC1.out.below hb1)
  have HK2 := hid (HK1.out.below hb1)
  have g0 : w1.cell? ⟨gv, i, none⟩ = some (.int .u8 (vd i : Int)) := HM2.out.vd.get (by rw [Hnt.out]; exact hin)
  have gf0 : w1.frozen? ⟨gv, i, none⟩ = false := HM2.out.vd.frozen i
  clear HM1 HC1 HK1 hb1 HPt c0
  obtain ⟨tb, htb⟩ : ∃ b, tnt T' vd x = b := ⟨_, rfl⟩
  rw [htb]
  cases tb with
  | true =>
    have HE : Hid (MzI N mg l bs F U c V n0 tB Vt T ga mn gv al bn (.slice (some ⟨gf, 0, none⟩) fps.length qf) fps ρ0 τ0 w0 (i + 1) (w1.setCell ⟨gv, i, none⟩ (.int .u8 3))) := hid (by
      obtain ⟨h1, h2⟩ := HM2.out.setV (j := i) (by rw [Hnt.out]; exact hin) 3
      exact ⟨ρ, τ, v', errs, T', fup vd i 3, HC2.out.above h2 rfl HM2.out.ti HX.out.2.2.2.2.2.2.2.2.2.1 HX.out.2.2.2.2.2.2.2.2.2.2.1, h1, HK2.out.tau h2 rfl, HP1.out.taint HX.out.1 hi8 Hx.out htb⟩)
    clear HM2 HC2 HK2 HP1 htb
    go_wp2
    exact ⟨⟨i + 1, by go_num, by omega, by omega, HE⟩, by simp [intOf]; omega⟩
  | false =>
  have HMo := hid (measureOneW HM2.out.tb HM2.out.dm Hx'.out Hst.out HP1.out.b.b HP1.out.b.f (by rw [HP1.out.s.f]; exact HX.out.2.2.1) (by rw [HP1.out.s.o]; exact HX.out.2.2.2.1))
  have Htb := hid htb
  clear htb g0 gf0
  go_upto_region 7 with fail
  go_wp2_with fail
  refine HMo.out.mono ?_
  rintro e w2 h2
  clear HMo
  rcases h2.out with ⟨m, rfl, hm, hd, ht2, hf2⟩ | ⟨v, hv, rfl, hbad, hb2⟩
  · have h3 := HM2.out.tab ht2 hf2
    have g0 := h3.vd.get (by rw [Hnt.out]; exact hin)
    have gf0 : w2.frozen? ⟨gv, i, none⟩ = false := h3.vd.frozen i
    obtain ⟨vi, hvi⟩ : ∃ a, vd i = a := ⟨_, rfl⟩
    rw [hvi] at g0
    have HE : Hid (MzI N mg l bs F U c V n0 tB Vt T ga mn gv al bn (.slice (some ⟨gf, 0, none⟩) fps.length qf) fps ρ0 τ0 w0 (i + 1) (w2.setCell ⟨gv, i, none⟩ (.int .u8 0)) ∧ (w2.setCell ⟨gv, i, none⟩ (.int .u8 0)).cell? ⟨gv, i, none⟩ = some (.int .u8 0)) := hid (by
      obtain ⟨h4, h5⟩ := h3.setV (j := i) (by rw [Hnt.out]; exact hin) 0
      refine ⟨⟨ρ, τ, v', errs, _, fup vd i 0, (HC2.out.above hf2 rfl HM2.out.ti HX.out.2.2.2.2.2.2.2.2.2.1 HX.out.2.2.2.2.2.2.2.2.2.2.1).above h5 rfl h3.ti HX.out.2.2.2.2.2.2.2.2.2.1 HX.out.2.2.2.2.2.2.2.2.2.2.1, h4, (HK2.out.tau hf2 rfl).tau h5 rfl, HP1.out.good HX.out.1 hi8 Hx.out (HX.out.2.1 i x hi8 Hx.out) hm hd⟩, ?_⟩
      have h6 := h4.vd.get (j := i) (by rw [Hnt.out]; exact hin)
      rw [fup_self] at h6
      exact h6)
    have g1 := HE.out.2
    have HE1 := hid HE.out.1
    clear HM2 HC2 HK2 HP1 Htb HE h2 h3 ht2 hf2 hm hd hvi
    go_wp2
    exact ⟨⟨i + 1, by go_num, by omega, by omega, HE1⟩, by simp [intOf]; omega⟩
  have h3 := HM2.out.below hb2
  have g0 := h3.vd.get (by rw [Hnt.out]; exact hin)
  have gf0 : w2.frozen? ⟨gv, i, none⟩ = false := h3.vd.frozen i
  obtain ⟨vi, hvi⟩ : ∃ a, vd i = a := ⟨_, rfl⟩
  rw [hvi] at g0
  obtain ⟨h4, h5⟩ := h3.setV (j := i) (by rw [Hnt.out]; exact hin) v
  have g1 : (w2.setCell ⟨gv, i, none⟩ (.int .u8 (v : Int))).cell? ⟨gv, i, none⟩ = some (.int .u8 (v : Int)) := by
    have h6 := h4.vd.get (j := i) (by rw [Hnt.out]; exact hin)
    rw [fup_self] at h6
    exact h6
  have HM3 := hid h4
  have HC3 := hid ((HC2.out.below hb2).above h5 rfl h3.ti HX.out.2.2.2.2.2.2.2.2.2.1 HX.out.2.2.2.2.2.2.2.2.2.2.1)
  have HK3 := hid ((HK2.out.below hb2).tau h5 rfl)
  have HP3 : Hid (∀ k, MzP T T' (fup vd i v) (errs ++ [k]) (i + 1)) := hid (fun k => HP1.out.err HX.out.1 hi8 Hx.out Htb.out hbad hv k)
  have HS3 := hid (And.intro HP1.out.s HP1.out.b)
  clear h2 h3 h4 h5 hb2 hbad HM2 HC2 HK2 HP1 Htb hvi
  go_upto_region 8 with fail
  generalize w2.setCell ⟨gv, i, none⟩ (.int .u8 (v : Int)) = ws at g1 HM3 HC3 HK3 ⊢
  clear g0 gf0
  obtain ⟨pos, hpo⟩ : ∃ p, fps[i]? = some p := ⟨_, List.getElem?_eq_getElem (by have := HX.out.2.2.2.2.2.1; have := Hnt.out; omega)⟩
  have hpos : pos ≤ l.n := HX.out.2.2.2.2.2.2.1 pos (List.mem_of_getElem? hpo)
  have hel : errs.length ≤ 1000000000000 := by have := Hel.out; omega
  have i4 : (i : Int) < (fps.length : Int) := by have := HX.out.2.2.2.2.2.1; have := Hnt.out; omega
  have Hpo : Hid (∀ wy, Below ws.heap.size ws wy → wy.cell? ⟨gf, i, none⟩ = some (.int .i64 (pos : Int))) := hid (fun wy hy => by
    obtain ⟨g2, q2, hv2, _, hc⟩ := (HM3.out.below hy).fp.get (by decide) (fun _ => rfl) hpo
    cases hv2
    have := hc 0 (by decide)
    simpa [rtI] using this)
  have HTs : Hid (∀ wy, Below ws.heap.size ws wy → Calls Tryz.prog 38 #[.pointer (some ⟨tB, 0, none⟩), .int .i32 (i : Int)] wy fun e w' => e = .returned (.string ⟨(rf T al i).toArray⟩) ∧ Below wy.heap.size wy w') := hid (fun wy hy => by
    have h1 := HM3.out.below hy
    have hs := HS3.out.1
    have hr := hs.rf1 al i
    rw [← hr]
    exact typeStringW (T := T') (al := al) (ga := ga) (τ := τ) (V := Vt) ⟨h1.tb, by rw [hs.n]; exact HX.out.2.2.2.2.2.2.2.2.2.2.2, by rw [hs.n]; exact h1.al, by rw [hs.d]; exact HX.out.2.2.2.2.2.2.2.1, hs.tstr HX.out.1, by have := Hln.out; omega, by rw [hs.o]; exact HX.out.2.2.2.1, by rw [hs.d]; exact HX.out.2.2.2.2.1, fun y hy => (HS3.out.2.b y hy).length⟩ (by rw [Hln.out]; exact hin) (by rw [hr]; have := HX.out.2.2.2.2.2.2.2.2.1 i (by rw [Hnt.out]; exact hin); omega))
  have Hss : Hid (ByteArray.size ⟨(rf T al i).toArray⟩ ≤ 35000000000000) := hid (by
    show (rf T al i).toArray.size ≤ _
    rw [List.size_toArray]
    exact HX.out.2.2.2.2.2.2.2.2.1 i (by rw [Hnt.out]; exact hin))
  have Hend : Hid (∀ k w4, CAd N mg ρ ws l bs F U c { V with list := v' } (errs ++ [(k, pos)]) w4 → MzI N mg l bs F U c V n0 tB Vt T ga mn gv al bn (.slice (some ⟨gf, 0, none⟩) fps.length qf) fps ρ0 τ0 w0 (i + 1) w4) := hid (fun k w4 h => by
    obtain ⟨ρ', v2, hC4, hf4⟩ := h.m
    have ho := hf4.other (τ := τ) rfl (fun g hg => (HM3.out.ti g hg).1)
    exact ⟨ρ', τ, v2, errs ++ [(k, pos)], T', fup vd i v, hC4, HM3.out.fr ho (fun r hr => by simp; exact hr) (fun g hg => by rw [hf4.old g (HM3.out.dm g hg)]; exact (HM3.out.ti g hg).1), HK3.out.rho hf4, HP3.out (k, pos)⟩)
  generalize (⟨(rf T al i).toArray⟩ : ByteArray) = ss at HTs Hss
  clear HM3 HK3 HP3 HS3 hpo HX Hx Hx' Hst Hln Hel Hvt
  have HC2 := HC3
  clear HC3
  rcases hv with hv | hv
  · have t1 : ((v : Int) == 1) = true := by simp; omega
    clear hv
    skip
    have hss : ss.size ≤ 35000000000000 := Hss.out
    have Hu2 := hid (fun wz => utoaX 4294967295 (by omega) wz)
    have hu2 := uS_size 4294967295 (by omega)
    generalize uS 4294967295 = sb at Hu2 hu2
    have z1 : (({ data := #[97, 32, 118, 97, 108, 117, 101, 32, 111, 102, 32] } : ByteArray) ++ ss).size = 11 + ss.size := by rw [ba_size]; rfl
    have z2 : (({ data := #[97, 32, 118, 97, 108, 117, 101, 32, 111, 102, 32] } : ByteArray) ++ ss ++ { data := #[32, 99, 111, 117, 108, 100, 32, 116, 97, 107, 101, 32, 109, 111, 114, 101, 32, 116, 104, 97, 110, 32] }).size = 11 + ss.size + 22 := by rw [ba_size, z1]; rfl
    have z3 : (({ data := #[97, 32, 118, 97, 108, 117, 101, 32, 111, 102, 32] } : ByteArray) ++ ss ++ { data := #[32, 99, 111, 117, 108, 100, 32, 116, 97, 107, 101, 32, 109, 111, 114, 101, 32, 116, 104, 97, 110, 32] } ++ sb).size = 11 + ss.size + 22 + sb.size := by rw [ba_size, z2]
    have z4 : (({ data := #[97, 32, 118, 97, 108, 117, 101, 32, 111, 102, 32] } : ByteArray) ++ ss ++ { data := #[32, 99, 111, 117, 108, 100, 32, 116, 97, 107, 101, 32, 109, 111, 114, 101, 32, 116, 104, 97, 110, 32] } ++ sb ++ { data := #[32, 98, 121, 116, 101, 115] }).size = 11 + ss.size + 22 + sb.size + 6 := by rw [ba_size, z3]; rfl
    go_upto_region 10 with fail
    obtain ⟨X0, W, hT, hI⟩ := class_mk (fun w' => Below ws.heap.size ws w')
    have H0 : Hid (∃ y, ws.drew = W y) := hid (hI _ (Drew.below ⟨1, rfl⟩ _))
    have HW0 : Hid (∀ x w', Below (W x).heap.size (W x) w' → ∃ y, w' = W y) := hid (fun x w' hb => hI _ ((hT x).trans (hb.mono (hT x).size)))
    have hne : Nonempty X0 := ⟨H0.out.choose⟩
    have HTT := hid hT
    have a2 : ∀ z, (W z).cell? ⟨gf, i, none⟩ = some (.int .i64 (pos : Int)) := fun y => (fun wy hy => Hpo.out wy hy) (W y) (hT y)
    clear hT hI
    refine wp_region_class_tailT W 13 (by kernel_rfl) (by kernel_rfl) (by kernel_rfl) H0.out ?_
    dsimp only [List.take, List.drop]
    repeat (go_big_quiet_step ((first | (go_at_call 38; with_reducible exact Calls.class_of HW0.out (HTs.out _ (HTT.out _))) | (go_at_call 103; with_reducible exact Calls.class_of HW0.out (Hu2.out _)))))
    refine wpQuiet_nil ?_
    intro z
    have HB := hid (HTT.out z)
    have a2z := a2 z
    generalize W z = wz at HB a2z ⊢
    clear H0 HTT HW0 a2
    have HA := hid (addDW (HC2.out.below HB.out) 18 pos _ hpos (show 0 < ByteArray.size _ by rw [z4]; omega) (by rw [z4]; omega) hel)
    clear a2z
    go_wp2_with fail
    refine HA.out.mono ?_
    rintro e w4 ⟨rfl, h4⟩
    have HE := hid (Hend.out 18 w4 (CAd.pre HB.out h4.out))
    clear HA h4
    go_wp2
    exact ⟨⟨i + 1, by go_num, by omega, by omega, HE⟩, by simp [intOf]; omega⟩
  · have t1 : ((v : Int) == 1) = false := by simp; omega
    have t2 : ((v : Int) == 2) = true := by simp; omega
    clear hv
    skip
    have hss : ss.size ≤ 35000000000000 := Hss.out
    have Hu2 := hid (fun wz => itoaX 63 (by omega) wz)
    have hu2 := uS_size 63 (by omega)
    generalize uS 63 = sb at Hu2 hu2
    have z1 : (({ data := #[116, 104, 101, 32, 116, 114, 101, 101, 32, 111, 102, 32] } : ByteArray) ++ ss).size = 12 + ss.size := by rw [ba_size]; rfl
    have z2 : (({ data := #[116, 104, 101, 32, 116, 114, 101, 101, 32, 111, 102, 32] } : ByteArray) ++ ss ++ { data := #[32, 105, 115, 32, 100, 101, 101, 112, 101, 114, 32, 116, 104, 97, 110, 32] }).size = 12 + ss.size + 16 := by rw [ba_size, z1]; rfl
    have z3 : (({ data := #[116, 104, 101, 32, 116, 114, 101, 101, 32, 111, 102, 32] } : ByteArray) ++ ss ++ { data := #[32, 105, 115, 32, 100, 101, 101, 112, 101, 114, 32, 116, 104, 97, 110, 32] } ++ sb).size = 12 + ss.size + 16 + sb.size := by rw [ba_size, z2]
    have z4 : (({ data := #[116, 104, 101, 32, 116, 114, 101, 101, 32, 111, 102, 32] } : ByteArray) ++ ss ++ { data := #[32, 105, 115, 32, 100, 101, 101, 112, 101, 114, 32, 116, 104, 97, 110, 32] } ++ sb ++ { data := #[32, 108, 101, 118, 101, 108, 115] }).size = 12 + ss.size + 16 + sb.size + 7 := by rw [ba_size, z3]; rfl
    go_upto_region 12 with fail
    obtain ⟨X0, W, hT, hI⟩ := class_mk (fun w' => Below ws.heap.size ws w')
    have H0 : Hid (∃ y, ws.drew = W y) := hid (hI _ (Drew.below ⟨1, rfl⟩ _))
    have HW0 : Hid (∀ x w', Below (W x).heap.size (W x) w' → ∃ y, w' = W y) := hid (fun x w' hb => hI _ ((hT x).trans (hb.mono (hT x).size)))
    have hne : Nonempty X0 := ⟨H0.out.choose⟩
    have HTT := hid hT
    have a2 : ∀ z, (W z).cell? ⟨gf, i, none⟩ = some (.int .i64 (pos : Int)) := fun y => (fun wy hy => Hpo.out wy hy) (W y) (hT y)
    clear hT hI
    refine wp_region_class_tailT W 13 (by kernel_rfl) (by kernel_rfl) (by kernel_rfl) H0.out ?_
    dsimp only [List.take, List.drop]
    repeat (go_big_quiet_step ((first | (go_at_call 38; with_reducible exact Calls.class_of HW0.out (HTs.out _ (HTT.out _))) | (go_at_call 64; with_reducible exact Calls.class_of HW0.out (Hu2.out _)))))
    refine wpQuiet_nil ?_
    intro z
    have HB := hid (HTT.out z)
    have a2z := a2 z
    generalize W z = wz at HB a2z ⊢
    clear H0 HTT HW0 a2
    have HA := hid (addDW (HC2.out.below HB.out) 19 pos _ hpos (show 0 < ByteArray.size _ by rw [z4]; omega) (by rw [z4]; omega) hel)
    clear a2z
    go_wp2_with fail
    refine HA.out.mono ?_
    rintro e w4 ⟨rfl, h4⟩
    have HE := hid (Hend.out 19 w4 (CAd.pre HB.out h4.out))
    clear HA h4
    go_wp2
    exact ⟨⟨i + 1, by go_num, by omega, by omega, HE⟩, by simp [intOf]; omega⟩
end
end Go.Proofs.Qxb6500883aGreatDoor
