/- resolveNames. -/
import Derived.Test.Qxb6500883aGreatDoorScCgb
namespace Go.Proofs.Qxb6500883aGreatDoor
open Go.RowKit
set_option linter.unusedSimpArgs false
set_option linter.unusedVariables false
section
variable {N mg : Nat} {ρ ρ' : Rl} {w w' w1 w2 : World} {l : PL} {bs : List UInt8} {F : FS} {U : FV} {c n : Nat} {V V' : CV} {errs : List (Nat × Nat)} {v : Value} {P Q : Prop} {B B' : Nat}
set_option maxRecDepth 100000 in
set_option maxHeartbeats 4000000 in
theorem resolveNamesW (h : CM N mg ρ w l bs F U c V []) (hW : FWf l.n F) (hz : FSz F) : Calls Tryz.prog 55 #[.pointer (some ⟨c, 0, none⟩)] w fun e w' => e = .returned (.tuple #[]) ∧ Hid (∃ mB gT gE, Ph (E1 F mB gT gE) N mg ρ w l bs F U c (V1 V mB gT F.types.length gE F.exprs.length) (NamesOk F) 6000000000 w') := by
  have HW := hid hW
  have hnd := hz.d
  have hnf := hz.f
  have hnt := hz.t
  have hne := hz.e
  have HWT := hid (hW.tN)
  have HWE := hid (hW.eN)
  obtain ⟨aT, qT, huT⟩ := h.fr.t.shape
  obtain ⟨aE, qE, huE⟩ := h.fr.e.shape
  obtain ⟨nT, hnT'⟩ : ∃ k, F.types.length = k := ⟨_, rfl⟩
  obtain ⟨nE, hnE'⟩ : ∃ k, F.exprs.length = k := ⟨_, rfl⟩
  rw [hnT'] at huT hnt
  rw [hnE'] at huE hne
  have HnT := hid hnT'
  have HnE := hid hnE'
  have HuT := hid huT
  have HuE := hid huE
  clear hnT' hnE' huT huE hz
  obtain ⟨ad, qd, hud⟩ := h.fr.d.shape
  obtain ⟨nd, hnd'⟩ : ∃ k, F.decls.length = k := ⟨_, rfl⟩
  rw [hnd'] at hud hnd
  have Hnd := hid hnd'
  have Hud := hid hud
  have c0 := h.cells.1
  have kf1 : w.cell? ⟨l.f, 1, none⟩ = some (.slice ad nd qd) := by rw [← hud]; exact h.fb.cell 1
  have hmk := run_makeMapN (t := 89) Tryz.underlying89 nd w
  obtain ⟨mB, hmB⟩ : ∃ m, w.heap.size = m := ⟨_, rfl⟩
  obtain ⟨hr, hrf⟩ := h.role (o := .map #[] 0) 17
  have HE : Hid (NmM F w.heap.size 0 (fup ρ w.heap.size 17) (w.alloc (.map #[] 0))) := hid ⟨MG.new _ w rfl, fup_self _ _ _⟩
  rw [hmB] at hr hrf HE hmk
  have f3 : (w.alloc (.map #[] 0)).frozen? ⟨c, 3, none⟩ = false := hr.cb.frozen 3
  have g3 : (w.alloc (.map #[] 0)).cell? ⟨c, 3, none⟩ = some V.byN := hr.cb.cell 3
  have HR := hid hr
  have HRF := hid hrf
  have HmB := hid hmB
  obtain ⟨wa, hwa⟩ : ∃ x, w.alloc (.map #[] 0) = x := ⟨_, rfl⟩
  rw [hwa] at HR HRF HE hmk f3 g3
  have c0a : wa.cell? ⟨c, 0, none⟩ = some (.pointer (some ⟨l.f, 0, none⟩)) := HR.out.cells.1
  have HS : Hid (Ph (NmM F mB 0) N mg ρ w l bs F U c { V with byN := .map (some mB) } (DclD F 0) 0 (wa.setCell ⟨c, 3, none⟩ (.map (some mB)))) := hid (by
    obtain ⟨h1, h2⟩ := HR.out.setByN (.map (some mB))
    exact ⟨_, V.list, [], h1, HRF.out.trans h2, ⟨fun _ a b y z _ hb => absurd hb (Nat.not_lt_zero _), fun _ => rfl⟩, Nat.le_refl _, NmM.keeps _ _ _ _ HE.out h2⟩)
  have kfa : (wa.setCell ⟨c, 3, none⟩ (.map (some mB))).cell? ⟨l.f, 1, none⟩ = some (.slice ad nd qd) := by
    have := (HR.out.setByN (.map (some mB))).1.fb.cell 1
    rw [← Hud.out]
    exact this
  clear h hr hrf hud hnd' hW hmB
  go_enter Tryz.func55, Tryz.ntmps55
  go_upto_region 2 with fail
  generalize wa.setCell ⟨c, 3, none⟩ (.map (some mB)) = w0 at HS kfa ⊢
  clear HR HRF HE hmk f3 g3 c0a c0 kf1
  go_upto_region 3 with fail
  clear kfa
  go_loopw [33] (fun t wr => ∃ i : Nat, t = .int .i64 (i : Int) ∧ i ≤ nd ∧ Hid (Ph (NmM F mB i) N mg ρ w l bs F U c { V with byN := .map (some mB) } (DclD F i) i wr)) (fun t _ => nd - (intOf t).toNat)
  case atStart => exact ⟨0, rfl, Nat.zero_le _, HS⟩
  case round =>
  clear HS
  obtain ⟨i, rfl, hi, HI⟩ := hrel
  by_cases hin : i < nd
  rotate_left
  · have d1 : decide ((i : Int) < (nd : Int)) = false := decide_eq_false (by omega)
    have HI' : Hid (Ph (NmM F mB nd) N mg ρ w l bs F U c { V with byN := .map (some mB) } (DclD F nd) nd wr) := hid (by
      have := HI.out
      rw [show i = nd by omega] at this
      exact this)
    clear HI
    obtain ⟨ρ1, v1, es1, hm1, hfr1, hp1, hb1, hs1⟩ := HI'.out.m
    have HC := hid (checkFieldNamesW hm1 HW.out (by omega) (by rw [Hnd.out]; exact hnd) hnf)
    have HK := hid (And.intro hfr1 (And.intro hp1 hs1))
    clear hm1 hfr1 hp1 hb1 hs1 HI'
    go_wp2_with fail
    refine HC.out.mono ?_
    rintro e w4 ⟨rfl, h4⟩
    have HF : Hid (Ph (NmM F mB nd) N mg ρ w l bs F U c { V with byN := .map (some mB) } (DclD F nd ∧ FldD F nd) 5000000000 w4) := hid (by
      obtain ⟨ρ2, v2, es2, k1, k2, k3, k4, _⟩ := h4.out.m
      refine ⟨ρ2, v2, es2, k1, HK.out.1.trans k2, k3.trans ?_, k4, NmM.keeps _ _ _ _ HK.out.2.2 k2⟩
      rw [HK.out.2.1, Hnd.out])
    clear HC h4 HK
    go_upto_region 12 with fail

    obtain ⟨ρ2, v2, es2, hm2, hfr2, hp2, hb2, hs2⟩ := HF.out.m
    have c0 := hm2.cells.1
    have kf2 : w4.cell? ⟨l.f, 2, none⟩ = some (.slice aT nT qT) := by rw [← HuT.out]; exact hm2.fb.cell 2
    obtain ⟨gT, hgT⟩ : ∃ g, w4.heap.size = g := ⟨_, rfl⟩
    have hmk := make_i32 nT (by omega) w4
    obtain ⟨hr, hrf⟩ := hm2.role (o := .cells (madeCells #[.int .i32 0] nT) 21) 12
    rw [hgT] at hmk hr hrf
    obtain ⟨waT, hwaT⟩ : ∃ x, w4.alloc (.cells (madeCells #[.int .i32 0] nT) 21) = x := ⟨_, rfl⟩
    rw [hwaT] at hmk hr hrf
    have hE : RwJ gT nT (fun _ => 0) 12 (fup ρ2 gT 12) waT := by
      rw [← hwaT, ← hgT]
      exact RwK.new 21 (fun x : Int => Value.int .i32 x) ρ2 w4 nT 12 (0 : Int)
    have f4 : waT.frozen? ⟨c, 4, none⟩ = false := hr.cb.frozen 4
    have g4 : waT.cell? ⟨c, 4, none⟩ = some V.tD := hr.cb.cell 4
    have HST : Hid (Ph (fun ρ w => (NmM F mB nd) ρ w ∧ RwJ gT nT (upT (tDA F) 0) 12 ρ w) N mg ρ w l bs F U c (({ V with byN := .map (some mB), tD := .slice (some ⟨gT, 0, none⟩) nT nT } : CV)) ((DclD F nd ∧ FldD F nd) ∧ TyR F 0) (5000000000 + 0) (waT.setCell ⟨c, 4, none⟩ (.slice (some ⟨gT, 0, none⟩) nT nT))) := hid (by
      obtain ⟨h1, h2⟩ := hr.setTD (.slice (some ⟨gT, 0, none⟩) nT nT)
      exact ⟨_, v2, es2, h1, hfr2.trans (hrf.trans h2), hp2.trans ⟨fun h => ⟨h, fun i x hi => absurd hi (Nat.not_lt_zero _)⟩, fun h => h.1⟩, by omega, NmM.keeps _ _ _ _ hs2 (hrf.trans h2), (RwK.keeps rfl) _ _ _ _ hE h2⟩)
    have kfa : (waT.setCell ⟨c, 4, none⟩ (.slice (some ⟨gT, 0, none⟩) nT nT)).cell? ⟨l.f, 2, none⟩ = some (.slice aT nT qT) := by
      rw [← HuT.out]
      exact (hr.setTD (.slice (some ⟨gT, 0, none⟩) nT nT)).1.fb.cell 2
    have HgK : Hid (w.heap.size ≤ gT) := hid (by rw [← hgT]; exact hfr2.size)
    clear hm2 hfr2 hp2 hb2 hs2 hr hrf hE hgT hwaT HF
    go_upto_region 13 with fail
    generalize waT.setCell ⟨c, 4, none⟩ (.slice (some ⟨gT, 0, none⟩) nT nT) = wbT at HST kfa ⊢
    clear c0 kf2 hmk f4 g4
    go_upto_region 14 with fail
    clear kfa
    go_loopw [106] (fun t wr => ∃ i : Nat, t = .int .i64 (i : Int) ∧ i ≤ nT ∧ Hid (Ph (fun ρ w => (NmM F mB nd) ρ w ∧ RwJ gT nT (upT (tDA F) i) 12 ρ w) N mg ρ w l bs F U c (({ V with byN := .map (some mB), tD := .slice (some ⟨gT, 0, none⟩) nT nT } : CV)) ((DclD F nd ∧ FldD F nd) ∧ TyR F i) (5000000000 + i) wr)) (fun t _ => nT - (intOf t).toNat)
    case atStart => exact ⟨0, rfl, Nat.zero_le _, HST⟩
    case round =>
    clear HST
    obtain ⟨i, rfl, hi, HI⟩ := hrel
    by_cases hin : i < nT
    rotate_left
    · have d1 : decide ((i : Int) < (nT : Int)) = false := decide_eq_false (by omega)
      have HI' : Hid (Ph (fun ρ w => (NmM F mB nd) ρ w ∧ RwJ gT nT (upT (tDA F) nT) 12 ρ w) N mg ρ w l bs F U c (({ V with byN := .map (some mB), tD := .slice (some ⟨gT, 0, none⟩) nT nT } : CV)) ((DclD F nd ∧ FldD F nd) ∧ TyR F nT) (5000000000 + nT) wr) := hid (by
        have := HI.out
        rw [show i = nT by omega] at this
        exact this)
      clear HI
      have HF := hid (HI'.out.iff Iff.rfl (show 5000000000 + nT ≤ 5000065536 by omega))
      clear HI'
      go_upto_region 26 with fail
      have hwrr : wr.heap.size = wr.heap.size := rfl
      clear hwrr
      obtain ⟨ρ2, v2, es2, hm2, hfr2, hp2, hb2, hs2⟩ := HF.out.m
      have c0 := hm2.cells.1
      have kf2 : wr.cell? ⟨l.f, 3, none⟩ = some (.slice aE nE qE) := by rw [← HuE.out]; exact hm2.fb.cell 3
      obtain ⟨gE, hgE⟩ : ∃ g, wr.heap.size = g := ⟨_, rfl⟩
      have hmk := make_i32 nE (by omega) wr
      obtain ⟨hr, hrf⟩ := hm2.role (o := .cells (madeCells #[.int .i32 0] nE) 21) 13
      rw [hgE] at hmk hr hrf
      obtain ⟨waE, hwaE⟩ : ∃ x, wr.alloc (.cells (madeCells #[.int .i32 0] nE) 21) = x := ⟨_, rfl⟩
      rw [hwaE] at hmk hr hrf
      have hE : RwJ gE nE (fun _ => 0) 13 (fup ρ2 gE 13) waE := by
        rw [← hwaE, ← hgE]
        exact RwK.new 21 (fun x : Int => Value.int .i32 x) ρ2 wr nE 13 (0 : Int)
      have f4 : waE.frozen? ⟨c, 5, none⟩ = false := hr.cb.frozen 5
      have g4 : waE.cell? ⟨c, 5, none⟩ = some V.eD := hr.cb.cell 5
      have HSE : Hid (Ph (fun ρ w => (fun ρ w => NmM F mB nd ρ w ∧ RwJ gT nT (upT (tDA F) nT) 12 ρ w) ρ w ∧ RwJ gE nE (upT (eDA F) 0) 13 ρ w) N mg ρ w l bs F U c (V1 V mB gT nT gE nE) (((DclD F nd ∧ FldD F nd) ∧ TyR F nT) ∧ ExR F 0) ((5000065536) + 0) (waE.setCell ⟨c, 5, none⟩ (.slice (some ⟨gE, 0, none⟩) nE nE))) := hid (by
        obtain ⟨h1, h2⟩ := hr.setED (.slice (some ⟨gE, 0, none⟩) nE nE)
        exact ⟨_, v2, es2, h1, hfr2.trans (hrf.trans h2), hp2.trans ⟨fun h => ⟨h, fun i x hi => absurd hi (Nat.not_lt_zero _)⟩, fun h => h.1⟩, by omega, (Keeps.and NmM.keeps (RwK.keeps rfl)) _ _ _ _ hs2 (hrf.trans h2), (RwK.keeps rfl) _ _ _ _ hE h2⟩)
      have kfa : (waE.setCell ⟨c, 5, none⟩ (.slice (some ⟨gE, 0, none⟩) nE nE)).cell? ⟨l.f, 3, none⟩ = some (.slice aE nE qE) := by
        rw [← HuE.out]
        exact (hr.setED (.slice (some ⟨gE, 0, none⟩) nE nE)).1.fb.cell 3
      have HgK : Hid (w.heap.size ≤ gE) := hid (by rw [← hgE]; exact hfr2.size)
      clear hm2 hfr2 hp2 hb2 hs2 hr hrf hE hgE hwaE HF
      go_upto_region 27 with fail
      generalize waE.setCell ⟨c, 5, none⟩ (.slice (some ⟨gE, 0, none⟩) nE nE) = wbE at HSE kfa ⊢
      clear c0 kf2 hmk f4 g4
      go_upto_region 28 with fail
      clear kfa
      go_loopw [201] (fun t wr => ∃ i : Nat, t = .int .i64 (i : Int) ∧ i ≤ nE ∧ Hid (Ph (fun ρ w => (fun ρ w => NmM F mB nd ρ w ∧ RwJ gT nT (upT (tDA F) nT) 12 ρ w) ρ w ∧ RwJ gE nE (upT (eDA F) i) 13 ρ w) N mg ρ w l bs F U c (V1 V mB gT nT gE nE) (((DclD F nd ∧ FldD F nd) ∧ TyR F nT) ∧ ExR F i) ((5000065536) + i) wr)) (fun t _ => nE - (intOf t).toNat)
      case atStart => exact ⟨0, rfl, Nat.zero_le _, HSE⟩
      case round =>
      clear HSE
      obtain ⟨i, rfl, hi, HI⟩ := hrel
      by_cases hin : i < nE
      rotate_left
      · have d1 : decide ((i : Int) < (nE : Int)) = false := decide_eq_false (by omega)
        have HI' : Hid (Ph (fun ρ w => (fun ρ w => NmM F mB nd ρ w ∧ RwJ gT nT (upT (tDA F) nT) 12 ρ w) ρ w ∧ RwJ gE nE (upT (eDA F) nE) 13 ρ w) N mg ρ w l bs F U c (V1 V mB gT nT gE nE) (((DclD F nd ∧ FldD F nd) ∧ TyR F nT) ∧ ExR F nE) ((5000065536) + nE) wr) := hid (by
          have := HI.out
          rw [show i = nE by omega] at this
          exact this)
        clear HI
        have HFF : Hid (∃ mB gT gE, Ph (E1 F mB gT gE) N mg ρ w l bs F U c (V1 V mB gT F.types.length gE F.exprs.length) (NamesOk F) 6000000000 wr) := hid (by
          refine ⟨mB, gT, gE, ?_⟩
          rw [HnT.out, HnE.out]
          obtain ⟨ρ1, v1, es1, hm1, hfr1, hp1, hb1, hs1⟩ := HI'.out.m
          refine ⟨ρ1, v1, es1, hm1, hfr1, hp1.trans ⟨fun h => ⟨by rw [Hnd.out]; exact h.1.1.1, by rw [Hnd.out]; exact h.1.1.2, by rw [HnT.out]; exact h.1.2, by rw [HnE.out]; exact h.2⟩, fun h => ⟨⟨⟨by have := h.d; rw [Hnd.out] at this; exact this, by have := h.f; rw [Hnd.out] at this; exact this⟩, by have := h.t; rw [HnT.out] at this; exact this⟩, by have := h.e; rw [HnE.out] at this; exact this⟩⟩, by omega, ?_⟩
          unfold E1
          rw [Hnd.out, HnT.out, HnE.out]
          exact ⟨hs1.1.1, hs1.1.2.congr (upT_end _), hs1.2.congr (upT_end _)⟩)
        go_wp2
        exact bodyPost_end (v := .tuple #[]) (by simp [results, Tryz.results55, go_sem]) rfl ⟨rfl, HFF⟩
      have d1 : decide ((i : Int) < (nE : Int)) = true := decide_eq_true (by omega)
      have i1 : (i : Int) < (nE : Int) := by omega
      obtain ⟨x, hx⟩ : ∃ x, F.exprs[i]? = some x := ⟨_, List.getElem?_eq_getElem (by rw [HnE.out]; exact hin)⟩
      have Hx := hid hx
      obtain ⟨ρ1, v1, es1, hm1, hfr1, hp1, hb1, hs1⟩ := HI.out.m
      obtain ⟨gd, rfl, hgd, hcd⟩ := hm1.expr HuE.out hx
      have c0 := hm1.cells.1
      have c4 : wr.cell? ⟨c, 5, none⟩ = some (.slice (some ⟨gE, 0, none⟩) nE nE) := hm1.cb.cell 5
      have kf2 : wr.cell? ⟨l.f, 3, none⟩ = some (.slice (some ⟨gd, 0, none⟩) nE qE) := by rw [← HuE.out]; exact hm1.fb.cell 3
      have z0 : wr.cell? ⟨gE, i, none⟩ = some (.int .i32 (upT (eDA F) i i)) := hs1.2.get hin
      have zf : wr.frozen? ⟨gE, i, none⟩ = false := hs1.2.frozen i
      have HD0 := hid (hs1.2.set hin (-1))
      have hx2 : wr.heap.size = wr.heap.size := rfl
      have hfs : Fr (fun r => r == 13) ρ1 wr ρ1 (wr.setCell ⟨gE, i, none⟩ (.int .i32 (-1))) := Fr.set _ (by show (ρ1 gE == 13) = true; rw [hs1.2.2]; rfl)
      have Hm1 := hid (hm1.frame hfs (fun r h1 h2 => by simp; omega))
      have Hfr1 := hid (hfr1.updL (Upd.setCell (Upd.refl gE wr) (p := ⟨gE, i, none⟩) rfl (.int .i32 (-1))) HgK.out)
      have Hp1 := hid hp1
      have Hb1 := hid hb1
      have HE1 : Hid ((fun ρ w => NmM F mB nd ρ w ∧ RwJ gT nT (upT (tDA F) nT) 12 ρ w) ρ1 (wr.setCell ⟨gE, i, none⟩ (.int .i32 (-1)))) := hid (NmR.fr hs1.1 hfs)
      obtain ⟨ws, hws⟩ : ∃ x, wr.setCell ⟨gE, i, none⟩ (.int .i32 (-1)) = x := ⟨_, rfl⟩
      rw [hws] at HD0 Hm1 Hfr1 HE1
      have hcs : ∀ j, j < 6 → ws.cell? ⟨gd, i * 6 + j, none⟩ = (enC x)[j]? := by
        obtain ⟨gd2, e, _, hc2⟩ := Hm1.out.expr HuE.out Hx.out
        cases e
        exact hc2
      have n0 : ws.cell? ⟨gd, i * 6, none⟩ = some (.int .u8 (x.form : Int)) := hcs 0 (by decide)
      have n2 : ws.cell? ⟨gd, i * 6 + 1, none⟩ = some (.int .i64 (x.pos : Int)) := hcs 1 (by decide)
      have n3 : ws.cell? ⟨gd, i * 6 + 3, none⟩ = some (.string x.name) := hcs 3 (by decide)
      have s0 := Hm1.out.cells.1
      have s3 : ws.cell? ⟨c, 3, none⟩ = some (.map (some mB)) := Hm1.out.cb.cell 3
      have s4 : ws.cell? ⟨c, 5, none⟩ = some (.slice (some ⟨gE, 0, none⟩) nE nE) := Hm1.out.cb.cell 5
      have sd : ws.cell? ⟨l.f, 1, none⟩ = some (.slice ad nd qd) := by rw [← Hud.out]; exact Hm1.out.fb.cell 1
      have sg : ws.cell? ⟨gE, i, none⟩ = some (.int .i32 (-1)) := by
        have := HD0.out.get hin
        rw [fup_self] at this
        exact this
      have sf : ws.frozen? ⟨gE, i, none⟩ = false := HD0.out.frozen i
      have hpos : x.pos ≤ l.n ∧ x.name.size ≤ l.n := HWE.out i x hx
      have hle := Hm1.out.r.src.le
      -- no error here: what is left of the round
      have Hend : Hid (eDof F x = -1 → (x.form = 1 → False) → Ph (fun ρ w => (fun ρ w => NmM F mB nd ρ w ∧ RwJ gT nT (upT (tDA F) nT) 12 ρ w) ρ w ∧ RwJ gE nE (upT (eDA F) (i + 1)) 13 ρ w) N mg ρ w l bs F U c (V1 V mB gT nT gE nE) (((DclD F nd ∧ FldD F nd) ∧ TyR F nT) ∧ ExR F (i + 1)) ((5000065536) + (i + 1)) ws) := hid (fun hd hf => by
        refine ⟨ρ1, v1, es1, Hm1.out, Hfr1.out, Hp1.out.trans ?_, by have := Hb1.out; omega, HE1.out, ?_⟩
        · rw [ExR.succ Hx.out]
          exact ⟨fun h => ⟨h.1, h.2, fun h2 => (hf h2).elim⟩, fun h => ⟨h.1, h.2.1⟩⟩
        · have := HD0.out
          rw [← hd, ← eDA_get Hx.out, upT_succ] at this
          exact this)
      have Herr : Hid (∀ w1 w2 : World, Below ws.heap.size ws w1 → eDof F x = -1 → x.form = 1 → CAd N mg ρ1 w1 l bs F U c { (V1 V mB gT nT gE nE) with list := v1 } (es1 ++ [(8, x.pos)]) w2 → Ph (fun ρ w => (fun ρ w => NmM F mB nd ρ w ∧ RwJ gT nT (upT (tDA F) nT) 12 ρ w) ρ w ∧ RwJ gE nE (upT (eDA F) (i + 1)) 13 ρ w) N mg ρ w l bs F U c (V1 V mB gT nT gE nE) (((DclD F nd ∧ FldD F nd) ∧ TyR F nT) ∧ ExR F (i + 1)) ((5000065536) + (i + 1)) w2) := hid (fun w1 w2 hb hd hf ha => by
        have hk : Keeps (fun ρ w => (fun ρ w => NmM F mB nd ρ w ∧ RwJ gT nT (upT (tDA F) nT) 12 ρ w) ρ w ∧ RwJ gE nE (upT (eDA F) (i + 1)) 13 ρ w) := Keeps.and (Keeps.and NmM.keeps (RwK.keeps rfl)) (RwK.keeps rfl)
        have hw : RwJ gE nE (upT (eDA F) (i + 1)) 13 ρ1 ws := by
          have := HD0.out
          rw [← hd, ← eDA_get Hx.out, upT_succ] at this
          exact this
        refine (Ph.add Hfr1.out hk ⟨HE1.out, hw⟩ (CAd.pre hb ha) Hb1.out).iff ?_ (by omega)
        rw [ExR.succ Hx.out]
        exact ⟨fun h => h.elim, fun h => (h.2.2 hf hd).elim⟩)
      clear hcd hm1 hfr1 hp1 hb1 hs1 hx HI hfs hx2 hcs
      obtain ⟨fo, hfo⟩ : ∃ k, x.form = k := ⟨_, rfl⟩
      rw [hfo] at n0
      have Hfo := hid hfo
      clear hfo
      by_cases h2 : fo = 1
      rotate_left
      · as_aux_lemma =>
        have q2 : ((fo : Int) != 1) = true := by simp; omega
        have hne : x.form ≠ 1 := by rw [Hfo.out]; exact h2
        have HFF := hid (Hend.out (eDof_not hne) (fun h => hne h))
        clear h2 hne
        go_wp2
        exact ⟨⟨i + 1, by go_num, by omega, HFF⟩, by simp [intOf]; omega⟩
      have q2 : ((fo : Int) != 1) = false := by simp; omega
      have Hf2 : Hid (x.form = 1) := hid (by rw [Hfo.out]; exact h2)
      clear h2
      have hlk := fun nq => (HE1.out.1.1.below ((Drew.refl ws).next nq |>.below _)).lookT (P := Tryz.prog) Tryz.underlying89 (keyStr Tryz.underlying9) x.name (z := .int .i32 0) (fun w => by kernel_rfl)
      cases hfi : fstI F nd x.name with
      | none =>
        have Hfi := hid hfi
        replace hlk : ∀ nq, (Instr.lookup 89 (.map (some mB)) (.string x.name) true).run Tryz.prog (ws.drewN nq) = .ok (.tuple #[.int .i32 0, .bool false]) (ws.drewN nq) := by
          intro nq
          rw [hlk, hfi]
          rfl
        clear hfi
        go_upto_region 33 with fail
        go_quiet (fail)
        have HD : Hid (Drew ws (ws.drewN nq)) := hid ((Drew.refl ws).next nq)
        generalize ws.drewN nq = w2 at HD ⊢
        clear hlk c0 c4 kf2 z0 zf n0 s0 s3 s4 sd sg sf
        obtain ⟨X0, W, hT, hI⟩ := class_mk (fun w' => Drew ws w')
        have H0 : Hid (∃ y, w2.drew = W y) := hid (hI _ (HD.out.next 1))
        have hne : Nonempty X0 := ⟨H0.out.choose⟩
        have HTT := hid hT
        have j1 : ∀ z, (W z).cell? ⟨gd, i * 6 + 1, none⟩ = some (.int .i64 (x.pos : Int)) := fun y => by obtain ⟨m, e⟩ := hT y; rw [e]; exact n2
        have j2 : ∀ z, (W z).cell? ⟨gd, i * 6 + 3, none⟩ = some (.string x.name) := fun y => by obtain ⟨m, e⟩ := hT y; rw [e]; exact n3
        clear hT hI n2 n3
        have HQ := hid (fun wz => quoteX x.name (by omega) wz)
        have hq := qS_size x.name
        generalize qS x.name = qx at HQ hq
        have z1 : (({ data := #[110, 111, 32, 99, 111, 110, 115, 116, 97, 110, 116, 32, 110, 97, 109, 101, 100, 32] } : ByteArray) ++ qx).size = 18 + qx.size := by rw [ba_size]; rfl
        go_upto_region 36 with fail
        refine wp_region_class_tailT W 13 (by kernel_rfl) (by kernel_rfl) (by kernel_rfl) H0.out ?_
        dsimp only [List.take, List.drop]
        repeat (go_big_quiet_step ((go_at_call 84; exact Calls.class_same (HQ.out _))))
        refine wpQuiet_nil ?_
        intro z
        have HB := hid ((HTT.out z).below ws.heap.size)
        generalize W z = wz at HB ⊢
        clear j1 j2 H0 HTT HQ
        have HA := hid (addDW (Hm1.out.below HB.out) 8 x.pos _ hpos.1 (show 0 < ByteArray.size _ by rw [z1]; omega) (by rw [z1]; omega) (by have := Hb1.out; omega))
        go_wp2_with fail
        refine HA.out.mono ?_
        rintro e w4 ⟨rfl, h4⟩
        have HFF := hid (Herr.out _ _ HB.out (eDof_none (by rw [Hnd.out]; exact Hfi.out)) Hf2.out h4.out)
        clear HA h4
        go_wp2
        exact ⟨⟨i + 1, by go_num, by omega, HFF⟩, by simp [intOf]; omega⟩
      | some d =>
        have Hfi := hid hfi
        replace hlk : ∀ nq, (Instr.lookup 89 (.map (some mB)) (.string x.name) true).run Tryz.prog (ws.drewN nq) = .ok (.tuple #[.int .i32 (d : Int), .bool true]) (ws.drewN nq) := by
          intro nq
          rw [hlk, hfi]
          rfl
        clear hfi
        obtain ⟨hdi, y, hy, hyn⟩ := fstI_some Hfi.out
        have Hy := hid hy
        obtain ⟨gy, egd, _, hcy⟩ := Hm1.out.decl Hud.out hy
        subst egd
        have y0 : ws.cell? ⟨gy, d * 11, none⟩ = some (.int .u8 (y.sort : Int)) := hcy 0 (by decide)
        have i2 : (d : Int) < (nd : Int) := by omega
        clear hcy hy hyn
        obtain ⟨so, hso⟩ : ∃ k, y.sort = k := ⟨_, rfl⟩
        rw [hso] at y0
        have Hso := hid hso
        clear hso
        have HDof : Hid (eDof F x = if so = 0 then (d : Int) else -1) := hid (by rw [← Hso.out]; exact eDof_some Hf2.out (by rw [Hnd.out]; exact Hfi.out) Hy.out)
        go_upto_region 33 with fail
        go_quiet (fail)
        have HD : Hid (Drew ws (ws.drewN nq)) := hid ((Drew.refl ws).next nq)
        have t0 : (ws.drewN nq).cell? ⟨c, 0, none⟩ = some (.pointer (some ⟨l.f, 0, none⟩)) := s0
        have t4 : (ws.drewN nq).cell? ⟨c, 5, none⟩ = some (.slice (some ⟨gE, 0, none⟩) nE nE) := s4
        have td : (ws.drewN nq).cell? ⟨l.f, 1, none⟩ = some (.slice (some ⟨gy, 0, none⟩) nd qd) := sd
        have ty0 : (ws.drewN nq).cell? ⟨gy, d * 11, none⟩ = some (.int .u8 (so : Int)) := y0
        have tg : (ws.drewN nq).cell? ⟨gE, i, none⟩ = some (.int .i32 (-1)) := sg
        have tf : (ws.drewN nq).frozen? ⟨gE, i, none⟩ = false := sf
        have HDw := hid ((RwK.below HD0.out (HD.out.below _)).set hin (d : Int))
        have hft : Fr (fun r => r == 13) ρ1 ws ρ1 ((ws.drewN nq).setCell ⟨gE, i, none⟩ (.int .i32 (d : Int))) := (Fr.below (HD.out.below _)).trans (Fr.set _ (by show (ρ1 gE == 13) = true; rw [HD0.out.2]; rfl))
        have Hm2 := hid (Hm1.out.frame hft (fun r h1 h2 => by simp; omega))
        have Hfr2 := hid (Hfr1.out.trans ((Fr.below (HD.out.below _)).trans (Fr.refl XD ρ1 _)))
        have Hfr3 := hid (Hfr2.out.updL (Upd.setCell (Upd.refl gE (ws.drewN nq)) (p := ⟨gE, i, none⟩) rfl (.int .i32 (d : Int))) HgK.out)
        have HE2 : Hid ((fun ρ w => NmM F mB nd ρ w ∧ RwJ gT nT (upT (tDA F) nT) 12 ρ w) ρ1 ((ws.drewN nq).setCell ⟨gE, i, none⟩ (.int .i32 (d : Int)))) := hid (NmR.fr HE1.out hft)
        generalize ws.drewN nq = w2 at HD t0 t4 td ty0 tg tf HDw Hm2 Hfr2 Hfr3 HE2 hft ⊢
        clear hlk c0 c4 kf2 z0 zf n0 s0 s3 s4 sd sg sf y0 hft
        by_cases h0 : so = 0
        · as_aux_lemma =>
          have r0 : ((so : Int) == 0) = true := by simp; omega
          have r0' : ((so : Int) != 0) = false := by simp; omega
          have HFF : Hid (Ph (fun ρ w => (fun ρ w => NmM F mB nd ρ w ∧ RwJ gT nT (upT (tDA F) nT) 12 ρ w) ρ w ∧ RwJ gE nE (upT (eDA F) (i + 1)) 13 ρ w) N mg ρ w l bs F U c (V1 V mB gT nT gE nE) (((DclD F nd ∧ FldD F nd) ∧ TyR F nT) ∧ ExR F (i + 1)) ((5000065536) + (i + 1)) (w2.setCell ⟨gE, i, none⟩ (.int .i32 (d : Int)))) := hid (by
            have hd := HDof.out
            rw [if_pos h0] at hd
            refine ⟨ρ1, v1, es1, Hm2.out, Hfr3.out, Hp1.out.trans ?_, by have := Hb1.out; omega, HE2.out, ?_⟩
            · rw [ExR.succ Hx.out]
              exact ⟨fun h => ⟨h.1, h.2, fun _ => by rw [hd]; omega⟩, fun h => ⟨h.1, h.2.1⟩⟩
            · have hu := upT_succ (eDA F) i
              rw [eDA_get Hx.out, hd] at hu
              have := HDw.out
              rw [fup_fup, hu] at this
              exact this)
          clear h0 Hend Herr HDof HDw HE2
          go_wp2
          exact ⟨⟨i + 1, by go_num, by omega, HFF⟩, by simp [intOf]; omega⟩
        · as_aux_lemma =>
          have r0 : ((so : Int) == 0) = false := by simp; omega
          have r0' : ((so : Int) != 0) = true := by simp; omega
          have hd : eDof F x = -1 := by
            have := HDof.out
            rw [if_neg h0] at this
            exact this
          have Hd := hid hd
          clear hd
          clear h0 HDof HDw HE2 Hm2 Hfr2 Hfr3 tg tf
          go_upto_region 38 with fail
          obtain ⟨X0, W, hT, hI⟩ := class_mk (fun w' => Drew ws w')
          have H0 : Hid (∃ y, w2.drew = W y) := hid (hI _ (HD.out.next 1))
          have hne : Nonempty X0 := ⟨H0.out.choose⟩
          have HTT := hid hT
          have j1 : ∀ z, (W z).cell? ⟨gd, i * 6 + 1, none⟩ = some (.int .i64 (x.pos : Int)) := fun y => by obtain ⟨m, e⟩ := hT y; rw [e]; exact n2
          have j2 : ∀ z, (W z).cell? ⟨gd, i * 6 + 3, none⟩ = some (.string x.name) := fun y => by obtain ⟨m, e⟩ := hT y; rw [e]; exact n3
          have j3 : ∀ z, (W z).cell? ⟨l.f, 1, none⟩ = some (.slice (some ⟨gy, 0, none⟩) nd qd) := fun y => by
            have hm := Hm1.out.below ((hT y).below _)
            rw [← Hud.out]
            exact hm.fb.cell 1
          have j4 : ∀ z, (W z).cell? ⟨gy, d * 11, none⟩ = some (.int .u8 (so : Int)) := fun z => by
            have hm := Hm1.out.below ((hT z).below _)
            obtain ⟨gy2, e, _, hc⟩ := hm.decl Hud.out Hy.out
            cases e
            have := hc 0 (by decide)
            rw [← Hso.out]
            exact this
          clear hT hI n2 n3 t0 t4 td ty0
          have HQ := hid (fun wz => quoteX x.name (by omega) wz)
          have hq := qS_size x.name
          generalize qS x.name = qx at HQ hq
          have HQ2 := hid (fun wz => sortWordX so wz)
          have hq2 := swS_size so
          generalize swS so = qy at HQ2 hq2
          have z1 : (qx ++ ({ data := #[32, 105, 115, 32, 97, 32] } : ByteArray)).size = qx.size + 6 := by rw [ba_size]; rfl
          have z2 : (qx ++ ({ data := #[32, 105, 115, 32, 97, 32] } : ByteArray) ++ qy).size = qx.size + 6 + qy.size := by rw [ba_size, z1]
          have z3 : (qx ++ ({ data := #[32, 105, 115, 32, 97, 32] } : ByteArray) ++ qy ++ { data := #[44, 32, 110, 111, 116, 32, 97, 32, 99, 111, 110, 115, 116, 97, 110, 116] }).size = qx.size + 6 + qy.size + 16 := by rw [ba_size, z2]; rfl
          refine wp_region_class_tailT W 24 (by kernel_rfl) (by kernel_rfl) (by kernel_rfl) H0.out ?_
          dsimp only [List.take, List.drop]
          repeat (go_big_quiet_step ((first | (go_at_call 84; exact Calls.class_same (HQ.out _)) | (go_at_call 85; exact Calls.class_same (HQ2.out _)))))
          refine wpQuiet_nil ?_
          intro z
          have HB := hid ((HTT.out z).below ws.heap.size)
          generalize W z = wz at HB ⊢
          clear j1 j2 j3 j4 H0 HTT HQ HQ2
          have HA := hid (addDW (Hm1.out.below HB.out) 8 x.pos _ hpos.1 (show 0 < ByteArray.size _ by rw [z3]; omega) (by rw [z3]; omega) (by have := Hb1.out; omega))
          go_wp2_with fail
          refine HA.out.mono ?_
          rintro e w4 ⟨rfl, h4⟩
          have HFF := hid (Herr.out _ _ HB.out Hd.out Hf2.out h4.out)
          clear HA h4
          go_wp2
          exact ⟨⟨i + 1, by go_num, by omega, HFF⟩, by simp [intOf]; omega⟩

    have d1 : decide ((i : Int) < (nT : Int)) = true := decide_eq_true (by omega)
    have i1 : (i : Int) < (nT : Int) := by omega
    obtain ⟨x, hx⟩ : ∃ x, F.types[i]? = some x := ⟨_, List.getElem?_eq_getElem (by rw [HnT.out]; exact hin)⟩
    have Hx := hid hx
    obtain ⟨ρ1, v1, es1, hm1, hfr1, hp1, hb1, hs1⟩ := HI.out.m
    obtain ⟨gd, rfl, hgd, hcd⟩ := hm1.typ HuT.out hx
    have c0 := hm1.cells.1
    have c4 : wr.cell? ⟨c, 4, none⟩ = some (.slice (some ⟨gT, 0, none⟩) nT nT) := hm1.cb.cell 4
    have kf2 : wr.cell? ⟨l.f, 2, none⟩ = some (.slice (some ⟨gd, 0, none⟩) nT qT) := by rw [← HuT.out]; exact hm1.fb.cell 2
    have z0 : wr.cell? ⟨gT, i, none⟩ = some (.int .i32 (upT (tDA F) i i)) := hs1.2.get hin
    have zf : wr.frozen? ⟨gT, i, none⟩ = false := hs1.2.frozen i
    have HD0 := hid (hs1.2.set hin (-1))
    have hx2 : wr.heap.size = wr.heap.size := rfl
    have hfs : Fr (fun r => r == 12) ρ1 wr ρ1 (wr.setCell ⟨gT, i, none⟩ (.int .i32 (-1))) := Fr.set _ (by show (ρ1 gT == 12) = true; rw [hs1.2.2]; rfl)
    have Hm1 := hid (hm1.frame hfs (fun r h1 h2 => by simp; omega))
    have Hfr1 := hid (hfr1.updL (Upd.setCell (Upd.refl gT wr) (p := ⟨gT, i, none⟩) rfl (.int .i32 (-1))) HgK.out)
    have Hp1 := hid hp1
    have Hb1 := hid hb1
    have HE1 : Hid ((NmM F mB nd) ρ1 (wr.setCell ⟨gT, i, none⟩ (.int .i32 (-1)))) := hid (NmM.fr12 hs1.1 hfs)
    obtain ⟨ws, hws⟩ : ∃ x, wr.setCell ⟨gT, i, none⟩ (.int .i32 (-1)) = x := ⟨_, rfl⟩
    rw [hws] at HD0 Hm1 Hfr1 HE1
    have hcs : ∀ j, j < 8 → ws.cell? ⟨gd, i * 8 + j, none⟩ = (tnC x)[j]? := by
      obtain ⟨gd2, e, _, hc2⟩ := Hm1.out.typ HuT.out Hx.out
      cases e
      exact hc2
    have n0 : ws.cell? ⟨gd, i * 8, none⟩ = some (.int .u8 (x.form : Int)) := hcs 0 (by decide)
    have n2 : ws.cell? ⟨gd, i * 8 + 2, none⟩ = some (.int .i64 (x.pos : Int)) := hcs 2 (by decide)
    have n3 : ws.cell? ⟨gd, i * 8 + 3, none⟩ = some (.string x.name) := hcs 3 (by decide)
    have s0 := Hm1.out.cells.1
    have s3 : ws.cell? ⟨c, 3, none⟩ = some (.map (some mB)) := Hm1.out.cb.cell 3
    have s4 : ws.cell? ⟨c, 4, none⟩ = some (.slice (some ⟨gT, 0, none⟩) nT nT) := Hm1.out.cb.cell 4
    have sd : ws.cell? ⟨l.f, 1, none⟩ = some (.slice ad nd qd) := by rw [← Hud.out]; exact Hm1.out.fb.cell 1
    have sg : ws.cell? ⟨gT, i, none⟩ = some (.int .i32 (-1)) := by
      have := HD0.out.get hin
      rw [fup_self] at this
      exact this
    have sf : ws.frozen? ⟨gT, i, none⟩ = false := HD0.out.frozen i
    have hpos : x.pos ≤ l.n ∧ x.name.size ≤ l.n := HWT.out i x hx
    have hle := Hm1.out.r.src.le
    -- no error here: what is left of the round
    have Hend : Hid (tDof F x = -1 → (x.form = 2 → False) → Ph (fun ρ w => (NmM F mB nd) ρ w ∧ RwJ gT nT (upT (tDA F) (i + 1)) 12 ρ w) N mg ρ w l bs F U c (({ V with byN := .map (some mB), tD := .slice (some ⟨gT, 0, none⟩) nT nT } : CV)) ((DclD F nd ∧ FldD F nd) ∧ TyR F (i + 1)) (5000000000 + (i + 1)) ws) := hid (fun hd hf => by
      refine ⟨ρ1, v1, es1, Hm1.out, Hfr1.out, Hp1.out.trans ?_, by have := Hb1.out; omega, HE1.out, ?_⟩
      · rw [TyR.succ Hx.out]
        exact ⟨fun h => ⟨h.1, h.2, fun h2 => (hf h2).elim⟩, fun h => ⟨h.1, h.2.1⟩⟩
      · have := HD0.out
        rw [← hd, ← tDA_get Hx.out, upT_succ] at this
        exact this)
    have Herr : Hid (∀ w1 w2 : World, Below ws.heap.size ws w1 → tDof F x = -1 → x.form = 2 → CAd N mg ρ1 w1 l bs F U c { (({ V with byN := .map (some mB), tD := .slice (some ⟨gT, 0, none⟩) nT nT } : CV)) with list := v1 } (es1 ++ [(8, x.pos)]) w2 → Ph (fun ρ w => (NmM F mB nd) ρ w ∧ RwJ gT nT (upT (tDA F) (i + 1)) 12 ρ w) N mg ρ w l bs F U c (({ V with byN := .map (some mB), tD := .slice (some ⟨gT, 0, none⟩) nT nT } : CV)) ((DclD F nd ∧ FldD F nd) ∧ TyR F (i + 1)) (5000000000 + (i + 1)) w2) := hid (fun w1 w2 hb hd hf ha => by
      have hk : Keeps (fun ρ w => (NmM F mB nd) ρ w ∧ RwJ gT nT (upT (tDA F) (i + 1)) 12 ρ w) := Keeps.and NmM.keeps (RwK.keeps rfl)
      have hw : RwJ gT nT (upT (tDA F) (i + 1)) 12 ρ1 ws := by
        have := HD0.out
        rw [← hd, ← tDA_get Hx.out, upT_succ] at this
        exact this
      refine (Ph.add Hfr1.out hk ⟨HE1.out, hw⟩ (CAd.pre hb ha) Hb1.out).iff ?_ (by omega)
      rw [TyR.succ Hx.out]
      exact ⟨fun h => h.elim, fun h => (h.2.2 hf hd).elim⟩)
    clear hcd hm1 hfr1 hp1 hb1 hs1 hx HI hfs hx2 hcs
    obtain ⟨fo, hfo⟩ : ∃ k, x.form = k := ⟨_, rfl⟩
    rw [hfo] at n0
    have Hfo := hid hfo
    clear hfo
    by_cases h2 : fo = 2
    rotate_left
    · as_aux_lemma =>
      have q2 : ((fo : Int) != 2) = true := by simp; omega
      have hne : x.form ≠ 2 := by rw [Hfo.out]; exact h2
      have HFF := hid (Hend.out (tDof_not hne) (fun h => hne h))
      clear h2 hne
      go_wp2
      exact ⟨⟨i + 1, by go_num, by omega, HFF⟩, by simp [intOf]; omega⟩
    have q2 : ((fo : Int) != 2) = false := by simp; omega
    have Hf2 : Hid (x.form = 2) := hid (by rw [Hfo.out]; exact h2)
    clear h2
    have hlk := fun nq => (HE1.out.1.below ((Drew.refl ws).next nq |>.below _)).lookT (P := Tryz.prog) Tryz.underlying89 (keyStr Tryz.underlying9) x.name (z := .int .i32 0) (fun w => by kernel_rfl)
    cases hfi : fstI F nd x.name with
    | none =>
      have Hfi := hid hfi
      replace hlk : ∀ nq, (Instr.lookup 89 (.map (some mB)) (.string x.name) true).run Tryz.prog (ws.drewN nq) = .ok (.tuple #[.int .i32 0, .bool false]) (ws.drewN nq) := by
        intro nq
        rw [hlk, hfi]
        rfl
      clear hfi
      go_upto_region 19 with fail
      go_quiet (fail)
      have HD : Hid (Drew ws (ws.drewN nq)) := hid ((Drew.refl ws).next nq)
      generalize ws.drewN nq = w2 at HD ⊢
      clear hlk c0 c4 kf2 z0 zf n0 s0 s3 s4 sd sg sf
      obtain ⟨X0, W, hT, hI⟩ := class_mk (fun w' => Drew ws w')
      have H0 : Hid (∃ y, w2.drew = W y) := hid (hI _ (HD.out.next 1))
      have hne : Nonempty X0 := ⟨H0.out.choose⟩
      have HTT := hid hT
      have j1 : ∀ z, (W z).cell? ⟨gd, i * 8 + 2, none⟩ = some (.int .i64 (x.pos : Int)) := fun y => by obtain ⟨m, e⟩ := hT y; rw [e]; exact n2
      have j2 : ∀ z, (W z).cell? ⟨gd, i * 8 + 3, none⟩ = some (.string x.name) := fun y => by obtain ⟨m, e⟩ := hT y; rw [e]; exact n3
      clear hT hI n2 n3
      have HQ := hid (fun wz => quoteX x.name (by omega) wz)
      have hq := qS_size x.name
      generalize qS x.name = qx at HQ hq
      have z1 : (({ data := #[110, 111, 32, 116, 121, 112, 101, 32, 110, 97, 109, 101, 100, 32] } : ByteArray) ++ qx).size = 14 + qx.size := by rw [ba_size]; rfl
      go_upto_region 22 with fail
      refine wp_region_class_tailT W 13 (by kernel_rfl) (by kernel_rfl) (by kernel_rfl) H0.out ?_
      dsimp only [List.take, List.drop]
      repeat (go_big_quiet_step ((go_at_call 84; exact Calls.class_same (HQ.out _))))
      refine wpQuiet_nil ?_
      intro z
      have HB := hid ((HTT.out z).below ws.heap.size)
      generalize W z = wz at HB ⊢
      clear j1 j2 H0 HTT HQ
      have HA := hid (addDW (Hm1.out.below HB.out) 8 x.pos _ hpos.1 (show 0 < ByteArray.size _ by rw [z1]; omega) (by rw [z1]; omega) (by have := Hb1.out; omega))
      go_wp2_with fail
      refine HA.out.mono ?_
      rintro e w4 ⟨rfl, h4⟩
      have HFF := hid (Herr.out _ _ HB.out (tDof_none (by rw [Hnd.out]; exact Hfi.out)) Hf2.out h4.out)
      clear HA h4
      go_wp2
      exact ⟨⟨i + 1, by go_num, by omega, HFF⟩, by simp [intOf]; omega⟩
    | some d =>
      have Hfi := hid hfi
      replace hlk : ∀ nq, (Instr.lookup 89 (.map (some mB)) (.string x.name) true).run Tryz.prog (ws.drewN nq) = .ok (.tuple #[.int .i32 (d : Int), .bool true]) (ws.drewN nq) := by
        intro nq
        rw [hlk, hfi]
        rfl
      clear hfi
      obtain ⟨hdi, y, hy, hyn⟩ := fstI_some Hfi.out
      have Hy := hid hy
      obtain ⟨gy, egd, _, hcy⟩ := Hm1.out.decl Hud.out hy
      subst egd
      have y0 : ws.cell? ⟨gy, d * 11, none⟩ = some (.int .u8 (y.sort : Int)) := hcy 0 (by decide)
      have i2 : (d : Int) < (nd : Int) := by omega
      clear hcy hy hyn
      obtain ⟨so, hso⟩ : ∃ k, y.sort = k := ⟨_, rfl⟩
      rw [hso] at y0
      have Hso := hid hso
      clear hso
      have HDof : Hid (tDof F x = if so = 0 then -1 else (d : Int)) := hid (by rw [← Hso.out]; exact tDof_some Hf2.out (by rw [Hnd.out]; exact Hfi.out) Hy.out)
      go_upto_region 19 with fail
      go_quiet (fail)
      have HD : Hid (Drew ws (ws.drewN nq)) := hid ((Drew.refl ws).next nq)
      have t0 : (ws.drewN nq).cell? ⟨c, 0, none⟩ = some (.pointer (some ⟨l.f, 0, none⟩)) := s0
      have t4 : (ws.drewN nq).cell? ⟨c, 4, none⟩ = some (.slice (some ⟨gT, 0, none⟩) nT nT) := s4
      have td : (ws.drewN nq).cell? ⟨l.f, 1, none⟩ = some (.slice (some ⟨gy, 0, none⟩) nd qd) := sd
      have ty0 : (ws.drewN nq).cell? ⟨gy, d * 11, none⟩ = some (.int .u8 (so : Int)) := y0
      have tg : (ws.drewN nq).cell? ⟨gT, i, none⟩ = some (.int .i32 (-1)) := sg
      have tf : (ws.drewN nq).frozen? ⟨gT, i, none⟩ = false := sf
      have HDw := hid ((RwK.below HD0.out (HD.out.below _)).set hin (d : Int))
      have hft : Fr (fun r => r == 12) ρ1 ws ρ1 ((ws.drewN nq).setCell ⟨gT, i, none⟩ (.int .i32 (d : Int))) := (Fr.below (HD.out.below _)).trans (Fr.set _ (by show (ρ1 gT == 12) = true; rw [HD0.out.2]; rfl))
      have Hm2 := hid (Hm1.out.frame hft (fun r h1 h2 => by simp; omega))
      have Hfr2 := hid (Hfr1.out.trans ((Fr.below (HD.out.below _)).trans (Fr.refl XD ρ1 _)))
      have Hfr3 := hid (Hfr2.out.updL (Upd.setCell (Upd.refl gT (ws.drewN nq)) (p := ⟨gT, i, none⟩) rfl (.int .i32 (d : Int))) HgK.out)
      have HE2 : Hid ((NmM F mB nd) ρ1 ((ws.drewN nq).setCell ⟨gT, i, none⟩ (.int .i32 (d : Int)))) := hid (NmM.fr12 HE1.out hft)
      generalize ws.drewN nq = w2 at HD t0 t4 td ty0 tg tf HDw Hm2 Hfr2 Hfr3 HE2 hft ⊢
      clear hlk c0 c4 kf2 z0 zf n0 s0 s3 s4 sd sg sf y0 hft
      by_cases h0 : so = 0
      · as_aux_lemma =>
        have r0 : ((so : Int) == 0) = true := by simp; omega
        have r0' : ((so : Int) != 0) = false := by simp; omega
        have hd : tDof F x = -1 := by
          have := HDof.out
          rw [if_pos h0] at this
          exact this
        have Hd := hid hd
        clear hd
        clear h0 HDof HDw HE2 Hm2 Hfr2 Hfr3 tg tf
        go_upto_region 24 with fail
        obtain ⟨X0, W, hT, hI⟩ := class_mk (fun w' => Drew ws w')
        have H0 : Hid (∃ y, w2.drew = W y) := hid (hI _ (HD.out.next 1))
        have hne : Nonempty X0 := ⟨H0.out.choose⟩
        have HTT := hid hT
        have j1 : ∀ z, (W z).cell? ⟨gd, i * 8 + 2, none⟩ = some (.int .i64 (x.pos : Int)) := fun y => by obtain ⟨m, e⟩ := hT y; rw [e]; exact n2
        have j2 : ∀ z, (W z).cell? ⟨gd, i * 8 + 3, none⟩ = some (.string x.name) := fun y => by obtain ⟨m, e⟩ := hT y; rw [e]; exact n3
        clear hT hI n2 n3 t0 t4 td ty0
        have HQ := hid (fun wz => quoteX x.name (by omega) wz)
        have hq := qS_size x.name
        generalize qS x.name = qx at HQ hq
        have z1 : (qx ++ ({ data := #[32, 105, 115, 32, 97, 32, 99, 111, 110, 115, 116, 97, 110, 116, 44, 32, 110, 111, 116, 32, 97, 32, 116, 121, 112, 101] } : ByteArray)).size = qx.size + 26 := by rw [ba_size]; rfl
        refine wp_region_class_tailT W 13 (by kernel_rfl) (by kernel_rfl) (by kernel_rfl) H0.out ?_
        dsimp only [List.take, List.drop]
        repeat (go_big_quiet_step ((go_at_call 84; exact Calls.class_same (HQ.out _))))
        refine wpQuiet_nil ?_
        intro z
        have HB := hid ((HTT.out z).below ws.heap.size)
        generalize W z = wz at HB ⊢
        clear j1 j2 H0 HTT HQ
        have HA := hid (addDW (Hm1.out.below HB.out) 8 x.pos _ hpos.1 (show 0 < ByteArray.size _ by rw [z1]; omega) (by rw [z1]; omega) (by have := Hb1.out; omega))
        go_wp2_with fail
        refine HA.out.mono ?_
        rintro e w4 ⟨rfl, h4⟩
        have HFF := hid (Herr.out _ _ HB.out Hd.out Hf2.out h4.out)
        clear HA h4
        go_wp2
        exact ⟨⟨i + 1, by go_num, by omega, HFF⟩, by simp [intOf]; omega⟩
      · as_aux_lemma =>
        have r0 : ((so : Int) == 0) = false := by simp; omega
        have r0' : ((so : Int) != 0) = true := by simp; omega
        have HFF : Hid (Ph (fun ρ w => (NmM F mB nd) ρ w ∧ RwJ gT nT (upT (tDA F) (i + 1)) 12 ρ w) N mg ρ w l bs F U c (({ V with byN := .map (some mB), tD := .slice (some ⟨gT, 0, none⟩) nT nT } : CV)) ((DclD F nd ∧ FldD F nd) ∧ TyR F (i + 1)) (5000000000 + (i + 1)) (w2.setCell ⟨gT, i, none⟩ (.int .i32 (d : Int)))) := hid (by
          have hd := HDof.out
          rw [if_neg h0] at hd
          refine ⟨ρ1, v1, es1, Hm2.out, Hfr3.out, Hp1.out.trans ?_, by have := Hb1.out; omega, HE2.out, ?_⟩
          · rw [TyR.succ Hx.out]
            exact ⟨fun h => ⟨h.1, h.2, fun _ => by rw [hd]; omega⟩, fun h => ⟨h.1, h.2.1⟩⟩
          · have hu := upT_succ (tDA F) i
            rw [tDA_get Hx.out, hd] at hu
            have := HDw.out
            rw [fup_fup, hu] at this
            exact this)
        clear h0 Hend Herr HDof HDw HE2
        go_wp2
        exact ⟨⟨i + 1, by go_num, by omega, HFF⟩, by simp [intOf]; omega⟩
  have d1 : decide ((i : Int) < (nd : Int)) = true := decide_eq_true (by omega)
  have i1 : (i : Int) < (nd : Int) := by omega
  obtain ⟨x, hx⟩ : ∃ x, F.decls[i]? = some x := ⟨_, List.getElem?_eq_getElem (by rw [Hnd.out]; exact hin)⟩
  have Hx := hid hx
  obtain ⟨ρ1, v1, es1, hm1, hfr1, hp1, hb1, hs1⟩ := HI.out.m
  obtain ⟨gd, rfl, hgd, hcd⟩ := hm1.decl Hud.out hx
  have c0 := hm1.cells.1
  have c3 : wr.cell? ⟨c, 3, none⟩ = some (.map (some mB)) := hm1.cb.cell 3
  have kf1 : wr.cell? ⟨l.f, 1, none⟩ = some (.slice (some ⟨gd, 0, none⟩) nd qd) := by rw [← Hud.out]; exact hm1.fb.cell 1
  have e1 : wr.cell? ⟨gd, i * 11 + 1, none⟩ = some (.string x.name) := hcd 1 (by decide)
  have e2 : wr.cell? ⟨gd, i * 11 + 2, none⟩ = some (.int .i64 (x.pos : Int)) := hcd 2 (by decide)
  have hlk := fun nq => (hs1.1.below ((Drew.refl wr).next nq |>.below _)).lookT (P := Tryz.prog) Tryz.underlying89 (keyStr Tryz.underlying9) x.name (z := .int .i32 0) (fun w => by kernel_rfl)
  have Hm1 := hid hm1
  have Hfr1 := hid hfr1
  have Hp1 := hid hp1
  have Hb1 := hid hb1
  have Hs1 := hid hs1
  clear hm1 hfr1 hp1 hb1 hs1 hcd hx HI
  cases hfi : fstI F i x.name with
  | none =>
    have Hfi := hid hfi
    replace hlk : ∀ nq, (Instr.lookup 89 (.map (some mB)) (.string x.name) true).run Tryz.prog (wr.drewN nq) = .ok (.tuple #[.int .i32 0, .bool false]) (wr.drewN nq) := by
      intro nq
      rw [hlk, hfi]
      rfl
    clear hfi
    go_upto_region 6 with fail
    go_quiet (fail)
    have HD : Hid (Drew wr (wr.drewN nq)) := hid ((Drew.refl wr).next nq)
    have Hm2 := hid (Hm1.out.below (HD.out.below _))
    have Hs2 := hid (NmM.keeps _ _ _ _ Hs1.out (Fr.below (ρ := ρ1) (HD.out.below _)))
    have Hfr2 := hid (Hfr1.out.trans (Fr.below (HD.out.below _)))
    have c3' : (wr.drewN nq).cell? ⟨c, 3, none⟩ = some (.map (some mB)) := c3
    have e1' : (wr.drewN nq).cell? ⟨gd, i * 11 + 1, none⟩ = some (.string x.name) := e1
    generalize wr.drewN nq = w2 at HD Hm2 Hs2 Hfr2 c3' e1' ⊢
    clear hlk c0 c3 kf1 e1 e2
    obtain ⟨X0, W, hT, hI⟩ := class_mk (fun w' => Drew w2 w')
    have H0 : Hid (∃ y, w2.drew = W y) := hid (hI _ ⟨1, rfl⟩)
    have hne : Nonempty X0 := ⟨H0.out.choose⟩
    have HTT := hid hT
    have j1 : ∀ y, (W y).cell? ⟨c, 3, none⟩ = some (.map (some mB)) := fun y => by obtain ⟨m, e⟩ := hT y; rw [e]; exact c3'
    have j2 : ∀ y, (W y).cell? ⟨gd, i * 11 + 1, none⟩ = some (.string x.name) := fun y => by obtain ⟨m, e⟩ := hT y; rw [e]; exact e1'
    clear hT hI c3' e1'
    go_upto_region 9 with fail
    refine wp_region_class_tailT W 10 (by kernel_rfl) (by kernel_rfl) (by kernel_rfl) H0.out ?_
    dsimp only [List.take, List.drop]
    repeat (go_big_quiet_step (fail))
    refine wpQuiet_nil ?_
    intro z
    have HB := hid ((HTT.out z).below w2.heap.size)
    generalize W z = w3 at HB ⊢
    clear j1 j2 H0 HTT
    have Hm3 := hid (Hm2.out.below HB.out)
    have Hs3 := hid (NmM.keeps _ _ _ _ Hs2.out (Fr.below (ρ := ρ1) HB.out))
    have Hfr3 := hid (Hfr2.out.trans (Fr.below HB.out))
    obtain ⟨w5, hput, hg5, hu5⟩ := Hs3.out.1.put (P := Tryz.prog) Tryz.underlying89 (keyStr Tryz.underlying9) x.name (.int .i32 (i : Int))
    have Hg5 := hid (And.intro hg5 hu5)
    clear hg5 hu5
    have HF : Hid (Ph (NmM F mB (i + 1)) N mg ρ w l bs F U c { V with byN := .map (some mB) } (DclD F (i + 1)) (i + 1) w5) := hid (by
      have hf : Fr (fun r => r == 17) ρ1 w3 ρ1 w5 := Fr.upd Hg5.out.2 (by show (ρ1 mB == 17) = true; rw [Hs3.out.2]; rfl)
      refine ⟨ρ1, v1, es1, Hm3.out.frame hf (fun r h1 h2 => by simp; omega), Hfr3.out.updL Hg5.out.2 (by rw [HmB.out]; exact Nat.le_refl _), ?_, by have := Hb1.out; omega, ?_, Hs3.out.2⟩
      · refine Hp1.out.trans ?_
        rw [DclD.succ Hx.out]
        exact ⟨fun e => ⟨e, Hfi.out⟩, fun e => e.1⟩
      · have e : (fun s => (fstI F (i + 1) s).map (fun d => Value.int .i32 (d : Int))) = gup (fun s => (fstI F i s).map (fun d => Value.int .i32 (d : Int))) x.name (some (.int .i32 (i : Int))) := by
          funext s
          rw [fstI_succ Hx.out]
          unfold gup
          by_cases es : s = x.name
          · subst es
            rw [if_pos ⟨rfl, Hfi.out⟩, if_pos rfl]
            rfl
          · rw [if_neg (fun h => es h.1.symm), if_neg es]
        rw [e]
        exact Hg5.out.1)
    clear Hg5
    go_wp2
    exact ⟨⟨i + 1, by go_num, by omega, HF⟩, by simp [intOf]; omega⟩
  | some d =>
    have Hfi := hid hfi
    replace hlk : ∀ nq, (Instr.lookup 89 (.map (some mB)) (.string x.name) true).run Tryz.prog (wr.drewN nq) = .ok (.tuple #[.int .i32 (d : Int), .bool true]) (wr.drewN nq) := by
      intro nq
      rw [hlk, hfi]
      rfl
    clear hfi
    obtain ⟨hdi, y, hy, hyn⟩ := fstI_some Hfi.out
    obtain ⟨gd2, egd, _, hcy⟩ := Hm1.out.decl Hud.out hy
    cases egd
    have y0 : wr.cell? ⟨gd, d * 11, none⟩ = some (.int .u8 (y.sort : Int)) := hcy 0 (by decide)
    have i2 : (d : Int) < (nd : Int) := by omega
    clear hcy hy hyn
    go_upto_region 6 with fail
    go_quiet (fail)
    have HD : Hid (Drew wr (wr.drewN nq)) := hid ((Drew.refl wr).next nq)
    generalize wr.drewN nq = w2 at HD ⊢
    clear hlk c0 c3
    obtain ⟨X0, W, hT, hI⟩ := class_mk (fun w' => Drew wr w')
    have H0 : Hid (∃ y, w2.drew = W y) := hid (hI _ (HD.out.next 1))
    have hne : Nonempty X0 := ⟨H0.out.choose⟩
    have HTT := hid hT
    have j1 : ∀ z, (W z).cell? ⟨gd, i * 11 + 1, none⟩ = some (.string x.name) := fun y => by obtain ⟨m, e⟩ := hT y; rw [e]; exact e1
    have j2 : ∀ z, (W z).cell? ⟨gd, i * 11 + 2, none⟩ = some (.int .i64 (x.pos : Int)) := fun y => by obtain ⟨m, e⟩ := hT y; rw [e]; exact e2
    have j3 : ∀ z, (W z).cell? ⟨l.f, 1, none⟩ = some (.slice (some ⟨gd, 0, none⟩) nd qd) := fun y => by obtain ⟨m, e⟩ := hT y; rw [e]; exact kf1
    have j4 : ∀ z, (W z).cell? ⟨gd, d * 11, none⟩ = some (.int .u8 (y.sort : Int)) := fun y => by obtain ⟨m, e⟩ := hT y; rw [e]; exact y0
    clear hT hI e1 e2 kf1 y0
    have HQ := hid (fun wz => quoteX x.name (by have := (HW.out.d x (List.mem_of_getElem? Hx.out)).nm; have := Hm1.out.r.src.le; omega) wz)
    have HQ2 := hid (fun wz => sortWordX y.sort wz)
    have hxn : x.name.size ≤ l.n := (HW.out.d x (List.mem_of_getElem? Hx.out)).nm
    have hle := Hm1.out.r.src.le
    have hq := qS_size x.name
    have hq2 := swS_size y.sort
    generalize qS x.name = qx at HQ hq
    generalize swS y.sort = qy at HQ2 hq2
    have z1 : (qx ++ ({ data := #[32, 105, 115, 32, 97, 108, 114, 101, 97, 100, 121, 32, 100, 101, 99, 108, 97, 114, 101, 100, 32, 97, 115, 32, 97, 32] } : ByteArray)).size = qx.size + 26 := by rw [ba_size]; rfl
    have z2 : (qx ++ ({ data := #[32, 105, 115, 32, 97, 108, 114, 101, 97, 100, 121, 32, 100, 101, 99, 108, 97, 114, 101, 100, 32, 97, 115, 32, 97, 32] } : ByteArray) ++ qy).size = qx.size + 26 + qy.size := by rw [ba_size, z1]
    go_upto_region 8 with fail
    refine wp_region_class_tailT W 23 (by kernel_rfl) (by kernel_rfl) (by kernel_rfl) H0.out ?_
    dsimp only [List.take, List.drop]
    repeat (go_big_quiet_step ((first | (go_at_call 84; exact Calls.class_same (HQ.out _)) | (go_at_call 85; exact Calls.class_same (HQ2.out _)))))
    refine wpQuiet_nil ?_
    intro z
    have HB := hid ((HTT.out z).below wr.heap.size)
    generalize W z = wz at HB ⊢
    clear j1 j2 j3 j4 H0 HTT HQ HQ2
    have hxp : x.pos ≤ l.n := (HW.out.d x (List.mem_of_getElem? Hx.out)).pos
    have HA := hid (addDW (Hm1.out.below HB.out) 6 x.pos _ hxp (show 0 < ByteArray.size _ by rw [z2]; omega) (by rw [z2]; omega) (by have := Hb1.out; omega))
    go_wp2_with fail
    refine HA.out.mono ?_
    rintro e w4 ⟨rfl, h4⟩
    have HF : Hid (Ph (NmM F mB (i + 1)) N mg ρ w l bs F U c { V with byN := .map (some mB) } (DclD F (i + 1)) (i + 1) w4) := hid (by
      have hN : NmM F mB (i + 1) ρ1 wr := by
        refine ⟨?_, Hs1.out.2⟩
        have e : (fun s => (fstI F (i + 1) s).map (fun d => Value.int .i32 (d : Int))) = (fun s => (fstI F i s).map (fun d => Value.int .i32 (d : Int))) := by
          funext s
          rw [fstI_succ Hx.out, if_neg]
          rintro ⟨rfl, h⟩
          rw [Hfi.out] at h
          cases h
        rw [e]
        exact Hs1.out.1
      refine (Ph.add Hfr1.out NmM.keeps hN (CAd.pre HB.out h4.out) Hb1.out).iff ?_ (Nat.le_refl _)
      rw [DclD.succ Hx.out, Hfi.out]
      exact ⟨fun h => h.elim, fun h => by cases h.2⟩)
    clear HA h4
    go_wp2
    exact ⟨⟨i + 1, by go_num, by omega, HF⟩, by simp [intOf]; omega⟩
end
end Go.Proofs.Qxb6500883aGreatDoor
