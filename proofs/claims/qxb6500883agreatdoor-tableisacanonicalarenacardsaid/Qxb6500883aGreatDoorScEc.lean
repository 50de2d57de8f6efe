/- evalConstants. -/
import Derived.Test.Qxb6500883aGreatDoorScEb
namespace Go.Proofs.Qxb6500883aGreatDoor
open Go.RowKit
set_option linter.unusedSimpArgs false
set_option linter.unusedVariables false
/-- What the third phase leaves. -/
def E3 (F : FS) (mB gT gE : Nat) (vo : Value) (od : List Nat) (gV : Nat) (vf : Nat → Nat) (ρ : Rl) (w : World) : Prop := E2 F mB gT gE vo od ρ w ∧ RwU gV F.exprs.length vf 14 ρ w
theorem E3.keeps {F : FS} {mB gT gE : Nat} {vo : Value} {od : List Nat} {gV : Nat} {vf : Nat → Nat} : Keeps (E3 F mB gT gE vo od gV vf) := Keeps.and E2.keeps (RwK.keeps rfl)
theorem E1.fr {F : FS} {X : Nat → Bool} {mB gT gE : Nat} {ρ ρ' : Rl} {w w' : World} (h : E1 F mB gT gE ρ w) (hf : Fr X ρ w ρ' w') (h12 : X 12 = false) (h13 : X 13 = false) (h17 : X 17 = false) : E1 F mB gT gE ρ' w' := ⟨h.1.fr hf h17, h.2.1.fr hf h12, h.2.2.fr hf h13⟩
theorem E2.fr {F : FS} {X : Nat → Bool} {mB gT gE : Nat} {vo : Value} {od : List Nat} {ρ ρ' : Rl} {w w' : World} (h : E2 F mB gT gE vo od ρ w) (hf : Fr X ρ w ρ' w') (h12 : X 12 = false) (h13 : X 13 = false) (h17 : X 17 = false) (h18 : X 18 = false) : E2 F mB gT gE vo od ρ' w' := ⟨h.1.fr hf h12 h13 h17, RowX.fr h.2 hf h18⟩
/-- The number nodes of the declarations in D have their values. -/
def NumD (F : FS) (vf : Nat → Nat) (D : Nat → Prop) : Prop := ∀ d x, D d → F.decls[d]? = some x → ∀ j y, x.eLo ≤ j → j < x.eHi → F.exprs[j]? = some y → y.form = 0 → vf j = y.val
/-- The values under way. -/
structure EcS (N mg : Nat) (ρ : Rl) (w : World) (l : PL) (bs : List UInt8) (F : FS) (U : FV) (c : Nat) (V : CV) (gV gK : Nat) (D : Nat → Prop) (B : Nat) (w' : World) : Prop where
  m : ∃ (ρ' : Rl) (v' : Value) (es : List (Nat × Nat)) (vf : Nat → Nat) (kf : Nat → Bool), CM N mg ρ' w' l bs F U c { V with list := v' } es ∧ Fr XE ρ w ρ' w' ∧ RwU gV F.exprs.length vf 14 ρ' w' ∧ RwB gK F.exprs.length kf 15 ρ' w' ∧ (∀ j, vf j < 18446744073709551616) ∧ NumD F vf D ∧ (AllNum F → es = []) ∧ es.length ≤ B
section
variable {N mg : Nat} {ρ ρ' ρ1 ρ2 : Rl} {w w' w0 w1 w2 wr : World} {l : PL} {bs : List UInt8} {F : FS} {U : FV} {c n : Nat} {V V' : CV} {errs es es2 : List (Nat × Nat)} {v v1 v2 : Value} {gV gK lo k : Nat} {vf vf1 : Nat → Nat} {kf1 : Nat → Bool} {D D' : Nat → Prop} {B B' : Nat}
theorem EcS.mono (h : EcS N mg ρ w l bs F U c V gV gK D B w1) (hD : ∀ d, D' d → D d) (hB : B ≤ B') : EcS N mg ρ w l bs F U c V gV gK D' B' w1 := by
  obtain ⟨ρ', v', es, vf, kf, h1, h2, h3, h4, h5, h6, h7, h8⟩ := h.m
  exact ⟨ρ', v', es, vf, kf, h1, h2, h3, h4, h5, fun d x hd => h6 d x (hD d hd), h7, Nat.le_trans h8 hB⟩
/-- One declaration more. -/
theorem EcS.step {x0 : DN} {d0 : Nat} (hx0 : F.decls[d0]? = some x0) (hf : Fr XE ρ w ρ1 w1) (hn : NumD F vf1 D) (hA : AllNum F → es = []) (hB : es.length ≤ B) (h : EvS N mg ρ1 w1 l bs F U c { V with list := v1 } gV gK es vf1 x0.eLo x0.eHi w2) (hr : x0.eHi - x0.eLo ≤ 65536) : EcS N mg ρ w l bs F U c V gV gK (fun d => D d ∨ d = d0) (B + 65536) w2 := by
  obtain ⟨ρ', v', es', vf', kf', k1, k2, k3, k4, k5, k6, k7, k8, k9⟩ := h.m
  refine ⟨ρ', v', es', vf', kf', k1, hf.trans k2, k3, k4, k5, fun d x hd hx j y h1 h2 hy hy0 => ?_, fun ha => by rw [k8 ha]; exact hA ha, by omega⟩
  by_cases hin : x0.eLo ≤ j ∧ j < x0.eHi
  · exact k7 j y hin.1 hin.2 hy hy0
  · rw [k6 j (by omega)]
    rcases hd with hd | hd
    · exact hn d x hd hx j y h1 h2 hy hy0
    · subst hd
      rw [hx0] at hx
      cases hx
      exact absurd ⟨h1, h2⟩ hin
set_option maxRecDepth 100000 in
set_option maxHeartbeats 8000000 in
theorem evalConstantsW {mB gT gE : Nat} {vo : Value} {od : List Nat} (h : CM N mg ρ w l bs F U c V []) (hE2 : E2 F mB gT gE vo od ρ w) (h14 : ∀ g, ρ g ≠ 14 ∧ ρ g ≠ 15) (hW : FWf l.n F) (hz : FSz F) (hR : ExR F F.exprs.length) (hO : OdOk F od) (hve : V.eD = .slice (some ⟨gE, 0, none⟩) F.exprs.length F.exprs.length) (hvo : V.ord = vo) :
    Calls Tryz.prog 57 #[.pointer (some ⟨c, 0, none⟩)] w fun e w' => e = .returned (.tuple #[]) ∧ Hid (∃ gV gK vf P, (AllNum F → P) ∧ (∀ j, vf j < 18446744073709551616) ∧ (∀ j y, F.exprs[j]? = some y → y.form = 0 → vf j = y.val) ∧ Ph (E3 F mB gT gE vo od gV vf) N mg ρ w l bs F U c { V with eV := .slice (some ⟨gV, 0, none⟩) F.exprs.length F.exprs.length, eO := .slice (some ⟨gK, 0, none⟩) F.exprs.length F.exprs.length } P 100000000000 w') := by
  have HW := hid hW
  have Hz := hid hz
  have H14 := hid h14
  have HRx := hid hR
  have HO := hid hO
  have HE2 := hid hE2
  have hne := hz.e
  have hnd := hz.d
  obtain ⟨ad, qd, hud⟩ := h.fr.d.shape
  obtain ⟨aE, qE, huE⟩ := h.fr.e.shape
  obtain ⟨ao, qo, hao⟩ := RowX.shape hE2.2
  obtain ⟨nd, hnd'⟩ : ∃ k, F.decls.length = k := ⟨_, rfl⟩
  obtain ⟨nE, hnE'⟩ : ∃ k, F.exprs.length = k := ⟨_, rfl⟩
  obtain ⟨no, hno'⟩ : ∃ k, od.length = k := ⟨_, rfl⟩
  have hnob : no ≤ 65536 := by have := hO.len; omega
  rw [hnd'] at hud hnd
  rw [hnE'] at huE hne hve
  rw [hno'] at hao
  subst hao
  have Hnd := hid hnd'
  have HnE := hid hnE'
  have Hno := hid hno'
  have Hud := hid hud
  have HuE := hid huE
  have Hve := hid hve
  have Hvo := hid hvo
  have c0 := h.cells.1
  have kfE : w.cell? ⟨l.f, 3, none⟩ = some (.slice aE nE qE) := by rw [← huE]; exact h.fb.cell 3
  -- the two rows
  obtain ⟨gV, hgV⟩ : ∃ g, w.heap.size = g := ⟨_, rfl⟩
  have hmk : (Instr.makeSlice 119 (.int .i64 (nE : Int)) (.int .i64 (nE : Int))).run Tryz.prog w = .ok (.slice (some ⟨w.heap.size, 0, none⟩) nE nE) (w.alloc (.cells (madeCells #[.int .u64 0] nE) 48)) := run_make_row' (P := Tryz.prog) 119 48 (.int .u64 0) 8 (by kernel_rfl) (by kernel_rfl) rfl .i64 .i64 nE (by omega) (by omega) w
  obtain ⟨hr1, hrf1⟩ := h.role (o := .cells (madeCells #[.int .u64 0] nE) 48) 14
  rw [hgV] at hmk hr1 hrf1
  obtain ⟨wa, hwa⟩ : ∃ y, w.alloc (.cells (madeCells #[.int .u64 0] nE) 48) = y := ⟨_, rfl⟩
  rw [hwa] at hmk hr1 hrf1
  have hRV : RwU gV nE (fun _ => 0) 14 (fup ρ gV 14) wa := by
    rw [← hwa, ← hgV]
    exact RwK.new 48 (fun x : Nat => Value.int .u64 (x : Int)) ρ w nE 14 0
  have f7 : wa.frozen? ⟨c, 7, none⟩ = false := hr1.cb.frozen 7
  have g7 : wa.cell? ⟨c, 7, none⟩ = some V.eV := hr1.cb.cell 7
  obtain ⟨hm1, hf1⟩ := hr1.setEV (.slice (some ⟨gV, 0, none⟩) nE nE)
  have hRV1 := (RwK.keeps rfl) _ _ _ _ hRV hf1
  have hF1 := hrf1.trans hf1
  have HM1 := hid hm1
  have HRV1 := hid hRV1
  have HF1 := hid hF1
  have kfE1 : (wa.setCell ⟨c, 7, none⟩ (.slice (some ⟨gV, 0, none⟩) nE nE)).cell? ⟨l.f, 3, none⟩ = some (.slice aE nE qE) := by rw [← huE]; exact hm1.fb.cell 3
  clear h hE2 h14 hW hz hR hO hud huE hve hvo hnd' hnE' hno' hr1 hrf1 hRV hm1 hf1 hRV1 hF1
  go_enter Tryz.func57, Tryz.ntmps57
  go_upto_region 2 with fail
  generalize wa.setCell ⟨c, 7, none⟩ (.slice (some ⟨gV, 0, none⟩) nE nE) = wb at HM1 HRV1 HF1 kfE1 ⊢
  clear hmk f7 g7 c0 kfE hwa hgV
  obtain ⟨gK, hgK⟩ : ∃ g, wb.heap.size = g := ⟨_, rfl⟩
  have hmk : (Instr.makeSlice 55 (.int .i64 (nE : Int)) (.int .i64 (nE : Int))).run Tryz.prog wb = .ok (.slice (some ⟨wb.heap.size, 0, none⟩) nE nE) (wb.alloc (.cells (madeCells #[.bool false] nE) 4)) := run_make_row' (P := Tryz.prog) 55 4 (.bool false) 1 (by kernel_rfl) (by kernel_rfl) rfl .i64 .i64 nE (by omega) (by omega) wb
  obtain ⟨hr2, hrf2⟩ := HM1.out.role (o := .cells (madeCells #[.bool false] nE) 4) 15
  rw [hgK] at hmk hr2 hrf2
  obtain ⟨wc, hwc⟩ : ∃ y, wb.alloc (.cells (madeCells #[.bool false] nE) 4) = y := ⟨_, rfl⟩
  rw [hwc] at hmk hr2 hrf2
  have hRK : RwB gK nE (fun _ => false) 15 (fup (fup ρ gV 14) gK 15) wc := by
    rw [← hwc, ← hgK]
    exact RwK.new 4 (fun x : Bool => Value.bool x) (fup ρ gV 14) wb nE 15 false
  have f8 : wc.frozen? ⟨c, 8, none⟩ = false := hr2.cb.frozen 8
  have g8 : wc.cell? ⟨c, 8, none⟩ = some V.eO := hr2.cb.cell 8
  obtain ⟨hm2, hf2⟩ := hr2.setEO (.slice (some ⟨gK, 0, none⟩) nE nE)
  obtain ⟨V2, hV2⟩ : ∃ V2 : CV, { V with eV := .slice (some ⟨gV, 0, none⟩) nE nE, eO := .slice (some ⟨gK, 0, none⟩) nE nE } = V2 := ⟨_, rfl⟩
  have HI0 : Hid (EcS N mg ρ w l bs F U c V2 gV gK (fun _ => False) 0 (wc.setCell ⟨c, 8, none⟩ (.slice (some ⟨gK, 0, none⟩) nE nE))) := hid (by
    rw [← hV2]
    refine ⟨_, V.list, [], fun _ => 0, fun _ => false, hm2, (HF1.out.trans (hrf2.trans hf2)).mono (fun r hr => by unfold XE; rw [hr]; rfl), ?_, ?_, fun _ => (by decide : (0 : Nat) < 18446744073709551616), fun d x hd => hd.elim, fun _ => rfl, Nat.le_refl _⟩
    · rw [HnE.out]; exact (RwK.keeps rfl) _ _ _ _ HRV1.out (hrf2.trans hf2)
    · rw [HnE.out]; exact (RwK.keeps rfl) _ _ _ _ hRK hf2)
  have HV2 := hid hV2
  have c6 : (wc.setCell ⟨c, 8, none⟩ (.slice (some ⟨gK, 0, none⟩) nE nE)).cell? ⟨c, 6, none⟩ = some (.slice ao no qo) := by rw [← Hvo.out]; exact hm2.cb.cell 6
  clear hr2 hrf2 hRK hm2 hf2 hV2
  go_upto_region 3 with fail
  generalize wc.setCell ⟨c, 8, none⟩ (.slice (some ⟨gK, 0, none⟩) nE nE) = wd at HI0 c6 ⊢
  clear hmk f8 g8 kfE1 hwc hgK HM1 HRV1 HF1
  have HE2r : Hid (∀ ρ' w', Fr XE ρ w ρ' w' → E2 F mB gT gE (.slice ao no qo) od ρ' w') := hid (fun ρ' w' hf => HE2.out.fr hf rfl rfl rfl rfl)
  have HVs : Hid (V2.eD = .slice (some ⟨gE, 0, none⟩) F.exprs.length F.exprs.length ∧ V2.eV = .slice (some ⟨gV, 0, none⟩) F.exprs.length F.exprs.length ∧ V2.eO = .slice (some ⟨gK, 0, none⟩) F.exprs.length F.exprs.length) := hid (by rw [← HV2.out, HnE.out]; exact ⟨Hve.out, rfl, rfl⟩)
  go_upto_region 4 with fail
  clear c6
  go_loopw [35] (fun t wr => ∃ i : Nat, t = .int .i64 (i : Int) ∧ i ≤ no ∧ Hid (EcS N mg ρ w l bs F U c V2 gV gK (fun d => (∃ p : Nat, p < i ∧ od[p]? = some d) ∧ ∃ x, F.decls[d]? = some x ∧ x.sort = 0) (i * 65536) wr)) (fun t _ => no - (intOf t).toNat)
  case atStart => exact ⟨0, rfl, Nat.zero_le _, hid (HI0.out.mono (fun d hd => by obtain ⟨⟨p, hp, _⟩, _⟩ := hd; exact absurd hp (Nat.not_lt_zero _)) (Nat.zero_le _))⟩
  case round =>
  clear HI0
  obtain ⟨i, rfl, hi, HI⟩ := hrel
  by_cases hin : i < no
  rotate_left
  · have d1 : decide ((i : Int) < (no : Int)) = false := decide_eq_false (by omega)
    have HJ0 : Hid (EcS N mg ρ w l bs F U c V2 gV gK (fun d => ∃ x, F.decls[d]? = some x ∧ (x.sort = 0 ∨ d < 0)) (65536 * 65536 + 0 * 65536) wr) := hid (HI.out.mono (fun d hd => by
      obtain ⟨x, hx, hs⟩ := hd
      have hs0 : x.sort = 0 := hs.elim (fun h => h) (fun h => absurd h (Nat.not_lt_zero _))
      refine ⟨?_, x, hx, hs0⟩
      have hm := HO.out.all d (List.getElem?_eq_some_iff.1 hx).1
      obtain ⟨p, hp⟩ := List.mem_iff_getElem?.1 hm
      have := (List.getElem?_eq_some_iff.1 hp).1
      exact ⟨p, by have := Hno.out; omega, hp⟩) (by omega))
    have kfD : wr.cell? ⟨l.f, 1, none⟩ = some (.slice ad nd qd) := by
      obtain ⟨ρ1, v1, es1, vf1, kf1, hm1, _⟩ := HI.out.m
      rw [← Hud.out]
      exact hm1.fb.cell 1
    clear HI
    go_upto_region 11 with fail
    clear kfD
    go_loopw [66] (fun t wr => ∃ i : Nat, t = .int .i64 (i : Int) ∧ i ≤ nd ∧ Hid (EcS N mg ρ w l bs F U c V2 gV gK (fun d => ∃ x, F.decls[d]? = some x ∧ (x.sort = 0 ∨ d < i)) (65536 * 65536 + i * 65536) wr)) (fun t _ => nd - (intOf t).toNat)
    case atStart => exact ⟨0, rfl, Nat.zero_le _, HJ0⟩
    case round =>
    clear HJ0
    obtain ⟨k, rfl, hk, HK⟩ := hrel
    by_cases hkn : k < nd
    rotate_left
    · have d2 : decide ((k : Int) < (nd : Int)) = false := decide_eq_false (by omega)
      have HQ : Hid (∃ gV gK vf P, (AllNum F → P) ∧ (∀ j, vf j < 18446744073709551616) ∧ (∀ j y, F.exprs[j]? = some y → y.form = 0 → vf j = y.val) ∧ Ph (E3 F mB gT gE (.slice ao no qo) od gV vf) N mg ρ w l bs F U c { V with eV := .slice (some ⟨gV, 0, none⟩) F.exprs.length F.exprs.length, eO := .slice (some ⟨gK, 0, none⟩) F.exprs.length F.exprs.length } P 100000000000 wr) := hid (by
        obtain ⟨ρ1, v1, es1, vf1, kf1, q1, q2, q3, q4, q5, q6, q7, q8⟩ := HK.out.m
        refine ⟨gV, gK, vf1, es1 = [], q7, q5, fun j y hy hy0 => ?_, ?_⟩
        · obtain ⟨x, hx, h1, h2⟩ := HW.out.ec j (List.getElem?_eq_some_iff.1 hy).1
          obtain ⟨d, hd⟩ := List.mem_iff_getElem?.1 hx
          exact q6 d x ⟨x, hd, .inr (by have := (List.getElem?_eq_some_iff.1 hd).1; have := Hnd.out; omega)⟩ hd j y h1 h2 hy hy0
        · rw [HnE.out, HV2.out]
          have hfx : Fr XD ρ w ρ1 wr := q2.mono' (fun g hg hx => by
            obtain ⟨a1, a2⟩ := H14.out g
            unfold XE at hx
            simp only [Bool.or_eq_true, beq_iff_eq] at hx
            rcases hx with h | h | h
            · exact h
            · exact absurd h a1
            · exact absurd h a2)
          exact ⟨ρ1, v1, es1, q1, hfx, Iff.rfl, by omega, HE2r.out _ _ q2, q3⟩)
      clear HK
      go_wp2
      exact bodyPost_end (v := .tuple #[]) (by simp [results, Tryz.results57, go_sem]) rfl ⟨rfl, HQ⟩
    have d2 : decide ((k : Int) < (nd : Int)) = true := decide_eq_true (by omega)
    have i2 : (k : Int) < (nd : Int) := by omega
    obtain ⟨x, hx⟩ : ∃ x, F.decls[k]? = some x := ⟨_, List.getElem?_eq_getElem (by rw [Hnd.out]; exact hkn)⟩
    obtain ⟨ρ1, v1, es1, vf1, kf1, hm1, hfr1, hV1, hK1, hb1, hN1, hA1, hl1⟩ := HK.out.m
    obtain ⟨gd, rfl, hgd, hcd⟩ := hm1.decl Hud.out hx
    have kfD : wr.cell? ⟨l.f, 1, none⟩ = some (.slice (some ⟨gd, 0, none⟩) nd qd) := by rw [← Hud.out]; exact hm1.fb.cell 1
    obtain ⟨st, hst⟩ : ∃ s, x.sort = s := ⟨_, rfl⟩
    have y0 : wr.cell? ⟨gd, k * 11, none⟩ = some (.int .u8 (st : Int)) := by rw [← hst]; exact hcd 0 (by decide)
    have y9 : wr.cell? ⟨gd, k * 11 + 9, none⟩ = some (.int .i32 (x.eLo : Int)) := hcd 9 (by decide)
    have y10 : wr.cell? ⟨gd, k * 11 + 10, none⟩ = some (.int .i32 (x.eHi : Int)) := hcd 10 (by decide)
    have Hx := hid hx
    have Hst := hid hst
    have hxe := (HW.out.d x (List.mem_of_getElem? hx)).e
    have HEr := hid (fun (wz : World) (hb : Below wr.heap.size wr wz) => evalRangeW (hm1.below hb) HW.out Hz.out HRx.out (List.mem_of_getElem? hx) HVs.out.1 HVs.out.2.1 HVs.out.2.2 ((HE2r.out ρ1 wr hfr1).1.2.2.below hb) (hV1.below hb) (hK1.below hb) hb1 (by omega))
    have HS := hid (fun (wz w4 : World) (hb : Below wr.heap.size wr wz) (h4 : EvS N mg ρ1 wz l bs F U c { V2 with list := v1 } gV gK es1 vf1 x.eLo x.eHi w4) => EcS.step hx (hfr1.trans (Fr.below hb)) hN1 hA1 hl1 h4 (by have := hxe.2; rw [HnE.out] at this; omega))
    clear hm1 hfr1 hV1 hK1 hb1 hN1 hA1 hl1 hcd hx hst
    by_cases hs0 : st = 0
    · as_aux_lemma =>
      have d3 : ((st : Int) != 0) = false := by simp; omega
      have HE : Hid (EcS N mg ρ w l bs F U c V2 gV gK (fun d => ∃ x, F.decls[d]? = some x ∧ (x.sort = 0 ∨ d < k + 1)) (65536 * 65536 + (k + 1) * 65536) wr) := hid (HK.out.mono (fun d hd => by
        obtain ⟨y, hy, hh⟩ := hd
        refine ⟨y, hy, hh.elim .inl (fun hlt => ?_)⟩
        by_cases e : d = k
        · subst e
          have := Hx.out
          rw [hy] at this
          cases this
          exact .inl (by rw [Hst.out]; exact hs0)
        · exact .inr (by omega)) (by omega))
      clear hs0 HK
      go_wp2
      exact ⟨⟨k + 1, by go_num, by omega, HE⟩, by simp [intOf]; omega⟩
    · as_aux_lemma =>
      have d3 : ((st : Int) != 0) = true := by simp; omega
      clear hs0
      go_upto_region 15 with fail
      obtain ⟨X0, W, hT, hI⟩ := class_mk (fun w' => Drew wr w')
      have H0 : Hid (∃ y, wr.drew = W y) := hid (hI _ ⟨1, rfl⟩)
      have hne : Nonempty X0 := ⟨H0.out.choose⟩
      have HTT := hid hT
      have a9 : ∀ z, (W z).cell? ⟨gd, k * 11 + 9, none⟩ = some (.int .i32 (x.eLo : Int)) := fun y => by obtain ⟨m, e⟩ := hT y; rw [e]; exact y9
      have a10 : ∀ z, (W z).cell? ⟨gd, k * 11 + 10, none⟩ = some (.int .i32 (x.eHi : Int)) := fun y => by obtain ⟨m, e⟩ := hT y; rw [e]; exact y10
      clear hT hI
      refine wp_region_class_tailT W 9 (by kernel_rfl) (by kernel_rfl) (by kernel_rfl) H0.out ?_
      dsimp only [List.take, List.drop]
      repeat (go_big_quiet_step (fail))
      refine wpQuiet_nil ?_
      intro z
      have HD := hid (HTT.out z)
      have HB := hid ((HTT.out z).below wr.heap.size)
      have a9z := a9 z
      have a10z := a10 z
      generalize W z = wz at HD HB a9z a10z ⊢
      clear H0 HTT a9 a10
      have HC := hid (HEr.out wz HB.out)
      clear y0 y9 y10 kfD a9z a10z
      go_wp2_with fail
      refine HC.out.mono ?_
      rintro e w4 ⟨rfl, h4⟩
      have HE : Hid (EcS N mg ρ w l bs F U c V2 gV gK (fun d => ∃ x, F.decls[d]? = some x ∧ (x.sort = 0 ∨ d < k + 1)) (65536 * 65536 + (k + 1) * 65536) w4) := hid ((HS.out wz w4 HB.out h4.out).mono (fun d hd => by
        obtain ⟨y, hy, hh⟩ := hd
        by_cases e : d = k
        · exact .inr e
        · exact .inl ⟨y, hy, hh.elim .inl (fun hlt => .inr (by omega))⟩) (by omega))
      clear HC h4
      go_wp2
      exact ⟨⟨k + 1, by go_num, by omega, HE⟩, by simp [intOf]; omega⟩
  have d1 : decide ((i : Int) < (no : Int)) = true := decide_eq_true (by omega)
  have i1 : (i : Int) < (no : Int) := by omega
  obtain ⟨k, hk⟩ : ∃ k, od[i]? = some k := ⟨_, List.getElem?_eq_getElem (by rw [Hno.out]; exact hin)⟩
  have hkn : k < nd := by rw [← Hnd.out]; exact HO.out.rng k (List.mem_of_getElem? hk)
  obtain ⟨x, hx⟩ : ∃ x, F.decls[k]? = some x := ⟨_, List.getElem?_eq_getElem (by rw [Hnd.out]; exact hkn)⟩
  obtain ⟨ρ1, v1, es1, vf1, kf1, hm1, hfr1, hV1, hK1, hb1, hN1, hA1, hl1⟩ := HI.out.m
  have hrow := (HE2r.out ρ1 wr hfr1).2
  obtain ⟨go, qo2, hvo2, _, hco⟩ := RowX.get hrow (by decide) (fun _ => rfl) hk
  injection hvo2 with q1 q2 q3
  clear q2 q3
  subst q1
  have co : wr.cell? ⟨go, i, none⟩ = some (.int .i32 (k : Int)) := by have := hco 0 (by decide); simpa [rtJ] using this
  obtain ⟨gd, rfl, hgd, hcd⟩ := hm1.decl Hud.out hx
  have kfD : wr.cell? ⟨l.f, 1, none⟩ = some (.slice (some ⟨gd, 0, none⟩) nd qd) := by rw [← Hud.out]; exact hm1.fb.cell 1
  obtain ⟨st, hst⟩ : ∃ s, x.sort = s := ⟨_, rfl⟩
  have y0 : wr.cell? ⟨gd, k * 11, none⟩ = some (.int .u8 (st : Int)) := by rw [← hst]; exact hcd 0 (by decide)
  have y9 : wr.cell? ⟨gd, k * 11 + 9, none⟩ = some (.int .i32 (x.eLo : Int)) := hcd 9 (by decide)
  have y10 : wr.cell? ⟨gd, k * 11 + 10, none⟩ = some (.int .i32 (x.eHi : Int)) := hcd 10 (by decide)
  have Hx := hid hx
  have Hk := hid hk
  have Hst := hid hst
  have hxe := (HW.out.d x (List.mem_of_getElem? hx)).e
  have HEr := hid (fun (wz : World) (hb : Below wr.heap.size wr wz) => evalRangeW (hm1.below hb) HW.out Hz.out HRx.out (List.mem_of_getElem? hx) HVs.out.1 HVs.out.2.1 HVs.out.2.2 ((HE2r.out ρ1 wr hfr1).1.2.2.below hb) (hV1.below hb) (hK1.below hb) hb1 (by omega))
  have HS := hid (fun (wz w4 : World) (hb : Below wr.heap.size wr wz) (h4 : EvS N mg ρ1 wz l bs F U c { V2 with list := v1 } gV gK es1 vf1 x.eLo x.eHi w4) => EcS.step hx (hfr1.trans (Fr.below hb)) hN1 hA1 hl1 h4 (by have := hxe.2; rw [HnE.out] at this; omega))
  have i2 : (k : Int) < (nd : Int) := by omega
  clear hm1 hfr1 hV1 hK1 hb1 hN1 hA1 hl1 hcd hx hst hrow hco hk
  by_cases hs0 : st = 0
  rotate_left
  · as_aux_lemma =>
    have d3 : ((st : Int) == 0) = false := by simp; omega
    have HE : Hid (EcS N mg ρ w l bs F U c V2 gV gK (fun d => (∃ p : Nat, p < i + 1 ∧ od[p]? = some d) ∧ ∃ x, F.decls[d]? = some x ∧ x.sort = 0) ((i + 1) * 65536) wr) := hid (HI.out.mono (fun d hd => by
      obtain ⟨⟨p, hp, hpd⟩, y, hy, hys⟩ := hd
      refine ⟨⟨p, ?_, hpd⟩, y, hy, hys⟩
      by_cases e : p = i
      · exfalso
        subst e
        have h1 := Hk.out
        rw [hpd] at h1
        cases h1
        have h2 := Hx.out
        rw [hy] at h2
        cases h2
        exact hs0 (by rw [← Hst.out]; exact hys)
      · omega) (by omega))
    clear hs0 HI
    go_wp2
    exact ⟨⟨i + 1, by go_num, by omega, HE⟩, by simp [intOf]; omega⟩
  · as_aux_lemma =>
    have d3 : ((st : Int) == 0) = true := by simp; omega
    clear hs0
    go_upto_region 8 with fail
    obtain ⟨X0, W, hT, hI⟩ := class_mk (fun w' => Drew wr w')
    have H0 : Hid (∃ y, wr.drew = W y) := hid (hI _ ⟨1, rfl⟩)
    have hne : Nonempty X0 := ⟨H0.out.choose⟩
    have HTT := hid hT
    have a9 : ∀ z, (W z).cell? ⟨gd, k * 11 + 9, none⟩ = some (.int .i32 (x.eLo : Int)) := fun y => by obtain ⟨m, e⟩ := hT y; rw [e]; exact y9
    have a10 : ∀ z, (W z).cell? ⟨gd, k * 11 + 10, none⟩ = some (.int .i32 (x.eHi : Int)) := fun y => by obtain ⟨m, e⟩ := hT y; rw [e]; exact y10
    clear hT hI
    refine wp_region_class_tailT W 9 (by kernel_rfl) (by kernel_rfl) (by kernel_rfl) H0.out ?_
    dsimp only [List.take, List.drop]
    repeat (go_big_quiet_step (fail))
    refine wpQuiet_nil ?_
    intro z
    have HD := hid (HTT.out z)
    have HB := hid ((HTT.out z).below wr.heap.size)
    have a9z := a9 z
    have a10z := a10 z
    generalize W z = wz at HD HB a9z a10z ⊢
    clear H0 HTT a9 a10
    have HC := hid (HEr.out wz HB.out)
    clear y0 y9 y10 kfD a9z a10z co
    go_wp2_with fail
    refine HC.out.mono ?_
    rintro e w4 ⟨rfl, h4⟩
    have HE : Hid (EcS N mg ρ w l bs F U c V2 gV gK (fun d => (∃ p : Nat, p < i + 1 ∧ od[p]? = some d) ∧ ∃ x, F.decls[d]? = some x ∧ x.sort = 0) ((i + 1) * 65536) w4) := hid ((HS.out wz w4 HB.out h4.out).mono (fun d hd => by
      obtain ⟨⟨p, hp, hpd⟩, hh⟩ := hd
      by_cases e : p = i
      · subst e
        have h1 := Hk.out
        rw [hpd] at h1
        cases h1
        exact .inr rfl
      · exact .inl ⟨⟨p, by omega, hpd⟩, hh⟩) (by omega))
    clear HC h4
    go_wp2
    exact ⟨⟨i + 1, by go_num, by omega, HE⟩, by simp [intOf]; omega⟩
end
end Go.Proofs.Qxb6500883aGreatDoor
