/- findCycles. -/
import Derived.Test.Qxb6500883aGreatDoorScDk
namespace Go.Proofs.Qxb6500883aGreatDoor
open Go.RowKit
set_option linter.unusedSimpArgs false
set_option linter.unusedVariables false
/-- The finder beside the checker, in blocks made since w0. -/
def FX (w0 : World) (L : FL) (A : Gr) (va : Value) (T : TJ) (vs vz vo : Value) (ρ : Rl) (w : World) : Prop := ∃ σ, FM σ w L A va T (onS T) vs vz vo ∧ ∀ g, σ g ≠ 0 → w0.heap.size ≤ g ∧ g < w.heap.size ∧ ρ g = 0
/-- The declarations in order. -/
def OrM (vo : Value) (od : List Nat) (ρ : Rl) (w : World) : Prop := RowX rtJ w ρ 18 vo od
theorem OrM.keeps {vo : Value} {od : List Nat} : Keeps (OrM vo od) := fun ρ w ρ' w' h hf => RowX.fr h hf rfl
/-- What the second phase leaves. -/
def E2 (F : FS) (mB gT gE : Nat) (vo : Value) (od : List Nat) (ρ : Rl) (w : World) : Prop := E1 F mB gT gE ρ w ∧ OrM vo od ρ w
theorem E2.keeps {F : FS} {mB gT gE : Nat} {vo : Value} {od : List Nat} : Keeps (E2 F mB gT gE vo od) := Keeps.and E1.keeps OrM.keeps
/-- An order of all declarations. -/
structure OdOk (F : FS) (od : List Nat) : Prop where
  all : ∀ d, d < F.decls.length → d ∈ od
  rng : ∀ d ∈ od, d < F.decls.length
  len : od.length ≤ F.decls.length
section
variable {N mg : Nat} {ρ ρ' σ : Rl} {w w' w0 w1 w2 : World} {l : PL} {bs : List UInt8} {F : FS} {U : FV} {c n : Nat} {V V' : CV} {errs : List (Nat × Nat)} {v : Value} {P Q : Prop} {B B' : Nat}
theorem FX.keeps {L : FL} {A : Gr} {va : Value} {T : TJ} {vs vz vo : Value} : Keeps (FX w0 L A va T vs vz vo) := fun ρ w ρ' w' h hf => by
  obtain ⟨σ, h1, h2⟩ := h
  refine ⟨σ, h1.fr (X := fun r => r == 0) (σ' := σ) ⟨hf.os, hf.tape, hf.output, hf.size, fun _ _ => rfl, fun _ _ => rfl, fun g hg hx => ?_⟩ (fun r hr _ => by simp; omega), fun g hg => ?_⟩
  · have hne : σ g ≠ 0 := fun e => by simp [e] at hx
    exact hf.blk g hg (by rw [(h2 g hne).2.2]; rfl)
  · obtain ⟨a1, a2, a3⟩ := h2 g hg
    exact ⟨a1, Nat.lt_of_lt_of_le a2 hf.size, by rw [hf.old g a2]; exact a3⟩
/-- A block of no role gets one. -/
theorem CM.give (h : CM N mg ρ w l bs F U c V errs) {b r : Nat} (hb : ρ b = 0) (hN : N ≤ b) (hs : ∀ ad, l.a = some ad → ad.block ≠ b) (hlt : b < w.heap.size) : CM N mg (fup ρ b r) w l bs F U c V errs := by
  have hk : ∀ g k, k ≠ 0 → ρ g = k → fup ρ b r g = k := fun g k hk hg => by rw [fup_ne _ _ (fun e => by rw [e, hb] at hg; exact hk hg.symm)]; exact hg
  refine ⟨⟨h.r.src, h.r.gl, ?_, hk _ _ (by decide) h.r.rp, hk _ _ (by decide) h.r.rf, fun ad ha => by rw [fup_ne _ _ (hs ad ha)]; exact h.r.rs ad ha, fun g hg => by rw [fup_ne _ _ (by omega)]; exact h.r.rN g hg, fun g hg => ?_⟩, h.fb, ⟨h.fr.d.rho (fun g => hk g _ (by decide)), h.fr.t.rho (fun g => hk g _ (by decide)), h.fr.e.rho (fun g => hk g _ (by decide)), h.fr.f.rho (fun g => hk g _ (by decide)), h.fr.o.rho (fun g => hk g _ (by decide))⟩, h.cb, hk _ _ (by decide) h.rc, ⟨?_, h.dg.pos⟩⟩
  · obtain ⟨V, h1, h2⟩ := h.r.rows
    exact ⟨V, h1, ⟨h2.d.rho (fun g => hk g _ (by decide)), h2.t.rho (fun g => hk g _ (by decide)), h2.e.rho (fun g => hk g _ (by decide)), h2.f.rho (fun g => hk g _ (by decide)), h2.o.rho (fun g => hk g _ (by decide))⟩⟩
  · by_cases e : g = b
    · subst e; exact hlt
    · rw [fup_ne _ _ e] at hg; exact h.r.dom g hg
  · obtain ⟨qs, h1, h2, h3, h4⟩ := h.dg.row
    refine ⟨qs, h1.rho (fun g => hk g _ (by decide)), h2, h3, fun i q hq => ?_⟩
    obtain ⟨k, m, e1, e2, e3, e4, e5⟩ := h4 i q hq
    exact ⟨k, m, e1, e2, e3, e4, hk _ _ (by decide) e5⟩
set_option maxRecDepth 100000 in
set_option maxHeartbeats 8000000 in
theorem findCyclesW {mB gT gE : Nat} (h : CM N mg ρ w l bs F U c V []) (hE1 : E1 F mB gT gE ρ w) (hW : FWf l.n F) (hz : FSz F) (hg : RgF F) (hNB : ∀ x ∈ F.decls, x.name.size ≤ 450000000) (hvt : V.tD = .slice (some ⟨gT, 0, none⟩) F.types.length F.types.length) (hve : V.eD = .slice (some ⟨gE, 0, none⟩) F.exprs.length F.exprs.length) :
    Calls Tryz.prog 56 #[.pointer (some ⟨c, 0, none⟩)] w fun e w' => e = .returned (.tuple #[]) ∧ Hid (∃ vo od, OdOk F od ∧ Ph (E2 F mB gT gE vo od) N mg ρ w l bs F U c { V with ord := vo } (Acy (grF F)) 100000 w') := by
  have HW := hid hW
  have Hz := hid hz
  have HNB := hid hNB
  have hnd := hz.d
  obtain ⟨ad, qd, hud⟩ := h.fr.d.shape
  obtain ⟨nd, hnd'⟩ : ∃ k, F.decls.length = k := ⟨_, rfl⟩
  have Hnd := hid hnd'
  have hAl : (grF F).length = nd := by unfold grF; rw [List.length_map]; exact hnd'
  have HAl := hid hAl
  have hfl : (grF F).flatten.length ≤ 200000 := by
    have := hg.adj (grF F).length
    rw [List.take_length] at this
    have := hz.t
    have := hz.e
    omega
  have Hfl := hid hfl
  have HBG := hid (buildGraphW h hW hz hg hvt hve hE1.2.1 hE1.2.2)
  have HM := hid h
  have HE1 := hid hE1
  have c0 := h.cells.1
  have Hlo : Hid (N ≤ w.heap.size ∧ ∀ ad, l.a = some ad → ad.block < w.heap.size) := hid ⟨h.r.gl.sz, h.r.src.lt⟩
  rw [hnd'] at hud hnd
  have Hud := hid hud
  clear h hE1 hW hz hg hNB hvt hve hnd' hud hAl hfl
  obtain ⟨A, hA⟩ : ∃ A, grF F = A := ⟨_, rfl⟩
  have HA := hid hA
  rw [hA] at HAl Hfl HBG ⊢
  clear hA
  go_enter Tryz.func56, Tryz.ntmps56
  go_wp2_with fail
  refine HBG.out.mono ?_
  rintro e w1 ⟨gB, rfl, hG⟩
  obtain ⟨gS, σ1, va, g1, g2, g3, g4, g5⟩ := hG.out
  have HG5 := hid g5
  rw [Hnd.out] at g1 g3
  have HNS := hid (newSCCW (A := A) HAl.out g1 g2 g3 g4 hnd)
  clear hG HBG g1 g2 g3 g4 g5
  go_wp2_with fail
  refine HNS.out.mono ?_
  rintro e w2 ⟨sB, rfl, hS⟩
  obtain ⟨L, σ2, vs2, vz2, vo2, hL, hF2, hfr2⟩ := hS.out
  subst hL
  have HG6 : Hid (Fr XG (fun _ => 0) w (noR 40 σ2) w2) := hid ((HG5.out.trans (hfr2.mono (fun c hc => by unfold XF at hc; unfold XG; simp at hc ⊢; omega))).noR (fun _ => by decide) (fun _ _ h => h))
  have HRun := hid (runW (hF2.rho (σ' := noR 40 σ2) (fun g c hc hg => noR_keep (by omega) hg)) (noR_ne 40 (by decide) _) (JI.start A) (by rw [← HA.out]; exact grF_ok F) (by rw [HAl.out]; exact hnd) Hfl.out)
  clear hS HNS HG5 hF2 hfr2
  go_wp2_with fail
  refine HRun.out.mono ?_
  rintro e w3 ⟨rfl, hR⟩
  obtain ⟨σ3, vs, vz, vo, T, hF3, hfr3, _, hJ, hvis⟩ := hR.out
  have HFin := hid (hJ.finish (by rw [← HA.out]; exact grF_ok F) hvis)
  have HFX : Hid (FX w L A va T vs vz vo ρ w3 ∧ Below w.heap.size w w3) := hid (by
    have hall : Fr XG (fun _ => 0) w σ3 w3 := HG6.out.trans (hfr3.mono (fun c hc => by unfold XF at hc; unfold XG; simp at hc ⊢; omega))
    refine ⟨⟨σ3, hF3, fun g hg => ?_⟩, hall.toBelow (Nat.le_refl _) (fun _ _ => rfl) rfl⟩
    have h1 : g < w3.heap.size := hall.dom (fun g hg => absurd rfl hg) g hg
    have h2 : w.heap.size ≤ g := by
      rcases Nat.lt_or_ge g w.heap.size with h | h
      · exact absurd (hall.old g h) hg
      · exact h
    exact ⟨h2, h1, HM.out.new h2⟩)
  clear hR hF3 hfr3 hJ hvis HRun HG6
  have HS0 : Hid (Ph (fun ρ w' => E1 F mB gT gE ρ w' ∧ FX w L A va T vs vz vo ρ w') N mg ρ w l bs F U c V (∀ u, u < 0 → onC A T u = false) 0 w3) := hid ⟨ρ, V.list, [], HM.out.below HFX.out.2, Fr.below HFX.out.2, ⟨fun _ u hu => absurd hu (Nat.not_lt_zero _), fun _ => rfl⟩, Nat.le_refl _, E1.keeps _ _ _ _ HE1.out (Fr.below HFX.out.2), HFX.out.1⟩
  have kf1 : w3.cell? ⟨l.f, 1, none⟩ = some (.slice ad nd qd) := by rw [← Hud.out]; exact (HM.out.below HFX.out.2).fb.cell 1
  have HK : Hid (Keeps (fun ρ w' => E1 F mB gT gE ρ w' ∧ FX w L A va T vs vz vo ρ w')) := hid (Keeps.and E1.keeps FX.keeps)
  go_upto_region 5 with fail
  clear kf1 c0
  go_loopw [26, 4] (fun t s wr => ∃ (i e : Nat), t = .int .i64 (i : Int) ∧ s = .int .i64 (e : Int) ∧ i ≤ nd ∧ e ≤ i ∧ Hid (Ph (fun ρ w' => E1 F mB gT gE ρ w' ∧ FX w L A va T vs vz vo ρ w') N mg ρ w l bs F U c V (∀ u, u < i → onC A T u = false) i wr)) (fun t _ _ => nd - (intOf t).toNat)
  case atStart => exact ⟨0, 0, rfl, rfl, Nat.zero_le _, Nat.le_refl _, HS0⟩
  case round =>
  clear HS0
  obtain ⟨i, ex, rfl, rfl, hi, hex, HI⟩ := hrel
  by_cases hin : i < nd
  rotate_left
  · have d1 : decide ((i : Int) < (nd : Int)) = false := decide_eq_false (by omega)
    obtain ⟨ρ1, v1, es1, hm1, hfr1, hp1, hb1, hs1, σ4, hF4, hσ⟩ := HI.out.m
    have c7 : wr.cell? ⟨L.sB, 7, none⟩ = some vo := hF4.b.cell 7
    have c6 : wr.cell? ⟨c, 6, none⟩ = some V.ord := hm1.cb.cell 6
    have f6 : wr.frozen? ⟨c, 6, none⟩ = false := hm1.cb.frozen 6
    obtain ⟨ao, qo, hvo⟩ := hF4.d.shape
    have HQ : Hid (∃ vo od, OdOk F od ∧ Ph (E2 F mB gT gE vo od) N mg ρ w l bs F U c { V with ord := vo } (Acy A) 100000 (wr.setCell ⟨c, 6, none⟩ (.slice ao T.od.length qo))) := hid (by
      rw [← hvo]
      refine ⟨vo, T.od, ⟨fun d hd => HFin.out.all d (by rw [HAl.out, ← Hnd.out]; exact hd), fun d hd => by have := HFin.out.rng d hd; rw [HAl.out] at this; rw [Hnd.out]; exact this, by have := HFin.out.ol; rw [HAl.out] at this; rw [Hnd.out]; exact this⟩, ?_⟩
      -- the order's block gets its role
      have key : ∃ ρ2 : Rl, CM N mg ρ2 wr l bs F U c { V with list := v1 } es1 ∧ Fr XD ρ w ρ2 wr ∧ E1 F mB gT gE ρ2 wr ∧ RowX rtJ wr ρ2 18 vo T.od := by
        cases hob : vo.ownBlock with
        | none => exact ⟨ρ1, hm1, hfr1, hs1, ⟨hF4.d.own, fun g hg => by rw [hob] at hg; cases hg⟩⟩
        | some b =>
          have hsb : σ4 b = 39 := hF4.d.role b hob
          obtain ⟨a1, a2, a3⟩ := hσ b (by rw [hsb]; decide)
          have hk : ∀ g k, k ≠ 0 → ρ1 g = k → fup ρ1 b 18 g = k := fun g k hk hg => by rw [fup_ne _ _ (fun e => by rw [e, a3] at hg; exact hk hg.symm)]; exact hg
          refine ⟨fup ρ1 b 18, hm1.give a3 (Nat.le_trans Hlo.out.1 a1) (fun ad ha => by have := Hlo.out.2 ad ha; omega) a2, ⟨hfr1.os, hfr1.tape, hfr1.output, hfr1.size, fun g hg => by rw [fup_ne _ _ (by omega)]; exact hfr1.old g hg, fun g hg => by rw [fup_ne _ _ (by omega)]; exact hfr1.nw g hg, hfr1.blk⟩, ⟨⟨hs1.1.1, hk _ _ (by decide) hs1.1.2⟩, hs1.2.1.rho (fun g => hk g _ (by decide)), hs1.2.2.rho (fun g => hk g _ (by decide))⟩, ⟨hF4.d.own, fun g hg => by rw [hob] at hg; cases hg; exact fup_self _ _ _⟩⟩
      obtain ⟨ρ2, k1, k2, k3, k4⟩ := key
      obtain ⟨q1, q2⟩ := k1.setOrd vo
      refine ⟨ρ2, v1, es1, q1, k2.trans q2, hp1.trans ?_, by omega, E1.keeps _ _ _ _ k3 q2, OrM.keeps _ _ _ _ k4 q2⟩
      rw [← HFin.out.ok, HAl.out, show i = nd by omega])
    rw [hvo] at c7
    clear hm1 hfr1 hp1 hb1 hs1 hF4 hσ HI hvo
    go_wp2
    exact bodyPost_end (v := .tuple #[]) (by simp [results, Tryz.results56, go_sem]) rfl ⟨rfl, HQ⟩
  have d1 : decide ((i : Int) < (nd : Int)) = true := decide_eq_true (by omega)
  have i1 : (i : Int) < (nd : Int) := by omega
  obtain ⟨ρ1, v1, es1, hm1, hfr1, hp1, hb1, hs1⟩ := HI.out.m
  obtain ⟨x, hx⟩ : ∃ x, F.decls[i]? = some x := ⟨_, List.getElem?_eq_getElem (by rw [Hnd.out]; exact hin)⟩
  have Hx := hid hx
  have hxD := HW.out.d x (List.mem_of_getElem? hx)
  have hxp : x.pos ≤ l.n := hxD.pos
  have hxn : x.name.size ≤ 450000000 := HNB.out x (List.mem_of_getElem? hx)
  obtain ⟨gd, rfl, hgd, hcd⟩ := hm1.decl Hud.out hx
  have hsx := hs1.2
  obtain ⟨σ4, hF4, hσ⟩ := hsx
  have HF4 := hid hF4
  have Hm1 := hid hm1
  have Hfr1 := hid hfr1
  have Hp1 := hid hp1
  have Hb1 := hid hb1
  have Hs1 := hid hs1
  have HOn := hid (onCycleW hF4 (v := i) (by rw [HAl.out]; exact hin) (by rw [HAl.out]; exact hnd) Hfl.out (HFin.out.cp i (by rw [HAl.out]; exact hin)) (by have := HFin.out.sz; rw [HAl.out] at this; omega))
  obtain ⟨b, hb⟩ : ∃ b, onC A T i = b := ⟨_, rfl⟩
  rw [hb] at HOn
  have Hb := hid hb
  have e1 : ∀ wz, Below wr.heap.size wr wz → wz.cell? ⟨gd, i * 11 + 1, none⟩ = some (.string x.name) ∧ wz.cell? ⟨gd, i * 11 + 2, none⟩ = some (.int .i64 (x.pos : Int)) := fun wz hz => ⟨by rw [keepCell _ (hz.block gd hgd)]; exact hcd 1 (by decide), by rw [keepCell _ (hz.block gd hgd)]; exact hcd 2 (by decide)⟩
  have He1 := hid e1
  have kf : ∀ wz, Below wr.heap.size wr wz → wz.cell? ⟨l.f, 1, none⟩ = some (.slice (some ⟨gd, 0, none⟩) nd qd) := fun wz hz => by rw [← Hud.out]; exact (hm1.below hz).fb.cell 1
  have Hkf := hid kf
  clear hm1 hfr1 hp1 hb1 hs1 hF4 hσ hb e1 kf hcd HI hxD hx
  go_wp2_with fail
  refine HOn.out.mono ?_
  rintro e wo ⟨rfl, hdo⟩
  have HBo := hid (hdo.below wr.heap.size)
  clear HOn hdo
  cases b with
  | false =>
    as_aux_lemma =>
    have HE : Hid (Ph (fun ρ w' => E1 F mB gT gE ρ w' ∧ FX w L A va T vs vz vo ρ w') N mg ρ w l bs F U c V (∀ u, u < i + 1 → onC A T u = false) (i + 1) wo) := hid (by
      refine ⟨ρ1, v1, es1, Hm1.out.below HBo.out, Hfr1.out.trans (Fr.below HBo.out), Hp1.out.trans ⟨fun hh u hu => ?_, fun hh u hu => hh u (by omega)⟩, by have := Hb1.out; omega, HK.out _ _ _ _ Hs1.out (Fr.below HBo.out)⟩
      by_cases e : u = i
      · subst e; exact Hb.out
      · exact hh u (by omega))
    go_wp2
    exact ⟨⟨i + 1, ex, by go_num, rfl, by omega, by omega, HE⟩, by simp [intOf]; omega⟩
  | true =>
  have Herr : Hid (∀ wy wz : World, Below wr.heap.size wr wy → CAd N mg ρ1 wy l bs F U c { V with list := v1 } (es1 ++ [(9, x.pos)]) wz → Ph (fun ρ w' => E1 F mB gT gE ρ w' ∧ FX w L A va T vs vz vo ρ w') N mg ρ w l bs F U c V (∀ u, u < i + 1 → onC A T u = false) (i + 1) wz) := hid (fun wy wz hby ha => by
    refine (Ph.add Hfr1.out HK.out Hs1.out (CAd.pre hby ha) Hb1.out).iff ⟨fun h => h.elim, fun h => ?_⟩ (Nat.le_refl _)
    have := h i (by omega)
    rw [Hb.out] at this
    cases this)
  have kfo := Hkf.out wo HBo.out
  have hle := Hm1.out.r.src.le
  have z1 : (x.name ++ ({ data := #[32, 114, 101, 102, 101, 114, 115, 32, 116, 111, 32, 105, 116, 115, 101, 108, 102] } : ByteArray)).size = x.name.size + 17 := by rw [ba_size]; rfl
  by_cases h16 : 16 ≤ ex
  · as_aux_lemma =>
    have d3 : decide ((ex : Int) ≥ 16) = true := decide_eq_true (by omega)
    have d3n : decide (16 ≤ ex) = true := decide_eq_true h16
    clear h16
    go_upto_region 11 with fail
    have y1 := (He1.out wo HBo.out).1
    have y2 := (He1.out wo HBo.out).2
    clear kfo
    obtain ⟨X0, W, hT, hI⟩ := class_mk (fun w' => Drew wo w')
    have H0 : Hid (∃ y, wo.drew = W y) := hid (hI _ ⟨1, rfl⟩)
    have hne : Nonempty X0 := ⟨H0.out.choose⟩
    have HTT := hid hT
    have a1 : ∀ z, (W z).cell? ⟨gd, i * 11 + 1, none⟩ = some (.string x.name) := fun y => by obtain ⟨m, e⟩ := hT y; rw [e]; exact y1
    have a2 : ∀ z, (W z).cell? ⟨gd, i * 11 + 2, none⟩ = some (.int .i64 (x.pos : Int)) := fun y => by obtain ⟨m, e⟩ := hT y; rw [e]; exact y2
    clear hT hI
    refine wp_region_class_tailT W 12 (by kernel_rfl) (by kernel_rfl) (by kernel_rfl) H0.out ?_
    dsimp only [List.take, List.drop]
    repeat (go_big_quiet_step (fail))
    refine wpQuiet_nil ?_
    intro z
    have HD := hid (HTT.out z)
    have HB := hid ((HTT.out z).below wo.heap.size)
    have a1z := a1 z
    have a2z := a2 z
    generalize W z = wz at HD HB a1z a2z ⊢
    clear H0 HTT a1 a2
    have hbz := HBo.out.trans (HB.out.mono HBo.out.size)
    have HA1 := hid (addDW (Hm1.out.below hbz) 9 x.pos _ hxp (show 0 < ByteArray.size _ by rw [z1]; omega) (by rw [z1]; omega) (by have := Hb1.out; omega))
    have Hbz := hid hbz
    clear y1 y2 a1z a2z hbz HD HB
    go_wp2_with fail
    refine HA1.out.mono ?_
    rintro e w4 ⟨rfl, h4⟩
    have HE := hid (Herr.out _ _ Hbz.out h4.out)
    clear HA1 h4
    go_wp2
    exact ⟨⟨i + 1, ex, by go_num, rfl, by omega, by omega, HE⟩, by simp [intOf]; omega⟩
  have d3 : decide ((ex : Int) ≥ 16) = false := decide_eq_false (by omega)
  have d3n : decide (16 ≤ ex) = false := decide_eq_false h16
  have HSh := hid (shortestW (HF4.out.below HBo.out) (v := i) (by rw [HAl.out]; exact hin) (by rw [← HA.out]; exact grF_ok F) (by rw [HAl.out]; exact hnd) Hfl.out)
  go_wp2_with fail
  refine HSh.out.mono ?_
  rintro e w5 ⟨aw, nw, qw, rfl, hsh⟩
  obtain ⟨hb5, xs, hrow, hxs, hxl⟩ := hsh.out
  have HB5 := hid (HBo.out.trans (hb5.mono HBo.out.size))
  have Hrow := hid hrow
  have Hxs := hid hxs
  have Hxl := hid hxl
  obtain ⟨_, _, hshp⟩ := hrow.shape
  injection hshp with q1 q2 q3
  have Hnw := hid q2
  clear q1 q2 q3 hsh hb5 hrow hxs hxl HSh kfo
  by_cases h0 : nw = 0
  · as_aux_lemma =>
    have d4 : ((nw : Int) == 0) = true := by simp; omega
    clear h0
    go_upto_region 15 with fail
    have y1 := (He1.out w5 HB5.out).1
    have y2 := (He1.out w5 HB5.out).2
    obtain ⟨X0, W, hT, hI⟩ := class_mk (fun w' => Drew w5 w')
    have H0 : Hid (∃ y, w5.drew = W y) := hid (hI _ ⟨1, rfl⟩)
    have hne : Nonempty X0 := ⟨H0.out.choose⟩
    have HTT := hid hT
    have a1 : ∀ z, (W z).cell? ⟨gd, i * 11 + 1, none⟩ = some (.string x.name) := fun y => by obtain ⟨m, e⟩ := hT y; rw [e]; exact y1
    have a2 : ∀ z, (W z).cell? ⟨gd, i * 11 + 2, none⟩ = some (.int .i64 (x.pos : Int)) := fun y => by obtain ⟨m, e⟩ := hT y; rw [e]; exact y2
    clear hT hI
    refine wp_region_class_tailT W 12 (by kernel_rfl) (by kernel_rfl) (by kernel_rfl) H0.out ?_
    dsimp only [List.take, List.drop]
    repeat (go_big_quiet_step (fail))
    refine wpQuiet_nil ?_
    intro z
    have HD := hid (HTT.out z)
    have HB := hid ((HTT.out z).below w5.heap.size)
    have a1z := a1 z
    have a2z := a2 z
    generalize W z = wz at HD HB a1z a2z ⊢
    clear H0 HTT a1 a2
    have hbz := HB5.out.trans (HB.out.mono HB5.out.size)
    have HA1 := hid (addDW (Hm1.out.below hbz) 9 x.pos _ hxp (show 0 < ByteArray.size _ by rw [z1]; omega) (by rw [z1]; omega) (by have := Hb1.out; omega))
    have Hbz := hid hbz
    clear y1 y2 a1z a2z hbz HD HB
    go_wp2_with fail
    refine HA1.out.mono ?_
    rintro e w4 ⟨rfl, h4⟩
    have HE := hid (Herr.out _ _ Hbz.out h4.out)
    clear HA1 h4
    go_wp2
    exact ⟨⟨i + 1, ex + 1, by go_num, by go_num, by omega, by omega, HE⟩, by simp [intOf]; omega⟩
  have d4 : ((nw : Int) == 0) = false := by simp; omega
  have hnwb : nw ≤ 65536 := by have h1 := Hnw.out; have h2 := Hxl.out; omega
  obtain ⟨gN, hgN⟩ : ∃ g, w5.heap.size = g := ⟨_, rfl⟩
  have hmk : (Instr.makeSlice 43 (.int .i64 (nw : Int)) (.int .i64 (nw : Int))).run Tryz.prog w5 = .ok (.slice (some ⟨w5.heap.size, 0, none⟩) nw nw) (w5.alloc (.cells (madeCells #[.string ⟨#[]⟩] nw) 9)) := run_make_row' (P := Tryz.prog) 43 9 (.string ⟨#[]⟩) 16 (by kernel_rfl) (by kernel_rfl) rfl .i64 .i64 nw (by omega) (by omega) w5
  rw [hgN] at hmk
  obtain ⟨wa, hwa⟩ : ∃ y, w5.alloc (.cells (madeCells #[.string ⟨#[]⟩] nw) 9) = y := ⟨_, rfl⟩
  rw [hwa] at hmk
  have HN0 : Hid (∃ f, (∀ j, j < nw → (f j).size ≤ 450000000) ∧ RwS gN nw f 44 (fup (fun _ => 0) gN 44) wa ∧ Below w5.heap.size w5 wa) := hid (by
    refine ⟨fun _ => ⟨#[]⟩, fun _ _ => Nat.zero_le _, ?_, by rw [← hwa]; exact nbel w5 _⟩
    rw [← hwa, ← hgN]
    exact RwK.new 9 (fun x : ByteArray => Value.string x) (fun _ => 0) w5 nw 44 ⟨#[]⟩)
  have HgN := hid hgN
  clear hgN hwa h0
  go_upto_region 18 with fail
  clear hmk
  obtain ⟨wR, hwR⟩ : ∃ x : World, x = wr := ⟨_, rfl⟩
  subst hwR
  go_loopw [82] (fun t wr => ∃ k : Nat, t = .int .i64 (k : Int) ∧ k ≤ nw ∧ Hid (∃ f, (∀ j, j < nw → (f j).size ≤ 450000000) ∧ RwS gN nw f 44 (fup (fun _ => 0) gN 44) wr ∧ Below w5.heap.size w5 wr)) (fun t _ => nw - (intOf t).toNat)
  case atStart => exact ⟨0, rfl, Nat.zero_le _, HN0⟩
  case round =>
  clear HN0
  obtain ⟨k, rfl, hk, HKk⟩ := hrel
  obtain ⟨f, hfb, hfR, hfB⟩ := HKk.out
  have HfR := hid hfR
  have Hfb := hid hfb
  have HBw := hid (HB5.out.trans (hfB.mono HB5.out.size))
  have HfB := hid hfB
  clear hfb hfR hfB HKk
  by_cases hkn : k < nw
  rotate_left
  · have d5 : decide ((k : Int) < (nw : Int)) = false := decide_eq_false (by omega)
    go_upto_region 22 with fail
    have y1 := (He1.out wr HBw.out).1
    have y2 := (He1.out wr HBw.out).2
    obtain ⟨X0, W, hT, hI⟩ := class_mk (fun w' => Below wr.heap.size wr w')
    have H0 : Hid (∃ y, wr.drew = W y) := hid (hI _ (Drew.below ⟨1, rfl⟩ _))
    have hne : Nonempty X0 := ⟨H0.out.choose⟩
    have HTT := hid hT
    have hW0 : ∀ x w', Below (W x).heap.size (W x) w' → ∃ y, w' = W y := fun x w' hb => hI _ ((hT x).trans (hb.mono (hT x).size))
    have HW0 := hid hW0
    have a1 : ∀ z, (W z).cell? ⟨gd, i * 11 + 1, none⟩ = some (.string x.name) := fun z => (He1.out (W z) (HBw.out.trans ((hT z).mono HBw.out.size))).1
    have a2 : ∀ z, (W z).cell? ⟨gd, i * 11 + 2, none⟩ = some (.int .i64 (x.pos : Int)) := fun z => (He1.out (W z) (HBw.out.trans ((hT z).mono HBw.out.size))).2
    have hjb : nw * (450000000 + 2) ≤ 29491200131072 := by
      have : nw * (450000000 + 2) ≤ 65536 * (450000000 + 2) := Nat.mul_le_mul_right _ hnwb
      omega
    have HJ := hid (fun z => joinW (HfR.out.below (hT z)) (sep := ⟨#[44, 32]⟩) (by decide) Hfb.out (by omega) (by omega))
    have hjl := joinL_len (f := f) (sep := ⟨#[44, 32]⟩) (B := 450000000) (by decide) nw Hfb.out
    obtain ⟨js, hjs⟩ : ∃ js : ByteArray, (⟨(joinL f ⟨#[44, 32]⟩ nw).toArray⟩ : ByteArray) = js := ⟨_, rfl⟩
    have hjz : js.size ≤ 29491200131072 := by rw [← hjs]; show (joinL f ⟨#[44, 32]⟩ nw).toArray.size ≤ _; rw [List.size_toArray]; omega
    have HJ2 : Hid (∀ z, Calls Tryz.prog 92 #[.slice (some ⟨gN, 0, none⟩) nw nw, .string ⟨#[44, 32]⟩] (W z) fun e w' => e = .returned (.string js) ∧ Below (W z).heap.size (W z) w') := hid (fun z => by rw [← hjs]; exact HJ.out z)
    have z2 : (x.name ++ ({ data := #[32, 114, 101, 102, 101, 114, 115, 32, 116, 111, 32, 105, 116, 115, 101, 108, 102, 32, 116, 104, 114, 111, 117, 103, 104, 32] } : ByteArray)).size = x.name.size + 26 := by rw [ba_size]; rfl
    have z3 : (x.name ++ ({ data := #[32, 114, 101, 102, 101, 114, 115, 32, 116, 111, 32, 105, 116, 115, 101, 108, 102, 32, 116, 104, 114, 111, 117, 103, 104, 32] } : ByteArray) ++ js).size = x.name.size + 26 + js.size := by rw [ba_size, z2]
    clear hT hI hW0 y1 y2 hjb HJ hjl hjs
    refine wp_region_class_tailT W 15 (by kernel_rfl) (by kernel_rfl) (by kernel_rfl) H0.out ?_
    dsimp only [List.take, List.drop]
    repeat (go_big_quiet_step ((go_at_call 92; exact Calls.class_of HW0.out (HJ2.out _))))
    refine wpQuiet_nil ?_
    intro z
    have hbz := HBw.out.trans ((HTT.out z).mono HBw.out.size)
    have Hbz := hid hbz
    generalize W z = wz at Hbz hbz ⊢
    clear a1 a2 H0 HTT HJ2 HW0
    have HA1 := hid (addDW (Hm1.out.below hbz) 9 x.pos _ hxp (show 0 < ByteArray.size _ by rw [z3]; omega) (by rw [z3]; omega) (by have := Hb1.out; omega))
    clear hbz
    go_wp2_with fail
    refine HA1.out.mono ?_
    rintro e w4 ⟨rfl, h4⟩
    have HE := hid (Herr.out _ _ Hbz.out h4.out)
    clear HA1 h4
    go_wp2
    exact ⟨⟨i + 1, ex + 1, by go_num, by go_num, by omega, by omega, HE⟩, by simp [intOf]; omega⟩
  · have d5 : decide ((k : Int) < (nw : Int)) = true := decide_eq_true (by omega)
    have i5 : (k : Int) < (nw : Int) := by omega
    obtain ⟨y, hy⟩ : ∃ y, xs[k]? = some y := ⟨_, List.getElem?_eq_getElem (by have := Hnw.out; omega)⟩
    have hyn : y < nd := by have := Hxs.out y (List.mem_of_getElem? hy); rw [HAl.out] at this; exact this
    obtain ⟨gw, qw2, hv2, hgw, hcw⟩ := Hrow.out.rx.get (by decide) (fun _ => rfl) hy
    injection hv2 with q1 q2 q3
    clear q2 q3
    subst q1
    have cy : wr.cell? ⟨gw, k, none⟩ = some (.int .i32 (y : Int)) := by
      rw [keepCell k (HfB.out.block gw hgw)]
      have := hcw 0 (by decide)
      simpa [rtJ] using this
    obtain ⟨yd, hyd⟩ : ∃ yd, F.decls[y]? = some yd := ⟨_, List.getElem?_eq_getElem (by rw [Hnd.out]; exact hyn)⟩
    obtain ⟨gd2, egd, _, hcd2⟩ := (Hm1.out.below HBw.out).decl Hud.out hyd
    cases egd
    have cn : wr.cell? ⟨gd, y * 11 + 1, none⟩ = some (.string yd.name) := hcd2 1 (by decide)
    have hydn : yd.name.size ≤ 450000000 := HNB.out yd (List.mem_of_getElem? hyd)
    have kfw := Hkf.out wr HBw.out
    have cN := HfR.out.get hkn
    have fN := HfR.out.frozen k
    have HE : Hid (∃ f, (∀ j, j < nw → (f j).size ≤ 450000000) ∧ RwS gN nw f 44 (fup (fun _ => 0) gN 44) (wr.setCell ⟨gN, k, none⟩ (.string yd.name)) ∧ Below w5.heap.size w5 (wr.setCell ⟨gN, k, none⟩ (.string yd.name))) := hid (by
      refine ⟨fup f k yd.name, fun j hj => ?_, HfR.out.set hkn yd.name, HfB.out.trans (Upd.below (Upd.setCell (Upd.refl gN wr) (p := ⟨gN, k, none⟩) rfl _) (by rw [HgN.out]; exact Nat.le_refl _) HfB.out.size)⟩
      by_cases e : j = k
      · subst e; rw [fup_self]; exact hydn
      · rw [fup_ne _ _ e]; exact Hfb.out j hj)
    have i6 : (y : Int) < (nd : Int) := by omega
    clear hcd2 hcw hy hyd
    go_wp2
    exact ⟨⟨k + 1, by go_num, by omega, HE⟩, by simp [intOf]; omega⟩
end
end Go.Proofs.Qxb6500883aGreatDoor
