/- evalRange. -/
import Derived.Test.Qxb6500883aGreatDoorScEa
namespace Go.Proofs.Qxb6500883aGreatDoor
open Go.RowKit
set_option linter.unusedSimpArgs false
set_option linter.unusedVariables false
abbrev RwU (g n : Nat) (f : Nat → Nat) (r : Nat) (ρ : Rl) (w : World) : Prop := RwK 48 (fun x : Nat => Value.int .u64 (x : Int)) g n f r ρ w
def XE (r : Nat) : Bool := XD r || (r == 14 || r == 15)
/-- All expressions are numbers. -/
def AllNum (F : FS) : Prop := ∀ x ∈ F.exprs, x.form = 0
/-- Values so far: the nodes lo .. k - 1 are worked out. -/
structure EvS (N mg : Nat) (ρ : Rl) (w : World) (l : PL) (bs : List UInt8) (F : FS) (U : FV) (c : Nat) (V : CV) (gV gK : Nat) (errs : List (Nat × Nat)) (vf : Nat → Nat) (lo k : Nat) (w' : World) : Prop where
  m : ∃ (ρ' : Rl) (v' : Value) (es : List (Nat × Nat)) (vf' : Nat → Nat) (kf' : Nat → Bool), CM N mg ρ' w' l bs F U c { V with list := v' } es ∧ Fr XE ρ w ρ' w' ∧ RwU gV F.exprs.length vf' 14 ρ' w' ∧ RwB gK F.exprs.length kf' 15 ρ' w' ∧ (∀ j, vf' j < 18446744073709551616) ∧ (∀ j, j < lo ∨ k ≤ j → vf' j = vf j) ∧ (∀ j y, lo ≤ j → j < k → F.exprs[j]? = some y → y.form = 0 → vf' j = y.val) ∧ (AllNum F → es = errs) ∧ es.length ≤ errs.length + (k - lo)
section
variable {N mg : Nat} {ρ ρ' ρ1 ρ2 : Rl} {w w' w0 w1 w2 wr : World} {l : PL} {bs : List UInt8} {F : FS} {U : FV} {c n : Nat} {V V' : CV} {errs es es2 : List (Nat × Nat)} {v v1 v2 : Value} {gV gK lo k : Nat} {vf vf1 : Nat → Nat} {kf1 : Nat → Bool}
theorem eDof_nat (F : FS) (x : EN) : eDof F x = -1 ∨ ∃ d : Nat, eDof F x = (d : Int) := by
  unfold eDof
  split
  · split
    · exact .inl rfl
    · split
      · exact .inr ⟨_, rfl⟩
      · exact .inl rfl
  · exact .inl rfl
theorem fup_id {α : Type} (f : Nat → α) (k : Nat) : fup f k (f k) = f := by
  funext j
  by_cases e : j = k
  · subst e; rw [fup_self]
  · rw [fup_ne _ _ e]
/-- One node more. -/
theorem EvS.step (hc : CM N mg ρ2 w2 l bs F U c { V with list := v2 } es2) (hf : Fr XE ρ w ρ2 w2) {x : Nat} {b : Bool} (hV : RwU gV F.exprs.length (fup vf1 k x) 14 ρ2 w2) (hK : RwB gK F.exprs.length (fup kf1 k b) 15 ρ2 w2) (hb : ∀ j, vf1 j < 18446744073709551616) (hx : x < 18446744073709551616) (h1 : ∀ j, j < lo ∨ k ≤ j → vf1 j = vf j) (h2 : ∀ j y, lo ≤ j → j < k → F.exprs[j]? = some y → y.form = 0 → vf1 j = y.val) (hxv : ∀ y, F.exprs[k]? = some y → y.form = 0 → x = y.val) (hlk : lo ≤ k) (hA : AllNum F → es2 = errs) (hl : es2.length ≤ errs.length + (k + 1 - lo)) : EvS N mg ρ w l bs F U c V gV gK errs vf lo (k + 1) w2 := by
  refine ⟨ρ2, v2, es2, fup vf1 k x, fup kf1 k b, hc, hf, hV, hK, fun j => ?_, fun j hj => ?_, fun j y hj1 hj2 hy hy0 => ?_, hA, hl⟩
  · by_cases e : j = k
    · subst e; rw [fup_self]; exact hx
    · rw [fup_ne _ _ e]; exact hb j
  · rw [fup_ne _ _ (by omega)]; exact h1 j (by omega)
  · by_cases e : j = k
    · subst e; rw [fup_self]; exact hxv y hy hy0
    · rw [fup_ne _ _ e]; exact h2 j y hj1 (by omega) hy hy0
set_option maxRecDepth 100000 in
set_option maxHeartbeats 8000000 in
theorem evalRangeW {gE : Nat} {kf : Nat → Bool} {x0 : DN} (h : CM N mg ρ w l bs F U c V errs) (hW : FWf l.n F) (hz : FSz F) (hR : ExR F F.exprs.length) (hx0 : x0 ∈ F.decls) (hve : V.eD = .slice (some ⟨gE, 0, none⟩) F.exprs.length F.exprs.length) (hvv : V.eV = .slice (some ⟨gV, 0, none⟩) F.exprs.length F.exprs.length) (hvo : V.eO = .slice (some ⟨gK, 0, none⟩) F.exprs.length F.exprs.length) (hE : RwJ gE F.exprs.length (eDA F) 13 ρ w) (hV : RwU gV F.exprs.length vf 14 ρ w) (hK : RwB gK F.exprs.length kf 15 ρ w) (hvb : ∀ j, vf j < 18446744073709551616) (hl : errs.length ≤ 100000000000) :
    Calls Tryz.prog 93 #[.pointer (some ⟨c, 0, none⟩), .int .i32 (x0.eLo : Int), .int .i32 (x0.eHi : Int)] w fun e w' => e = .returned (.tuple #[]) ∧ Hid (EvS N mg ρ w l bs F U c V gV gK errs vf x0.eLo x0.eHi w') := by
  have HW := hid hW
  have hne := hz.e
  have HRx := hid hR
  have HD0 := hid (hW.d x0 hx0)
  obtain ⟨ad, qd, hud⟩ := h.fr.d.shape
  obtain ⟨aE, qE, huE⟩ := h.fr.e.shape
  obtain ⟨nd, hnd'⟩ : ∃ k, F.decls.length = k := ⟨_, rfl⟩
  obtain ⟨nE, hnE'⟩ : ∃ k, F.exprs.length = k := ⟨_, rfl⟩
  obtain ⟨lo, hlo⟩ : ∃ k, x0.eLo = k := ⟨_, rfl⟩
  obtain ⟨hi, hhi⟩ : ∃ k, x0.eHi = k := ⟨_, rfl⟩
  have hr : lo ≤ hi ∧ hi ≤ nE := by have := (hW.d x0 hx0).e; rw [hlo, hhi, hnE'] at this; exact this
  rw [hlo, hhi]
  have HLo := hid (And.intro hlo hhi)
  rw [hnd'] at hud
  rw [hnE'] at huE hne hve hvv hvo hE hV hK
  have Hnd := hid hnd'
  have HnE := hid hnE'
  have Hud := hid hud
  have HuE := hid huE
  have Hve := hid hve
  have Hvv := hid hvv
  have Hvo := hid hvo
  have HE := hid hE
  have HI0 : Hid (EvS N mg ρ w l bs F U c V gV gK errs vf lo lo w) := hid ⟨ρ, V.list, errs, vf, kf, h, Fr.refl _ _ _, by rw [hnE']; exact hV, by rw [hnE']; exact hK, hvb, fun _ _ => rfl, fun j y h1 h2 => by omega, fun _ => rfl, by omega⟩
  have c0 := h.cells.1
  clear h hW hz hR hx0 hnd' hnE' hlo hhi hud huE hve hvv hvo hE hV hK hvb
  go_enter Tryz.func93, Tryz.ntmps93
  go_upto_region 2 with fail
  clear c0
  go_loopw [7] (fun t wr => ∃ k : Nat, t = .int .i32 (k : Int) ∧ lo ≤ k ∧ k ≤ hi ∧ Hid (EvS N mg ρ w l bs F U c V gV gK errs vf lo k wr)) (fun t _ => hi - (intOf t).toNat)
  case atStart => exact ⟨lo, rfl, Nat.le_refl _, hr.1, HI0⟩
  case round =>
  clear HI0
  obtain ⟨k, rfl, hk1, hk2, HK⟩ := hrel
  by_cases hkk : k < hi
  rotate_left
  · as_aux_lemma =>
    have d1 : decide ((k : Int) < (hi : Int)) = false := decide_eq_false (by omega)
    have HF : Hid (EvS N mg ρ w l bs F U c V gV gK errs vf lo hi wr) := hid (by
      have := HK.out
      rw [show k = hi by omega] at this
      exact this)
    clear HK
    go_wp2
    exact bodyPost_end (v := .tuple #[]) (by simp [results, Tryz.results93, go_sem]) rfl ⟨rfl, HF⟩
  have d1 : decide ((k : Int) < (hi : Int)) = true := decide_eq_true (by omega)
  have hkE : k < nE := by omega
  have i1 : (k : Int) < (nE : Int) := by omega
  obtain ⟨x, hx⟩ : ∃ x, F.exprs[k]? = some x := ⟨_, List.getElem?_eq_getElem (by rw [HnE.out]; exact hkE)⟩
  have Hx := hid hx
  have hEW := HD0.out.ew k x (by rw [HLo.out.1]; exact hk1) (by rw [HLo.out.2]; exact hkk) hx
  rw [HLo.out.1] at hEW
  have HEW := hid hEW
  obtain ⟨ρ1, v1, es1, vf1, kf1, hm1, hfr1, hV1, hK1, hb1, h11, h12, hA1, hl1⟩ := HK.out.m
  rw [HnE.out] at hV1 hK1
  have Hm1 := hid hm1
  have Hfr1 := hid hfr1
  have HV1 := hid hV1
  have HK1 := hid hK1
  have Hb1 := hid hb1
  have H11 := hid h11
  have H12 := hid h12
  have HA1 := hid hA1
  have Hl1 := hid hl1
  obtain ⟨ge, rfl, hge, hce⟩ := hm1.expr HuE.out hx
  have Hst : Hid (∀ (ρ2 : Rl) (v2 : Value) (es2 : List (Nat × Nat)) (w2 : World) (y : Nat) (b : Bool), CM N mg ρ2 w2 l bs F U c { V with list := v2 } es2 → Fr XE ρ w ρ2 w2 → RwU gV nE (fup vf1 k y) 14 ρ2 w2 → RwB gK nE (fup kf1 k b) 15 ρ2 w2 → y < 18446744073709551616 → (x.form = 0 → y = x.val) → (AllNum F → es2 = errs) → es2.length ≤ errs.length + (k + 1 - lo) → EvS N mg ρ w l bs F U c V gV gK errs vf lo (k + 1) w2) := hid (fun ρ2 v2 es2 w2 y b q1 q2 q3 q4 q5 q6 q7 q8 => EvS.step q1 q2 (by rw [HnE.out]; exact q3) (by rw [HnE.out]; exact q4) hb1 q5 h11 h12 (fun z hz0 hzf => by rw [Hx.out] at hz0; cases hz0; exact q6 hzf) hk1 q7 q8)
  have c0 := hm1.cells.1
  have c7 : wr.cell? ⟨c, 7, none⟩ = some (.slice (some ⟨gV, 0, none⟩) nE nE) := by rw [← Hvv.out]; exact hm1.cb.cell 7
  have c8 : wr.cell? ⟨c, 8, none⟩ = some (.slice (some ⟨gK, 0, none⟩) nE nE) := by rw [← Hvo.out]; exact hm1.cb.cell 8
  have kfE : wr.cell? ⟨l.f, 3, none⟩ = some (.slice (some ⟨ge, 0, none⟩) nE qE) := by rw [← HuE.out]; exact hm1.fb.cell 3
  obtain ⟨fo, hfo⟩ : ∃ k, x.form = k := ⟨_, rfl⟩
  have n0 : wr.cell? ⟨ge, k * 6, none⟩ = some (.int .u8 (fo : Int)) := by rw [← hfo]; exact hce 0 (by decide)
  have n2 : wr.cell? ⟨ge, k * 6 + 2, none⟩ = some (.int .u64 (x.val : Int)) := hce 2 (by decide)
  have zV := hV1.get hkE
  have zVf := hV1.frozen k
  have zK := hK1.get hkE
  have zKf := hK1.frozen k
  have hfo6 : fo ≤ 6 := by rw [← hfo]; exact hEW.form
  have Hfo := hid hfo
  -- blocks that differ
  have hcV : c ≠ gV := fun e => by have h1 := hm1.rc; have h2 := hV1.2; rw [e, h2] at h1; cases h1
  have hcK : c ≠ gK := fun e => by have h1 := hm1.rc; have h2 := hK1.2; rw [e, h2] at h1; cases h1
  have hVK : gV ≠ gK := fun e => by have h1 := hV1.2; have h2 := hK1.2; rw [e, h2] at h1; cases h1
  have hgeV : ge ≠ gV := fun e => by
    have h1 := hm1.fr.e
    rw [HuE.out] at h1
    have h3 := h1.role ge rfl
    rw [e, hV1.2] at h3
    cases h3
  have hgeK : ge ≠ gK := fun e => by
    have h1 := hm1.fr.e
    rw [HuE.out] at h1
    have h3 := h1.role ge rfl
    rw [e, hK1.2] at h3
    cases h3
  have Hne := hid (And.intro hcV (And.intro hcK (And.intro hVK (And.intro hgeV hgeK))))
  have HcE : Hid (∀ j, j < 6 → wr.cell? ⟨ge, k * 6 + j, none⟩ = (enC x)[j]?) := hid hce
  clear hm1 hfr1 hV1 hK1 hb1 h11 h12 hA1 hl1 hce hx hEW HK hfo hcV hcK hVK hgeV hgeK
  by_cases h0 : fo = 0
  · have d2 : ((fo : Int) == 0) = true := by simp; omega
    have hval : x.val < 18446744073709551616 := HEW.out.val
    have Hf0 : Hid (x.form = 0) := hid (by rw [Hfo.out]; exact h0)
    clear h0
    go_upto_region 9 with fail
    have HB : Hid (Below wr.heap.size wr wr.drew) := hid (Drew.below ⟨1, rfl⟩ _)
    refine wp_region_heavy (fun wz => wz.cell? ⟨c, 7, none⟩ = some (.slice (some ⟨gV, 0, none⟩) nE nE) ∧ wz.cell? ⟨c, 8, none⟩ = some (.slice (some ⟨gK, 0, none⟩) nE nE) ∧ wz.cell? ⟨ge, k * 6 + 2, none⟩ = some (.int .u64 (x.val : Int))) 16 [0, 1, 2, 3, 4, 5, 6, 7, 8, 9, 10, 11, 12, 13, 14] [15] rfl (by kernel_rfl) (by kernel_rfl) (fun d _ _ _ _ h => by cases d <;> exact h) ⟨c7, c8, n2⟩ ?_
    have zV' : wr.drew.cell? ⟨gV, k, none⟩ = some (.int .u64 ((vf1 k : Nat) : Int)) := zV
    have zVf' : wr.drew.frozen? ⟨gV, k, none⟩ = false := zVf
    have zK' : wr.drew.cell? ⟨gK, k, none⟩ = some (.bool (kf1 k)) := zK
    have zKf' : wr.drew.frozen? ⟨gK, k, none⟩ = false := zKf
    have c7' : wr.drew.cell? ⟨c, 7, none⟩ = some (.slice (some ⟨gV, 0, none⟩) nE nE) := c7
    have c8' : wr.drew.cell? ⟨c, 8, none⟩ = some (.slice (some ⟨gK, 0, none⟩) nE nE) := c8
    have n2' : wr.drew.cell? ⟨ge, k * 6 + 2, none⟩ = some (.int .u64 (x.val : Int)) := n2
    generalize wr.drew = wd at HB zV' zVf' zK' zKf' c7' c8' n2' ⊢
    clear zV zVf zK zKf c7 c8 n2 n0 c0 kfE
    have hV2 := (HV1.out.below HB.out).set hkE x.val
    have hfV : Fr (fun r => r == 14) ρ1 wd ρ1 (wd.setCell ⟨gV, k, none⟩ (.int .u64 (x.val : Int))) := Fr.set _ (by show (ρ1 gV == 14) = true; rw [HV1.out.2]; rfl)
    have hm2 := (Hm1.out.below HB.out).frame hfV (fun r h1 h2 => by simp; omega)
    have hK2 := (HK1.out.below HB.out).fr hfV rfl
    have s7 : (wd.setCell ⟨gV, k, none⟩ (.int .u64 (x.val : Int))).cell? ⟨c, 7, none⟩ = some (.slice (some ⟨gV, 0, none⟩) nE nE) := by rw [← Hvv.out]; exact hm2.cb.cell 7
    have s8 : (wd.setCell ⟨gV, k, none⟩ (.int .u64 (x.val : Int))).cell? ⟨c, 8, none⟩ = some (.slice (some ⟨gK, 0, none⟩) nE nE) := by rw [← Hvo.out]; exact hm2.cb.cell 8
    have s2 : (wd.setCell ⟨gV, k, none⟩ (.int .u64 (x.val : Int))).cell? ⟨ge, k * 6 + 2, none⟩ = some (.int .u64 (x.val : Int)) := by
      obtain ⟨ge2, e, _, hc2⟩ := hm2.expr HuE.out Hx.out
      cases e
      exact hc2 2 (by decide)
    have sK : (wd.setCell ⟨gV, k, none⟩ (.int .u64 (x.val : Int))).cell? ⟨gK, k, none⟩ = some (.bool (kf1 k)) := hK2.get hkE
    have sKf : (wd.setCell ⟨gV, k, none⟩ (.int .u64 (x.val : Int))).frozen? ⟨gK, k, none⟩ = false := hK2.frozen k
    have HS2 := hid (And.intro s7 (And.intro s8 s2))
    have HF : Hid (EvS N mg ρ w l bs F U c V gV gK errs vf lo (k + 1) ((wd.setCell ⟨gV, k, none⟩ (.int .u64 (x.val : Int))).setCell ⟨gK, k, none⟩ (.bool true))) := hid (by
      have hfK : Fr (fun r => r == 15) ρ1 (wd.setCell ⟨gV, k, none⟩ (.int .u64 (x.val : Int))) ρ1 ((wd.setCell ⟨gV, k, none⟩ (.int .u64 (x.val : Int))).setCell ⟨gK, k, none⟩ (.bool true)) := Fr.set _ (by show (ρ1 gK == 15) = true; rw [HK1.out.2]; rfl)
      exact Hst.out ρ1 v1 es1 _ x.val true (hm2.frame hfK (fun r h1 h2 => by simp; omega)) (((Hfr1.out.trans (Fr.below HB.out)).trans (hfV.one rfl)).trans (hfK.one rfl)) (hV2.fr hfK rfl) (hK2.set hkE true) hval (fun _ => rfl) HA1.out (by have := Hl1.out; omega))
    clear hV2 hfV hm2 hK2
    apply Exists.intro
    refine ⟨?_, ?_⟩
    · intro W hW
      have q7 : ∀ z, (W z).cell? ⟨c, 7, none⟩ = some (.slice (some ⟨gV, 0, none⟩) nE nE) := fun z => (hW z).1
      have q8 : ∀ z, (W z).cell? ⟨c, 8, none⟩ = some (.slice (some ⟨gK, 0, none⟩) nE nE) := fun z => (hW z).2.1
      have q2 : ∀ z, (W z).cell? ⟨ge, k * 6 + 2, none⟩ = some (.int .u64 (x.val : Int)) := fun z => (hW z).2.2
      clear hW
      simp only [List.take, opsAt, List.drop, List.cons_append, List.nil_append]
      repeat (go_big_quiet_step (fail))
      exact rfl
    simp only [wpHv, opsAt, List.take, List.drop, List.cons_append, List.nil_append]
    go_wp2_with fail
    refine ⟨HS2.out, ?_⟩
    simp only [QN]
    go_wp2
    exact ⟨⟨k + 1, by go_num, by omega, by omega, HF⟩, by simp [intOf]; omega⟩
  have d2 : ((fo : Int) == 0) = false := by simp; omega
  have HnA : Hid (¬ AllNum F) := hid (fun hh => h0 (by rw [← Hfo.out]; exact hh x (List.mem_of_getElem? Hx.out)))
  have Hf0 : Hid (x.form ≠ 0) := hid (by rw [Hfo.out]; exact h0)
  by_cases h1 : fo = 1
  · have d3 : ((fo : Int) == 1) = true := by simp; omega
    have hf1 : x.form = 1 := by rw [Hfo.out]; exact h1
    have hed := HRx.out k x (by rw [HnE.out]; exact hkE) Hx.out hf1
    obtain ⟨d, hd⟩ : ∃ d : Nat, eDof F x = (d : Int) := (eDof_nat F x).elim (fun e => absurd e hed) (fun e => e)
    obtain ⟨y, hy, _, hys⟩ := eDof_ok hd
    have hdn : d < nd := by rw [← Hnd.out]; exact (List.getElem?_eq_some_iff.1 hy).1
    have hyD := HW.out.d y (List.mem_of_getElem? hy)
    obtain ⟨a, hya, ha1, ha2⟩ := hyD.con hys
    have haE : a < nE := by have := hyD.e.2; rw [HnE.out] at this; omega
    obtain ⟨gd, egd, _, hcy⟩ := Hm1.out.decl Hud.out hy
    subst egd
    have y4 : wr.cell? ⟨gd, d * 11 + 4, none⟩ = some (.int .i32 (a : Int)) := by rw [← hya]; exact hcy 4 (by decide)
    have kfD : wr.cell? ⟨l.f, 1, none⟩ = some (.slice (some ⟨gd, 0, none⟩) nd qd) := by rw [← Hud.out]; exact Hm1.out.fb.cell 1
    have c5 : wr.cell? ⟨c, 5, none⟩ = some (.slice (some ⟨gE, 0, none⟩) nE nE) := by rw [← Hve.out]; exact Hm1.out.cb.cell 5
    have zE : wr.cell? ⟨gE, k, none⟩ = some (.int .i32 (d : Int)) := by
      have := (HE.out.fr Hfr1.out rfl).get hkE
      rw [eDA_get Hx.out, hd] at this
      exact this
    obtain ⟨va, hva⟩ : ∃ v, vf1 a = v := ⟨_, rfl⟩
    obtain ⟨ba, hba⟩ : ∃ v, kf1 a = v := ⟨_, rfl⟩
    have zVa : wr.cell? ⟨gV, a, none⟩ = some (.int .u64 (va : Int)) := by rw [← hva]; exact HV1.out.get haE
    have zKa : wr.cell? ⟨gK, a, none⟩ = some (.bool ba) := by rw [← hba]; exact HK1.out.get haE
    have hvab : va < 18446744073709551616 := by rw [← hva]; exact Hb1.out a
    have i2 : (d : Int) < (nd : Int) := by omega
    have i3 : (a : Int) < (nE : Int) := by omega
    have Hva := hid hva
    have Hba := hid hba
    clear hf1 hed hd hy hys hyD hya ha1 ha2 hcy hva hba h1 h0
    go_upto_region 11 with fail
    go_quiet (fail)
    have HD1 : Hid (Drew wr (wr.drewN nq)) := hid ((Drew.refl wr).next nq)
    have t7 : (wr.drewN nq).cell? ⟨c, 7, none⟩ = some (.slice (some ⟨gV, 0, none⟩) nE nE) := c7
    have t8 : (wr.drewN nq).cell? ⟨c, 8, none⟩ = some (.slice (some ⟨gK, 0, none⟩) nE nE) := c8
    have tVa : (wr.drewN nq).cell? ⟨gV, a, none⟩ = some (.int .u64 (va : Int)) := zVa
    have tKa : (wr.drewN nq).cell? ⟨gK, a, none⟩ = some (.bool ba) := zKa
    generalize wr.drewN nq = wq at HD1 t7 t8 tVa tKa ⊢
    clear zV zVf zK zKf c7 c8 n2 n0 c0 kfE y4 kfD c5 zE zVa zKa
    go_upto_region 12 with fail
    have HB : Hid (Below wr.heap.size wr wq.drew) := hid ((HD1.out.next 1).below _)
    refine wp_region_heavy (fun wz => wz.cell? ⟨c, 7, none⟩ = some (.slice (some ⟨gV, 0, none⟩) nE nE) ∧ wz.cell? ⟨c, 8, none⟩ = some (.slice (some ⟨gK, 0, none⟩) nE nE) ∧ wz.cell? ⟨gV, a, none⟩ = some (.int .u64 (va : Int)) ∧ wz.cell? ⟨gK, a, none⟩ = some (.bool ba)) 26 [0, 1, 2, 3, 4, 5, 6, 7, 8, 9, 10, 11, 12, 13, 14, 15, 16, 17, 18, 19, 20, 21, 22, 23, 24] [25] rfl (by kernel_rfl) (by kernel_rfl) (fun d _ _ _ _ h => by cases d <;> exact h) ⟨t7, t8, tVa, tKa⟩ ?_
    have hV0 := HV1.out.below HB.out
    have hK0 := HK1.out.below HB.out
    have zV' := hV0.get hkE
    have zVf' := hV0.frozen k
    generalize wq.drew = wd at HB hV0 hK0 zV' zVf' ⊢
    have hV2 := hV0.set hkE va
    have hfV : Fr (fun r => r == 14) ρ1 wd ρ1 (wd.setCell ⟨gV, k, none⟩ (.int .u64 (va : Int))) := Fr.set _ (by show (ρ1 gV == 14) = true; rw [HV1.out.2]; rfl)
    have hm2 := (Hm1.out.below HB.out).frame hfV (fun r h1 h2 => by simp; omega)
    have hK2 := hK0.fr hfV rfl
    have s7 : (wd.setCell ⟨gV, k, none⟩ (.int .u64 (va : Int))).cell? ⟨c, 7, none⟩ = some (.slice (some ⟨gV, 0, none⟩) nE nE) := by rw [← Hvv.out]; exact hm2.cb.cell 7
    have s8 : (wd.setCell ⟨gV, k, none⟩ (.int .u64 (va : Int))).cell? ⟨c, 8, none⟩ = some (.slice (some ⟨gK, 0, none⟩) nE nE) := by rw [← Hvo.out]; exact hm2.cb.cell 8
    have sVa : (wd.setCell ⟨gV, k, none⟩ (.int .u64 (va : Int))).cell? ⟨gV, a, none⟩ = some (.int .u64 (va : Int)) := by
      have := hV2.get haE
      by_cases e : a = k
      · rw [e, fup_self] at this; rw [e]; exact this
      · rw [fup_ne _ _ e, Hva.out] at this; exact this
    have sKa : (wd.setCell ⟨gV, k, none⟩ (.int .u64 (va : Int))).cell? ⟨gK, a, none⟩ = some (.bool ba) := by rw [← Hba.out]; exact hK2.get haE
    have sK : (wd.setCell ⟨gV, k, none⟩ (.int .u64 (va : Int))).cell? ⟨gK, k, none⟩ = some (.bool (kf1 k)) := hK2.get hkE
    have sKf : (wd.setCell ⟨gV, k, none⟩ (.int .u64 (va : Int))).frozen? ⟨gK, k, none⟩ = false := hK2.frozen k
    have HS2 := hid (And.intro s7 (And.intro s8 (And.intro sVa sKa)))
    have HF : Hid (EvS N mg ρ w l bs F U c V gV gK errs vf lo (k + 1) ((wd.setCell ⟨gV, k, none⟩ (.int .u64 (va : Int))).setCell ⟨gK, k, none⟩ (.bool ba))) := hid (by
      have hfK : Fr (fun r => r == 15) ρ1 (wd.setCell ⟨gV, k, none⟩ (.int .u64 (va : Int))) ρ1 ((wd.setCell ⟨gV, k, none⟩ (.int .u64 (va : Int))).setCell ⟨gK, k, none⟩ (.bool ba)) := Fr.set _ (by show (ρ1 gK == 15) = true; rw [HK1.out.2]; rfl)
      exact Hst.out ρ1 v1 es1 _ va ba (hm2.frame hfK (fun r h1 h2 => by simp; omega)) (((Hfr1.out.trans (Fr.below HB.out)).trans (hfV.one rfl)).trans (hfK.one rfl)) (hV2.fr hfK rfl) (hK2.set hkE ba) hvab (fun hh => absurd hh Hf0.out) (fun hh => absurd hh HnA.out) (by have := Hl1.out; omega))
    clear hV2 hfV hm2 hK2 hV0 hK0 t7 t8 tVa tKa
    apply Exists.intro
    refine ⟨?_, ?_⟩
    · intro W hW
      have q7 : ∀ z, (W z).cell? ⟨c, 7, none⟩ = some (.slice (some ⟨gV, 0, none⟩) nE nE) := fun z => (hW z).1
      have q8 : ∀ z, (W z).cell? ⟨c, 8, none⟩ = some (.slice (some ⟨gK, 0, none⟩) nE nE) := fun z => (hW z).2.1
      have q2 : ∀ z, (W z).cell? ⟨gV, a, none⟩ = some (.int .u64 (va : Int)) := fun z => (hW z).2.2.1
      have q3 : ∀ z, (W z).cell? ⟨gK, a, none⟩ = some (.bool ba) := fun z => (hW z).2.2.2
      clear hW
      simp only [List.take, opsAt, List.drop, List.cons_append, List.nil_append]
      repeat (go_big_quiet_step (fail))
      exact rfl
    simp only [wpHv, opsAt, List.take, List.drop, List.cons_append, List.nil_append]
    go_wp2_with fail
    refine ⟨HS2.out, ?_⟩
    simp only [QN]
    go_wp2
    exact ⟨⟨k + 1, by go_num, by omega, by omega, HF⟩, by simp [intOf]; omega⟩
  have d3 : ((fo : Int) == 1) = false := by simp; omega
  have hf2 : 2 ≤ fo := by omega
  obtain ⟨la, ra, hla, hra, _, hla2, _, hra2⟩ := HEW.out.op (by rw [Hfo.out]; exact hf2)
  have n4 : wr.cell? ⟨ge, k * 6 + 4, none⟩ = some (.int .i32 (la : Int)) := by rw [← hla]; exact HcE.out 4 (by decide)
  have n5 : wr.cell? ⟨ge, k * 6 + 5, none⟩ = some (.int .i32 (ra : Int)) := by rw [← hra]; exact HcE.out 5 (by decide)
  obtain ⟨b1, hb1'⟩ : ∃ v, kf1 la = v := ⟨_, rfl⟩
  obtain ⟨b2, hb2'⟩ : ∃ v, kf1 ra = v := ⟨_, rfl⟩
  have zK1 : wr.cell? ⟨gK, la, none⟩ = some (.bool b1) := by rw [← hb1']; exact HK1.out.get (by omega)
  have zK2 : wr.cell? ⟨gK, ra, none⟩ = some (.bool b2) := by rw [← hb2']; exact HK1.out.get (by omega)
  have i4 : (la : Int) < (nE : Int) := by omega
  have i5 : (ra : Int) < (nE : Int) := by omega
  have hlak : la < k := hla2
  have hrak : ra < k := hra2
  clear h0 h1 hla hra hla2 hra2 hb1' hb2'
  have HFn : Hid (∀ wz, Drew wr wz → EvS N mg ρ w l bs F U c V gV gK errs vf lo (k + 1) wz) := hid (fun wz hd => Hst.out ρ1 v1 es1 wz (vf1 k) (kf1 k) (Hm1.out.below (hd.below _)) (Hfr1.out.trans (Fr.below (hd.below _))) (by rw [fup_id]; exact HV1.out.below (hd.below _)) (by rw [fup_id]; exact HK1.out.below (hd.below _)) (Hb1.out k) (fun hh => absurd hh Hf0.out) (fun hh => absurd hh HnA.out) (by have := Hl1.out; omega))
  cases b1 with
  | false =>
    as_aux_lemma =>
    go_upto_region 6 with fail
    go_quiet (fail)
    have HF := hid (HFn.out (wr.drewN nq) ((Drew.refl wr).next nq))
    generalize wr.drewN nq = wq at HF ⊢
    clear zV zVf zK zKf c7 c8 n2 n0 c0 kfE n4 n5 zK1 zK2
    go_wp2
    exact ⟨⟨k + 1, by go_num, by omega, by omega, HF⟩, by simp [intOf]; omega⟩
  | true =>
  cases b2 with
  | false =>
    as_aux_lemma =>
    go_upto_region 6 with fail
    go_quiet (fail)
    have HF := hid (HFn.out (wr.drewN nq) ((Drew.refl wr).next nq))
    generalize wr.drewN nq = wq at HF ⊢
    clear zV zVf zK zKf c7 c8 n2 n0 c0 kfE n4 n5 zK1 zK2
    go_wp2
    exact ⟨⟨k + 1, by go_num, by omega, by omega, HF⟩, by simp [intOf]; omega⟩
  | true =>
  obtain ⟨x1, hx1'⟩ : ∃ v, vf1 la = v := ⟨_, rfl⟩
  obtain ⟨x2, hx2'⟩ : ∃ v, vf1 ra = v := ⟨_, rfl⟩
  have zV1 : wr.cell? ⟨gV, la, none⟩ = some (.int .u64 (x1 : Int)) := by rw [← hx1']; exact HV1.out.get (by omega)
  have zV2 : wr.cell? ⟨gV, ra, none⟩ = some (.int .u64 (x2 : Int)) := by rw [← hx2']; exact HV1.out.get (by omega)
  have hx1b : x1 < 18446744073709551616 := by rw [← hx1']; exact Hb1.out _
  have hx2b : x2 < 18446744073709551616 := by rw [← hx2']; exact Hb1.out _
  have Hx1 := hid hx1'
  have Hx2 := hid hx2'
  have n1 : wr.cell? ⟨ge, k * 6 + 1, none⟩ = some (.int .i64 (x.pos : Int)) := HcE.out 1 (by decide)
  clear hx1' hx2'
  go_upto_region 6 with fail
  go_quiet (fail)
  have HD1 : Hid (Drew wr (wr.drewN nq)) := hid ((Drew.refl wr).next nq)
  generalize wr.drewN nq = wq at HD1 ⊢
  have HS : Hid (∀ wz, Below wr.heap.size wr wz → wz.cell? ⟨c, 7, none⟩ = some (.slice (some ⟨gV, 0, none⟩) nE nE) ∧ wz.cell? ⟨c, 8, none⟩ = some (.slice (some ⟨gK, 0, none⟩) nE nE) ∧ wz.cell? ⟨ge, k * 6 + 4, none⟩ = some (.int .i32 (la : Int)) ∧ wz.cell? ⟨ge, k * 6 + 5, none⟩ = some (.int .i32 (ra : Int)) ∧ wz.cell? ⟨gV, la, none⟩ = some (.int .u64 (x1 : Int)) ∧ wz.cell? ⟨gV, ra, none⟩ = some (.int .u64 (x2 : Int))) := hid (fun wz hb => ⟨by rw [keepCell _ (hb.block c Hm1.out.cb.lt)]; exact c7, by rw [keepCell _ (hb.block c Hm1.out.cb.lt)]; exact c8, by rw [keepCell _ (hb.block ge hge)]; exact n4, by rw [keepCell _ (hb.block ge hge)]; exact n5, by rw [keepCell _ (hb.block gV HV1.out.1.lt)]; exact zV1, by rw [keepCell _ (hb.block gV HV1.out.1.lt)]; exact zV2⟩)
  have HB : Hid (Below wr.heap.size wr wq.drew) := hid ((HD1.out.next 1).below _)
  have HnC : Hid (∀ wz, Below wr.heap.size wr wz → wz.cell? ⟨ge, k * 6, none⟩ = some (.int .u8 (fo : Int)) ∧ wz.cell? ⟨ge, k * 6 + 1, none⟩ = some (.int .i64 (x.pos : Int)) ∧ ge < wz.heap.size) := hid (fun wz hb => ⟨by rw [keepCell _ (hb.block ge hge)]; exact n0, by rw [keepCell _ (hb.block ge hge)]; exact n1, Nat.lt_of_lt_of_le hge hb.size⟩)
  clear zV zVf zK zKf c7 c8 n2 n0 c0 kfE n4 n5 zK1 zK2 zV1 zV2 n1
  go_upto_region 7 with fail
  refine wp_region_hlh (fun wz => wz.cell? ⟨c, 7, none⟩ = some (.slice (some ⟨gV, 0, none⟩) nE nE) ∧ wz.cell? ⟨c, 8, none⟩ = some (.slice (some ⟨gK, 0, none⟩) nE nE) ∧ wz.cell? ⟨ge, k * 6 + 4, none⟩ = some (.int .i32 (la : Int)) ∧ wz.cell? ⟨ge, k * 6 + 5, none⟩ = some (.int .i32 (ra : Int)) ∧ wz.cell? ⟨gV, la, none⟩ = some (.int .u64 (x1 : Int)) ∧ wz.cell? ⟨gV, ra, none⟩ = some (.int .u64 (x2 : Int))) 38 [0, 1, 2, 3, 4, 5, 6, 7, 8, 9, 10, 11, 12, 13, 14, 15, 16, 17, 18, 19, 20, 21, 22, 23, 24, 25, 26, 27, 28, 29, 30, 31] [32] [33, 34, 35, 36] [37] rfl (by kernel_rfl) (by kernel_rfl) (fun d _ _ _ _ h => by cases d <;> exact h) (HS.out _ HB.out) ?_
  apply Exists.intro
  refine ⟨?_, ?_⟩
  · intro W hW
    have q7 : ∀ z, (W z).cell? ⟨c, 7, none⟩ = some (.slice (some ⟨gV, 0, none⟩) nE nE) := fun z => (hW z).1
    have q8 : ∀ z, (W z).cell? ⟨c, 8, none⟩ = some (.slice (some ⟨gK, 0, none⟩) nE nE) := fun z => (hW z).2.1
    have q4 : ∀ z, (W z).cell? ⟨ge, k * 6 + 4, none⟩ = some (.int .i32 (la : Int)) := fun z => (hW z).2.2.1
    have q5 : ∀ z, (W z).cell? ⟨ge, k * 6 + 5, none⟩ = some (.int .i32 (ra : Int)) := fun z => (hW z).2.2.2.1
    have q1 : ∀ z, (W z).cell? ⟨gV, la, none⟩ = some (.int .u64 (x1 : Int)) := fun z => (hW z).2.2.2.2.1
    have q2 : ∀ z, (W z).cell? ⟨gV, ra, none⟩ = some (.int .u64 (x2 : Int)) := fun z => (hW z).2.2.2.2.2
    clear hW
    simp only [List.take, opsAt, List.drop, List.cons_append, List.nil_append]
    repeat (go_big_quiet_step (fail))
    exact rfl
  simp only [List.take, List.drop, opsAt, List.cons_append, List.nil_append, wpHvK]
  generalize wq.drew = wd at HB ⊢
  have HAp := hid (applyW (Hm1.out.below HB.out) (HnC.out wd HB.out).1 (HnC.out wd HB.out).2.1 (HnC.out wd HB.out).2.2 hf2 hfo6 HEW.out.pos hx1b hx2b (by have := Hl1.out; omega))
  go_wp2_with fail
  refine HAp.out.mono ?_
  rintro e w4 ⟨y, ok, rfl, hyb, hq4⟩
  have HAf : Hid (∃ ρ2 v2 es2, CM N mg ρ2 w4 l bs F U c { V with list := v2 } es2 ∧ Fr XD ρ1 wd ρ2 w4 ∧ es2.length ≤ es1.length + 1) := hid (by
    rcases hq4.out with ⟨_, hbq⟩ | ⟨_, kk, hca⟩
    · exact ⟨ρ1, v1, es1, (Hm1.out.below HB.out).below hbq, Fr.below hbq, by omega⟩
    · obtain ⟨ρ2, v2, h1, h2⟩ := hca.m
      exact ⟨ρ2, v2, _, h1, h2, by rw [List.length_append, List.length_singleton]; exact Nat.le_refl _⟩)
  obtain ⟨ρ2, v2, es2, hm2, hfr2, hle2⟩ := HAf.out
  have hV2 := (HV1.out.below HB.out).fr hfr2 rfl
  have hK2 := (HK1.out.below HB.out).fr hfr2 rfl
  have t7 : w4.cell? ⟨c, 7, none⟩ = some (.slice (some ⟨gV, 0, none⟩) nE nE) := by rw [← Hvv.out]; exact hm2.cb.cell 7
  have t8 : w4.cell? ⟨c, 8, none⟩ = some (.slice (some ⟨gK, 0, none⟩) nE nE) := by rw [← Hvo.out]; exact hm2.cb.cell 8
  obtain ⟨ge2, ege, _, hce2⟩ := hm2.expr HuE.out Hx.out
  cases ege
  have HS4 : Hid (∀ wz : World, (∀ j, j < 6 → wz.cell? ⟨ge, k * 6 + j, none⟩ = (enC x)[j]?) → wz.cell? ⟨c, 7, none⟩ = some (.slice (some ⟨gV, 0, none⟩) nE nE) → wz.cell? ⟨c, 8, none⟩ = some (.slice (some ⟨gK, 0, none⟩) nE nE) → wz.cell? ⟨gV, la, none⟩ = some (.int .u64 (x1 : Int)) → wz.cell? ⟨gV, ra, none⟩ = some (.int .u64 (x2 : Int)) → wz.cell? ⟨c, 7, none⟩ = some (.slice (some ⟨gV, 0, none⟩) nE nE) ∧ wz.cell? ⟨c, 8, none⟩ = some (.slice (some ⟨gK, 0, none⟩) nE nE) ∧ wz.cell? ⟨ge, k * 6 + 4, none⟩ = some (.int .i32 (la : Int)) ∧ wz.cell? ⟨ge, k * 6 + 5, none⟩ = some (.int .i32 (ra : Int)) ∧ wz.cell? ⟨gV, la, none⟩ = some (.int .u64 (x1 : Int)) ∧ wz.cell? ⟨gV, ra, none⟩ = some (.int .u64 (x2 : Int))) := hid (fun wz h1 h2 h3 h4 h5 => ⟨h2, h3, by
      obtain ⟨_, _, g3, g4, _⟩ := HS.out wr (Below.refl _ _)
      rw [h1 4 (by decide), ← HcE.out 4 (by decide)]; exact g3, by
      obtain ⟨_, _, g3, g4, _⟩ := HS.out wr (Below.refl _ _)
      rw [h1 5 (by decide), ← HcE.out 5 (by decide)]; exact g4, h4, h5⟩)
  have hla3 : la < nE := by omega
  have hra3 : ra < nE := by omega
  have HSa := hid (HS4.out w4 hce2 t7 t8 (by rw [← Hx1.out]; exact hV2.get hla3) (by rw [← Hx2.out]; exact hV2.get hra3))
  have zV := hV2.get hkE
  have zVf := hV2.frozen k
  have hV3 := hV2.set hkE y
  have hfV : Fr (fun r => r == 14) ρ2 w4 ρ2 (w4.setCell ⟨gV, k, none⟩ (.int .u64 (y : Int))) := Fr.set _ (by show (ρ2 gV == 14) = true; rw [hV2.2]; rfl)
  have hm3 := hm2.frame hfV (fun r h1 h2 => by simp; omega)
  have hK3 := hK2.fr hfV rfl
  obtain ⟨ge3, ege, _, hce3⟩ := hm3.expr HuE.out Hx.out
  cases ege
  have HSb := hid (HS4.out (w4.setCell ⟨gV, k, none⟩ (.int .u64 (y : Int))) hce3 (by rw [← Hvv.out]; exact hm3.cb.cell 7) (by rw [← Hvo.out]; exact hm3.cb.cell 8) (by have := hV3.get hla3; rw [fup_ne _ _ (by omega), Hx1.out] at this; exact this) (by have := hV3.get hra3; rw [fup_ne _ _ (by omega), Hx2.out] at this; exact this))
  have sK : (w4.setCell ⟨gV, k, none⟩ (.int .u64 (y : Int))).cell? ⟨gK, k, none⟩ = some (.bool (kf1 k)) := hK3.get hkE
  have sKf : (w4.setCell ⟨gV, k, none⟩ (.int .u64 (y : Int))).frozen? ⟨gK, k, none⟩ = false := hK3.frozen k
  have HF : Hid (EvS N mg ρ w l bs F U c V gV gK errs vf lo (k + 1) ((w4.setCell ⟨gV, k, none⟩ (.int .u64 (y : Int))).setCell ⟨gK, k, none⟩ (.bool ok))) := hid (by
    have hfK : Fr (fun r => r == 15) ρ2 (w4.setCell ⟨gV, k, none⟩ (.int .u64 (y : Int))) ρ2 ((w4.setCell ⟨gV, k, none⟩ (.int .u64 (y : Int))).setCell ⟨gK, k, none⟩ (.bool ok)) := Fr.set _ (by show (ρ2 gK == 15) = true; rw [hK2.2]; rfl)
    exact Hst.out ρ2 v2 es2 _ y ok (hm3.frame hfK (fun r h1 h2 => by simp; omega)) ((((Hfr1.out.trans (Fr.below HB.out)).trans (hfr2.mono (fun r hr => by unfold XE; rw [hr]; rfl))).trans (hfV.one rfl)).trans (hfK.one rfl)) (hV3.fr hfK rfl) (hK3.set hkE ok) hyb (fun hh => absurd hh Hf0.out) (fun hh => absurd hh HnA.out) (by have := Hl1.out; omega))
  clear hm2 hfr2 hV2 hK2 hce2 hV3 hfV hm3 hK3 hce3 HAp hq4 HAf t7 t8
  go_wp2_with fail
  refine ⟨HSa.out, ?_⟩
  apply Exists.intro
  refine ⟨?_, ?_⟩
  · intro W hW
    clear hW
    (try simp only [List.take, opsAt, List.drop, List.cons_append, List.nil_append])
    repeat (go_big_quiet_step (fail))
    exact rfl
  (try simp only [wpHv, opsAt, List.take, List.drop, List.cons_append, List.nil_append])
  go_wp2_with fail
  refine ⟨HSb.out, ?_⟩
  simp only [QN]
  go_wp2
  exact ⟨⟨k + 1, by go_num, by omega, by omega, HF⟩, by simp [intOf]; omega⟩
end
end Go.Proofs.Qxb6500883aGreatDoor
