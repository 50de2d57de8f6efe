/- checkShapes. -/
import Derived.Test.Qxb6500883aGreatDoorScEc
namespace Go.Proofs.Qxb6500883aGreatDoor
open Go.RowKit
set_option linter.unusedSimpArgs false
set_option linter.unusedVariables false
/-- A union's first option is None. -/
def Leads (F : FS) (x : TN) (r : Nat) : Prop := x.lo < x.hi ∧ F.opts[x.lo]? = some r ∧ ∃ y, F.types[r]? = some y ∧ y.form = 1
/-- The containers among the first i declarations have fields. -/
def ShC (F : FS) (i : Nat) : Prop := ∀ a x, a < i → F.decls[a]? = some x → x.sort = 2 → x.fLo ≠ x.fHi
/-- The unions among the first i types. -/
def ShU (F : FS) (i : Nat) : Prop := ∀ a x, a < i → F.types[a]? = some x → x.form = 7 → 1 ≤ x.hi - x.lo ∧ x.hi - x.lo ≤ 128 ∧ ∀ r, Leads F x r → x.hi - x.lo ≠ 1
/-- Type j is the first option of one of the first i types, and None. -/
def Led (F : FS) (i j : Nat) : Prop := ∃ a x, a < i ∧ F.types[a]? = some x ∧ x.form = 7 ∧ Leads F x j
noncomputable def ioF (F : FS) (i j : Nat) : Bool := by
  classical
  exact decide (Led F i j)
theorem ioF_iff {F : FS} {i j : Nat} : ioF F i j = true ↔ Led F i j := by unfold ioF; simp
/-- None only where it leads; no length 0. -/
def ShN (F : FS) (vf : Nat → Nat) (i : Nat) : Prop := ∀ a x, a < i → F.types[a]? = some x → (x.form = 1 → Led F F.types.length a) ∧ (x.form = 3 ∨ x.form = 5 → ∀ e : Nat, x.count = (e : Int) → vf e ≠ 0)
structure ShOk (F : FS) (vf : Nat → Nat) : Prop where
  c : ShC F F.decls.length
  u : ShU F F.types.length
  n : ShN F vf F.types.length
theorem ShC.succ {F : FS} {i : Nat} {x : DN} (hx : F.decls[i]? = some x) : ShC F (i + 1) ↔ ShC F i ∧ (x.sort = 2 → x.fLo ≠ x.fHi) := by
  constructor
  · intro h; exact ⟨fun a y ha hy => h a y (by omega) hy, h i x (by omega) hx⟩
  · rintro ⟨h1, h2⟩ a y ha hy
    by_cases e : a = i
    · subst e; rw [hx] at hy; cases hy; exact h2
    · exact h1 a y (by omega) hy
theorem ShU.succ {F : FS} {i : Nat} {x : TN} (hx : F.types[i]? = some x) : ShU F (i + 1) ↔ ShU F i ∧ (x.form = 7 → 1 ≤ x.hi - x.lo ∧ x.hi - x.lo ≤ 128 ∧ ∀ r, Leads F x r → x.hi - x.lo ≠ 1) := by
  constructor
  · intro h; exact ⟨fun a y ha hy => h a y (by omega) hy, h i x (by omega) hx⟩
  · rintro ⟨h1, h2⟩ a y ha hy
    by_cases e : a = i
    · subst e; rw [hx] at hy; cases hy; exact h2
    · exact h1 a y (by omega) hy
theorem ShN.succ {F : FS} {vf : Nat → Nat} {i : Nat} {x : TN} (hx : F.types[i]? = some x) : ShN F vf (i + 1) ↔ ShN F vf i ∧ ((x.form = 1 → Led F F.types.length i) ∧ (x.form = 3 ∨ x.form = 5 → ∀ e : Nat, x.count = (e : Int) → vf e ≠ 0)) := by
  constructor
  · intro h; exact ⟨fun a y ha hy => h a y (by omega) hy, h i x (by omega) hx⟩
  · rintro ⟨h1, h2⟩ a y ha hy
    by_cases e : a = i
    · subst e; rw [hx] at hy; cases hy; exact h2
    · exact h1 a y (by omega) hy
theorem Led.succ {F : FS} {i j : Nat} {x : TN} (hx : F.types[i]? = some x) : Led F (i + 1) j ↔ Led F i j ∨ (x.form = 7 ∧ Leads F x j) := by
  constructor
  · rintro ⟨a, y, h1, h2, h3, h4⟩
    by_cases e : a = i
    · subst e; rw [hx] at h2; cases h2; exact .inr ⟨h3, h4⟩
    · exact .inl ⟨a, y, by omega, h2, h3, h4⟩
  · rintro (⟨a, y, h1, h2, h3, h4⟩ | ⟨h1, h2⟩)
    · exact ⟨a, y, by omega, h2, h3, h4⟩
    · exact ⟨i, x, by omega, hx, h1, h2⟩
/-- No new leader. -/
theorem ioF_same {F : FS} {i : Nat} {x : TN} (hx : F.types[i]? = some x) (h : x.form = 7 → ∀ r, ¬ Leads F x r) : ioF F (i + 1) = ioF F i := by
  funext j
  rw [Bool.eq_iff_iff, ioF_iff, ioF_iff, Led.succ hx]
  exact ⟨fun h1 => h1.elim (fun h => h) (fun h2 => absurd h2.2 (h h2.1 j)), .inl⟩
theorem ioF_new {F : FS} {i r : Nat} {x : TN} (hx : F.types[i]? = some x) (h7 : x.form = 7) (h : Leads F x r) : ioF F (i + 1) = fup (ioF F i) r true := by
  funext j
  by_cases e : j = r
  · subst e
    rw [fup_self, ioF_iff, Led.succ hx]
    exact .inr ⟨h7, h⟩
  · rw [fup_ne _ _ e, Bool.eq_iff_iff, ioF_iff, ioF_iff, Led.succ hx]
    refine ⟨fun h1 => h1.elim (fun h => h) (fun h2 => ?_), .inl⟩
    have h3 := h2.2.2.1
    rw [h.2.1] at h3
    cases h3
    exact absurd rfl e
theorem ioF_zero (F : FS) : ioF F 0 = fun _ => false := by
  funext j
  cases h : ioF F 0 j with
  | false => rfl
  | true =>
    obtain ⟨a, _, ha, _⟩ := ioF_iff.1 h
    exact absurd ha (Nat.not_lt_zero _)
theorem slice_o {a : Option Addr} {n cp lo hi : Nat} (h1 : lo ≤ hi) (h2 : hi ≤ n) (h3 : n ≤ cp) (h4 : cp ≤ maxLen) (h5 : a = none → cp = 0) (w : World) : (Instr.sliceAt 107 (.slice a n cp) (some (.int .i32 (lo : Int))) (some (.int .i32 (hi : Int))) none).run Tryz.prog w = .ok (.slice (subA a lo (cp == lo)) (hi - lo) (cp - lo)) w := by
  have e3 : ¬ (hi < lo) := by omega
  have e4 : (lo : Int) ≤ (hi : Int) := by omega
  have e5 : (hi : Int) ≤ (cp : Int) := by omega
  have e6 : hi ≤ cp := by omega
  have e7 : ¬ (cp < hi) := by omega
  cases a with
  | none =>
    have h0 := h5 rfl
    subst h0
    obtain rfl : hi = 0 := by omega
    obtain rfl : lo = 0 := by omega
    obtain rfl : n = 0 := by omega
    simp [Instr.sliceAt, go_sem, Instr.sliceBounds, subA]
  | some ad =>
    by_cases he : cp = lo
    · have ehl : hi = lo := by omega
      subst he
      subst ehl
      simp [Instr.sliceAt, go_sem, Instr.sliceBounds, subA]
    · have e8 : ¬ (cp - lo = 0) := by omega
      simp [Instr.sliceAt, go_sem, Instr.sliceBounds, h1, e3, e4, e5, e6, e7, e8, he, subA]
def fwS (k : Nat) : ByteArray := if k = 3 then ⟨#[86, 101, 99, 116, 111, 114]⟩ else ⟨#[66, 105, 116, 118, 101, 99, 116, 111, 114]⟩
theorem fwS_size (k : Nat) : (fwS k).size ≤ 9 := by unfold fwS; split <;> decide
theorem formWordX (k : Nat) (h : k = 3 ∨ k = 5) (w : World) : Calls Tryz.prog 94 #[.int .u8 (k : Int)] w fun e w' => e = .returned (.string (fwS k)) ∧ w' = w := by
  rcases h with rfl | rfl
  all_goals (
    go_enter Tryz.func94, Tryz.ntmps94
    go_wp2
    go_ret
    exact ⟨rfl, rfl⟩)
section
variable {N mg : Nat} {ρ ρ' ρ1 ρ2 : Rl} {w w' w0 w1 w2 wr : World} {l : PL} {bs : List UInt8} {F : FS} {U : FV} {c n : Nat} {V V' : CV} {errs es es2 : List (Nat × Nat)} {v v1 v2 : Value}
theorem CM.opt (h : CM N mg ρ w l bs F U c V errs) {ad : Option Addr} {nd qd : Nat} (hu : U.o = .slice ad nd qd) {i x : Nat} (hx : F.opts[i]? = some x) :
    ∃ gd, ad = some ⟨gd, 0, none⟩ ∧ gd < w.heap.size ∧ w.cell? ⟨gd, i, none⟩ = some (.int .i32 (x : Int)) := by
  obtain ⟨gd, q, hv, hlt, hc⟩ := h.fr.o.get (by decide) (fun _ => rfl) hx
  rw [hu] at hv
  injection hv with e1 e2 e3
  refine ⟨gd, e1, hlt, ?_⟩
  have := hc 0 (by decide)
  simpa [rtO] using this
set_option maxRecDepth 100000 in
set_option maxHeartbeats 8000000 in
theorem checkShapesW {mB gT gE gV : Nat} {vo : Value} {od : List Nat} {vf : Nat → Nat} (h : CM N mg ρ w l bs F U c V []) (hE3 : E3 F mB gT gE vo od gV vf ρ w) (hW : FWf l.n F) (hz : FSz F) (hvv : V.eV = .slice (some ⟨gV, 0, none⟩) F.exprs.length F.exprs.length) :
    Calls Tryz.prog 58 #[.pointer (some ⟨c, 0, none⟩)] w fun e w' => e = .returned (.tuple #[]) ∧ Hid (Ph (E3 F mB gT gE vo od gV vf) N mg ρ w l bs F U c V (ShOk F vf) 1000000 w') := by
  have HW := hid hW
  have Hz := hid hz
  have HE3 := hid hE3
  have hne := hz.e
  have hnd := hz.d
  have hnt := hz.t
  obtain ⟨ad, qd, hud⟩ := h.fr.d.shape
  obtain ⟨aT, qT, huT⟩ := h.fr.t.shape
  obtain ⟨aO, qO, huO⟩ := h.fr.o.shape
  have hcO : F.opts.length ≤ qO ∧ qO ≤ maxLen ∧ (aO = none → qO = 0) := by
    have h1 := h.fr.o
    rw [huO] at h1
    exact ⟨h1.cap.2, h1.cap.1, fun h0 => (h1.src.2.1 h0).2⟩
  obtain ⟨nd, hnd'⟩ : ∃ k, F.decls.length = k := ⟨_, rfl⟩
  obtain ⟨nT, hnT'⟩ : ∃ k, F.types.length = k := ⟨_, rfl⟩
  obtain ⟨nE, hnE'⟩ : ∃ k, F.exprs.length = k := ⟨_, rfl⟩
  obtain ⟨nO, hnO'⟩ : ∃ k, F.opts.length = k := ⟨_, rfl⟩
  rw [hnd'] at hud hnd
  rw [hnT'] at huT hnt
  rw [hnE'] at hne hvv
  rw [hnO'] at huO hcO
  have Hnd := hid hnd'
  have HnT := hid hnT'
  have HnE := hid hnE'
  have HnO := hid hnO'
  have Hud := hid hud
  have HuT := hid huT
  have HuO := hid huO
  have HcO := hid hcO
  have Hvv := hid hvv
  have c0 := h.cells.1
  have kfD : w.cell? ⟨l.f, 1, none⟩ = some (.slice ad nd qd) := by rw [← hud]; exact h.fb.cell 1
  have HI0 : Hid (Ph (E3 F mB gT gE vo od gV vf) N mg ρ w l bs F U c V (ShC F 0) 0 w) := hid ⟨ρ, V.list, [], h, Fr.refl _ _ _, ⟨fun _ a x ha => absurd ha (Nat.not_lt_zero _), fun _ => rfl⟩, Nat.le_refl _, hE3⟩
  clear h hE3 hW hz hud huT huO hcO hnd' hnT' hnE' hnO' hvv
  go_enter Tryz.func58, Tryz.ntmps58
  go_upto_region 2 with fail
  clear c0 kfD
  go_loopw [21] (fun t wr => ∃ i : Nat, t = .int .i64 (i : Int) ∧ i ≤ nd ∧ Hid (Ph (E3 F mB gT gE vo od gV vf) N mg ρ w l bs F U c V (ShC F i) i wr)) (fun t _ => nd - (intOf t).toNat)
  case atStart => exact ⟨0, rfl, Nat.zero_le _, HI0⟩
  case round =>
  clear HI0
  obtain ⟨i, rfl, hi, HI⟩ := hrel
  by_cases hin : i < nd
  rotate_left
  · have d1 : decide ((i : Int) < (nd : Int)) = false := decide_eq_false (by omega)
    have kfT : wr.cell? ⟨l.f, 2, none⟩ = some (.slice aT nT qT) := by
      obtain ⟨ρ1, v1, es1, hm1, _⟩ := HI.out.m
      rw [← HuT.out]
      exact hm1.fb.cell 2
    obtain ⟨gI, hgI⟩ : ∃ g, wr.heap.size = g := ⟨_, rfl⟩
    have hmk : (Instr.makeSlice 55 (.int .i64 (nT : Int)) (.int .i64 (nT : Int))).run Tryz.prog wr = .ok (.slice (some ⟨wr.heap.size, 0, none⟩) nT nT) (wr.alloc (.cells (madeCells #[.bool false] nT) 4)) := run_make_row' (P := Tryz.prog) 55 4 (.bool false) 1 (by kernel_rfl) (by kernel_rfl) rfl .i64 .i64 nT (by omega) (by omega) wr
    rw [hgI] at hmk
    obtain ⟨wa, hwa⟩ : ∃ y, wr.alloc (.cells (madeCells #[.bool false] nT) 4) = y := ⟨_, rfl⟩
    rw [hwa] at hmk
    have HJ0 : Hid (Ph (fun ρ w => E3 F mB gT gE vo od gV vf ρ w ∧ RwB gI nT (ioF F 0) 16 ρ w) N mg ρ w l bs F U c V (ShC F nd ∧ ShU F 0) (65536 + 0) wa) := hid (by
      obtain ⟨ρ1, v1, es1, hm1, hfr1, hp1, hb1, hs1⟩ := HI.out.m
      obtain ⟨r1, r2⟩ := hm1.role (o := .cells (madeCells #[.bool false] nT) 4) 16
      rw [hgI, hwa] at r1 r2
      refine ⟨fup ρ1 gI 16, v1, es1, r1, hfr1.trans r2, hp1.trans ?_, by omega, E3.keeps _ _ _ _ hs1 r2, ?_⟩
      · rw [show i = nd by omega]
        exact ⟨fun h => ⟨h, fun a x ha => absurd ha (Nat.not_lt_zero _)⟩, fun h => h.1⟩
      · rw [ioF_zero, ← hwa, ← hgI]
        exact RwK.new 4 (fun x : Bool => Value.bool x) ρ1 wr nT 16 false)
    have HgI : Hid (w.heap.size ≤ gI) := hid (by
      obtain ⟨ρ1, v1, es1, hm1, hfr1, _⟩ := HI.out.m
      rw [← hgI]
      exact hfr1.size)
    have kfT2 : wa.cell? ⟨l.f, 2, none⟩ = some (.slice aT nT qT) := by
      obtain ⟨ρ1, v1, es1, hm1, _⟩ := HJ0.out.m
      rw [← HuT.out]
      exact hm1.fb.cell 2
    clear HI hgI hwa
    go_upto_region 10 with fail
    clear hmk kfT kfT2
    go_loopw [72] (fun t wr => ∃ i : Nat, t = .int .i64 (i : Int) ∧ i ≤ nT ∧ Hid (Ph (fun ρ w => E3 F mB gT gE vo od gV vf ρ w ∧ RwB gI nT (ioF F i) 16 ρ w) N mg ρ w l bs F U c V (ShC F nd ∧ ShU F i) (65536 + i) wr)) (fun t _ => nT - (intOf t).toNat)
    case atStart => exact ⟨0, rfl, Nat.zero_le _, HJ0⟩
    case round =>
    clear HJ0
    obtain ⟨k, rfl, hk, HK⟩ := hrel
    have HKp : Hid (∀ k, Keeps (fun ρ w => E3 F mB gT gE vo od gV vf ρ w ∧ RwB gI nT (ioF F k) 16 ρ w)) := hid (fun k => Keeps.and E3.keeps (RwK.keeps rfl))
    by_cases hkn : k < nT
    rotate_left
    · have d2 : decide ((k : Int) < (nT : Int)) = false := decide_eq_false (by omega)
      have HJ1 : Hid (Ph (fun ρ w => E3 F mB gT gE vo od gV vf ρ w ∧ RwB gI nT (ioF F nT) 16 ρ w) N mg ρ w l bs F U c V ((ShC F nd ∧ ShU F nT) ∧ ShN F vf 0) (131072 + 0) wr) := hid (by
        have := HK.out
        rw [show k = nT by omega] at this
        exact this.iff ⟨fun h => ⟨h, fun a x ha => absurd ha (Nat.not_lt_zero _)⟩, fun h => h.1⟩ (by omega))
      have kfT : wr.cell? ⟨l.f, 2, none⟩ = some (.slice aT nT qT) := by
        obtain ⟨ρ1, v1, es1, hm1, _⟩ := HK.out.m
        rw [← HuT.out]
        exact hm1.fb.cell 2
      clear HK
      go_upto_region 26 with fail
      clear kfT
      go_loopw [173] (fun t wr => ∃ i : Nat, t = .int .i64 (i : Int) ∧ i ≤ nT ∧ Hid (Ph (fun ρ w => E3 F mB gT gE vo od gV vf ρ w ∧ RwB gI nT (ioF F nT) 16 ρ w) N mg ρ w l bs F U c V ((ShC F nd ∧ ShU F nT) ∧ ShN F vf i) (131072 + i) wr)) (fun t _ => nT - (intOf t).toNat)
      case atStart => exact ⟨0, rfl, Nat.zero_le _, HJ1⟩
      case round =>
      clear HJ1
      obtain ⟨i, rfl, hi, HI⟩ := hrel
      have HKn : Hid (Keeps (fun ρ w => E3 F mB gT gE vo od gV vf ρ w ∧ RwB gI nT (ioF F nT) 16 ρ w)) := hid (Keeps.and E3.keeps (RwK.keeps rfl))
      by_cases hin2 : i < nT
      rotate_left
      · as_aux_lemma =>
        have d3 : decide ((i : Int) < (nT : Int)) = false := decide_eq_false (by omega)
        have HQ : Hid (Ph (E3 F mB gT gE vo od gV vf) N mg ρ w l bs F U c V (ShOk F vf) 1000000 wr) := hid (by
          obtain ⟨ρ1, v1, es1, q1, q2, q3, q4, q5⟩ := HI.out.m
          refine ⟨ρ1, v1, es1, q1, q2, q3.trans ?_, by omega, q5.1⟩
          rw [show i = nT by omega, ← HnT.out, ← Hnd.out]
          exact ⟨fun h => ⟨h.1.1, h.1.2, h.2⟩, fun h => ⟨⟨h.c, h.u⟩, h.n⟩⟩)
        clear HI
        go_wp2
        exact bodyPost_end (v := .tuple #[]) (by simp [results, Tryz.results58, go_sem]) rfl ⟨rfl, HQ⟩
      have d3 : decide ((i : Int) < (nT : Int)) = true := decide_eq_true (by omega)
      have i3 : (i : Int) < (nT : Int) := by omega
      obtain ⟨x, hx⟩ : ∃ x, F.types[i]? = some x := ⟨_, List.getElem?_eq_getElem (by rw [HnT.out]; exact hin2)⟩
      obtain ⟨ρ1, v1, es1, hm1, hfr1, hp1, hb1, hs1⟩ := HI.out.m
      obtain ⟨gt, rfl, hgt, hct⟩ := hm1.typ HuT.out hx
      have kfT : wr.cell? ⟨l.f, 2, none⟩ = some (.slice (some ⟨gt, 0, none⟩) nT qT) := by rw [← HuT.out]; exact hm1.fb.cell 2
      obtain ⟨fo, hfo⟩ : ∃ s, x.form = s := ⟨_, rfl⟩
      have y0 : wr.cell? ⟨gt, i * 8, none⟩ = some (.int .u8 (fo : Int)) := by rw [← hfo]; exact hct 0 (by decide)
      have y2 : wr.cell? ⟨gt, i * 8 + 2, none⟩ = some (.int .i64 (x.pos : Int)) := hct 2 (by decide)
      have y5 : wr.cell? ⟨gt, i * 8 + 5, none⟩ = some (.int .i32 x.count) := hct 5 (by decide)
      have c7 : wr.cell? ⟨c, 7, none⟩ = some (.slice (some ⟨gV, 0, none⟩) nE nE) := by rw [← Hvv.out]; exact hm1.cb.cell 7
      have hxp : x.pos ≤ l.n := (HW.out.tN i x hx).1
      have hle := hm1.r.src.le
      have Hx := hid hx
      have Hfo := hid hfo
      have Hm1 := hid hm1
      have Hfr1 := hid hfr1
      have Hp1 := hid hp1
      have Hb1 := hid hb1
      have Hs1 := hid hs1
      have Herr : Hid (∀ (w1 w2 : World) (kk : Nat), Below wr.heap.size wr w1 → ¬ ((x.form = 1 → Led F F.types.length i) ∧ (x.form = 3 ∨ x.form = 5 → ∀ e : Nat, x.count = (e : Int) → vf e ≠ 0)) → CAd N mg ρ1 w1 l bs F U c { V with list := v1 } (es1 ++ [(kk, x.pos)]) w2 → Ph (fun ρ w => E3 F mB gT gE vo od gV vf ρ w ∧ RwB gI nT (ioF F nT) 16 ρ w) N mg ρ w l bs F U c V ((ShC F nd ∧ ShU F nT) ∧ ShN F vf (i + 1)) (131072 + (i + 1)) w2) := hid (fun w1 w2 kk hb hbad ha => (Ph.add hfr1 HKn.out hs1 (CAd.pre hb ha) hb1).iff (by
        rw [ShN.succ hx]
        exact ⟨fun h => h.elim, fun h => hbad h.2.2⟩) (Nat.le_refl _))
      have Hok : Hid (∀ (w1 : World), Below wr.heap.size wr w1 → ((x.form = 1 → Led F F.types.length i) ∧ (x.form = 3 ∨ x.form = 5 → ∀ e : Nat, x.count = (e : Int) → vf e ≠ 0)) → Ph (fun ρ w => E3 F mB gT gE vo od gV vf ρ w ∧ RwB gI nT (ioF F nT) 16 ρ w) N mg ρ w l bs F U c V ((ShC F nd ∧ ShU F nT) ∧ ShN F vf (i + 1)) (131072 + (i + 1)) w1) := hid (fun w1 hb hgood => (HI.out.below HKn.out hb).iff (by
        rw [ShN.succ hx]
        exact ⟨fun h => ⟨h.1, h.2, hgood⟩, fun h => ⟨h.1, h.2.1⟩⟩) (by omega))
      clear hm1 hfr1 hp1 hb1 hs1 hct hx hfo
      by_cases h1 : fo = 1
      · have q1 : ((fo : Int) == 1) = true := by simp; omega
        have hf1 : x.form = 1 := by rw [Hfo.out]; exact h1
        obtain ⟨b, hb⟩ : ∃ b, ioF F nT i = b := ⟨_, rfl⟩
        have zI : wr.cell? ⟨gI, i, none⟩ = some (.bool b) := by rw [← hb]; exact Hs1.out.2.get hin2
        have Hb := hid hb
        have Hf1 := hid hf1
        clear h1 hb hf1
        cases b with
        | true =>
          as_aux_lemma =>
          have HE := hid (Hok.out wr (Below.refl _ _) ⟨fun _ => by rw [HnT.out]; exact ioF_iff.1 Hb.out, fun hh => by have := Hf1.out; omega⟩)
          go_wp2
          exact ⟨⟨i + 1, by go_num, by omega, HE⟩, by simp [intOf]; omega⟩
        | false =>
          as_aux_lemma =>
          have Hbad : Hid (¬ ((x.form = 1 → Led F F.types.length i) ∧ (x.form = 3 ∨ x.form = 5 → ∀ e : Nat, x.count = (e : Int) → vf e ≠ 0))) := hid (fun hh => by
            have h9 := hh.1 Hf1.out
            rw [HnT.out] at h9
            have h8 := ioF_iff.2 h9
            rw [Hb.out] at h8
            cases h8)
          go_upto_region 32 with fail
          obtain ⟨X0, W, hT, hI⟩ := class_mk (fun w' => Drew wr w')
          have H0 : Hid (∃ y, wr.drew = W y) := hid (hI _ ⟨1, rfl⟩)
          have hne : Nonempty X0 := ⟨H0.out.choose⟩
          have HTT := hid hT
          have a2 : ∀ z, (W z).cell? ⟨gt, i * 8 + 2, none⟩ = some (.int .i64 (x.pos : Int)) := fun y => by obtain ⟨m, e⟩ := hT y; rw [e]; exact y2
          clear hT hI
          refine wp_region_class_tailT W 7 (by kernel_rfl) (by kernel_rfl) (by kernel_rfl) H0.out ?_
          dsimp only [List.take, List.drop]
          repeat (go_big_quiet_step (fail))
          refine wpQuiet_nil ?_
          intro z
          have HD := hid (HTT.out z)
          have HB := hid ((HTT.out z).below wr.heap.size)
          have a2z := a2 z
          generalize W z = wz at HD HB a2z ⊢
          clear H0 HTT a2
          have HA := hid (addDW (Hm1.out.below HB.out) 16 x.pos ⟨#[78, 111, 110, 101, 32, 109, 97, 121, 32, 115, 116, 97, 110, 100, 32, 111, 110, 108, 121, 32, 97, 115, 32, 116, 104, 101, 32, 102, 105, 114, 115, 116, 32, 111, 112, 116, 105, 111, 110, 32, 111, 102, 32, 97, 32, 117, 110, 105, 111, 110]⟩ hxp (by decide) (by decide) (by have := Hb1.out; omega))
          clear y0 y2 y5 c7 kfT a2z zI
          go_wp2_with fail
          refine HA.out.mono ?_
          rintro e w4 ⟨rfl, h4⟩
          have HE := hid (Herr.out _ _ 16 HB.out Hbad.out h4.out)
          clear HA h4
          go_wp2
          exact ⟨⟨i + 1, by go_num, by omega, HE⟩, by simp [intOf]; omega⟩
      have q1 : ((fo : Int) == 1) = false := by simp; omega
      have Hf1 : Hid (x.form ≠ 1) := hid (by rw [Hfo.out]; exact h1)
      by_cases h35 : fo = 3 ∨ fo = 5
      rotate_left
      · as_aux_lemma =>
        have q3 : ((fo : Int) == 3) = false := by simp; omega
        have q5 : ((fo : Int) == 5) = false := by simp; omega
        have HE := hid (Hok.out wr (Below.refl _ _) ⟨fun hh => absurd hh Hf1.out, fun hh => absurd (by rw [← Hfo.out]; exact hh) h35⟩)
        clear h35 h1
        go_wp2
        exact ⟨⟨i + 1, by go_num, by omega, HE⟩, by simp [intOf]; omega⟩
      have Hf35 : Hid (x.form = 3 ∨ x.form = 5) := hid (by rw [Hfo.out]; exact h35)
      obtain ⟨ec, hec, hecn⟩ : ∃ a : Nat, x.count = (a : Int) ∧ a < nE := by
        obtain ⟨xd, g1, g2, g3⟩ := HW.out.tc i (List.getElem?_eq_some_iff.1 Hx.out).1
        have hd := HW.out.d xd g1
        obtain ⟨a, a1, a2, a3⟩ := (hd.tw i x g2 g3 Hx.out).count (by have := Hf35.out; omega) (by have := Hf35.out; omega)
        refine ⟨a, a1, ?_⟩
        have := hd.e.2
        rw [HnE.out] at this
        omega
      rw [hec] at y5
      have Hec := hid hec
      obtain ⟨vv, hvv⟩ : ∃ v, vf ec = v := ⟨_, rfl⟩
      have zV : wr.cell? ⟨gV, ec, none⟩ = some (.int .u64 (vv : Int)) := by
        have := Hs1.out.1.2
        rw [HnE.out] at this
        rw [← hvv]
        exact this.get hecn
      have i5 : (ec : Int) < (nE : Int) := by omega
      have Hvx := hid hvv
      clear hec hvv
      have q3 : ((fo : Int) == 3) = decide (fo = 3) := by rw [Bool.eq_iff_iff]; simp; omega
      have q5 : ((fo : Int) == 5) = decide (fo = 5) := by rw [Bool.eq_iff_iff]; simp; omega
      have Hgood : Hid (vv ≠ 0 → ((x.form = 1 → Led F F.types.length i) ∧ (x.form = 3 ∨ x.form = 5 → ∀ e : Nat, x.count = (e : Int) → vf e ≠ 0))) := hid (fun hv => ⟨fun hh => absurd hh Hf1.out, fun _ e he => by
        have := Hec.out
        rw [he] at this
        have hee : e = ec := by omega
        rw [hee, Hvx.out]
        exact hv⟩)
      have Hbad : Hid (vv = 0 → ¬ ((x.form = 1 → Led F F.types.length i) ∧ (x.form = 3 ∨ x.form = 5 → ∀ e : Nat, x.count = (e : Int) → vf e ≠ 0))) := hid (fun hv hh => hh.2 Hf35.out ec Hec.out (by rw [Hvx.out]; exact hv))
      have Hfw := hid (fun wz => formWordX fo h35 wz)
      have hfw := fwS_size fo
      generalize fwS fo = sw at Hfw hfw
      have z1 : (({ data := #[97, 32] } : ByteArray) ++ sw).size = 2 + sw.size := by rw [ba_size]; rfl
      have z2 : (({ data := #[97, 32] } : ByteArray) ++ sw ++ { data := #[32, 111, 102, 32, 108, 101, 110, 103, 116, 104, 32, 48, 32, 105, 115, 32, 105, 108, 108, 101, 103, 97, 108] }).size = 2 + sw.size + 23 := by rw [ba_size, z1]; rfl
      rcases h35 with rfl | rfl
      · as_aux_lemma =>
        simp only [decide_true, Nat.reduceEqDiff, decide_false] at q3 q5
        by_cases hv0 : vv = 0
        · have q0 : ((vv : Int) == 0) = true := by simp; omega
          have Hb0 := hid (Hbad.out hv0)
          clear hv0
          go_upto_region 35 with fail
          go_quiet (fail)
          have HD1 : Hid (Drew wr (wr.drewN nq)) := hid ((Drew.refl wr).next nq)
          have t0 : (wr.drewN nq).cell? ⟨gt, i * 8, none⟩ = some (.int .u8 3) := y0
          have t2 : (wr.drewN nq).cell? ⟨gt, i * 8 + 2, none⟩ = some (.int .i64 (x.pos : Int)) := y2
          generalize wr.drewN nq = wq at HD1 t0 t2 ⊢
          clear y0 y2 y5 c7 kfT zV
          go_upto_region 36 with fail
          obtain ⟨X0, W, hT, hI⟩ := class_mk (fun w' => Drew wq w')
          have H0 : Hid (∃ y, wq.drew = W y) := hid (hI _ ⟨1, rfl⟩)
          have hne : Nonempty X0 := ⟨H0.out.choose⟩
          have HTT := hid hT
          have a0 : ∀ z, (W z).cell? ⟨gt, i * 8, none⟩ = some (.int .u8 3) := fun y => by obtain ⟨m, e⟩ := hT y; rw [e]; exact t0
          have a2 : ∀ z, (W z).cell? ⟨gt, i * 8 + 2, none⟩ = some (.int .i64 (x.pos : Int)) := fun y => by obtain ⟨m, e⟩ := hT y; rw [e]; exact t2
          clear hT hI
          refine wp_region_class_tailT W 14 (by kernel_rfl) (by kernel_rfl) (by kernel_rfl) H0.out ?_
          dsimp only [List.take, List.drop]
          repeat (go_big_quiet_step ((go_at_call 94; exact Calls.class_same (Hfw.out _))))
          refine wpQuiet_nil ?_
          intro z
          have HD := hid (HTT.out z)
          have HB := hid ((HTT.out z).below wq.heap.size)
          have a0z := a0 z
          have a2z := a2 z
          generalize W z = wz at HD HB a0z a2z ⊢
          clear H0 HTT a0 a2
          have hbz := (HD1.out.trans HD.out).below wr.heap.size
          have HA := hid (addDW (Hm1.out.below hbz) 13 x.pos _ hxp (show 0 < ByteArray.size _ by rw [z2]; omega) (by rw [z2]; omega) (by have := Hb1.out; omega))
          have Hbz := hid hbz
          clear hbz t0 t2 a0z a2z HD HB
          go_wp2_with fail
          refine HA.out.mono ?_
          rintro e w4 ⟨rfl, h4⟩
          have HE := hid (Herr.out _ _ 13 Hbz.out Hb0.out h4.out)
          clear HA h4
          go_wp2
          exact ⟨⟨i + 1, by go_num, by omega, HE⟩, by simp [intOf]; omega⟩
        · have q0 : ((vv : Int) == 0) = false := by simp; omega
          have Hg0 := hid (Hgood.out hv0)
          clear hv0
          go_upto_region 35 with fail
          go_quiet (fail)
          have HE := hid (Hok.out (wr.drewN nq) (((Drew.refl wr).next nq).below _) Hg0.out)
          generalize wr.drewN nq = wq at HE ⊢
          clear y0 y2 y5 c7 kfT zV
          go_wp2
          exact ⟨⟨i + 1, by go_num, by omega, HE⟩, by simp [intOf]; omega⟩
      · as_aux_lemma =>
        simp only [decide_true, Nat.reduceEqDiff, decide_false] at q3 q5
        by_cases hv0 : vv = 0
        · have q0 : ((vv : Int) == 0) = true := by simp; omega
          have Hb0 := hid (Hbad.out hv0)
          clear hv0
          go_upto_region 35 with fail
          go_quiet (fail)
          have HD1 : Hid (Drew wr (wr.drewN nq)) := hid ((Drew.refl wr).next nq)
          have t0 : (wr.drewN nq).cell? ⟨gt, i * 8, none⟩ = some (.int .u8 5) := y0
          have t2 : (wr.drewN nq).cell? ⟨gt, i * 8 + 2, none⟩ = some (.int .i64 (x.pos : Int)) := y2
          generalize wr.drewN nq = wq at HD1 t0 t2 ⊢
          clear y0 y2 y5 c7 kfT zV
          go_upto_region 36 with fail
          obtain ⟨X0, W, hT, hI⟩ := class_mk (fun w' => Drew wq w')
          have H0 : Hid (∃ y, wq.drew = W y) := hid (hI _ ⟨1, rfl⟩)
          have hne : Nonempty X0 := ⟨H0.out.choose⟩
          have HTT := hid hT
          have a0 : ∀ z, (W z).cell? ⟨gt, i * 8, none⟩ = some (.int .u8 5) := fun y => by obtain ⟨m, e⟩ := hT y; rw [e]; exact t0
          have a2 : ∀ z, (W z).cell? ⟨gt, i * 8 + 2, none⟩ = some (.int .i64 (x.pos : Int)) := fun y => by obtain ⟨m, e⟩ := hT y; rw [e]; exact t2
          clear hT hI
          refine wp_region_class_tailT W 14 (by kernel_rfl) (by kernel_rfl) (by kernel_rfl) H0.out ?_
          dsimp only [List.take, List.drop]
          repeat (go_big_quiet_step ((go_at_call 94; exact Calls.class_same (Hfw.out _))))
          refine wpQuiet_nil ?_
          intro z
          have HD := hid (HTT.out z)
          have HB := hid ((HTT.out z).below wq.heap.size)
          have a0z := a0 z
          have a2z := a2 z
          generalize W z = wz at HD HB a0z a2z ⊢
          clear H0 HTT a0 a2
          have hbz := (HD1.out.trans HD.out).below wr.heap.size
          have HA := hid (addDW (Hm1.out.below hbz) 13 x.pos _ hxp (show 0 < ByteArray.size _ by rw [z2]; omega) (by rw [z2]; omega) (by have := Hb1.out; omega))
          have Hbz := hid hbz
          clear hbz t0 t2 a0z a2z HD HB
          go_wp2_with fail
          refine HA.out.mono ?_
          rintro e w4 ⟨rfl, h4⟩
          have HE := hid (Herr.out _ _ 13 Hbz.out Hb0.out h4.out)
          clear HA h4
          go_wp2
          exact ⟨⟨i + 1, by go_num, by omega, HE⟩, by simp [intOf]; omega⟩
        · have q0 : ((vv : Int) == 0) = false := by simp; omega
          have Hg0 := hid (Hgood.out hv0)
          clear hv0
          go_upto_region 35 with fail
          go_quiet (fail)
          have HE := hid (Hok.out (wr.drewN nq) (((Drew.refl wr).next nq).below _) Hg0.out)
          generalize wr.drewN nq = wq at HE ⊢
          clear y0 y2 y5 c7 kfT zV
          go_wp2
          exact ⟨⟨i + 1, by go_num, by omega, HE⟩, by simp [intOf]; omega⟩

    have d2 : decide ((k : Int) < (nT : Int)) = true := decide_eq_true (by omega)
    have i2 : (k : Int) < (nT : Int) := by omega
    obtain ⟨x, hx⟩ : ∃ x, F.types[k]? = some x := ⟨_, List.getElem?_eq_getElem (by rw [HnT.out]; exact hkn)⟩
    obtain ⟨ρ1, v1, es1, hm1, hfr1, hp1, hb1, hs1⟩ := HK.out.m
    obtain ⟨gt, rfl, hgt, hct⟩ := hm1.typ HuT.out hx
    have kfT : wr.cell? ⟨l.f, 2, none⟩ = some (.slice (some ⟨gt, 0, none⟩) nT qT) := by rw [← HuT.out]; exact hm1.fb.cell 2
    have kfO : wr.cell? ⟨l.f, 5, none⟩ = some (.slice aO nO qO) := by rw [← HuO.out]; exact hm1.fb.cell 5
    obtain ⟨fo, hfo⟩ : ∃ s, x.form = s := ⟨_, rfl⟩
    obtain ⟨ol, hol⟩ : ∃ s, x.lo = s := ⟨_, rfl⟩
    obtain ⟨oh, hoh⟩ : ∃ s, x.hi = s := ⟨_, rfl⟩
    have y0 : wr.cell? ⟨gt, k * 8, none⟩ = some (.int .u8 (fo : Int)) := by rw [← hfo]; exact hct 0 (by decide)
    have y2 : wr.cell? ⟨gt, k * 8 + 2, none⟩ = some (.int .i64 (x.pos : Int)) := hct 2 (by decide)
    have y6 : wr.cell? ⟨gt, k * 8 + 6, none⟩ = some (.int .i32 (ol : Int)) := by rw [← hol]; exact hct 6 (by decide)
    have y7 : wr.cell? ⟨gt, k * 8 + 7, none⟩ = some (.int .i32 (oh : Int)) := by rw [← hoh]; exact hct 7 (by decide)
    have hxp : x.pos ≤ l.n := (HW.out.tN k x hx).1
    have hle := hm1.r.src.le
    have Hx := hid hx
    have HS := hid (And.intro hfo (And.intro hol hoh))
    have Hm1 := hid hm1
    have Hfr1 := hid hfr1
    have Hp1 := hid hp1
    have Hb1 := hid hb1
    have Hs1 := hid hs1
    clear hm1 hfr1 hp1 hb1 hs1 hct hx hfo hol hoh
    by_cases h7 : fo = 7
    rotate_left
    · as_aux_lemma =>
      have q7 : ((fo : Int) != 7) = true := by simp; omega
      have hn7 : x.form ≠ 7 := by rw [HS.out.1]; exact h7
      have HE : Hid (Ph (fun ρ w => E3 F mB gT gE vo od gV vf ρ w ∧ RwB gI nT (ioF F (k + 1)) 16 ρ w) N mg ρ w l bs F U c V (ShC F nd ∧ ShU F (k + 1)) (65536 + (k + 1)) wr) := hid (by
        rw [ioF_same Hx.out (fun hh => absurd hh hn7)]
        exact HK.out.iff (by
          rw [ShU.succ Hx.out]
          exact ⟨fun h => ⟨h.1, h.2, fun hh => absurd hh hn7⟩, fun h => ⟨h.1, h.2.1⟩⟩) (by omega))
      clear h7 hn7
      go_wp2
      exact ⟨⟨k + 1, by go_num, by omega, HE⟩, by simp [intOf]; omega⟩
    have q7 : ((fo : Int) != 7) = false := by simp; omega
    have H7 : Hid (x.form = 7) := hid (by rw [HS.out.1]; exact h7)
    clear h7
    -- the options
    have hU : ol ≤ oh ∧ oh ≤ nO ∧ ∀ j r, ol ≤ j → j < oh → F.opts[j]? = some r → r < k := by
      obtain ⟨xd, h1, h2, h3⟩ := HW.out.tc k (List.getElem?_eq_some_iff.1 Hx.out).1
      have h4 := ((HW.out.d xd h1).tw k x h2 h3 Hx.out).uni H7.out
      rw [HS.out.2.1, HS.out.2.2, HnO.out] at h4
      exact ⟨h4.1, h4.2.1, fun j r a b d => (h4.2.2 j r a b d).2⟩
    have hsl := slice_o (a := aO) (n := nO) (cp := qO) hU.1 hU.2.1 HcO.out.1 HcO.out.2.1 HcO.out.2.2
    obtain ⟨m, hm⟩ : ∃ m, oh - ol = m := ⟨_, rfl⟩
    rw [hm] at hsl
    obtain ⟨ax, hax⟩ : ∃ ax, subA aO ol (qO == ol) = ax := ⟨_, rfl⟩
    obtain ⟨qx, hqx⟩ : ∃ qx, qO - ol = qx := ⟨_, rfl⟩
    rw [hax, hqx] at hsl
    have Hax := hid hax
    have Hmm : Hid (x.hi - x.lo = m) := hid (by rw [HS.out.2.1, HS.out.2.2]; exact hm)
    have hmb : m ≤ 65536 := by
      have := Hz.out.o
      rw [HnO.out] at this
      omega
    have Hm0 := hid hm
    clear hax hqx hm
    go_upto_region 14 with fail
    go_quiet (fail)
    have HD1 : Hid (Drew wr (wr.drewN nq)) := hid ((Drew.refl wr).next nq)
    have t2 : (wr.drewN nq).cell? ⟨gt, k * 8 + 2, none⟩ = some (.int .i64 (x.pos : Int)) := y2
    have tT : (wr.drewN nq).cell? ⟨l.f, 2, none⟩ = some (.slice (some ⟨gt, 0, none⟩) nT qT) := kfT
    generalize wr.drewN nq = wq at HD1 t2 tT ⊢
    clear y0 y2 y6 y7 kfT kfO hsl
    have Herr : Hid (∀ (E : Rl → World → Prop) (w1 w2 : World) (kk : Nat), Keeps E → E ρ1 w1 → Fr XD ρ w ρ1 w1 → ¬ (1 ≤ m ∧ m ≤ 128 ∧ ∀ r, Leads F x r → m ≠ 1) → CAd N mg ρ1 w1 l bs F U c { V with list := v1 } (es1 ++ [(kk, x.pos)]) w2 → Ph E N mg ρ w l bs F U c V (ShC F nd ∧ ShU F (k + 1)) (65536 + (k + 1)) w2) := hid (fun E w1 w2 kk hE hE1 hf hbad ha => (Ph.add hf hE hE1 ha Hb1.out).iff (by
      rw [ShU.succ Hx.out, Hmm.out]
      exact ⟨fun h => h.elim, fun h => hbad (h.2.2 H7.out)⟩) (Nat.le_refl _))
    have Hok : Hid (∀ (E : Rl → World → Prop) (w1 : World), CM N mg ρ1 w1 l bs F U c { V with list := v1 } es1 → E ρ1 w1 → Fr XD ρ w ρ1 w1 → (1 ≤ m ∧ m ≤ 128 ∧ ∀ r, Leads F x r → m ≠ 1) → Ph E N mg ρ w l bs F U c V (ShC F nd ∧ ShU F (k + 1)) (65536 + (k + 1)) w1) := hid (fun E w1 hc hE1 hf hgood => ⟨ρ1, v1, es1, hc, hf, Hp1.out.trans (by
      rw [ShU.succ Hx.out, Hmm.out]
      exact ⟨fun h => ⟨h.1, h.2, fun _ => hgood⟩, fun h => ⟨h.1, h.2.1⟩⟩), by have := Hb1.out; omega, hE1⟩)
    by_cases hm0 : m = 0
    · as_aux_lemma =>
      have e1 : decide ((m : Int) > 0) = false := decide_eq_false (by omega)
      have e1n : decide (0 < m) = false := decide_eq_false (by omega)
      have e2 : ((m : Int) == 0) = true := by simp; omega
      have Hio : Hid (ioF F (k + 1) = ioF F k) := hid (ioF_same Hx.out (fun _ r hr => by have := hr.1; have := Hmm.out; omega))
      have Hbad : Hid (¬ (1 ≤ m ∧ m ≤ 128 ∧ ∀ r, Leads F x r → m ≠ 1)) := hid (fun hh => by omega)
      go_upto_region 15 with fail
      go_quiet (fail)
      have HD2 : Hid (Drew wr (wq.drewN nq)) := hid (HD1.out.next nq)
      have s2 : (wq.drewN nq).cell? ⟨gt, k * 8 + 2, none⟩ = some (.int .i64 (x.pos : Int)) := t2
      generalize wq.drewN nq = ws at HD2 s2 ⊢
      clear t2 tT HD1
      have Hm3 := hid (Hm1.out.below (HD2.out.below _))
      have Hfr3 := hid (Hfr1.out.trans (Fr.below (X := XD) (HD2.out.below _)))
      have HEE : Hid ((fun ρ w => E3 F mB gT gE vo od gV vf ρ w ∧ RwB gI nT (ioF F (k + 1)) 16 ρ w) ρ1 ws) := hid (by
        rw [Hio.out]
        exact (HKp.out k) _ _ _ _ Hs1.out (Fr.below (HD2.out.below _)))
      go_upto_region 19 with fail
      obtain ⟨X0, W, hT, hI⟩ := class_mk (fun w' => Drew ws w')
      have H0 : Hid (∃ y, ws.drew = W y) := hid (hI _ ⟨1, rfl⟩)
      have hne : Nonempty X0 := ⟨H0.out.choose⟩
      have HTT := hid hT
      have a2 : ∀ z, (W z).cell? ⟨gt, k * 8 + 2, none⟩ = some (.int .i64 (x.pos : Int)) := fun y => by obtain ⟨m, e⟩ := hT y; rw [e]; exact s2
      clear hT hI
      refine wp_region_class_tailT W 7 (by kernel_rfl) (by kernel_rfl) (by kernel_rfl) H0.out ?_
      dsimp only [List.take, List.drop]
      repeat (go_big_quiet_step (fail))
      refine wpQuiet_nil ?_
      intro z
      have HD := hid (HTT.out z)
      have HB := hid ((HTT.out z).below ws.heap.size)
      have a2z := a2 z
      generalize W z = wz at HD HB a2z ⊢
      clear H0 HTT a2
      have HA := hid (addDW (Hm3.out.below HB.out) 14 x.pos ⟨#[97, 32, 117, 110, 105, 111, 110, 32, 110, 101, 101, 100, 115, 32, 97, 116, 32, 108, 101, 97, 115, 116, 32, 111, 110, 101, 32, 111, 112, 116, 105, 111, 110]⟩ hxp (by decide) (by decide) (by have := Hb1.out; omega))
      clear s2 a2z
      go_wp2_with fail
      refine HA.out.mono ?_
      rintro e w4 ⟨rfl, h4⟩
      have HE : Hid (Ph (fun ρ w => E3 F mB gT gE vo od gV vf ρ w ∧ RwB gI nT (ioF F (k + 1)) 16 ρ w) N mg ρ w l bs F U c V (ShC F nd ∧ ShU F (k + 1)) (65536 + (k + 1)) w4) := hid (Herr.out _ _ _ 14 (HKp.out (k + 1)) HEE.out Hfr3.out Hbad.out (CAd.pre HB.out h4.out))
      clear HA h4
      go_wp2
      exact ⟨⟨k + 1, by go_num, by omega, HE⟩, by simp [intOf]; omega⟩
    have e1 : decide ((m : Int) > 0) = true := decide_eq_true (by omega)
    have e1n : decide (0 < m) = true := decide_eq_true (by omega)
    have e1p : 0 < m := by omega
    have e2 : ((m : Int) == 0) = false := by simp; omega
    obtain ⟨r, hr⟩ : ∃ r, F.opts[ol]? = some r := ⟨_, List.getElem?_eq_getElem (by rw [HnO.out]; have := Hm0.out; omega)⟩
    have hrk : r < k := hU.2.2 ol r (Nat.le_refl _) (by have := Hm0.out; omega) hr
    obtain ⟨y, hy⟩ : ∃ y, F.types[r]? = some y := ⟨_, List.getElem?_eq_getElem (by rw [HnT.out]; omega)⟩
    have Hm2 := hid (Hm1.out.below (HD1.out.below _))
    obtain ⟨go, hgo, hgol, hco⟩ := Hm2.out.opt HuO.out hr
    obtain ⟨gt2, egt, _, hcy⟩ := Hm2.out.typ HuT.out hy
    cases egt
    obtain ⟨fy, hfy⟩ : ∃ s, y.form = s := ⟨_, rfl⟩
    have cy : wq.cell? ⟨gt, r * 8, none⟩ = some (.int .u8 (fy : Int)) := by rw [← hfy]; exact hcy 0 (by decide)
    have hax : ax = some ⟨go, ol, none⟩ := by
      rw [← Hax.out, hgo]
      have hne : (qO == ol) = false := by
        rw [beq_eq_false_iff_ne]
        have h1 := HcO.out.1
        have h2 := (List.getElem?_eq_some_iff.1 hr).1
        rw [HnO.out] at h2
        omega
      unfold subA
      rw [hne]
      simp [Addr.add]
      intro h0
      exact h0.symm
    subst hax
    have i4 : (r : Int) < (nT : Int) := by omega
    have i5 : (0 : Int) < (m : Int) := by omega
    have HLd : Hid (∀ j, Leads F x j ↔ j = r ∧ fy = 1) := hid (fun j => by
      constructor
      · rintro ⟨h1, h2, z, h3, h4⟩
        rw [HS.out.2.1, hr] at h2
        cases h2
        rw [hy] at h3
        cases h3
        exact ⟨rfl, by rw [← hfy]; exact h4⟩
      · rintro ⟨rfl, h1⟩
        exact ⟨by have := Hmm.out; omega, by rw [HS.out.2.1]; exact hr, y, hy, by rw [hfy]; exact h1⟩)
    have hmx : (m : Int) ≤ 65536 := by omega
    have hrkN : r < nT := by omega
    clear hm0 hcy hr hy hfy
    by_cases hf1 : fy = 1
    · have q1 : ((fy : Int) == 1) = true := by simp; omega
      have Hio : Hid (ioF F (k + 1) = fup (ioF F k) r true) := hid (ioF_new Hx.out H7.out ((HLd.out r).2 ⟨rfl, hf1⟩))
      have HgL : Hid (∀ j, Leads F x j ↔ j = r) := hid (fun j => by rw [HLd.out j]; exact ⟨fun h => h.1, fun h => ⟨h, hf1⟩⟩)
      clear hf1
      go_upto_region 15 with fail
      go_quiet (fail)
      have HD2 : Hid (Drew wr (wq.drewN nq)) := hid (HD1.out.next nq)
      have s2 : (wq.drewN nq).cell? ⟨go, ol, none⟩ = some (.int .i32 (r : Int)) := hco
      generalize wq.drewN nq = wp at HD2 s2 ⊢
      clear t2 tT HD1 cy hco
      have zI := (Hs1.out.2.below (HD2.out.below _)).get hrkN
      have zIf := (Hs1.out.2.below (HD2.out.below _)).frozen r
      have hfI : Fr (fun c => c == 16) ρ1 wr ρ1 (wp.setCell ⟨gI, r, none⟩ (.bool true)) := (Fr.below (HD2.out.below _)).trans (Fr.set _ (by show (ρ1 gI == 16) = true; rw [Hs1.out.2.2]; rfl))
      have Hm3 := hid (Hm1.out.frame hfI (fun r h1 h2 => by simp; omega))
      have Hfr3 := hid ((Hfr1.out.trans (Fr.below (HD2.out.below _))).updL (Upd.setCell (Upd.refl gI wp) (p := ⟨gI, r, none⟩) rfl (.bool true)) HgI.out)
      have HEE : Hid ((fun ρ w => E3 F mB gT gE vo od gV vf ρ w ∧ RwB gI nT (ioF F (k + 1)) 16 ρ w) ρ1 (wp.setCell ⟨gI, r, none⟩ (.bool true))) := hid (by
        refine ⟨⟨Hs1.out.1.1.fr hfI rfl rfl rfl rfl, Hs1.out.1.2.fr hfI rfl⟩, ?_⟩
        rw [Hio.out]
        exact (Hs1.out.2.below (HD2.out.below _)).set hrkN true)
      have u2 : (wp.setCell ⟨gI, r, none⟩ (.bool true)).cell? ⟨gt, k * 8 + 2, none⟩ = some (.int .i64 (x.pos : Int)) := by
        obtain ⟨gt3, egt, _, hc3⟩ := Hm3.out.typ HuT.out Hx.out
        cases egt
        exact hc3 2 (by decide)
      clear hfI
      go_upto_region 18 with fail
      generalize wp.setCell ⟨gI, r, none⟩ (.bool true) = ws at Hm3 Hfr3 HEE u2 ⊢
      clear zI zIf s2 HD2
      by_cases h128 : 128 < m
      · as_aux_lemma =>
        have e3 : decide ((m : Int) > 128) = true := decide_eq_true (by omega)
        have e3n : decide (128 < m) = true := decide_eq_true h128
        have hm128 : 128 < m := h128
        have Hbad : Hid (¬ (1 ≤ m ∧ m ≤ 128 ∧ ∀ r, Leads F x r → m ≠ 1)) := hid (fun hh => by omega)
        have Hu1 := hid (fun wz => itoaX m (by omega) wz)
        have Hu2 := hid (fun wz => itoaX 128 (by omega) wz)
        have hu1 := uS_size m (by omega)
        have hu2 := uS_size 128 (by omega)
        generalize uS m = sa at Hu1 hu1
        generalize uS 128 = sb at Hu2 hu2
        have z1 : (({ data := #[116, 104, 101, 32, 117, 110, 105, 111, 110, 32, 104, 97, 115, 32] } : ByteArray) ++ sa).size = 14 + sa.size := by rw [ba_size]; rfl
        have z2 : (({ data := #[116, 104, 101, 32, 117, 110, 105, 111, 110, 32, 104, 97, 115, 32] } : ByteArray) ++ sa ++ { data := #[32, 111, 112, 116, 105, 111, 110, 115, 44, 32, 116, 104, 101, 32, 109, 111, 115, 116, 32, 97, 108, 108, 111, 119, 101, 100, 32, 105, 115, 32] }).size = 14 + sa.size + 30 := by rw [ba_size, z1]; rfl
        have z3 : (({ data := #[116, 104, 101, 32, 117, 110, 105, 111, 110, 32, 104, 97, 115, 32] } : ByteArray) ++ sa ++ { data := #[32, 111, 112, 116, 105, 111, 110, 115, 44, 32, 116, 104, 101, 32, 109, 111, 115, 116, 32, 97, 108, 108, 111, 119, 101, 100, 32, 105, 115, 32] } ++ sb).size = 14 + sa.size + 30 + sb.size := by rw [ba_size, z2]
        have Hu2c : Hid (∀ wy, Below ws.heap.size ws wy → wy.cell? ⟨gt, k * 8 + 2, none⟩ = some (.int .i64 (x.pos : Int))) := hid (fun wy hy => by
          obtain ⟨gt3, egt, _, hc3⟩ := (Hm3.out.below hy).typ HuT.out Hx.out
          cases egt
          exact hc3 2 (by decide))
        clear h128
        go_upto_region 21 with fail
        obtain ⟨X0, W, hT, hI⟩ := class_mk (fun w' => Below ws.heap.size ws w')
        have H0 : Hid (∃ y, ws.drew = W y) := hid (hI _ (Drew.below ⟨1, rfl⟩ _))
        have HW0 : Hid (∀ x w', Below (W x).heap.size (W x) w' → ∃ y, w' = W y) := hid (fun x w' hb => hI _ ((hT x).trans (hb.mono (hT x).size)))
        have hne : Nonempty X0 := ⟨H0.out.choose⟩
        have HTT := hid hT
        have a2 : ∀ z, (W z).cell? ⟨gt, k * 8 + 2, none⟩ = some (.int .i64 (x.pos : Int)) := fun y => (fun wy hy => Hu2c.out wy hy) (W y) (hT y)
        clear hT hI
        refine wp_region_class_tailT W 14 (by kernel_rfl) (by kernel_rfl) (by kernel_rfl) H0.out ?_
        dsimp only [List.take, List.drop]
        repeat (go_big_quiet_step ((go_at_call 64; first | with_reducible exact Calls.class_of HW0.out (Hu1.out _) | with_reducible exact Calls.class_of HW0.out (Hu2.out _))))
        refine wpQuiet_nil ?_
        intro z
        have HB := hid (HTT.out z)
        have a2z := a2 z
        generalize W z = wz at HB a2z ⊢
        clear H0 HTT HW0 a2
        have HA := hid (addDW (Hm3.out.below HB.out) 15 x.pos _ hxp (show 0 < ByteArray.size _ by rw [z3]; omega) (by rw [z3]; omega) (by have := Hb1.out; omega))
        clear u2 a2z
        go_wp2_with fail
        refine HA.out.mono ?_
        rintro e w4 ⟨rfl, h4⟩
        have HE : Hid (Ph (fun ρ w => E3 F mB gT gE vo od gV vf ρ w ∧ RwB gI nT (ioF F (k + 1)) 16 ρ w) N mg ρ w l bs F U c V (ShC F nd ∧ ShU F (k + 1)) (65536 + (k + 1)) w4) := hid (Herr.out _ _ _ 15 (HKp.out (k + 1)) HEE.out Hfr3.out Hbad.out (CAd.pre HB.out h4.out))
        clear HA h4
        go_wp2
        exact ⟨⟨k + 1, by go_num, by omega, HE⟩, by simp [intOf]; omega⟩
      have e3 : decide ((m : Int) > 128) = false := decide_eq_false (by omega)
      have e3n : decide (128 < m) = false := decide_eq_false h128
      by_cases h1 : m = 1
      · as_aux_lemma =>
        have e4 : ((m : Int) == 1) = true := by simp; omega
        have Hbad : Hid (¬ (1 ≤ m ∧ m ≤ 128 ∧ ∀ r, Leads F x r → m ≠ 1)) := hid (fun hh => hh.2.2 r ((HgL.out r).2 rfl) h1)
        clear h1
        go_upto_region 23 with fail
        obtain ⟨X0, W, hT, hI⟩ := class_mk (fun w' => Drew ws w')
        have H0 : Hid (∃ y, ws.drew = W y) := hid (hI _ ⟨1, rfl⟩)
        have hne : Nonempty X0 := ⟨H0.out.choose⟩
        have HTT := hid hT
        have a2 : ∀ z, (W z).cell? ⟨gt, k * 8 + 2, none⟩ = some (.int .i64 (x.pos : Int)) := fun y => by obtain ⟨m, e⟩ := hT y; rw [e]; exact u2
        clear hT hI
        refine wp_region_class_tailT W 7 (by kernel_rfl) (by kernel_rfl) (by kernel_rfl) H0.out ?_
        dsimp only [List.take, List.drop]
        repeat (go_big_quiet_step (fail))
        refine wpQuiet_nil ?_
        intro z
        have HD := hid (HTT.out z)
        have HB := hid ((HTT.out z).below ws.heap.size)
        have a2z := a2 z
        generalize W z = wz at HD HB a2z ⊢
        clear H0 HTT a2
        have HA := hid (addDW (Hm3.out.below HB.out) 17 x.pos ⟨#[78, 111, 110, 101, 32, 109, 97, 121, 32, 110, 111, 116, 32, 98, 101, 32, 116, 104, 101, 32, 111, 110, 108, 121, 32, 111, 112, 116, 105, 111, 110, 32, 111, 102, 32, 97, 32, 117, 110, 105, 111, 110]⟩ hxp (by decide) (by decide) (by have := Hb1.out; omega))
        clear u2 a2z
        go_wp2_with fail
        refine HA.out.mono ?_
        rintro e w4 ⟨rfl, h4⟩
        have HE : Hid (Ph (fun ρ w => E3 F mB gT gE vo od gV vf ρ w ∧ RwB gI nT (ioF F (k + 1)) 16 ρ w) N mg ρ w l bs F U c V (ShC F nd ∧ ShU F (k + 1)) (65536 + (k + 1)) w4) := hid (Herr.out _ _ _ 17 (HKp.out (k + 1)) HEE.out Hfr3.out Hbad.out (CAd.pre HB.out h4.out))
        clear HA h4
        go_wp2
        exact ⟨⟨k + 1, by go_num, by omega, HE⟩, by simp [intOf]; omega⟩
      · as_aux_lemma =>
        have e4 : ((m : Int) == 1) = false := by simp; omega
        have HE : Hid (Ph (fun ρ w => E3 F mB gT gE vo od gV vf ρ w ∧ RwB gI nT (ioF F (k + 1)) 16 ρ w) N mg ρ w l bs F U c V (ShC F nd ∧ ShU F (k + 1)) (65536 + (k + 1)) ws) := hid (Hok.out _ _ Hm3.out HEE.out Hfr3.out ⟨by omega, by omega, fun j hj => by omega⟩)
        clear u2
        go_wp2
        exact ⟨⟨k + 1, by go_num, by omega, HE⟩, by simp [intOf]; omega⟩
    · have q1 : ((fy : Int) == 1) = false := by simp; omega
      have HgL : Hid (∀ j, ¬ Leads F x j) := hid (fun j hh => hf1 ((HLd.out j).1 hh).2)
      have Hio : Hid (ioF F (k + 1) = ioF F k) := hid (ioF_same Hx.out (fun _ j hh => hf1 ((HLd.out j).1 hh).2))
      clear hf1
      go_upto_region 15 with fail
      go_quiet (fail)
      have HD2 : Hid (Drew wr (wq.drewN nq)) := hid (HD1.out.next nq)
      have u2 : (wq.drewN nq).cell? ⟨gt, k * 8 + 2, none⟩ = some (.int .i64 (x.pos : Int)) := t2
      generalize wq.drewN nq = ws at HD2 u2 ⊢
      have Hm3 := hid (Hm1.out.below (HD2.out.below _))
      have Hfr3 := hid (Hfr1.out.trans (Fr.below (X := XD) (HD2.out.below _)))
      have HEE : Hid ((fun ρ w => E3 F mB gT gE vo od gV vf ρ w ∧ RwB gI nT (ioF F (k + 1)) 16 ρ w) ρ1 ws) := hid (by
        rw [Hio.out]
        exact (HKp.out k) _ _ _ _ Hs1.out (Fr.below (HD2.out.below _)))
      clear t2 tT HD1 cy hco HD2
      by_cases h128 : 128 < m
      · as_aux_lemma =>
        have e3 : decide ((m : Int) > 128) = true := decide_eq_true (by omega)
        have e3n : decide (128 < m) = true := decide_eq_true h128
        have hm128 : 128 < m := h128
        have Hbad : Hid (¬ (1 ≤ m ∧ m ≤ 128 ∧ ∀ r, Leads F x r → m ≠ 1)) := hid (fun hh => by omega)
        have Hu1 := hid (fun wz => itoaX m (by omega) wz)
        have Hu2 := hid (fun wz => itoaX 128 (by omega) wz)
        have hu1 := uS_size m (by omega)
        have hu2 := uS_size 128 (by omega)
        generalize uS m = sa at Hu1 hu1
        generalize uS 128 = sb at Hu2 hu2
        have z1 : (({ data := #[116, 104, 101, 32, 117, 110, 105, 111, 110, 32, 104, 97, 115, 32] } : ByteArray) ++ sa).size = 14 + sa.size := by rw [ba_size]; rfl
        have z2 : (({ data := #[116, 104, 101, 32, 117, 110, 105, 111, 110, 32, 104, 97, 115, 32] } : ByteArray) ++ sa ++ { data := #[32, 111, 112, 116, 105, 111, 110, 115, 44, 32, 116, 104, 101, 32, 109, 111, 115, 116, 32, 97, 108, 108, 111, 119, 101, 100, 32, 105, 115, 32] }).size = 14 + sa.size + 30 := by rw [ba_size, z1]; rfl
        have z3 : (({ data := #[116, 104, 101, 32, 117, 110, 105, 111, 110, 32, 104, 97, 115, 32] } : ByteArray) ++ sa ++ { data := #[32, 111, 112, 116, 105, 111, 110, 115, 44, 32, 116, 104, 101, 32, 109, 111, 115, 116, 32, 97, 108, 108, 111, 119, 101, 100, 32, 105, 115, 32] } ++ sb).size = 14 + sa.size + 30 + sb.size := by rw [ba_size, z2]
        have Hu2c : Hid (∀ wy, Below ws.heap.size ws wy → wy.cell? ⟨gt, k * 8 + 2, none⟩ = some (.int .i64 (x.pos : Int))) := hid (fun wy hy => by
          obtain ⟨gt3, egt, _, hc3⟩ := (Hm3.out.below hy).typ HuT.out Hx.out
          cases egt
          exact hc3 2 (by decide))
        clear h128
        go_upto_region 21 with fail
        obtain ⟨X0, W, hT, hI⟩ := class_mk (fun w' => Below ws.heap.size ws w')
        have H0 : Hid (∃ y, ws.drew = W y) := hid (hI _ (Drew.below ⟨1, rfl⟩ _))
        have HW0 : Hid (∀ x w', Below (W x).heap.size (W x) w' → ∃ y, w' = W y) := hid (fun x w' hb => hI _ ((hT x).trans (hb.mono (hT x).size)))
        have hne : Nonempty X0 := ⟨H0.out.choose⟩
        have HTT := hid hT
        have a2 : ∀ z, (W z).cell? ⟨gt, k * 8 + 2, none⟩ = some (.int .i64 (x.pos : Int)) := fun y => (fun wy hy => Hu2c.out wy hy) (W y) (hT y)
        clear hT hI
        refine wp_region_class_tailT W 14 (by kernel_rfl) (by kernel_rfl) (by kernel_rfl) H0.out ?_
        dsimp only [List.take, List.drop]
        repeat (go_big_quiet_step ((go_at_call 64; first | with_reducible exact Calls.class_of HW0.out (Hu1.out _) | with_reducible exact Calls.class_of HW0.out (Hu2.out _))))
        refine wpQuiet_nil ?_
        intro z
        have HB := hid (HTT.out z)
        have a2z := a2 z
        generalize W z = wz at HB a2z ⊢
        clear H0 HTT HW0 a2
        have HA := hid (addDW (Hm3.out.below HB.out) 15 x.pos _ hxp (show 0 < ByteArray.size _ by rw [z3]; omega) (by rw [z3]; omega) (by have := Hb1.out; omega))
        clear u2 a2z
        go_wp2_with fail
        refine HA.out.mono ?_
        rintro e w4 ⟨rfl, h4⟩
        have HE : Hid (Ph (fun ρ w => E3 F mB gT gE vo od gV vf ρ w ∧ RwB gI nT (ioF F (k + 1)) 16 ρ w) N mg ρ w l bs F U c V (ShC F nd ∧ ShU F (k + 1)) (65536 + (k + 1)) w4) := hid (Herr.out _ _ _ 15 (HKp.out (k + 1)) HEE.out Hfr3.out Hbad.out (CAd.pre HB.out h4.out))
        clear HA h4
        go_wp2
        exact ⟨⟨k + 1, by go_num, by omega, HE⟩, by simp [intOf]; omega⟩
      have e3 : decide ((m : Int) > 128) = false := decide_eq_false (by omega)
      have e3n : decide (128 < m) = false := decide_eq_false h128
      by_cases h1 : m = 1
      · as_aux_lemma =>
        have e4 : ((m : Int) == 1) = true := by simp; omega
        have HE : Hid (Ph (fun ρ w => E3 F mB gT gE vo od gV vf ρ w ∧ RwB gI nT (ioF F (k + 1)) 16 ρ w) N mg ρ w l bs F U c V (ShC F nd ∧ ShU F (k + 1)) (65536 + (k + 1)) ws) := hid (Hok.out _ _ Hm3.out HEE.out Hfr3.out ⟨by omega, by omega, fun j hj => absurd hj (HgL.out j)⟩)
        clear u2
        go_wp2
        exact ⟨⟨k + 1, by go_num, by omega, HE⟩, by simp [intOf]; omega⟩
      · as_aux_lemma =>
        have e4 : ((m : Int) == 1) = false := by simp; omega
        have HE : Hid (Ph (fun ρ w => E3 F mB gT gE vo od gV vf ρ w ∧ RwB gI nT (ioF F (k + 1)) 16 ρ w) N mg ρ w l bs F U c V (ShC F nd ∧ ShU F (k + 1)) (65536 + (k + 1)) ws) := hid (Hok.out _ _ Hm3.out HEE.out Hfr3.out ⟨by omega, by omega, fun j hj => absurd hj (HgL.out j)⟩)
        clear u2
        go_wp2
        exact ⟨⟨k + 1, by go_num, by omega, HE⟩, by simp [intOf]; omega⟩

  have d1 : decide ((i : Int) < (nd : Int)) = true := decide_eq_true (by omega)
  have i1 : (i : Int) < (nd : Int) := by omega
  obtain ⟨x, hx⟩ : ∃ x, F.decls[i]? = some x := ⟨_, List.getElem?_eq_getElem (by rw [Hnd.out]; exact hin)⟩
  obtain ⟨ρ1, v1, es1, hm1, hfr1, hp1, hb1, hs1⟩ := HI.out.m
  obtain ⟨gd, rfl, hgd, hcd⟩ := hm1.decl Hud.out hx
  have kfD : wr.cell? ⟨l.f, 1, none⟩ = some (.slice (some ⟨gd, 0, none⟩) nd qd) := by rw [← Hud.out]; exact hm1.fb.cell 1
  obtain ⟨st, hst⟩ : ∃ s, x.sort = s := ⟨_, rfl⟩
  obtain ⟨fl, hfl⟩ : ∃ s, x.fLo = s := ⟨_, rfl⟩
  obtain ⟨fh, hfh⟩ : ∃ s, x.fHi = s := ⟨_, rfl⟩
  have y0 : wr.cell? ⟨gd, i * 11, none⟩ = some (.int .u8 (st : Int)) := by rw [← hst]; exact hcd 0 (by decide)
  have y1 : wr.cell? ⟨gd, i * 11 + 1, none⟩ = some (.string x.name) := hcd 1 (by decide)
  have y2 : wr.cell? ⟨gd, i * 11 + 2, none⟩ = some (.int .i64 (x.pos : Int)) := hcd 2 (by decide)
  have y5 : wr.cell? ⟨gd, i * 11 + 5, none⟩ = some (.int .i32 (fl : Int)) := by rw [← hfl]; exact hcd 5 (by decide)
  have y6 : wr.cell? ⟨gd, i * 11 + 6, none⟩ = some (.int .i32 (fh : Int)) := by rw [← hfh]; exact hcd 6 (by decide)
  have hxD := HW.out.d x (List.mem_of_getElem? hx)
  have hxn : x.name.size ≤ l.n := hxD.nm
  have hxp : x.pos ≤ l.n := hxD.pos
  have hle := hm1.r.src.le
  have Hx := hid hx
  have HS := hid (And.intro hst (And.intro hfl hfh))
  have Hm1 := hid hm1
  have HPh := hid (And.intro hfr1 (And.intro hp1 (And.intro hb1 hs1)))
  clear hm1 hfr1 hp1 hb1 hs1 hcd hx hst hfl hfh hxD
  have Hno : Hid (∀ wz, Drew wr wz → ¬ (st = 2 ∧ fl = fh) → Ph (E3 F mB gT gE vo od gV vf) N mg ρ w l bs F U c V (ShC F (i + 1)) (i + 1) wz) := hid (fun wz hd hn => (HI.out.below E3.keeps (hd.below _)).iff (by
    rw [ShC.succ Hx.out]
    exact ⟨fun h => ⟨h, fun h2 h3 => hn ⟨by rw [← HS.out.1]; exact h2, by rw [← HS.out.2.1, ← HS.out.2.2]; exact h3⟩⟩, fun h => h.1⟩) (by omega))
  by_cases h2 : st = 2
  rotate_left
  · as_aux_lemma =>
    have q2 : ((st : Int) == 2) = false := by simp; omega
    go_upto_region 5 with fail
    go_quiet (fail)
    have HE := hid (Hno.out (wr.drewN nq) ((Drew.refl wr).next nq) (fun hh => h2 hh.1))
    generalize wr.drewN nq = wq at HE ⊢
    clear h2 y0 y1 y2 y5 y6 kfD
    go_wp2
    exact ⟨⟨i + 1, by go_num, by omega, HE⟩, by simp [intOf]; omega⟩
  have q2 : ((st : Int) == 2) = true := by simp; omega
  by_cases h3 : fl = fh
  rotate_left
  · as_aux_lemma =>
    have q3 : ((fl : Int) == (fh : Int)) = false := by simp; omega
    go_upto_region 5 with fail
    go_quiet (fail)
    have HE := hid (Hno.out (wr.drewN nq) ((Drew.refl wr).next nq) (fun hh => h3 hh.2))
    generalize wr.drewN nq = wq at HE ⊢
    clear h2 h3 y0 y1 y2 y5 y6 kfD
    go_wp2
    exact ⟨⟨i + 1, by go_num, by omega, HE⟩, by simp [intOf]; omega⟩
  · as_aux_lemma =>
    have q3 : ((fl : Int) == (fh : Int)) = true := by simp; omega
    go_upto_region 5 with fail
    go_quiet (fail)
    have HD1 : Hid (Drew wr (wr.drewN nq)) := hid ((Drew.refl wr).next nq)
    have t1 : (wr.drewN nq).cell? ⟨gd, i * 11 + 1, none⟩ = some (.string x.name) := y1
    have t2 : (wr.drewN nq).cell? ⟨gd, i * 11 + 2, none⟩ = some (.int .i64 (x.pos : Int)) := y2
    generalize wr.drewN nq = wq at HD1 t1 t2 ⊢
    clear y0 y1 y2 y5 y6 kfD
    have z1 : (({ data := #[99, 111, 110, 116, 97, 105, 110, 101, 114, 32] } : ByteArray) ++ x.name).size = 10 + x.name.size := by rw [ba_size]; rfl
    have z2 : (({ data := #[99, 111, 110, 116, 97, 105, 110, 101, 114, 32] } : ByteArray) ++ x.name ++ { data := #[32, 104, 97, 115, 32, 110, 111, 32, 102, 105, 101, 108, 100] }).size = 10 + x.name.size + 13 := by rw [ba_size, z1]; rfl
    go_upto_region 6 with fail
    obtain ⟨X0, W, hT, hI⟩ := class_mk (fun w' => Drew wq w')
    have H0 : Hid (∃ y, wq.drew = W y) := hid (hI _ ⟨1, rfl⟩)
    have hne : Nonempty X0 := ⟨H0.out.choose⟩
    have HTT := hid hT
    have a1 : ∀ z, (W z).cell? ⟨gd, i * 11 + 1, none⟩ = some (.string x.name) := fun y => by obtain ⟨m, e⟩ := hT y; rw [e]; exact t1
    have a2 : ∀ z, (W z).cell? ⟨gd, i * 11 + 2, none⟩ = some (.int .i64 (x.pos : Int)) := fun y => by obtain ⟨m, e⟩ := hT y; rw [e]; exact t2
    clear hT hI
    refine wp_region_class_tailT W 13 (by kernel_rfl) (by kernel_rfl) (by kernel_rfl) H0.out ?_
    dsimp only [List.take, List.drop]
    repeat (go_big_quiet_step (fail))
    refine wpQuiet_nil ?_
    intro z
    have HD := hid (HTT.out z)
    have HB := hid ((HTT.out z).below wq.heap.size)
    have a1z := a1 z
    have a2z := a2 z
    generalize W z = wz at HD HB a1z a2z ⊢
    clear H0 HTT a1 a2
    have hbz := (HD1.out.trans HD.out).below wr.heap.size
    have HA := hid (addDW (Hm1.out.below hbz) 12 x.pos _ hxp (show 0 < ByteArray.size _ by rw [z2]; omega) (by rw [z2]; omega) (by have := HPh.out.2.2.1; omega))
    have Hbz := hid hbz
    clear hbz t1 t2 a1z a2z HD HB
    go_wp2_with fail
    refine HA.out.mono ?_
    rintro e w4 ⟨rfl, h4⟩
    have HE : Hid (Ph (E3 F mB gT gE vo od gV vf) N mg ρ w l bs F U c V (ShC F (i + 1)) (i + 1) w4) := hid ((Ph.add HPh.out.1 E3.keeps HPh.out.2.2.2 (CAd.pre Hbz.out h4.out) HPh.out.2.2.1).iff (by
      rw [ShC.succ Hx.out]
      exact ⟨fun h => h.elim, fun h => h.2 (by rw [HS.out.1]; exact h2) (by rw [HS.out.2.1, HS.out.2.2]; exact h3)⟩) (Nat.le_refl _))
    clear HA h4 h2 h3
    go_wp2
    exact ⟨⟨i + 1, by go_num, by omega, HE⟩, by simp [intOf]; omega⟩
end
end Go.Proofs.Qxb6500883aGreatDoor
