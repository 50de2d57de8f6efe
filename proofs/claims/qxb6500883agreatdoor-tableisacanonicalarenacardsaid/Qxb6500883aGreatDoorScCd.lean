/- checkFieldNames. -/
import Derived.Test.Qxb6500883aGreatDoorScCc
namespace Go.Proofs.Qxb6500883aGreatDoor
open Go.RowKit
set_option linter.unusedSimpArgs false
set_option linter.unusedVariables false
/-- The first m fields from lo on bear different names. -/
def Dis (F : FS) (lo m : Nat) : Prop := ∀ a b y z, a < b → b < m → F.fields[lo + a]? = some y → F.fields[lo + b]? = some z → y.name ≠ z.name
/-- The containers among the first i declarations have fields of different names. -/
def FldD (F : FS) (i : Nat) : Prop := ∀ a x, a < i → F.decls[a]? = some x → x.sort = 2 → Dis F x.fLo (x.fHi - x.fLo)
theorem FldD.succ {F : FS} {i : Nat} {x : DN} (hx : F.decls[i]? = some x) : FldD F (i + 1) ↔ FldD F i ∧ (x.sort = 2 → Dis F x.fLo (x.fHi - x.fLo)) := by
  constructor
  · intro h
    exact ⟨fun a y ha hy => h a y (by omega) hy, fun hs => h i x (by omega) hx hs⟩
  · rintro ⟨h1, h2⟩ a y ha hy hs
    by_cases e : a = i
    · subst e
      rw [hx] at hy
      cases hy
      exact h2 hs
    · exact h1 a y (by omega) hy hs
theorem Dis.succ {F : FS} {lo j : Nat} {z : FN} (hz : F.fields[lo + j]? = some z) : Dis F lo (j + 1) ↔ Dis F lo j ∧ ∀ a y, a < j → F.fields[lo + a]? = some y → y.name ≠ z.name := by
  constructor
  · intro h
    exact ⟨fun a b y z' hab hb => h a b y z' hab (by omega), fun a y ha hy => h a j y z ha (by omega) hy hz⟩
  · rintro ⟨h1, h2⟩ a b y z' hab hb hy hz'
    by_cases e : b = j
    · subst e
      rw [hz] at hz'
      cases hz'
      exact h2 a y hab hy
    · exact h1 a b y z' hab (by omega) hy hz'
theorem dataList_beq (a b : ByteArray) : (a.data.toList == b.data.toList) = decide (a = b) := by
  cases a with | mk a =>
  cases b with | mk b =>
  rw [Bool.eq_iff_iff]
  simp
theorem toList_beq (a b : ByteArray) : (a.toList == b.toList) = decide (a = b) := by
  rw [← dataList_beq]
  rw [ByteArray.toList_eq, ByteArray.toList_eq]
section
variable {N mg : Nat} {ρ ρ' : Rl} {w w' w1 w2 : World} {l : PL} {bs : List UInt8} {F : FS} {U : FV} {c n : Nat} {V : CV} {errs : List (Nat × Nat)} {v : Value} {P Q : Prop} {B B' : Nat} {sm : Option Nat} {f g : ByteArray → Option Value}
/-- A field of a declaration in memory. -/
theorem CM.field (h : CM N mg ρ w l bs F U c V errs) {x : DN} (hf : x.fLo ≤ x.fHi ∧ x.fHi ≤ F.fields.length) {af : Option Addr} {nf qf : Nat} (hu : U.f = .slice af nf qf) {j : Nat} (hj : j < x.fHi - x.fLo) :
    ∃ gf y, subA af (x.fLo * 3) (qf == x.fLo) = some ⟨gf, x.fLo * 3, none⟩ ∧ gf < w.heap.size ∧ F.fields[x.fLo + j]? = some y ∧ w.cell? ⟨gf, x.fLo * 3 + j * 3, none⟩ = some (.string y.name) ∧ w.cell? ⟨gf, x.fLo * 3 + j * 3 + 1, none⟩ = some (.int .i64 (y.pos : Int)) := by
  obtain ⟨y, hy⟩ : ∃ y, F.fields[x.fLo + j]? = some y := ⟨_, List.getElem?_eq_getElem (by omega)⟩
  obtain ⟨gf, q, hv, hlt, hc⟩ := h.fr.f.get (by decide) (fun _ => rfl) hy
  rw [hu] at hv
  injection hv with e1 e2 e3
  subst e1 e2 e3
  have hcap := h.fr.f
  rw [hu] at hcap
  have hq : F.fields.length ≤ qf := hcap.cap.2
  have hne : (qf == x.fLo) = false := by rw [beq_eq_false_iff_ne]; omega
  refine ⟨gf, y, ?_, hlt, hy, ?_, ?_⟩
  · unfold subA
    rw [hne]
    unfold Addr.add
    simp only [Bool.false_eq_true, if_false]
    split <;> simp_all
  · have := hc 0 (by decide)
    rw [show (x.fLo + j) * rtF.n + 0 = x.fLo * 3 + j * 3 by show (x.fLo + j) * 3 + 0 = _; omega] at this
    exact this
  · have := hc 1 (by decide)
    rw [show (x.fLo + j) * rtF.n + 1 = x.fLo * 3 + j * 3 + 1 by show (x.fLo + j) * 3 + 1 = _; omega] at this
    exact this
/-- A declaration in memory. -/
theorem CM.decl (h : CM N mg ρ w l bs F U c V errs) {ad : Option Addr} {nd qd : Nat} (hu : U.d = .slice ad nd qd) {i : Nat} {x : DN} (hx : F.decls[i]? = some x) :
    ∃ gd, ad = some ⟨gd, 0, none⟩ ∧ gd < w.heap.size ∧ ∀ j, j < 11 → w.cell? ⟨gd, i * 11 + j, none⟩ = (dnC x)[j]? := by
  obtain ⟨gd, q, hv, hlt, hc⟩ := h.fr.d.get (by decide) (fun _ => rfl) hx
  rw [hu] at hv
  injection hv with e1 e2 e3
  exact ⟨gd, e1, hlt, hc⟩
set_option maxRecDepth 100000 in
set_option maxHeartbeats 4000000 in
theorem checkFieldNamesW (h : CM N mg ρ w l bs F U c V errs) (hW : FWf l.n F) (hB : errs.length ≤ 1000000) (hnd : F.decls.length ≤ 65536) (hnf : F.fields.length ≤ 65536) : Calls Tryz.prog 86 #[.pointer (some ⟨c, 0, none⟩)] w fun e w' => e = .returned (.tuple #[]) ∧ Hid (CkS N mg ρ w l bs F U c V (errs = [] ∧ FldD F F.decls.length) 5000000000 none (fun _ => none) w') := by
  have HM := hid h
  have HW := hid hW
  obtain ⟨ad, qd, hud⟩ := h.fr.d.shape
  obtain ⟨af, qf, huf⟩ := h.fr.f.shape
  obtain ⟨nd, hnd'⟩ : ∃ k, F.decls.length = k := ⟨_, rfl⟩
  obtain ⟨nf, hnf'⟩ : ∃ k, F.fields.length = k := ⟨_, rfl⟩
  rw [hnd'] at hud hnd ⊢
  rw [hnf'] at huf hnf
  have Hnd := hid hnd'
  have Hnf := hid hnf'
  have Hud := hid hud
  have Huf := hid huf
  have hcapf : nf ≤ qf ∧ qf ≤ maxLen ∧ (af = none → qf = 0) := by
    have h1 := h.fr.f
    rw [huf] at h1
    exact ⟨h1.cap.2, h1.cap.1, fun h0 => (h1.src.2.1 h0).2⟩
  have Hcap := hid hcapf
  obtain ⟨c0, _, _⟩ := h.cells
  have k1 : w.cell? ⟨l.f, 1, none⟩ = some (.slice ad nd qd) := by rw [← hud]; exact h.fb.cell 1
  have HI0 : Hid (CkS N mg ρ w l bs F U c V (errs = [] ∧ FldD F 0) (1000000 + 0 * 65536) none (fun _ => none) w) := hid ((CkS.start h hB).iff ⟨fun e => ⟨e, fun a x ha => absurd ha (Nat.not_lt_zero _)⟩, fun e => e.1⟩ (by omega))
  have Hlo : Hid (N ≤ w.heap.size ∧ ∀ ad, l.a = some ad → ad.block < w.heap.size) := hid ⟨h.r.gl.sz, h.r.src.lt⟩
  clear h hW hud huf hnd' hnf' hcapf
  go_enter Tryz.func86, Tryz.ntmps86
  go_upto_region 3 with fail
  clear c0 k1
  go_loopw [21, 3] (fun t u wr => ∃ (i : Nat) (sm : Option Nat), t = .int .i64 (i : Int) ∧ u = .map sm ∧ i ≤ nd ∧ Hid (∃ f, CkS N mg ρ w l bs F U c V (errs = [] ∧ FldD F i) (1000000 + i * 65536) sm f wr)) (fun t _ _ => nd - (intOf t).toNat)
  case atStart => exact ⟨0, none, rfl, rfl, Nat.zero_le _, hid ⟨_, HI0.out⟩⟩
  case round =>
  clear HI0
  obtain ⟨i, sm, rfl, rfl, hi, HK⟩ := hrel
  by_cases hin : i < nd
  rotate_left
  · have d1 : decide ((i : Int) < (nd : Int)) = false := decide_eq_false (by omega)
    have HF : Hid (CkS N mg ρ w l bs F U c V (errs = [] ∧ FldD F nd) 5000000000 none (fun _ => none) wr) := hid (by
      obtain rfl : i = nd := by omega
      obtain ⟨f, hf⟩ := HK.out
      obtain ⟨ρ', v', es, h1, h2, h3, h4, h5⟩ := hf.m
      exact ⟨ρ', v', es, h1, h2, h3, by omega, fun m hm => by cases hm⟩)
    go_wp2
    exact bodyPost_end (v := .tuple #[]) (by simp [results, Tryz.results86, go_sem]) rfl ⟨rfl, HF⟩
  have d1 : decide ((i : Int) < (nd : Int)) = true := decide_eq_true (by omega)
  obtain ⟨x, hx⟩ : ∃ x, F.decls[i]? = some x := ⟨_, List.getElem?_eq_getElem (by rw [Hnd.out]; exact hin)⟩
  have Hx := hid hx
  have HDx := hid (HW.out.d x (List.mem_of_getElem? hx))
  clear hx
  obtain ⟨f0, hf0⟩ := HK.out
  have HK0 := hid hf0
  obtain ⟨ρ0, v0, es0, hm0, hfr0, hp0, hb0, hs0⟩ := hf0.m
  obtain ⟨gd, rfl, hgd, hcd⟩ := hm0.decl Hud.out Hx.out
  have kf := hm0.fb.cell 1
  have kf1 : wr.cell? ⟨l.f, 1, none⟩ = some (.slice (some ⟨gd, 0, none⟩) nd qd) := by rw [← Hud.out]; exact kf
  have kf4 : wr.cell? ⟨l.f, 4, none⟩ = some (.slice af nf qf) := by rw [← Huf.out]; exact hm0.fb.cell 4
  have e0 : wr.cell? ⟨gd, i * 11, none⟩ = some (.int .u8 (x.sort : Int)) := hcd 0 (by decide)
  have e5 : wr.cell? ⟨gd, i * 11 + 5, none⟩ = some (.int .i32 (x.fLo : Int)) := hcd 5 (by decide)
  have e6 : wr.cell? ⟨gd, i * 11 + 6, none⟩ = some (.int .i32 (x.fHi : Int)) := hcd 6 (by decide)
  clear kf hcd hm0 hfr0 hp0 hb0 hs0 hf0
  have i1 : (i : Int) < (nd : Int) := by omega
  obtain ⟨st, hst⟩ : ∃ s, x.sort = s := ⟨_, rfl⟩
  rw [hst] at e0
  have Hst := hid hst
  clear hst
  by_cases h2 : st = 2
  rotate_left
  · as_aux_lemma =>
    have q2 : ((st : Int) != 2) = true := by simp; omega
    have HF : Hid (∃ f, CkS N mg ρ w l bs F U c V (errs = [] ∧ FldD F (i + 1)) (1000000 + (i + 1) * 65536) sm f wr) := hid ⟨f0, HK0.out.iff (by rw [FldD.succ Hx.out]; exact ⟨fun e => ⟨e.1, e.2, fun hs => absurd hs (by rw [Hst.out]; exact h2)⟩, fun e => ⟨e.1, e.2.1⟩⟩) (by omega)⟩
    clear h2
    go_wp2
    exact ⟨⟨i + 1, sm, by go_num, rfl, by omega, HF⟩, by simp [intOf]; omega⟩
  have q2 : ((st : Int) != 2) = false := by simp; omega
  have Hs2 : Hid (x.sort = 2) := hid (by rw [Hst.out]; exact h2)
  clear h2
  obtain ⟨lo, hlo⟩ : ∃ k, x.fLo = k := ⟨_, rfl⟩
  obtain ⟨hh, hhh⟩ : ∃ k, x.fHi = k := ⟨_, rfl⟩
  obtain ⟨m, hm⟩ : ∃ k, hh - lo = k := ⟨_, rfl⟩
  have Hlh := hid (And.intro hlo (And.intro hhh hm))
  rw [hlo] at e5
  rw [hhh] at e6
  have hbd : lo ≤ hh ∧ hh ≤ nf := by have := HDx.out.f; rw [hlo, hhh, Hnf.out] at this; exact this
  have hsl := slice_fn (a := af) (n := nf) (cp := qf) hbd.1 hbd.2 Hcap.out.1 Hcap.out.2.1 Hcap.out.2.2
  rw [hm] at hsl
  obtain ⟨ax, hax⟩ : ∃ ax, subA af (lo * 3) (qf == lo) = ax := ⟨_, rfl⟩
  obtain ⟨qx, hqx⟩ : ∃ qx, qf - lo = qx := ⟨_, rfl⟩
  rw [hax, hqx] at hsl
  have Hax := hid hax
  have hm65 : m ≤ 65536 := by omega
  clear hlo hhh hm hax hqx
  go_upto_region 7 with fail
  go_quiet (fail)
  have HK1 := hid (HK0.out.below ((Drew.refl wr).next nq |>.below _))
  have e1 : (wr.drewN nq).cell? ⟨gd, i * 11 + 1, none⟩ = some (.string x.name) := by
    obtain ⟨ρ0, v0, es0, hm0, _⟩ := HK1.out.m
    obtain ⟨gd', e, _, hcd⟩ := hm0.decl Hud.out Hx.out
    cases e
    exact hcd 1 (by decide)
  generalize wr.drewN nq = wq at HK1 e1 ⊢
  clear HK HK0 e0 e5 e6 kf1 kf4 hsl
  have HP0 : Hid (∀ j, j ≤ m → (Dis F lo j → True)) := hid (fun _ _ _ => trivial)
  by_cases h8 : m ≤ 8
  · have q8 : decide ((m : Int) ≤ 8) = true := decide_eq_true (by omega)
    have HI2 : Hid (∃ f, CkS N mg ρ w l bs F U c V ((errs = [] ∧ FldD F i) ∧ Dis F lo 0) (1000000 + i * 65536 + 0) sm f wq) := hid ⟨f0, HK1.out.iff ⟨fun e => ⟨e, fun a b y z _ hb => absurd hb (Nat.not_lt_zero _)⟩, fun e => e.1⟩ (by omega)⟩
    go_upto_region 10 with fail
    clear e1
    go_loopw [53] (fun t wr => ∃ j : Nat, t = .int .i64 (j : Int) ∧ j ≤ m ∧ Hid (∃ f, CkS N mg ρ w l bs F U c V ((errs = [] ∧ FldD F i) ∧ Dis F lo j) (1000000 + i * 65536 + j) sm f wr)) (fun t _ => m - (intOf t).toNat)
    case atStart => exact ⟨0, rfl, Nat.zero_le _, HI2⟩
    case round =>
    clear HI2 HK1
    obtain ⟨j, rfl, hj, HJ⟩ := hrel
    by_cases hjm : j < m
    rotate_left
    · have d2 : decide ((j : Int) < (m : Int)) = false := decide_eq_false (by omega)
      have HF : Hid (∃ f, CkS N mg ρ w l bs F U c V (errs = [] ∧ FldD F (i + 1)) (1000000 + (i + 1) * 65536) sm f wr) := hid (by
        obtain ⟨f, hf⟩ := HJ.out
        obtain rfl : j = m := by omega
        refine ⟨f, hf.iff ?_ (by omega)⟩
        rw [FldD.succ Hx.out, Hlh.out.1, Hlh.out.2.1, Hlh.out.2.2]
        exact ⟨fun e => ⟨e.1.1, e.1.2, fun _ => e.2⟩, fun e => ⟨⟨e.1, e.2.1⟩, e.2.2 Hs2.out⟩⟩)
      go_wp2
      exact ⟨⟨i + 1, sm, by go_num, rfl, by omega, HF⟩, by simp [intOf]; omega⟩
    have d2 : decide ((j : Int) < (m : Int)) = true := decide_eq_true (by omega)
    obtain ⟨f1, hf1⟩ := HJ.out
    have HJ1 := hid hf1
    clear HJ
    obtain ⟨ρ1, v1, es1, hm1, hfr1, hp1, hb1, hs1⟩ := hf1.m
    obtain ⟨gf, z, hax, hgf, hz, z0, z1⟩ := hm1.field (x := x) HDx.out.f Huf.out (j := j) (by rw [Hlh.out.1, Hlh.out.2.1, Hlh.out.2.2]; exact hjm)
    rw [Hlh.out.1] at hax hz z0 z1
    rw [Hax.out] at hax
    subst hax
    have Hz := hid hz
    have Hm1 := hid hm1
    have Hfr1 := hid hfr1
    have Hb1 := hid hb1
    have Hs1 := hid hs1
    have Hzp : Hid (z.pos ≤ l.n ∧ z.name.size ≤ l.n) := hid (HW.out.fp z (List.mem_of_getElem? hz))
    obtain ⟨gd', egd, _, hcd⟩ := hm1.decl Hud.out Hx.out
    cases egd
    have x1 : wr.cell? ⟨gd, i * 11 + 1, none⟩ = some (.string x.name) := hcd 1 (by decide)
    clear hm1 hfr1 hp1 hb1 hs1 hf1 hz hcd
    obtain ⟨o, ho⟩ : ∃ o, lo * 3 = o := ⟨_, rfl⟩
    rw [ho] at z0 z1
    rw [ho]
    have Ho := hid ho
    clear ho
    go_upto_region 13 with fail
    go_loopw [8] (fun t wk => ∃ k : Nat, t = .int .i64 (k : Int) ∧ k ≤ j ∧ Hid (Drew wr wk ∧ ∀ a y, a < k → F.fields[lo + a]? = some y → y.name ≠ z.name)) (fun t _ => j - (intOf t).toNat)
    case atStart => exact ⟨0, rfl, Nat.zero_le _, hid ⟨Drew.refl _, fun a y ha => absurd ha (Nat.not_lt_zero _)⟩⟩
    case round =>
    obtain ⟨k, rfl, hk, HKk⟩ := hrel
    by_cases hkj : k < j
    rotate_left
    · have d3 : decide ((k : Int) < (j : Int)) = false := decide_eq_false (by omega)
      have HF : Hid (∃ f, CkS N mg ρ w l bs F U c V ((errs = [] ∧ FldD F i) ∧ Dis F lo (j + 1)) (1000000 + i * 65536 + (j + 1)) sm f wr) := hid (by
        obtain rfl : k = j := by omega
        refine ⟨f1, (HJ1.out.below (HKk.out.1.below _)).iff ?_ (by omega)⟩
        rw [Dis.succ Hz.out]
        exact ⟨fun e => ⟨e.1, e.2, HKk.out.2⟩, fun e => ⟨e.1, e.2.1⟩⟩)
      go_wp2
      exact ⟨⟨j + 1, by go_num, by omega, HF⟩, by simp [intOf]; omega⟩
    have d3 : decide ((k : Int) < (j : Int)) = true := decide_eq_true (by omega)
    have Hm2 := hid (Hm1.out.below (HKk.out.1.below _))
    have HJ2 := hid (HJ1.out.below (HKk.out.1.below _))
    have Hs2m : Hid (∀ m, sm = some m → MG (fun s : ByteArray => Value.string s) wr m f1 ∧ ρ1 m = 0 ∧ w.heap.size ≤ m) := hid (fun m hm => ⟨(Hs1.out m hm).1.below (HKk.out.1.below _), (Hs1.out m hm).2⟩)
    have Hfr2 : Hid (Fr XD ρ w ρ1 wr) := hid (Hfr1.out.trans (Fr.below (HKk.out.1.below _)))
    obtain ⟨gf', y, hax', _, hy, y0, _⟩ := Hm2.out.field (x := x) HDx.out.f Huf.out (j := k) (by rw [Hlh.out.1, Hlh.out.2.1, Hlh.out.2.2]; omega)
    obtain ⟨gf2, z', hax2, _, hz', z0', z1'⟩ := Hm2.out.field (x := x) HDx.out.f Huf.out (j := j) (by rw [Hlh.out.1, Hlh.out.2.1, Hlh.out.2.2]; omega)
    rw [Hlh.out.1] at hax' hy y0 hax2 hz' z0' z1'
    rw [Hax.out, Ho.out] at hax' hax2
    cases hax'
    cases hax2
    rw [Ho.out] at y0 z0' z1'
    obtain rfl : z' = z := by have := Hz.out; rw [hz'] at this; exact Option.some.inj this
    obtain ⟨gd2, egd, _, hcd⟩ := Hm2.out.decl Hud.out Hx.out
    cases egd
    have x1' : wr.cell? ⟨gd, i * 11 + 1, none⟩ = some (.string x.name) := hcd 1 (by decide)
    have Hy := hid hy
    have i3 : (k : Int) < (m : Int) := by omega
    have i4 : (j : Int) < (m : Int) := by omega
    clear hcd hz' hy z0 z1 x1
    obtain ⟨b, hb⟩ : ∃ b, decide (y.name = z'.name) = b := ⟨_, rfl⟩
    have Hbq := hid hb
    have b1 : (y.name == z'.name) = b := by rw [ba_beq]; exact hb
    have b3 : (y.name.toList == z'.name.toList) = b := by rw [← hb]; exact toList_beq _ _
    have b4 : (y.name.data.toList == z'.name.data.toList) = b := by rw [← hb]; exact dataList_beq _ _
    go_upto_region 15 with fail
    go_quiet (fail)
    have Hm3 := hid (Hm2.out.below ((Drew.refl wr).next nq |>.below _))
    have HJ3 := hid (HJ2.out.below ((Drew.refl wr).next nq |>.below _))
    have HK3 : Hid (Drew _ (wr.drewN nq)) := hid (HKk.out.1.next nq)
    have Hs3m : Hid (∀ m, sm = some m → MG (fun s : ByteArray => Value.string s) (wr.drewN nq) m f1 ∧ ρ1 m = 0 ∧ w.heap.size ≤ m) := hid (fun m hm => ⟨(Hs2m.out m hm).1.below ((Drew.refl wr).next nq |>.below _), (Hs2m.out m hm).2⟩)
    have Hfr3 : Hid (Fr XD ρ w ρ1 (wr.drewN nq)) := hid (Hfr2.out.trans (Fr.below ((Drew.refl wr).next nq |>.below _)))
    have x3 : (wr.drewN nq).cell? ⟨gd, i * 11 + 1, none⟩ = some (.string x.name) := x1'
    have z3 : (wr.drewN nq).cell? ⟨gf, o + j * 3, none⟩ = some (.string z'.name) := z0'
    have z4 : (wr.drewN nq).cell? ⟨gf, o + j * 3 + 1, none⟩ = some (.int .i64 (z'.pos : Int)) := z1'
    generalize wr.drewN nq = wq3 at Hm3 HJ3 HK3 Hs3m Hfr3 x3 z3 z4 ⊢
    clear x1' z0' z1' y0 Hm2 HJ2 Hs2m Hfr2
    cases b with
    | false =>
      have HN : Hid (Drew _ wq3 ∧ ∀ a y, a < k + 1 → F.fields[lo + a]? = some y → y.name ≠ z'.name) := hid ⟨HK3.out, fun a y' ha hy' => by
        by_cases e : a = k
        · subst e
          have := Hy.out
          rw [hy'] at this
          cases this
          exact of_decide_eq_false Hbq.out
        · exact HKk.out.2 a y' (by omega) hy'⟩
      go_wp2
      exact ⟨⟨k + 1, by go_num, by omega, HN⟩, by simp [intOf]; omega⟩
    | true =>
      have HDu := hid (duplicateFieldW Hm3.out x3 z3 z4 HDx.out.nm Hzp.out.2 Hzp.out.1 (by have := Hb1.out; omega))
      go_wp2_with fail
      refine HDu.out.mono ?_
      rintro e w5 ⟨rfl, h5⟩
      have HF : Hid (∃ f, CkS N mg ρ w l bs F U c V ((errs = [] ∧ FldD F i) ∧ Dis F lo (j + 1)) (1000000 + i * 65536 + (j + 1)) sm f w5) := hid (by
        refine ⟨f1, (CkS.add Hfr3.out Hs3m.out h5.out Hb1.out).iff ?_ (by omega)⟩
        exact ⟨fun e => e.elim, fun e => (e.2 k j y z' hkj (by omega) Hy.out Hz.out) (of_decide_eq_true Hbq.out)⟩)
      clear HDu h5
      go_wp2
      exact ⟨⟨j + 1, by go_num, by omega, HF⟩, by simp [intOf]; omega⟩
  · have q8 : decide ((m : Int) ≤ 8) = false := decide_eq_false (by omega)
    have HmB : Hid (∃ sB, ∀ wx : World, True) := hid ⟨0, fun _ => trivial⟩
    obtain ⟨bz, hbz⟩ : ∃ b, sm.isNone = b := ⟨_, rfl⟩
    have heq : Sem.run Tryz.prog (binOp .eql 204 (.map sm) (.map none)) wq = .ok (.bool bz) wq := by
      subst hbz
      cases sm <;> kernel_rfl
    go_upto_if 80 with fail
    go_cut [3] from 80 to 83 (fun u wc => ∃ mB : Nat, u = .map (some mB) ∧ Hid (∃ f, CkS N mg ρ w l bs F U c V (errs = [] ∧ FldD F i) (1000000 + i * 65536) (some mB) f wc))
    case first =>
      cases sm with
      | none =>
        obtain rfl : bz = true := hbz.symm
        clear heq hbz
        have hmk := run_makeMapN (t := 204) Tryz.underlying204 m
        have HF : Hid (∃ f, CkS N mg ρ w l bs F U c V (errs = [] ∧ FldD F i) (1000000 + i * 65536) (some wq.heap.size) f (wq.alloc (.map #[] 0))) := hid (by
          obtain ⟨ρ0, v0, es0, h1, h2, h3, h4, _⟩ := HK1.out.m
          refine ⟨fun _ => none, ρ0, v0, es0, h1.below (nbel wq _), h2.trans (Fr.below (nbel wq _)), h3, h4, fun m' hm' => ?_⟩
          cases hm'
          exact ⟨MG.new _ wq rfl, h1.new (Nat.le_refl _), h2.size⟩)
        go_wp2
        go_meet
        exact ⟨_, rfl, HF⟩
      | some mB =>
        obtain rfl : bz = false := hbz.symm
        clear heq hbz
        have HF : Hid (∃ f, CkS N mg ρ w l bs F U c V (errs = [] ∧ FldD F i) (1000000 + i * 65536) (some mB) f wq) := hid ⟨f0, HK1.out⟩
        go_wp2
        go_meet
        exact ⟨_, rfl, HF⟩
    case rest =>
    obtain ⟨mB, rfl, HK2⟩ := hcut
    clear HK1 e1 heq hbz
    obtain ⟨f2, hf2⟩ := HK2.out
    obtain ⟨ρ2, v2, es2, hm2, hfr2, hp2, hb2, hs2⟩ := hf2.m
    obtain ⟨hg2, hr2, hl2⟩ := hs2 mB rfl
    obtain ⟨w3, hcl, hg3, hu3⟩ := hg2.clear Tryz.underlying204 0
    have HK3 : Hid (CkS N mg ρ w l bs F U c V ((errs = [] ∧ FldD F i) ∧ Dis F lo 0) (1000000 + i * 65536 + 0) (some mB) (fun _ => none) w3 ∧ (∀ s : ByteArray, ((fun _ => none : ByteArray → Option Value) s).isSome = true ↔ ∃ a y, a < 0 ∧ F.fields[lo + a]? = some y ∧ y.name = s) ∧ ∀ (s : ByteArray) (v : Value), (fun _ => none : ByteArray → Option Value) s = some v → v = .agg #[]) := hid (by
      refine ⟨⟨ρ2, v2, es2, hm2.updL hu3 hr2 hl2 Hlo.out.1 Hlo.out.2, hfr2.updL hu3 hl2, ?_, by omega, fun m' hm' => ?_⟩, fun s => ⟨(fun h => by cases h), fun ⟨a, y, ha, _⟩ => absurd ha (Nat.not_lt_zero _)⟩, fun s v hv => by cases hv⟩
      · exact hp2.trans ⟨fun e => ⟨e, fun a b y z _ hb => absurd hb (Nat.not_lt_zero _)⟩, fun e => e.1⟩
      · cases hm'
        exact ⟨hg3, hr2, hl2⟩)
    clear hm2 hfr2 hp2 hb2 hs2 hg2 hg3 hu3 hf2 HK2
    go_upto_region 22 with fail
    clear hcl
    go_loopw [87] (fun t wr => ∃ j : Nat, t = .int .i64 (j : Int) ∧ j ≤ m ∧ Hid (∃ f : ByteArray → Option Value, CkS N mg ρ w l bs F U c V ((errs = [] ∧ FldD F i) ∧ Dis F lo j) (1000000 + i * 65536 + j) (some mB) f wr ∧ (∀ s : ByteArray, (f s).isSome = true ↔ ∃ a y, a < j ∧ F.fields[lo + a]? = some y ∧ y.name = s) ∧ ∀ s v, f s = some v → v = .agg #[])) (fun t _ => m - (intOf t).toNat)
    case atStart => exact ⟨0, rfl, Nat.zero_le _, hid ⟨_, HK3.out⟩⟩
    case round =>
    clear HK3
    obtain ⟨j, rfl, hj, HJ⟩ := hrel
    by_cases hjm : j < m
    rotate_left
    · have d2 : decide ((j : Int) < (m : Int)) = false := decide_eq_false (by omega)
      have HF : Hid (∃ f, CkS N mg ρ w l bs F U c V (errs = [] ∧ FldD F (i + 1)) (1000000 + (i + 1) * 65536) (some mB) f wr) := hid (by
        obtain ⟨f, hf, _⟩ := HJ.out
        obtain rfl : j = m := by omega
        refine ⟨f, hf.iff ?_ (by omega)⟩
        rw [FldD.succ Hx.out, Hlh.out.1, Hlh.out.2.1, Hlh.out.2.2]
        exact ⟨fun e => ⟨e.1.1, e.1.2, fun _ => e.2⟩, fun e => ⟨⟨e.1, e.2.1⟩, e.2.2 Hs2.out⟩⟩)
      go_wp2
      exact ⟨⟨i + 1, some mB, by go_num, rfl, by omega, HF⟩, by simp [intOf]; omega⟩
    have d2 : decide ((j : Int) < (m : Int)) = true := decide_eq_true (by omega)
    have i4 : (j : Int) < (m : Int) := by omega
    obtain ⟨f1, hf1, hfi⟩ := HJ.out
    have HJ1 := hid hf1
    have Hfi := hid hfi
    clear HJ
    obtain ⟨ρ1, v1, es1, hm1, hfr1, hp1, hb1, hs1⟩ := hf1.m
    obtain ⟨gf, z, hax, hgf, hz, z0, z1⟩ := hm1.field (x := x) HDx.out.f Huf.out (j := j) (by rw [Hlh.out.1, Hlh.out.2.1, Hlh.out.2.2]; exact hjm)
    rw [Hlh.out.1] at hax hz z0 z1
    rw [Hax.out] at hax
    subst hax
    have Hz := hid hz
    have Hm1 := hid hm1
    have Hfr1 := hid hfr1
    have Hp1 := hid hp1
    have Hb1 := hid hb1
    have Hs1 := hid hs1
    have Hzp : Hid (z.pos ≤ l.n ∧ z.name.size ≤ l.n) := hid (HW.out.fp z (List.mem_of_getElem? hz))
    obtain ⟨o, ho⟩ : ∃ o, lo * 3 = o := ⟨_, rfl⟩
    rw [ho] at z0 z1
    rw [ho]
    have Ho := hid ho
    clear ho hm1 hfr1 hp1 hb1 hs1 hf1 hz hfi
    have hga : (f1 z.name).getD (.agg #[]) = .agg #[] := by
      cases hq : f1 z.name with
      | none => rfl
      | some v => exact Hfi.out.2 _ _ hq
    obtain ⟨b, hb⟩ : ∃ b, (f1 z.name).isSome = b := ⟨_, rfl⟩
    have Hb := hid hb
    have hlk := (Hs1.out mB rfl).1.lookT (P := Tryz.prog) Tryz.underlying204 (keyStr Tryz.underlying9) z.name (z := .agg #[]) (fun w => by kernel_rfl)
    rw [hga, hb] at hlk
    clear hga hb
    have Hm2 := hid (Hm1.out.below (nbel wr (.cells #[] 207)))
    have Hs2m : Hid (∀ m, some mB = some m → MG (fun s : ByteArray => Value.string s) (wr.alloc (.cells #[] 207)) m f1 ∧ ρ1 m = 0 ∧ w.heap.size ≤ m) := hid (fun m hm => ⟨(Hs1.out m hm).1.below (nbel wr _), (Hs1.out m hm).2⟩)
    have Hfr2 : Hid (Fr XD ρ w ρ1 (wr.alloc (.cells #[] 207))) := hid (Hfr1.out.trans (Fr.below (nbel wr _)))
    cases b with
    | false =>
      obtain ⟨w5, hput, hg5, hu5⟩ := (Hs2m.out mB rfl).1.put (P := Tryz.prog) Tryz.underlying204 (keyStr Tryz.underlying9) z.name (.agg #[])
      have HF : Hid (∃ f : ByteArray → Option Value, CkS N mg ρ w l bs F U c V ((errs = [] ∧ FldD F i) ∧ Dis F lo (j + 1)) (1000000 + i * 65536 + (j + 1)) (some mB) f w5 ∧ (∀ s : ByteArray, (f s).isSome = true ↔ ∃ a y, a < j + 1 ∧ F.fields[lo + a]? = some y ∧ y.name = s) ∧ ∀ s v, f s = some v → v = .agg #[]) := hid (by
        have hsm := Hs2m.out mB rfl
        refine ⟨gup f1 z.name (some (.agg #[])), ⟨ρ1, v1, es1, Hm2.out.updL hu5 hsm.2.1 hsm.2.2 Hlo.out.1 Hlo.out.2, Hfr2.out.updL hu5 hsm.2.2, ?_, by have := Hb1.out; omega, fun m' hm' => ?_⟩, fun s => ?_, fun s v hv => ?_⟩
        · refine Hp1.out.trans ?_
          rw [Dis.succ Hz.out]
          refine ⟨fun e => ⟨e.1, e.2, fun a y ha hy e2 => ?_⟩, fun e => ⟨e.1, e.2.1⟩⟩
          have := (Hfi.out.1 z.name).2 ⟨a, y, ha, hy, e2⟩
          rw [Hb.out] at this
          cases this
        · cases hm'
          exact ⟨hg5, hsm.2⟩
        · unfold gup
          by_cases e : s = z.name
          · subst e
            rw [if_pos rfl]
            exact ⟨fun _ => ⟨j, z, by omega, Hz.out, rfl⟩, fun _ => rfl⟩
          · rw [if_neg e]
            rw [Hfi.out.1 s]
            constructor
            · rintro ⟨a, y, ha, hy, e2⟩
              exact ⟨a, y, by omega, hy, e2⟩
            · rintro ⟨a, y, ha, hy, e2⟩
              refine ⟨a, y, ?_, hy, e2⟩
              rcases Nat.lt_succ_iff_lt_or_eq.1 ha with h | h
              · exact h
              · subst h
                have := Hz.out
                rw [hy] at this
                cases this
                exact absurd e2.symm e
        · unfold gup at hv
          by_cases e : s = z.name
          · simp [e] at hv
            exact hv.symm
          · simp [e] at hv
            exact Hfi.out.2 _ _ hv)
      clear hg5 hu5
      go_wp2
      exact ⟨⟨j + 1, by go_num, by omega, HF⟩, by simp [intOf]; omega⟩
    | true =>
      obtain ⟨gf2, z', hax2, _, hz', z0', z1'⟩ := Hm2.out.field (x := x) HDx.out.f Huf.out (j := j) (by rw [Hlh.out.1, Hlh.out.2.1, Hlh.out.2.2]; omega)
      rw [Hlh.out.1] at hax2 hz' z0' z1'
      rw [Hax.out, Ho.out] at hax2
      cases hax2
      rw [Ho.out] at z0' z1'
      obtain rfl : z' = z := by have := Hz.out; rw [hz'] at this; exact Option.some.inj this
      obtain ⟨gd2, egd, _, hcd⟩ := Hm2.out.decl Hud.out Hx.out
      cases egd
      have x1' : (wr.alloc (.cells #[] 207)).cell? ⟨gd, i * 11 + 1, none⟩ = some (.string x.name) := hcd 1 (by decide)
      have HDu := hid (duplicateFieldW Hm2.out x1' z0' z1' HDx.out.nm Hzp.out.2 Hzp.out.1 (by have := Hb1.out; omega))
      clear hcd hz' x1' z0' z1'
      go_wp2_with fail
      refine HDu.out.mono ?_
      rintro e w5 ⟨rfl, h5⟩
      have HF : Hid (∃ f : ByteArray → Option Value, CkS N mg ρ w l bs F U c V ((errs = [] ∧ FldD F i) ∧ Dis F lo (j + 1)) (1000000 + i * 65536 + (j + 1)) (some mB) f w5 ∧ (∀ s : ByteArray, (f s).isSome = true ↔ ∃ a y, a < j + 1 ∧ F.fields[lo + a]? = some y ∧ y.name = s) ∧ ∀ s v, f s = some v → v = .agg #[]) := hid (by
        obtain ⟨a, y, ha, hy, e2⟩ := (Hfi.out.1 z'.name).1 Hb.out
        refine ⟨f1, (CkS.add Hfr2.out Hs2m.out h5.out Hb1.out).iff ?_ (by omega), fun s => ?_, Hfi.out.2⟩
        · exact ⟨fun e => e.elim, fun e => (e.2 a j y z' ha (by omega) hy Hz.out) e2⟩
        · rw [Hfi.out.1 s]
          constructor
          · rintro ⟨a, y, ha, hy, e2⟩
            exact ⟨a, y, by omega, hy, e2⟩
          · rintro ⟨a', y', ha', hy', e2'⟩
            rcases Nat.lt_succ_iff_lt_or_eq.1 ha' with h | h
            · exact ⟨a', y', h, hy', e2'⟩
            · subst h
              have := Hz.out
              rw [hy'] at this
              cases this
              exact ⟨a, y, ha, hy, e2.trans e2'⟩)
      clear HDu h5
      go_wp2
      exact ⟨⟨j + 1, by go_num, by omega, HF⟩, by simp [intOf]; omega⟩
end
end Go.Proofs.Qxb6500883aGreatDoor
