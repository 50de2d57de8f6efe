/- Diagnose: its start; the table built, measured, sealed. -/
import Derived.Test.Qxb6500883aGreatDoorScQa
namespace Go.Proofs.Qxb6500883aGreatDoor
open Go.RowKit
set_option linter.unusedSimpArgs false
set_option linter.unusedVariables false
def V00 : CV := ⟨.slice none 0 0, .map none, .slice none 0 0, .slice none 0 0, .slice none 0 0, .slice none 0 0, .slice none 0 0⟩
/-- The roles at Diagnose's start: the file's and the checker's. -/
def ρD (ρ : Rl) (c : Nat) : Rl := fun g => if g = c then 11 else if ρ g ≤ 8 then ρ g else 0
section
variable {N mg : Nat} {ρ ρ' : Rl} {w w' w0 w1 w2 : World} {l : PL} {bs : List UInt8} {F : FS} {U : FV} {c gP i : Nat} {V V' : CV} {errs : List (Nat × Nat)}
theorem ρD_keep {g k : Nat} (hk : k ≠ 0) (h8 : k ≤ 8) (hc : ρ c = 0) (h : ρ g = k) : ρD ρ c g = k := by
  unfold ρD
  rw [if_neg (fun e => by subst e; omega), if_pos (by omega)]
  exact h
theorem ρD_zero {g : Nat} (hg : g ≠ c) (h : ρ g = 0) : ρD ρ c g = 0 := by
  unfold ρD
  rw [if_neg hg, if_pos (by omega)]
  exact h
theorem CM.begin (h : PR N mg ρ w l bs F) (hU : Blk w l.f 109 (flC l U)) (hR : FRw ρ w U F) (hc : w.heap.size = c) (hb : Below w.heap.size w w1) (hB : Blk w1 c 121 (chC l V00)) : CM N mg (ρD ρ c) w1 l bs F U c V00 [] ∧ ∀ g, g < c → ρD ρ c g < 9 := by
  have h1 := h.below hb
  have z : ρ c = 0 := by
    cases e : ρ c with
    | zero => rfl
    | succ q => have := h.dom c (by rw [e]; exact Nat.succ_ne_zero q); omega
  have k : ∀ g r, r ≠ 0 → r ≤ 8 → ρ g = r → ρD ρ c g = r := fun g r a b e => ρD_keep a b z e
  obtain ⟨V, r1, r2⟩ := h1.rows
  have kR : ∀ {V : FV} {w : World}, FRw ρ w V F → FRw (ρD ρ c) w V F := fun r2 => ⟨r2.d.rho (fun g => k g _ (by decide) (by decide)), r2.t.rho (fun g => k g _ (by decide) (by decide)), r2.e.rho (fun g => k g _ (by decide) (by decide)), r2.f.rho (fun g => k g _ (by decide) (by decide)), r2.o.rho (fun g => k g _ (by decide) (by decide))⟩
  have hR1 : FRw ρ w1 U F := by
    have hk : ∀ {α : Type} {K : RK α} {c : Nat} {v : Value} {xs : List α}, RowX K w ρ c v xs → RowX K w1 ρ c v xs := fun hr => hr.of (fun g hg hr => ⟨hb.block g hg, rfl⟩)
    exact ⟨hk hR.d, hk hR.t, hk hR.e, hk hR.f, hk hR.o⟩
  refine ⟨⟨⟨h1.src, h1.gl, ⟨V, r1, kR r2⟩, k _ _ (by decide) (by decide) h1.rp, k _ _ (by decide) (by decide) h1.rf, fun ad ha => ρD_zero (by have := h.src.lt ad ha; omega) (h1.rs ad ha), fun g hg => ρD_zero (by have := h.gl.sz; omega) (h1.rN g hg), fun g hg => ?_⟩, hU.below hb, kR hR1, hB, by unfold ρD; rw [if_pos rfl], ⟨⟨[], RowX.nil _ _ _ _, rfl, List.nodup_nil, fun i q hq => by cases hq⟩, fun k hk => by cases hk⟩⟩, fun g hg => ?_⟩
  · by_cases e : g = c
    · subst e; exact hB.lt
    · refine Nat.lt_of_lt_of_le (h.dom g (fun e2 => hg (ρD_zero e e2))) hb.size
  · unfold ρD
    rw [if_neg (by omega)]
    split <;> omega
/-- Four phases have found nothing. -/
structure DgF (F : FS) (vf rk : Nat → Nat) : Prop where
  nm : NamesOk F
  rk : Rank (grF F) rk
  vo : VfOk F vf
  sh : ShOk F vf
theorem DgI.lcx (hc : DgC l.n F) (h : DgI N mg l bs F U c w0 gP 4 w) : ∃ ρ V gT gV vf rk, LCx N mg ρ w l bs F U c V gT gV vf rk ∧ DgB w0 gP c ρ w ∧ DgF F vf rk := by
  obtain ⟨ρ, V, hC, hB, mB, gT, gE, vo, od, gV, vf, hE, hn, ⟨rk, ha⟩, hv, ht, hev, hs⟩ := h.m
  exact ⟨ρ, V, gT, gV, vf, rk, ⟨hC, ht, hE.1.1.2.1, hev, hE.2, hc.wf, hc.sz, hv.lt, hc.ct, hn.t, hc.rg, ha⟩, hB, ⟨hn, ha, hv, hs⟩⟩
/-- The built table, plainly. -/
structure BtP (F : FS) (vf : Nat → Nat) (B : BS) (bn : ByteArray → Option Nat) : Prop where
  bd : Bld F vf F.decls.length B bn
  ti : TI B
  ne : NeT B.T
  sz : B.size ≤ 200000
  dl : B.T.decls.length = F.decls.length
  dt : ∀ d ∈ B.T.decls, d.sort ≠ 0 → ∃ j : Nat, d.typ = (j : Int) ∧ j < B.T.types.length
theorem sh_flds {vf rk : Nat → Nat} {n : Nat} (hW : FWf n F) (h : DgF F vf rk) (d : Nat) (x : DN) (hx : F.decls[d]? = some x) (hs : x.sort = 2) : fldsOf F x ≠ [] := by
  have h1 := h.sh.c d x (List.getElem?_eq_some_iff.1 hx).1 hx hs
  have h2 := (hW.d x (List.mem_of_getElem? hx)).f
  intro e
  have := congrArg List.length e
  unfold fldsOf at this
  rw [List.length_take, List.length_drop, List.length_nil] at this
  omega
theorem sh_kids {vf rk : Nat → Nat} {n : Nat} (hW : FWf n F) (h : DgF F vf rk) (r : Nat) (x : TN) (hx : F.types[r]? = some x) (hf : x.form = 7) : kids F x ≠ [] := by
  have hr := (List.getElem?_eq_some_iff.1 hx).1
  have h1 := (h.sh.u r x hr hx hf).1
  obtain ⟨y, hy, h2, h3⟩ := hW.tc r hr
  obtain ⟨h4, h5, _⟩ := ((hW.d y hy).tw r x h2 h3 hx).uni hf
  intro e
  have := congrArg List.length e
  unfold kids at this
  rw [if_neg (by omega), if_pos hf, List.length_take, List.length_drop, List.length_nil] at this
  omega
/-- Measured: what is in memory, and plainly. -/
structure MzR (N mg : Nat) (l : PL) (bs : List UInt8) (F : FS) (U : FV) (c : Nat) (w0 : World) (gP : Nat) (tB : Nat) (w : World) : Prop where
  m : ∃ ρ τ V errs T' vd Vt ga mn gv B bn vF fps n0 vf rk, CM N mg ρ w l bs F U c V errs ∧ MzT n0 tB Vt T' B.T.types.length ga mn gv (alK B.T F.decls.length) bn vd vF fps ρ τ w ∧ Vt.al = .slice (some ⟨ga, 0, none⟩) B.T.types.length B.T.types.length ∧ Vt.byN = .map (some mn) ∧ MzP B.T T' vd errs B.T.types.length ∧ BtP F vf B bn ∧ DgF F vf rk ∧ DgB w0 gP c ρ w ∧ w0.heap.size ≤ n0
theorem measureD {ρ : Rl} {V : CV} {gT gV tB : Nat} {vf rk : Nat → Nat} {vF : Value} (hc : DgC l.n F) (hL : LCx N mg ρ w l bs F U c V gT gV vf rk) (hB : DgB w0 gP c ρ w) (hF : DgF F vf rk) (hQ : BtQ F vf l.n w tB vF w2) :
    Calls Tryz.prog 62 #[.pointer (some ⟨tB, 0, none⟩), vF, .pointer (some ⟨c, 1, none⟩)] w2 fun e w' => e = .returned (.tuple #[]) ∧ Hid (MzR N mg l bs F U c w0 gP tB w') := by
  obtain ⟨B, bn, Vt, ga, mn, fps, τ, hZ, hfp, hbd, hfl, hfn, hok, hsz, hdl, hdt⟩ := hQ.m
  have hsz' : B.T.types.length + B.T.opts.length + B.T.flds.length ≤ 200000 := hsz
  have hlt : B.T.types.length ≤ 200000 := by omega
  have hti := hbd.ti hL.wf hL.vb hlt
  have hne := hbd.ne hL.wf hL.vb (sh_flds hL.wf hF) (sh_kids hL.wf hF) hlt
  have hts := hti.tstr hne
  have hC2 := hL.m.below hQ.b
  have hz0 : ∀ g, τ g ≠ 0 → ρ g = 0 := fun g hg => hL.m.new (hZ.lo g hg)
  have hK : ∀ (d : Nat) (x : DN), F.decls[d]? = some x → x.tHi - x.tLo ≤ 65536 := fun d x hx => by
    have h1 := (hL.wf.d x (List.mem_of_getElem? hx)).t
    have h2 := hL.sz.t
    omega
  have hrf := hbd.rf_len (N := 450000000) hL.wf hF.rk hL.vb hL.ct (fun d y hy => hc.nb y (List.mem_of_getElem? hy)) hK hlt hts
  have hab : ∀ i, alK B.T F.decls.length i = -1 ∨ ∃ j : Nat, alK B.T F.decls.length i = (j : Int) ∧ j < B.T.decls.length := fun i => by rw [hdl]; exact alK_rng B.T _ i
  have hdz := hL.sz.d
  refine (measureW hC2 hZ hfp rfl hz0 hL.m.r.gl.sz (fun ad ha => hL.m.r.src.lt ad ha) hts hti.allB hti.ok.t hti.zs hlt (by omega) (by omega) (by omega) hfl hfn hab (fun id hi => Nat.le_trans (hrf id hi) (by decide))).mono ?_
  rintro e w' ⟨rfl, HH⟩
  refine ⟨rfl, hid ?_⟩
  obtain ⟨gv, hI⟩ := HH.out
  obtain ⟨ρ', τ', v', errs, T', vd, h1, h2, h3, h4⟩ := hI.m
  refine ⟨ρ', τ', _, errs, T', vd, Vt, ga, mn, gv, B, bn, vF, fps, w.heap.size, vf, rk, h1, h2, hZ.va, hZ.vb, h4, ⟨hbd, hti, hne, hsz, hdl, hdt⟩, hF, ?_, hB.b.size⟩
  have hs := hB.b.size
  have hs2 := hQ.b.size
  have z : ∀ g, g < w.heap.size → τ g = 0 := fun g hg => by
    cases e : τ g with
    | zero => rfl
    | succ q => have := hZ.lo g (by rw [e]; exact Nat.succ_ne_zero q); omega
  have hB2 := hB.below hQ.b
  refine ⟨hB2.b.trans ⟨h3.os, h3.tape, h3.output, h3.size, fun g hg => h3.bk g (by omega) ?_ (z g (by omega))⟩, fun g hg => by rw [(h3.rl g (by omega)).1]; exact hB.r g hg, hB2.p.of (h3.bk gP hB2.p.lt (by rw [hB.q]; rfl) (z gP hB.p.lt)), by rw [(h3.rl gP hB2.p.lt).1]; exact hB.q⟩
  have := hB.r g hg
  unfold XD
  simp
  omega
/-- THE ACCEPTED TABLE in memory. -/
structure TbG (n0 : Nat) (τ : Rl) (w : World) (tB : Nat) (V : TV) (T : TS) (ga mn mf : Nat) (al : Nat → Int) (bn : ByteArray → Option Nat) : Prop where
  tb : TbM τ w tB V T
  dom : ∀ g, τ g ≠ 0 → g < w.heap.size
  lo : ∀ g, τ g ≠ 0 → n0 ≤ g
  va : V.al = .slice (some ⟨ga, 0, none⟩) T.types.length T.types.length
  al : RwJ ga T.types.length al 62 τ w
  vb : V.byN = .map (some mn)
  mg : MG (fun s : ByteArray => Value.string s) w mn (fun s => nmV (bn s))
  rm : τ mn = 60
  vf : V.byF = .map (some mf)
  fm : MG fkV w mf (sealT T T.types.length)
  rf : τ mf = 64
theorem TbG.fr {n0 : Nat} {τ τ' : Rl} {tB : Nat} {V : TV} {T : TS} {ga mn mf : Nat} {al : Nat → Int} {bn : ByteArray → Option Nat} (h : TbG n0 τ w tB V T ga mn mf al bn) (hb : Below w.heap.size w w') : TbG n0 τ w' tB V T ga mn mf al bn :=
  ⟨h.tb.below hb, fun g hg => Nat.lt_of_lt_of_le (h.dom g hg) hb.size, h.lo, h.va, h.al.below hb, h.vb, h.mg.below hb, h.rm, h.vf, h.fm.below hb, h.rf⟩
/-- The accepted schema, plainly: the table built, and measured. -/
structure AcT (F : FS) (T : TS) (al : Nat → Int) (bn : ByteArray → Option Nat) : Prop where
  m : ∃ vf rk B vd, DgF F vf rk ∧ BtP F vf B bn ∧ MzP B.T T vd [] B.T.types.length ∧ al = alK B.T F.decls.length
theorem sealD {tB : Nat} (h : MzR N mg l bs F U c w0 gP tB w) : (∃ ρ V errs vf rk B bn T' vd, CM N mg ρ w l bs F U c V errs ∧ DgB w0 gP c ρ w ∧ errs.length ≤ 200000000000 ∧ errs ≠ [] ∧ DgF F vf rk ∧ BtP F vf B bn ∧ MzP B.T T' vd errs B.T.types.length) ∨
    ((∃ ρ V, CM N mg ρ w l bs F U c V []) ∧ Calls Tryz.prog 63 #[.pointer (some ⟨tB, 0, none⟩)] w fun e w' => e = .returned (.tuple #[]) ∧ Hid ((∃ n0 τ V T ga mn mf al bn, TbG n0 τ w' tB V T ga mn mf al bn ∧ w0.heap.size ≤ n0 ∧ AcT F T al bn) ∧ Below w0.heap.size w0 w')) := by
  obtain ⟨ρ, τ, V, errs, T', vd, Vt, ga, mn, gv, B, bn, vF, fps, n0, vf, rk, hC, hT, hva, hvb, hP, hBt, hF, hB, hn0⟩ := h.m
  have hsz' : B.T.types.length + B.T.opts.length + B.T.flds.length ≤ 200000 := hBt.sz
  by_cases he : errs = []
  rotate_left
  · exact .inl ⟨ρ, V, errs, vf, rk, B, bn, T', vd, hC, hB, by have := hP.le; omega, he, hF, hBt, hP⟩
  subst he
  refine .inr ⟨⟨ρ, V, hC⟩, ?_⟩
  have hts := hP.s.tstr (hBt.ti.tstr hBt.ne)
  have hk : ∀ (i : Nat) (x : TR), T'.types[i]? = some x → x.kind = 7 → x.lo < x.hi ∧ x.hi ≤ T'.flds.length := fun i x hx h7 => by
    by_cases h8 : i < 8
    · rw [(hP.lo i h8).1, hBt.ti.hd i h8] at hx
      cases hx
      unfold biR at h7
      simp only at h7
      split at h7
      · cases h7
      · split at h7 <;> cases h7
    · cases hts i x (by omega) hx with
      | ser h1 _ _ => omega
      | bit h1 _ => omega
      | con _ h2 h3 _ => exact ⟨h2, h3⟩
      | uni h1 _ _ _ => omega
  refine (sealW hT.tb hT.dm (by rw [hP.s.n]; exact hBt.ti.ok.t) hk (by rw [hP.s.n]; omega) (by rw [hP.s.f]; omega)).mono ?_
  rintro e w' ⟨rfl, HH⟩
  refine ⟨rfl, hid ?_⟩
  obtain ⟨mf, hS⟩ := HH.out
  have hfr := hS.fr
  have hnl := hP.s.n
  refine ⟨⟨n0, fup τ mf 64, sldV Vt mf, T', ga, mn, mf, alK B.T F.decls.length, bn, ⟨hS.tb, fun g hg => ?_, fun g hg => ?_, by rw [hnl]; exact hva, by rw [hnl]; exact hT.al.fr hfr rfl, hvb, hT.mg.of (hfr.blk mn hT.mg.lt (by rw [hT.rm]; rfl)), by rw [hfr.old mn hT.mg.lt]; exact hT.rm, rfl, hS.mg, fup_self _ _ _⟩, hn0, ⟨vf, rk, B, vd, hF, hBt, hP, rfl⟩⟩, ?_⟩
  · by_cases e : g = mf
    · subst e; exact hS.mg.lt
    · rw [fup_ne _ _ e] at hg; exact Nat.lt_of_lt_of_le (hT.dm g hg) hfr.size
  · by_cases e : g = mf
    · subst e
      have h1 := (hT.ti tB (by rw [hT.tb.rb]; decide)).2
      have h2 := hT.dm tB (by rw [hT.tb.rb]; decide)
      have h3 := hS.nw
      omega
    · rw [fup_ne _ _ e] at hg; exact (hT.ti g hg).2
  · refine hB.b.trans ⟨hfr.os, hfr.tape, hfr.output, hfr.size, fun g hg => hfr.blk g (Nat.lt_of_lt_of_le hg hB.b.size) ?_⟩
    have : τ g = 0 := by
      cases e : τ g with
      | zero => rfl
      | succ q => have := (hT.ti g (by rw [e]; exact Nat.succ_ne_zero q)).2; omega
    rw [this]
    rfl
end
end Go.Proofs.Qxb6500883aGreatDoor
