/- The law RefusalsChangeNothing. -/
import Derived.Test.Qxb6500888aBaQ8
import Derived.Test.Qxb6500888aBaR1
namespace Go.Proofs.Qxb6500888a
open Go.RowKit
set_option linter.unusedSimpArgs false
set_option linter.unusedVariables false
attribute [local irreducible] wdC

/-- Two worlds of one plain state, apart from one another. -/
structure TwS (w0 : World) (wB1 wB2 k : Nat) (ρ1 : Rl) (L1 : GL) (T1 : BL) (ρ2 : Rl) (L2 : GL) (T2 : BL) (G : GS) (B : BS) (wr : World) : Prop where
  a : LW w0 wB1 k ρ1 L1 T1 G B wr
  b : LW w0 wB2 k ρ2 L2 T2 G B wr
  dj : ∀ g, ρ1 g = 0 ∨ ρ2 g = 0
  z1 : ρ1 wB2 = 0
  z2 : ρ2 wB1 = 0
section
variable {w0 wr w' : World} {wB1 wB2 k : Nat} {ρ1 ρ1' ρ2 ρ2' : Rl} {L1 L1' L2 L2' : GL} {T1 T1' T2 T2' : BL} {G G' : GS} {B B' : BS}
theorem TwS.below (h : TwS w0 wB1 wB2 k ρ1 L1 T1 ρ2 L2 T2 G B wr) (hb : Below wr.heap.size wr w') : TwS w0 wB1 wB2 k ρ1 L1 T1 ρ2 L2 T2 G B w' := ⟨h.a.below hb, h.b.below hb, h.dj, h.z1, h.z2⟩
/-- What another machine does leaves a machine as it was. -/
theorem LW.aside (h : LW w0 wB2 k ρ2 L2 T2 G B wr) (hf : Fr pX ρ1 wr ρ1' w') (hd : ∀ g, ρ1 g = 0 ∨ ρ2 g = 0) (h0 : ρ1 wB2 = 0) (hl : ∀ g, g < w0.heap.size → ρ1 g = 0) : LW w0 wB2 k ρ2 L2 T2 G B w' := by
  have hf2 : Fr (fun c => c == 0) ρ2 wr ρ2 w' := ⟨hf.os, hf.tape, hf.output, hf.size, fun _ _ => rfl, fun _ _ => rfl, fun g hg hx => hf.blk g hg (by
    rcases hd g with h1 | h1
    · rw [h1]; rfl
    · rw [h1] at hx; cases hx)⟩
  refine ⟨⟨h.wm.bm.keep hf2 (fun c hc => ?_), hf.keep h.wm.wb h0 rfl, h.wm.w0⟩, h.inv, h.bel.trans (hf.toBelow h.bel.size hl rfl), h.low⟩
  have := of_decide_eq_true hc
  show (c == 0) = false
  simp
  omega
end
def TwI (w0 : World) (wB1 wB2 k : Nat) (wr : World) : Prop := ∃ ρ1 L1 T1 ρ2 L2 T2 G B, TwS w0 wB1 wB2 k ρ1 L1 T1 ρ2 L2 T2 G B wr
theorem TwI.below {w0 wr w' : World} {wB1 wB2 k : Nat} (h : TwI w0 wB1 wB2 k wr) (hb : Below wr.heap.size wr w') : TwI w0 wB1 wB2 k w' := by
  obtain ⟨ρ1, L1, T1, ρ2, L2, T2, G, B, h1⟩ := h
  exact ⟨_, _, _, _, _, _, _, _, h1.below hb⟩
theorem TwI.same {w0 wr : World} {wB1 wB2 k : Nat} (h : TwI w0 wB1 wB2 k wr) (hk : k ≤ 65536) : Calls Try.prog 36 #[.pointer (some ⟨wB1, 0, none⟩), .pointer (some ⟨wB2, 0, none⟩)] wr fun e w' => e = .returned (.bool true) ∧ Below wr.heap.size wr w' := by
  obtain ⟨ρ1, L1, T1, ρ2, L2, T2, G, B, h1⟩ := h
  exact sameWorld_walk h1.a.wm h1.b.wm h1.a.inv.bo (by omega)
set_option maxRecDepth 1000000 in
set_option maxHeartbeats 8000000 in
theorem refusals_walk (a : Option Addr) (n c : Nat) (l : List OpP) (w : World) (hs : Script w a n c l) :
    Calls Try.prog 11 #[.slice a n c] w fun e w' => e = .returned (.bool true) ∧ Below w.heap.size w w' := by
  have HSm := hid (fun w => small_walk a n c w)
  have HS := hid hs
  have HNw := hid (fun w => newWorld_walk w)
  clear hs
  by_cases hsm : n ≤ 65536
  rotate_left
  · as_aux_lemma =>
    rw [decide_eq_false hsm] at HSm
    go_enter Try.func11, Try.ntmps11
    go_wp2_with (go_at_call 13; refine (HSm.out _).mono ?_; rintro e w' ⟨rfl, rfl⟩)
    go_ret
    exact ⟨rfl, Below.refl _ _⟩
  rw [decide_eq_true hsm] at HSm
  go_enter Try.func11, Try.ntmps11
  go_wp2_with (go_at_call 13; refine (HSm.out _).mono ?_; rintro e w' ⟨rfl, rfl⟩)
  refine (HNw.out _).mono ?_
  rintro e w1 ⟨wB1, ρ1, L1, T1, rfl, hW1, hl1, hb1, hwB⟩
  have HL1 : Hid (LW w' wB1 0 ρ1 L1 T1 G0 B0 w1) := hid ⟨hW1, InvM.zero, hb1, hl1⟩
  have HwB := hid hwB
  clear hW1 hl1 hb1 HSm hwB
  go_wp2_with fail
  refine (HNw.out _).mono ?_
  rintro e w2 ⟨wB2, ρ2, L2, T2, rfl, hW2, hl2, hb2, hwB2⟩
  have HLI : Hid (TwI w' wB1 wB2 0 w2) := hid (by
    have h1 := HL1.out.bel
    have hd := HL1.out.wm.bm.gm.dom
    refine ⟨ρ1, L1, T1, ρ2, L2, T2, G0, B0, ⟨HL1.out.below hb2, ⟨hW2, InvM.zero, h1.trans (hb2.mono h1.size), fun g hg => hl2 g (Nat.lt_of_lt_of_le hg h1.size)⟩, fun g => ?_, HL1.out.new0 hwB2, hl2 _ HL1.out.wm.wb.lt⟩⟩
    by_cases e : g < w1.heap.size
    · exact .inr (hl2 g e)
    · exact .inl (HL1.out.new0 (by omega)))
  clear HNw hW2 hl2 hb2 hwB2 HL1
  go_wp2_with fail
  go_loopw [16, 5] (fun v s wr => ∃ i : Nat, i ≤ n ∧ v = .int .i64 (i : Int) ∧ ∃ lk : Nat, lk ≤ i ∧ s = .int .i64 (lk : Int) ∧ Hid (TwI w' wB1 wB2 i wr)) (fun v _ _ => n - (intOf v).toNat)
  case atStart => exact ⟨0, by omega, rfl, 0, by omega, rfl, HLI⟩
  case round =>
  clear HLI
  obtain ⟨i, hi, rfl, lk, hlk, rfl, HLI⟩ := hrel
  by_cases hin : i < n
  rotate_left
  · as_aux_lemma =>
    have di : decide ((i : Int) < (n : Int)) = false := decide_eq_false (by omega)
    have HSw := hid (HLI.out.same (by omega))
    go_wp2_with fail
    refine HSw.out.mono ?_
    rintro e wx ⟨rfl, hbx⟩
    have HBx : Hid (Below w'.heap.size w' wx) := hid (by
      obtain ⟨ρ1, L1, T1, ρ2, L2, T2, G, B, h1⟩ := HLI.out.below hbx
      exact h1.a.bel)
    clear hbx HSw
    go_wp2
    go_ret
    exact ⟨rfl, HBx.out⟩
  obtain ⟨ρ1, L1, T1, ρ2, L2, T2, G, B, hE⟩ := HLI.out
  have HE := hid hE
  clear hE HLI
  have di : decide ((i : Int) < (n : Int)) = true := decide_eq_true (by omega)
  have hii : (i : Int) < (n : Int) := by omega
  obtain ⟨o, ho, hok, b, off, rfl, hb, c0, c1, c2, c3, c4⟩ := (HS.out.below HE.out.a.bel).at hin
  have HOk := hid hok
  clear ho hok
  obtain ⟨ob, hob⟩ : ∃ p, wr.heap.size = p := ⟨_, rfl⟩
  go_upto_region 8 with fail
  obtain ⟨w3, hw3⟩ : ∃ w2, wr.alloc (.cells #[.int .u8 (o.kind : Int), .int .u8 (o.m : Int), .int .u64 (o.a : Int), .int .u64 (o.b : Int), .int .u64 (o.c : Int)] 31) = w2 := ⟨_, rfl⟩
  have HW3 : Hid (TwS w' wB1 wB2 i ρ1 L1 T1 ρ2 L2 T2 G B w3 ∧ Blk w3 ob 31 (opC o) ∧ ρ1 ob = 0 ∧ ρ2 ob = 0) := hid (by
    rw [← hw3]
    have hbk := Blk.new wr (opC o) 31
    rw [hob] at hbk
    exact ⟨HE.out.below (nbel wr _), hbk, HE.out.a.new0 (by omega), HE.out.b.new0 (by omega)⟩)
  simp only [hw3]
  clear hw3 hob c0 c1 c2 c3 c4 HE
  have I1 : Hid ((Try.prog.info? 31).map (·.size) = some 5) := hid info_op
  have I0 := hid info_rz
  go_wp2_with (refine wpList_load_blk rfl 31 _ rfl ob rfl (opC o) HW3.out.2.1 _ Try.underlying31 rfl I1.out ?_)
  refine (HW3.out.1.a.play (by omega) o HOk.out).mono ?_
  rintro e w4 ⟨V, ρ4, L4, T4, rfl, h4⟩
  have HP4 := hid h4
  have HT4 : Hid (LW w' wB1 (i + 1) ρ4 L4 T4 (playS G B o).2.2.1 (playS G B o).2.2.2 w4 ∧ LW w' wB2 i ρ2 L2 T2 G B w4 ∧ (∀ g, ρ4 g = 0 ∨ ρ2 g = 0) ∧ ρ4 wB2 = 0 ∧ ρ2 wB1 = 0 ∧ Blk w4 ob 31 (opC o) ∧ ρ4 ob = 0 ∧ ρ2 ob = 0) := hid (by
    have hh := HW3.out.1
    refine ⟨h4.lw, hh.b.aside h4.fr hh.dj hh.z1 hh.a.low, fun g => ?_, ?_, hh.z2, h4.fr.keep HW3.out.2.1 HW3.out.2.2.1 rfl, ?_, HW3.out.2.2.2⟩
    · by_cases e : g < w3.heap.size
      · rw [h4.fr.old g e]; exact hh.dj g
      · exact .inr (hh.b.new0 (by omega))
    · rw [h4.fr.old _ hh.b.wm.wb.lt]; exact hh.z1
    · rw [h4.fr.old _ HW3.out.2.1.lt]; exact HW3.out.2.2.1)
  have HOne := hid (rzH_one (c := (playS G B o).1.1) (v := (playS G B o).1.2) HP4.out.rw)
  clear h4 HW3 HP4
  have HPl := hid (playS_no (G := G) (B := B) (o := o))
  obtain ⟨cc, hcc⟩ : ∃ x, (playS G B o).1.1 = x := ⟨_, rfl⟩
  obtain ⟨vv, hvv⟩ : ∃ x, (playS G B o).1.2 = x := ⟨_, rfl⟩
  rw [hcc, hvv] at HOne
  rw [hcc] at HPl
  rw [hcc, hvv]
  clear hcc hvv
  obtain ⟨r, hr⟩ : ∃ r, w4.heap.size = r := ⟨_, rfl⟩
  have hbz := Blk.new w4 (rzC 0 0) 38
  rw [hr] at hbz
  have HZ := hid hbz
  have Hr := hid hr
  clear hbz
  go_upto_region 9 with (refine wpList_store_blk rfl 38 _ _ rfl r rfl (rzH cc vv V) rfl HZ.out rfl I0.out HOne.out ?_; intro w9 HB9 HU9)
  have HT9 : Hid (LW w' wB1 (i + 1) ρ4 L4 T4 (playS G B o).2.2.1 (playS G B o).2.2.2 w9 ∧ LW w' wB2 i ρ2 L2 T2 G B w9 ∧ (∀ g, ρ4 g = 0 ∨ ρ2 g = 0) ∧ ρ4 wB2 = 0 ∧ ρ2 wB1 = 0 ∧ Blk w9 ob 31 (opC o) ∧ ρ4 ob = 0 ∧ ρ2 ob = 0) := hid (by
    have hn := nbel w4 (.cells (rzC 0 0).toArray 38)
    have hlt := Hr.out
    have hb9 : Below w4.heap.size w4 w9 := hn.trans (HU9.out.below (by omega) hn.size)
    have hh := HT4.out
    exact ⟨hh.1.below hb9, hh.2.1.below hb9, hh.2.2.1, hh.2.2.2.1, hh.2.2.2.2.1, hh.2.2.2.2.2.1.below hb9, hh.2.2.2.2.2.2.1, hh.2.2.2.2.2.2.2⟩)
  have cr : w9.cell? ⟨r, 0, none⟩ = some (.int .u8 (cc : Int)) := by rw [HB9.out.cell]; rfl
  clear HU9 HZ HOne HT4 Hr hr I0 HB9
  by_cases hc0 : cc = 0
  · as_aux_lemma =>
    subst hc0
    go_upto_region 10 with fail
    clear cr
    go_wp2_with (refine wpList_load_blk rfl 31 _ rfl ob rfl (opC o) HT9.out.2.2.2.2.2.1 _ Try.underlying31 rfl I1.out ?_)
    refine (HT9.out.2.1.play (by omega) o HOk.out).mono ?_
    rintro e wx ⟨V2, ρ5, L5, T5, rfl, h5⟩
    have HR : Hid (TwI w' wB1 wB2 (i + 1) wx) := hid (by
      have hh := HT9.out
      refine ⟨ρ4, L4, T4, ρ5, L5, T5, _, _, hh.1.aside h5.fr (fun g => (hh.2.2.1 g).symm) hh.2.2.2.2.1 hh.2.1.low, h5.lw, fun g => ?_, hh.2.2.2.1, ?_⟩
      · by_cases e : g < w9.heap.size
        · rw [h5.fr.old g e]; exact hh.2.2.1 g
        · exact .inl (hh.1.new0 (by omega))
      · rw [h5.fr.old _ hh.1.wm.wb.lt]; exact hh.2.2.2.2.1)
    generalize (rzH (playS G B o).1.1 (playS G B o).1.2 V2).toArray = ra
    clear h5 HT9 HPl
    go_wp2
    exact ⟨⟨i + 1, by omega, by go_num, lk, by omega, rfl, HR⟩, by simp [intOf]; omega⟩
  have dc : ((cc : Int) == 0) = false := by simp; omega
  have HR : Hid (TwI w' wB1 wB2 (i + 1) w9) := hid (by
    have hh := HT9.out
    have h0 := HPl.out hc0
    have h1 := hh.1
    rw [h0] at h1
    exact ⟨ρ4, L4, T4, ρ2, L2, T2, G, B, h1, ⟨hh.2.1.wm, h1.inv, hh.2.1.bel, hh.2.1.low⟩, hh.2.2.1, hh.2.2.2.1, hh.2.2.2.2.1⟩)
  clear HT9 HPl I1 HOk
  have HSw := hid (HR.out.same (by omega))
  have ilk : (lk : Int) ≤ 65536 := by omega
  by_cases hl6 : lk + 1 ≤ 6
  · as_aux_lemma =>
    have dl : decide ((lk : Int) + 1 ≤ 6) = true := decide_eq_true (by omega)
    have dl2 : (lk : Int) + 1 ≤ 6 := by omega
    go_wp2_with fail
    refine HSw.out.mono ?_
    rintro e wx ⟨rfl, hbx⟩
    have HRx := hid (HR.out.below hbx)
    clear hbx HSw HR cr
    go_wp2
    exact ⟨⟨i + 1, by omega, by go_num, lk + 1, by omega, by go_num, HRx⟩, by simp [intOf]; omega⟩
  · as_aux_lemma =>
    have dl : decide ((lk : Int) + 1 ≤ 6) = false := decide_eq_false (by omega)
    have dl2 : ¬ ((lk : Int) + 1 ≤ 6) := by omega
    have dl3 : (6 : Int) < (lk : Int) + 1 := by omega
    clear HSw
    go_wp2
    exact ⟨⟨i + 1, by omega, by go_num, lk + 1, by omega, by go_num, HR⟩, by simp [intOf]; omega⟩
end Go.Proofs.Qxb6500888a
