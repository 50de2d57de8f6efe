/- The law SegmentsAreFilledAndReused. -/
import Derived.Test.Qxb6500888aBaQ2
import Derived.Test.Qxb6500888aBaS1
namespace Go.Proofs.Qxb6500888a
open Go.RowKit
set_option linter.unusedSimpArgs false
set_option linter.unusedVariables false

theorem needN_add {B : BS} {m : Nat} (hm : m < 4) (e : Nat × Nat) : needN (addB B m e) = needN B + if (B.logs m).length % 16 = 0 then 1 else 0 := by
  have hx : ∀ n, (n + 1 + 15) / 16 = (n + 15) / 16 + if n % 16 = 0 then 1 else 0 := fun n => by split <;> omega
  have hs : (fup B.logs m (B.logs m ++ [e]) m).length = (B.logs m).length + 1 := by rw [fup_self]; simp
  unfold needN addB
  dsimp only
  rcases (by omega : m = 0 ∨ m = 1 ∨ m = 2 ∨ m = 3) with rfl | rfl | rfl | rfl
  · rw [hs, hx, fup_ne _ _ (by decide), fup_ne _ _ (by decide), fup_ne _ _ (by decide)]; omega
  · rw [hs, hx, fup_ne _ _ (by decide), fup_ne _ _ (by decide), fup_ne _ _ (by decide)]; omega
  · rw [hs, hx, fup_ne _ _ (by decide), fup_ne _ _ (by decide), fup_ne _ _ (by decide)]; omega
  · rw [hs, hx, fup_ne _ _ (by decide), fup_ne _ _ (by decide), fup_ne _ _ (by decide)]; omega
theorem needN_sK (B : BS) : sK (fun m => ((B.logs m).length + 15) / 16) 4 = needN B := by
  unfold needN
  simp only [sK]
  omega
/-- The number of segments made is the greatest number wanted. -/
def SegI (B : BS) : Prop := needN B ≤ B.made
theorem Mv.seg {G G' : GS} {B B' : BS} (h : Mv G B G' B') (hs : SegI B) : SegI B' ∧ B'.made = max B.made (needN B') := by
  unfold SegI at hs ⊢
  cases h with
  | same => exact ⟨hs, (Nat.max_eq_left hs).symm⟩
  | push => exact ⟨hs, (Nat.max_eq_left hs).symm⟩
  | pop => exact ⟨hs, (Nat.max_eq_left hs).symm⟩
  | aloc => exact ⟨hs, (Nat.max_eq_left hs).symm⟩
  | write m o n q i ref hm =>
    unfold wrB
    split
    · exact ⟨hs, (Nat.max_eq_left hs).symm⟩
    · generalize (o + 1 + i, G.word (offA o + 1 + i)) = e
      rw [needN_add hm e]
      have e2 : (addB B m e).made = if (B.logs m).length % 16 = 0 ∧ B.made = needN B then B.made + 1 else B.made := rfl
      rw [e2]
      by_cases h1 : (B.logs m).length % 16 = 0
      · rw [if_pos h1]
        by_cases h2 : B.made = needN B
        · rw [if_pos ⟨h1, h2⟩]; omega
        · rw [if_neg (fun h => h2 h.2)]; omega
      · rw [if_neg h1, if_neg (fun h => h1 h.1)]; omega
theorem seg_pause (G : GS) (B : BS) : (pauseP G B).2.1.made = B.made ∧ needN (pauseP G B).2.1 = 0 := by
  have e1 : (pauseP G B).2.1.logs = fun m => if m < 4 then [] else B.logs m := by
    show (seedB (drK B 4)).logs = _
    unfold seedB
    split <;> rfl
  constructor
  · show (seedB (drK B 4)).made = _
    unfold seedB
    split <;> rfl
  · unfold needN
    rw [e1]
    simp
theorem play_seg {t : Nat} {G : GS} {B : BS} (h : InvM t G B) (hs : SegI B) (o : OpP) : SegI (playS G B o).2.2.2 ∧ (playS G B o).2.2.2.made = max B.made (needN (playS G B o).2.2.2) := by
  by_cases h7 : o.kind = 7
  · rw [playS_7 h7]
    have := seg_pause G B
    dsimp only
    unfold SegI
    rw [this.1, this.2]
    exact ⟨Nat.zero_le _, by omega⟩
  · by_cases h8 : o.kind = 8
    · rw [playS_8 h8]
      exact ⟨hs, (Nat.max_eq_left hs).symm⟩
    · by_cases h9 : o.kind = 9
      · rw [playS_9 h9]
        exact ⟨hs, (Nat.max_eq_left hs).symm⟩
      · exact (playS_mv h.ok h.bo.nr o h7 h8 h9).seg hs
theorem field_st (B : BS) (w : World) : (Instr.field 90 (.agg (stC B 4 4 4).toArray) 5).run Try.prog w = .ok (.int .i64 (B.made : Int)) w := by
  simp [Instr.field, Try.underlying90, go_sem, stC, asAgg]
def SgI (w0 : World) (wB k mo : Nat) (wr : World) : Prop := ∃ ρ L T G B, LW w0 wB k ρ L T G B wr ∧ SegI B ∧ mo = B.made
set_option maxRecDepth 1000000 in
set_option maxHeartbeats 4000000 in
theorem segs_walk (a : Option Addr) (n c : Nat) (l : List OpP) (w : World) (hs : Script w a n c l) :
    Calls Try.prog 12 #[.slice a n c] w fun e w' => e = .returned (.bool true) ∧ Below w.heap.size w w' := by
  have HSm := hid (fun w => small_walk a n c w)
  have HS := hid hs
  have HNw := hid (fun w => newWorld_walk w)
  clear hs
  by_cases hsm : n ≤ 65536
  rotate_left
  · as_aux_lemma =>
    rw [decide_eq_false hsm] at HSm
    go_enter Try.func12, Try.ntmps12
    go_wp2_with (go_at_call 13; refine (HSm.out _).mono ?_; rintro e w' ⟨rfl, rfl⟩)
    go_ret
    exact ⟨rfl, Below.refl _ _⟩
  rw [decide_eq_true hsm] at HSm
  go_enter Try.func12, Try.ntmps12
  go_wp2_with (go_at_call 13; refine (HSm.out _).mono ?_; rintro e w' ⟨rfl, rfl⟩)
  refine (HNw.out _).mono ?_
  rintro e w1 ⟨wB, ρ1, L1, T1, rfl, hW1, hl1, hb1, hwB⟩
  have HLI : Hid (SgI w' wB 0 0 w1) := hid ⟨ρ1, L1, T1, G0, B0, ⟨hW1, InvM.zero, hb1, hl1⟩, Nat.le_refl _, rfl⟩
  have HwB := hid hwB
  clear hW1 hl1 hb1 HNw HSm hwB
  go_wp2_with fail
  go_loopw [17, 4] (fun v m wr => ∃ i : Nat, i ≤ n ∧ v = .int .i64 (i : Int) ∧ ∃ mo : Nat, m = .int .i64 (mo : Int) ∧ Hid (SgI w' wB i mo wr)) (fun v _ _ => n - (intOf v).toNat)
  case atStart => exact ⟨0, by omega, rfl, 0, rfl, HLI⟩
  case round =>
  clear HLI
  obtain ⟨i, hi, rfl, mo, rfl, HLI⟩ := hrel
  obtain ⟨ρ, L, T, G, B, hLW, hsg, hmo⟩ := HLI.out
  have HLW := hid hLW
  have Hsg := hid (And.intro hsg hmo)
  clear hLW hsg hmo HLI
  by_cases hin : i < n
  rotate_left
  · as_aux_lemma =>
    have di : decide ((i : Int) < (n : Int)) = false := decide_eq_false (by omega)
    go_wp2
    go_ret
    exact ⟨rfl, HLW.out.bel⟩
  have di : decide ((i : Int) < (n : Int)) = true := decide_eq_true (by omega)
  have hii : (i : Int) < (n : Int) := by omega
  obtain ⟨o, ho, hok, b, off, rfl, hb, c0, c1, c2, c3, c4⟩ := (HS.out.below HLW.out.bel).at hin
  have HOk := hid hok
  clear ho hok
  obtain ⟨ob, hob⟩ : ∃ p, wr.heap.size = p := ⟨_, rfl⟩
  go_upto_region 8 with fail
  obtain ⟨w3, hw3⟩ : ∃ w2, wr.alloc (.cells #[.int .u8 (o.kind : Int), .int .u8 (o.m : Int), .int .u64 (o.a : Int), .int .u64 (o.b : Int), .int .u64 (o.c : Int)] 31) = w2 := ⟨_, rfl⟩
  have HW3 : Hid (LW w' wB i ρ L T G B w3 ∧ Blk w3 ob 31 (opC o) ∧ ρ ob = 0) := hid (by
    rw [← hw3]
    have hbk := Blk.new wr (opC o) 31
    rw [hob] at hbk
    exact ⟨HLW.out.below (nbel wr _), hbk, HLW.out.new0 (by omega)⟩)
  simp only [hw3]
  clear hw3 hob c0 c1 c2 c3 c4 HLW
  have I1 : Hid ((Try.prog.info? 31).map (·.size) = some 5) := hid info_op
  go_wp2_with (refine wpList_load_blk rfl 31 _ rfl ob rfl (opC o) HW3.out.2.1 _ Try.underlying31 rfl I1.out ?_)
  refine (HW3.out.1.play (by omega) o HOk.out).mono ?_
  rintro e w4 ⟨V, ρ4, L4, T4, rfl, h4⟩
  have HL4 := hid h4.lw
  obtain ⟨hsg, hmo⟩ := play_seg HW3.out.1.inv Hsg.out.1 o
  rw [← Hsg.out.2] at hmo
  generalize (playS G B o).2.2.1 = G4 at HL4
  generalize (playS G B o).2.2.2 = B4 at HL4 hsg hmo
  obtain ⟨rr, hrr⟩ : ∃ x, (rzH (playS G B o).1.1 (playS G B o).1.2 V).toArray = x := ⟨_, rfl⟩
  rw [hrr]
  have Hsg4 := hid (And.intro hsg hmo)
  clear h4 HW3 hrr hsg hmo Hsg I1 HOk
  obtain ⟨bB, hbB⟩ : ∃ x, T4.bB = x := ⟨_, rfl⟩
  have HbB := hid hbB
  have HBf : Hid (∀ wx, Below w4.heap.size w4 wx → wx.cell? ⟨wB, 3, none⟩ = some (.pointer (some ⟨bB, 0, none⟩))) := hid (fun wx hx => by rw [(HL4.out.below hx).wm.wb.cell 3, HbB.out]; rfl)
  have HNm : Hid (∀ m, (B4.logs m).length ≤ 1000000000 ∧ needN B4 ≤ 1000000000) := hid (fun m => by
    have h1 := HL4.out.inv.bo.nl m
    have h2 := HL4.out.inv.bo.md
    have h3 : needN B4 ≤ B4.made := Hsg4.out.1
    exact ⟨by omega, by omega⟩)
  clear hbB
  go_wp2_with fail
  go_loopw [8, 7] (fun v m wr => ∃ k : Nat, k ≤ 4 ∧ v = .int .i64 (k : Int) ∧ m = .int .i64 (sK (fun m => ((B4.logs m).length + 15) / 16) k : Int) ∧ Hid (LW w' wB (i + 1) ρ4 L4 T4 G4 B4 wr)) (fun v _ _ => 4 - (intOf v).toNat)
  case atStart => exact ⟨0, by omega, rfl, rfl, HL4⟩
  case round =>
  clear HL4 HBf
  obtain ⟨k, hk, rfl, rfl, HL4⟩ := hrel
  by_cases hk4 : k < 4
  · as_aux_lemma =>
    have dk : decide ((k : Int) < 4) = true := decide_eq_true (by omega)
    have ik : (k : Int) < 4 := by omega
    have cb : wr.cell? ⟨wB, 3, none⟩ = some (.pointer (some ⟨bB, 0, none⟩)) := by rw [HL4.out.wm.wb.cell 3, ← HbB.out]; rfl
    have HLg := hid (log_walk HL4.out.wm.bm hk4 (HNm.out k).1)
    rw [HbB.out] at HLg
    obtain ⟨s1, hs1⟩ : ∃ x, sK (fun m => ((B4.logs m).length + 15) / 16) k = x := ⟨_, rfl⟩
    obtain ⟨y, hy⟩ : ∃ x, (B4.logs k).length = x := ⟨_, rfl⟩
    have is1 : (s1 : Int) ≤ 4000000000 := by
      have h1 := sK_le (f := fun m => ((B4.logs m).length + 15) / 16) (N := 1000000000) (fun m => by have := (HNm.out m).1; omega) k
      rw [hs1] at h1
      omega
    have iy : (y : Int) ≤ 1000000000 := by have := (HNm.out k).1; omega
    have Hs1 := hid hs1
    have Hy := hid hy
    rw [hs1]
    clear hs1 hy
    go_wp2_with fail
    refine HLg.out.mono ?_
    rintro e w5 ⟨v5, rfl, h5, hb5⟩
    obtain ⟨a5, q5, e5⟩ := h5.shape
    rw [Hy.out] at e5
    subst e5
    have HL5 := hid (HL4.out.below hb5)
    clear HL4 HLg h5 hb5 cb
    have e6 : ((y : Int) + 16 - 1) = ((y + 15 : Nat) : Int) := by omega
    have e7 : Int.tdiv ((y + 15 : Nat) : Int) 16 = (((y + 15) / 16 : Nat) : Int) := by rfl
    go_wp2
    refine ⟨⟨k + 1, by omega, by go_num, ?_, HL5⟩, by simp [intOf]; omega⟩
    show Value.int .i64 _ = Value.int .i64 ((sK (fun m => ((B4.logs m).length + 15) / 16) k + ((B4.logs k).length + 15) / 16 : Nat) : Int)
    rw [Hs1.out, Hy.out]
    congr 1
  obtain rfl : k = 4 := by omega
  have dk : decide (((4 : Nat) : Int) < 4) = false := rfl
  rw [needN_sK]
  have HSt := hid (stats_walk HL4.out.wm.bm HL4.out.inv.bo (by omega))
  rw [HbB.out] at HSt
  have cb : wr.cell? ⟨wB, 3, none⟩ = some (.pointer (some ⟨bB, 0, none⟩)) := by rw [HL4.out.wm.wb.cell 3, ← HbB.out]; rfl
  obtain ⟨nn, hnn⟩ : ∃ x, needN B4 = x := ⟨_, rfl⟩
  obtain ⟨md, hmd⟩ : ∃ x, B4.made = x := ⟨_, rfl⟩
  have hmx := Hsg4.out.2
  rw [hnn, hmd] at hmx
  rw [hnn]
  have Hmd := hid hmd
  clear hk hk4 HNm hnn hmd
  by_cases hgt : mo < nn
  · as_aux_lemma =>
    have dg : decide ((nn : Int) > (mo : Int)) = true := decide_eq_true (by omega)
    have dg2 : decide ((mo : Int) < (nn : Int)) = true := decide_eq_true (by omega)
    obtain rfl : md = nn := by omega
    have hgt2 : (mo : Int) < (md : Int) := by omega
    clear hmx
    go_wp2_with fail
    refine HSt.out.mono ?_
    rintro e w5 ⟨rfl, hb5⟩
    have HR : Hid (SgI w' wB (i + 1) md w5) := hid ⟨_, _, _, _, _, HL4.out.below hb5, Hsg4.out.1, Hmd.out.symm⟩
    clear HL4 hb5 HSt cb
    have hfl : ∀ w, (Instr.field 90 (.agg (stC B4 4 4 4).toArray) 5).run Try.prog w = .ok (.int .i64 (md : Int)) w := fun w => by rw [field_st, Hmd.out]
    generalize (stC B4 4 4 4).toArray = sa at hfl ⊢
    have dd : (!((md : Int) == (md : Int))) = false := by simp
    go_wp2
    exact ⟨⟨i + 1, by omega, by go_num, md, rfl, HR⟩, by simp [intOf]; omega⟩
  · as_aux_lemma =>
    have dg : decide ((nn : Int) > (mo : Int)) = false := decide_eq_false (by omega)
    have dg2 : decide ((mo : Int) < (nn : Int)) = false := decide_eq_false (by omega)
    obtain rfl : md = mo := by omega
    have hgt2 : ¬ ((md : Int) < (nn : Int)) := by omega
    have hgt3 : (nn : Int) ≤ (md : Int) := by omega
    clear hmx
    go_wp2_with fail
    refine HSt.out.mono ?_
    rintro e w5 ⟨rfl, hb5⟩
    have HR : Hid (SgI w' wB (i + 1) md w5) := hid ⟨_, _, _, _, _, HL4.out.below hb5, Hsg4.out.1, Hmd.out.symm⟩
    clear HL4 hb5 HSt cb
    have hfl : ∀ w, (Instr.field 90 (.agg (stC B4 4 4 4).toArray) 5).run Try.prog w = .ok (.int .i64 (md : Int)) w := fun w => by rw [field_st, Hmd.out]
    generalize (stC B4 4 4 4).toArray = sa at hfl ⊢
    have dd : (!((md : Int) == (md : Int))) = false := by simp
    go_wp2
    exact ⟨⟨i + 1, by omega, by go_num, md, rfl, HR⟩, by simp [intOf]; omega⟩
end Go.Proofs.Qxb6500888a
