/- The law SeedsFollowTheTrace. -/
import Derived.Test.Qxb6500888aBaSb
import Derived.Test.Qxb6500888aBaS1
namespace Go.Proofs.Qxb6500888a
open Go.RowKit
set_option linter.unusedSimpArgs false
set_option linter.unusedVariables false

theorem rzH_one {w : World} {ρ : Rl} {c v : Nat} {V : Nat → Value} {hv : Nat → List Nat} (h : ∀ i, i < 8 → RowX rtA w ρ (41 + i) (V i) (hv i)) : ∀ u ∈ rzH c v V, u.oneCell' = true := fun u hu => by
  have hs : ∀ i, i < 8 → (V i).oneCell' = true := fun i hi => by
    obtain ⟨a, q, e⟩ := (h i hi).shape
    rw [e]
    rfl
  simp only [rzH, List.mem_cons, List.not_mem_nil, or_false] at hu
  rcases hu with rfl | rfl | rfl | rfl | rfl | rfl | rfl | rfl | rfl | rfl
  · rfl
  · rfl
  all_goals exact hs _ (by decide)
/-- The law's world behind k steps, trace and flags as they should be. -/
def TrI (w0 : World) (wB k : Nat) (st on : Bool) (wr : World) : Prop := ∃ ρ L T G B, LW w0 wB k ρ L T G B wr ∧ st = decide (B.tr = 1) ∧ on = decide (B.tr = 2)
/-- What is to be seen of a pause. -/
theorem pause_seeds {t : Nat} {G : GS} {B : BS} (h : InvM t G B) : (pauseP G B).2.2 7 = if B.tr = 1 then (pauseP G B).2.2 2 else if B.tr = 2 then (pauseP G B).2.2 1 else [] := by
  rw [pause_hv h (by decide) (by decide) (by decide), pause_hv h (by decide) (by decide) (by decide), pause_hv h (by decide) (by decide) (by decide), hv3_7, hv3_2, hv3_lo G B (by decide)]
theorem pause_len {t : Nat} {G : GS} {B : BS} (h : InvM t G B) (ht : t ≤ 65536) : ((pauseP G B).2.2 7).length ≤ 1000000000000000 := by
  rw [pause_hv h (by decide) (by decide) (by decide)]
  have := hv3_len G h.bo (by omega) 7
  omega
set_option maxRecDepth 1000000 in
set_option maxHeartbeats 4000000 in
theorem seeds_walk (a : Option Addr) (n c : Nat) (l : List OpP) (w : World) (hs : Script w a n c l) :
    Calls Try.prog 10 #[.slice a n c] w fun e w' => e = .returned (.bool true) ∧ Below w.heap.size w w' := by
  have HSm := hid (fun w => small_walk a n c w)
  have HS := hid hs
  have HNw := hid (fun w => newWorld_walk w)
  clear hs
  by_cases hsm : n ≤ 65536
  rotate_left
  · as_aux_lemma =>
    rw [decide_eq_false hsm] at HSm
    go_enter Try.func10, Try.ntmps10
    go_wp2_with (go_at_call 13; refine (HSm.out _).mono ?_; rintro e w' ⟨rfl, rfl⟩)
    go_ret
    exact ⟨rfl, Below.refl _ _⟩
  rw [decide_eq_true hsm] at HSm
  go_enter Try.func10, Try.ntmps10
  go_wp2_with (go_at_call 13; refine (HSm.out _).mono ?_; rintro e w' ⟨rfl, rfl⟩)
  refine (HNw.out _).mono ?_
  rintro e w1 ⟨wB, ρ1, L1, T1, rfl, hW1, hl1, hb1, hwB⟩
  have HLI : Hid (TrI w' wB 0 false false w1) := hid ⟨ρ1, L1, T1, G0, B0, ⟨hW1, InvM.zero, hb1, hl1⟩, rfl, rfl⟩
  have HwB := hid hwB
  clear hW1 hl1 hb1 HNw HSm hwB
  go_wp2_with fail
  go_loopw [16, 4, 5] (fun v s o wr => ∃ i : Nat, i ≤ n ∧ v = .int .i64 (i : Int) ∧ ∃ st on : Bool, s = .bool st ∧ o = .bool on ∧ Hid (TrI w' wB i st on wr)) (fun v _ _ _ => n - (intOf v).toNat)
  case atStart => exact ⟨0, by omega, rfl, false, false, rfl, rfl, HLI⟩
  case round =>
  clear HLI
  obtain ⟨i, hi, rfl, st, on, rfl, rfl, HLI⟩ := hrel
  obtain ⟨ρ, L, T, G, B, hLW, hst, hon⟩ := HLI.out
  have HLW := hid hLW
  have Hst := hid (And.intro hst hon)
  clear hLW hst hon HLI
  by_cases hin : i < n
  rotate_left
  · as_aux_lemma =>
    have di : decide ((i : Int) < (n : Int)) = false := decide_eq_false (by omega)
    go_wp2
    go_ret
    exact ⟨rfl, HLW.out.bel⟩
  have di : decide ((i : Int) < (n : Int)) = true := decide_eq_true (by omega)
  have hii : (i : Int) < (n : Int) := by omega
  obtain ⟨o, ho, hok, b, off, rfl, hb, c0, c1, c2, c3, c4⟩ := (HS.out.below HLW.out.bel).at hin
  have HOk := hid hok
  clear ho hok
  obtain ⟨ob, hob⟩ : ∃ p, wr.heap.size = p := ⟨_, rfl⟩
  go_upto_region 8 with fail
  obtain ⟨w3, hw3⟩ : ∃ w2, wr.alloc (.cells #[.int .u8 (o.kind : Int), .int .u8 (o.m : Int), .int .u64 (o.a : Int), .int .u64 (o.b : Int), .int .u64 (o.c : Int)] 31) = w2 := ⟨_, rfl⟩
  have HW3 : Hid (LW w' wB i ρ L T G B w3 ∧ Blk w3 ob 31 (opC o) ∧ ρ ob = 0) := hid (by
    rw [← hw3]
    have hbk := Blk.new wr (opC o) 31
    rw [hob] at hbk
    exact ⟨HLW.out.below (nbel wr _), hbk, HLW.out.new0 (by omega)⟩)
  simp only [hw3]
  clear hw3 hob c0 c1 c2 c3 c4 HLW
  have I1 : Hid ((Try.prog.info? 31).map (·.size) = some 5) := hid info_op
  have I0 := hid info_rz
  go_wp2_with (refine wpList_load_blk rfl 31 _ rfl ob rfl (opC o) HW3.out.2.1 _ Try.underlying31 rfl I1.out ?_)
  refine (HW3.out.1.play (by omega) o HOk.out).mono ?_
  rintro e w4 ⟨V, ρ4, L4, T4, rfl, h4⟩
  have HP4 := hid h4
  have HOb4 : Hid (Blk w4 ob 31 (opC o) ∧ ρ4 ob = 0) := hid ⟨h4.fr.keep HW3.out.2.1 HW3.out.2.2 rfl, by rw [h4.fr.old _ HW3.out.2.1.lt]; exact HW3.out.2.2⟩
  have hInv := HW3.out.1.inv
  clear h4 HW3
  obtain ⟨cc, hcc⟩ : ∃ x, (playS G B o).1.1 = x := ⟨_, rfl⟩
  obtain ⟨vv, hvv⟩ : ∃ x, (playS G B o).1.2 = x := ⟨_, rfl⟩
  rw [hcc, hvv]
  clear hcc hvv
  obtain ⟨r, hr⟩ : ∃ r, w4.heap.size = r := ⟨_, rfl⟩
  have hbz := Blk.new w4 (rzC 0 0) 38
  rw [hr] at hbz
  have HZ := hid hbz
  have HOne := hid (rzH_one (c := cc) (v := vv) HP4.out.rw)
  have Hr := hid hr
  clear hbz
  go_upto_region 9 with (refine wpList_store_blk rfl 38 _ _ rfl r rfl (rzH cc vv V) rfl HZ.out rfl I0.out HOne.out ?_; intro w9 HB9 HU9)
  have HP9 : Hid (LW w' wB (i + 1) ρ4 L4 T4 (playS G B o).2.2.1 (playS G B o).2.2.2 w9 ∧ Blk w9 ob 31 (opC o) ∧ ∀ j, j < 8 → ∃ ja jq, V j = .slice ja ((playS G B o).2.1 j).length jq ∧ RdA w9 ja ((playS G B o).2.1 j).length ((playS G B o).2.1 j)) := hid (by
    have h0 := HP4.out.lw.new0 (g := r) (by have := Hr.out; omega)
    have hn := nbel w4 (.cells (rzC 0 0).toArray 38)
    have hlt := Hr.out
    have hne : wB ≠ r := by have := HP4.out.lw.wm.wb.lt; omega
    have hb9 : Below w4.heap.size w4 w9 := hn.trans (HU9.out.below (by omega) hn.size)
    refine ⟨(HP4.out.lw.below hn).other HU9.out h0 hne (by have := HP4.out.lw.bel.size; omega), HOb4.out.1.below hb9, fun j hj => ?_⟩
    obtain ⟨ja, jq, e, hrd, _⟩ := (HP4.out.rw j hj).rdA
    exact ⟨ja, jq, e, hrd.below hb9⟩)
  clear HP4 HOb4 HZ HOne Hr hr HU9
  have k0 : w9.cell? ⟨ob, 0, none⟩ = some (.int .u8 (o.kind : Int)) := by rw [HP9.out.2.1.cell]; rfl
  have k2 : w9.cell? ⟨ob, 2, none⟩ = some (.int .u64 (o.a : Int)) := by rw [HP9.out.2.1.cell]; rfl
  have HI9 := hid hInv
  clear hInv HOk I0 I1
  obtain ⟨hst, hon⟩ := Hst.out
  have htr := HI9.out.bo.tr
  clear Hst
  by_cases e9 : o.kind = 9
  · as_aux_lemma =>
    have d9 : ((o.kind : Int) == 9) = true := by simp; omega
    have hp := playS_9 (G := G) (B := B) e9
    have HL9 := hid HP9.out.1
    rw [hp] at HL9
    clear hp HP9 HI9 HB9
    have he9 := hid e9
    clear e9
    by_cases ea : o.a = 0
    · have da : ((o.a : Int) == 0) = true := by simp; omega
      have HT : Hid (TrI w' wB (i + 1) false false w9) := hid ⟨_, _, _, _, _, HL9.out, by dsimp only; rw [if_pos ea]; rfl, by dsimp only; rw [if_pos ea]; rfl⟩
      clear HL9 hst hon htr ea
      go_wp2
      exact ⟨⟨i + 1, by omega, by go_num, false, false, rfl, rfl, HT⟩, by simp [intOf]; omega⟩
    · have da : ((o.a : Int) == 0) = false := by simp; omega
      by_cases e2 : B.tr = 2
      · have h1 : on = true := by rw [hon, e2]; rfl
        subst h1
        have HT : Hid (TrI w' wB (i + 1) st true w9) := hid ⟨_, _, _, _, _, HL9.out, by dsimp only; rw [if_neg ea, if_neg (by omega)]; exact hst, by dsimp only; rw [if_neg ea, if_neg (by omega), e2]; rfl⟩
        clear HL9 hst hon htr ea e2
        go_wp2
        exact ⟨⟨i + 1, by omega, by go_num, st, true, rfl, rfl, HT⟩, by simp [intOf]; omega⟩
      · have h1 : on = false := by rw [hon]; exact decide_eq_false e2
        subst h1
        have HT : Hid (TrI w' wB (i + 1) true false w9) := hid ⟨_, _, _, _, _, HL9.out, by
          dsimp only; rw [if_neg ea]
          by_cases e0 : B.tr = 0
          · rw [if_pos e0]; rfl
          · rw [if_neg e0, show B.tr = 1 by omega]; rfl, by
          dsimp only; rw [if_neg ea]
          by_cases e0 : B.tr = 0
          · rw [if_pos e0]; rfl
          · rw [if_neg e0, show B.tr = 1 by omega]; rfl⟩
        clear HL9 hst hon htr ea e2
        go_wp2
        exact ⟨⟨i + 1, by omega, by go_num, true, false, rfl, rfl, HT⟩, by simp [intOf]; omega⟩
  have d9 : ((o.kind : Int) == 9) = false := by simp; omega
  by_cases e7 : o.kind = 7
  rotate_left
  · as_aux_lemma =>
    have d7 : ((o.kind : Int) == 7) = false := by simp; omega
    have HT : Hid (TrI w' wB (i + 1) st on w9) := hid ⟨_, _, _, _, _, HP9.out.1, by rw [play_tr HI9.out e7 e9]; exact hst, by rw [play_tr HI9.out e7 e9]; exact hon⟩
    clear HP9 HI9 HB9 hst hon htr e7 e9
    go_wp2
    exact ⟨⟨i + 1, by omega, by go_num, st, on, rfl, rfl, HT⟩, by simp [intOf]; omega⟩
  as_aux_lemma =>
  have d7 : ((o.kind : Int) == 7) = true := by simp; omega
  have hp := playS_7 (G := G) (B := B) e7
  have HQ := hid HP9.out
  rw [hp] at HQ
  clear hp HP9
  obtain ⟨a7, q7, v7, r7⟩ := HQ.out.2.2 7 (by decide)
  dsimp only at v7 r7
  have hseed := pause_seeds HI9.out
  have hlen := pause_len HI9.out (by omega)
  have t7 : w9.cell? ⟨r, 9, none⟩ = some (V 7) := by rw [HB9.out.cell]; rfl
  rw [v7] at t7
  have HR7 := hid r7
  have HL9 := hid HQ.out.1
  have htr9 := pause_tr G B
  have he := hid (And.intro e7 e9)
  clear e7 e9
  by_cases e1 : B.tr = 1
  · have h1 : st = true := by rw [hst, e1]; rfl
    have h2 : on = false := by rw [hon, e1]; rfl
    subst h1 h2
    rw [if_pos e1] at hseed htr9
    obtain ⟨a2, q2, v2, r2⟩ := HQ.out.2.2 2 (by decide)
    dsimp only at v2 r2
    have t2 : w9.cell? ⟨r, 4, none⟩ = some (V 2) := by rw [HB9.out.cell]; rfl
    rw [v2, ← hseed] at t2
    rw [← hseed] at r2
    obtain ⟨n7, hn7⟩ : ∃ x, ((pauseP G B).2.2 7).length = x := ⟨_, rfl⟩
    rw [hn7] at t7 t2 r2 HR7 hlen
    have HSb := hid (sameBag_walk w9 a7 a2 n7 q7 q2 _ _ HR7.out r2 (List.Perm.refl _) hlen)
    clear hseed r2 HR7 hlen v2 v7 r7 hn7 hst hon htr
    have HT : Hid (TrI w' wB (i + 1) false true w9) := hid ⟨_, _, _, _, _, HL9.out, by dsimp only; rw [htr9]; rfl, by dsimp only; rw [htr9]; rfl⟩
    clear HL9 HQ HI9 HB9 htr9 e1
    go_wp2_with (go_at_call 27; refine HSb.out.mono ?_; rintro e wx ⟨rfl, hbx⟩)
    have HTx : Hid (TrI w' wB (i + 1) false true wx) := hid (by
      obtain ⟨ρ, L, T, G, B, h1, h2, h3⟩ := HT.out
      exact ⟨ρ, L, T, G, B, h1.below hbx, h2, h3⟩)
    clear HT hbx HSb
    go_wp2
    exact ⟨⟨i + 1, by omega, by go_num, false, true, rfl, rfl, HTx⟩, by simp [intOf]; omega⟩
  have h1 : st = false := by rw [hst]; exact decide_eq_false e1
  subst h1
  rw [if_neg e1] at hseed htr9
  by_cases e2 : B.tr = 2
  · have h2 : on = true := by rw [hon, e2]; rfl
    subst h2
    rw [if_pos e2] at hseed
    obtain ⟨a2, q2, v2, r2⟩ := HQ.out.2.2 1 (by decide)
    dsimp only at v2 r2
    have t2 : w9.cell? ⟨r, 3, none⟩ = some (V 1) := by rw [HB9.out.cell]; rfl
    rw [v2, ← hseed] at t2
    rw [← hseed] at r2
    obtain ⟨n7, hn7⟩ : ∃ x, ((pauseP G B).2.2 7).length = x := ⟨_, rfl⟩
    rw [hn7] at t7 t2 r2 HR7 hlen
    have HSb := hid (sameBag_walk w9 a7 a2 n7 q7 q2 _ _ HR7.out r2 (List.Perm.refl _) hlen)
    clear hseed r2 HR7 hlen v2 v7 r7 hn7 hst hon htr
    have HT : Hid (TrI w' wB (i + 1) false true w9) := hid ⟨_, _, _, _, _, HL9.out, by dsimp only; rw [htr9, e2]; rfl, by dsimp only; rw [htr9, e2]; rfl⟩
    clear HL9 HQ HI9 HB9 htr9 e1 e2
    go_wp2_with (go_at_call 27; refine HSb.out.mono ?_; rintro e wx ⟨rfl, hbx⟩)
    have HTx : Hid (TrI w' wB (i + 1) false true wx) := hid (by
      obtain ⟨ρ, L, T, G, B, h1, h2, h3⟩ := HT.out
      exact ⟨ρ, L, T, G, B, h1.below hbx, h2, h3⟩)
    clear HT hbx HSb
    go_wp2
    exact ⟨⟨i + 1, by omega, by go_num, false, true, rfl, rfl, HTx⟩, by simp [intOf]; omega⟩
  · have h2 : on = false := by rw [hon]; exact decide_eq_false e2
    subst h2
    rw [if_neg e2] at hseed
    rw [hseed] at t7 HR7
    have t7' : w9.cell? ⟨r, 9, none⟩ = some (.slice a7 0 q7) := t7
    have HSb := hid (sameBag_walk w9 a7 none 0 q7 0 [] [] HR7.out (RdA.nil _ _) (List.Perm.refl _) (by omega))
    clear hseed HR7 hlen v7 r7 htr t7
    have HT : Hid (TrI w' wB (i + 1) false false w9) := hid ⟨_, _, _, _, _, HL9.out, by dsimp only; rw [htr9]; exact hst, by dsimp only; rw [htr9]; exact hon⟩
    clear HL9 HQ HI9 HB9 htr9 e1 e2 hst hon
    go_wp2_with (go_at_call 27; refine HSb.out.mono ?_; rintro e wx ⟨rfl, hbx⟩)
    have HTx : Hid (TrI w' wB (i + 1) false false wx) := hid (by
      obtain ⟨ρ, L, T, G, B, h1, h2, h3⟩ := HT.out
      exact ⟨ρ, L, T, G, B, h1.below hbx, h2, h3⟩)
    clear HT hbx HSb
    go_wp2
    exact ⟨⟨i + 1, by omega, by go_num, false, false, rfl, rfl, HTx⟩, by simp [intOf]; omega⟩
end Go.Proofs.Qxb6500888a
