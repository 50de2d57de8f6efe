/- The law's world made: barrier.New, newWorld, zzSmall1. -/
import Derived.Test.Qxb6500888aBaN1
namespace Go.Proofs.Qxb6500888a
open Go.RowKit
set_option linter.unusedSimpArgs false
set_option linter.unusedVariables false
attribute [local irreducible] bitC wdC

def G0 : GS := ⟨fun _ => none, fun _ => 0, fun _ => false, fun _ => false, fun _ => 0, fun _ => 0, [], [], 0⟩
def B0 : BS := ⟨fun _ => [], fun _ => [], fun _ => [], 0, [], 0, 0⟩
def T0 (b : Nat) : BL := ⟨b, fun _ => [], [], fun _ => .slice none 0 0, .slice none 0 0, .slice none 0 0⟩
theorem ctF0 : ctF (fun _ => 0) = fun _ => none := by funext a; unfold ctF; rw [if_pos rfl]
theorem BOk.zero (N : Nat) : BOk B0 N := ⟨fun m _ p hp => (by cases hp), fun m _ p hp => (by cases hp), fun m _ p hp => (by cases hp), fun m _ p hp => (by cases hp), fun p hp => (by cases hp), fun m => Nat.zero_le _, fun m => Nat.zero_le _, fun m => Nat.zero_le _, Nat.zero_le _, Nat.zero_le _, Nat.zero_le _, Nat.zero_le _, fun m _ => ⟨rfl, rfl, rfl⟩⟩
theorem GOk.zero : GOk G0 := ⟨fun a n q h => (by cases h), fun i _ => Or.inl rfl, fun a h => absurd rfl h, fun a => Nat.zero_le _⟩
theorem InvM.zero : InvM 0 G0 B0 := by
  refine ⟨GOk.zero, ?_, Nat.zero_le _, fun a => Nat.zero_le _, Nat.zero_le _, BOk.zero _⟩
  rw [phi_def]
  have e : G0.calls.length = 0 := rfl
  generalize nz G0.cnt = z
  rw [e]
  omega
theorem zero_b (hB sB cB : Nat) : ((Try.zeroCells137.setIfInBounds 0 (.pointer (some ⟨hB, 0, none⟩))).setIfInBounds 1 (.pointer (some ⟨sB, 0, none⟩))).setIfInBounds 2 (.pointer (some ⟨cB, 0, none⟩)) = (fnC 285 (bF ⟨hB, 0, 0, sB, 0, cB, 0, 0, 0, .slice none 0 0, .slice none 0 0⟩ (T0 0) B0)).toArray := by kernel_rfl
set_option maxRecDepth 100000 in
set_option maxHeartbeats 1000000 in
theorem bNew_walk (hB sB cB : Nat) (w : World) : Calls Try.prog 42 #[.pointer (some ⟨hB, 0, none⟩), .pointer (some ⟨sB, 0, none⟩), .pointer (some ⟨cB, 0, none⟩)] w fun e w' => e = .returned (.pointer (some ⟨w.heap.size, 0, none⟩)) ∧ w' = w.alloc (.cells (fnC 285 (bF ⟨hB, 0, 0, sB, 0, cB, 0, 0, 0, .slice none 0 0, .slice none 0 0⟩ (T0 0) B0)).toArray 137) := by
  obtain ⟨n, hn⟩ : ∃ n, w.heap.size = n := ⟨_, rfl⟩
  rw [hn]
  go_enter Try.func42, Try.ntmps42
  go_wp2
  rw [zero_b]
  exact bodyPost_ret (v := .pointer (some ⟨n, 0, none⟩)) (by simp [results, Try.results42, go_sem]) rfl ⟨rfl, rfl⟩
theorem small_walk (a : Option Addr) (n c : Nat) (w : World) : Calls Try.prog 13 #[.slice a n c] w fun e w' => e = .returned (.bool (decide (n ≤ 65536))) ∧ w' = w := by
  by_cases h : n ≤ 65536
  · have d : decide ((n : Int) > 65536) = false := decide_eq_false (by omega)
    have d2 : decide ((65536 : Int) < (n : Int)) = false := decide_eq_false (by omega)
    rw [decide_eq_true h]
    clear h
    go_enter Try.func13, Try.ntmps13
    go_wp2
    go_ret
    exact ⟨rfl, rfl⟩
  · have d : decide ((n : Int) > 65536) = true := decide_eq_true (by omega)
    have d2 : decide ((65536 : Int) < (n : Int)) = true := decide_eq_true (by omega)
    rw [decide_eq_false h]
    clear h
    go_enter Try.func13, Try.ntmps13
    go_wp2
    go_ret
    exact ⟨rfl, rfl⟩
/-- The law's world in memory. -/
structure WM (w : World) (ρ : Rl) (L : GL) (T : BL) (G : GS) (B : BS) (wB : Nat) : Prop where
  bm : BM w ρ L T G B
  wb : Blk w wB 52 [.pointer (some ⟨L.hB, 0, none⟩), .pointer (some ⟨L.sB, 0, none⟩), .pointer (some ⟨L.cB, 0, none⟩), .pointer (some ⟨T.bB, 0, none⟩)]
  w0 : ρ wB = 0
def NwP (w : World) (e : Ending) (w' : World) : Prop := ∃ wB ρ L T, e = .returned (.pointer (some ⟨wB, 0, none⟩)) ∧ WM w' ρ L T G0 B0 wB ∧ (∀ g, g < w.heap.size → ρ g = 0) ∧ Below w.heap.size w w' ∧ w.heap.size ≤ wB
set_option maxRecDepth 100000 in
set_option maxHeartbeats 2000000 in
theorem newWorld_walk (w : World) : Calls Try.prog 14 #[] w fun e w' => NwP w e w' := by
  have H1 := hid (aNew_walk w)
  go_enter Try.func14, Try.ntmps14
  go_wp2_with fail
  refine H1.out.mono ?_
  rintro e1 w1 ⟨hB, mH, dB, lB, rfl, hn1⟩
  have HN1 := hid hn1
  have H2 := hid (sNew_walk w1)
  clear H1 hn1
  go_wp2_with fail
  refine H2.out.mono ?_
  rintro e2 w2 ⟨rfl, s1, s2, s3, s4⟩
  have HN2 := hid (And.intro s1 (And.intro s2 (And.intro s3 s4)))
  clear H2 s1 s2 s3 s4
  obtain ⟨tB, htB⟩ : ∃ t, w1.heap.size = t := ⟨_, rfl⟩
  rw [htB] at HN2
  simp only [htB]
  have HtB := hid htB
  obtain ⟨sB, hsB⟩ : ∃ t, tB + 1 = t := ⟨_, rfl⟩
  rw [hsB] at HN2
  simp only [hsB]
  have HsB := hid hsB
  clear htB hsB
  have H3 := hid (cNew_walk hB sB w2)
  go_wp2_with fail
  refine H3.out.mono ?_
  rintro e3 w3 ⟨rfl, c1, c2, c3, c4, c5⟩
  have HN3 := hid (And.intro c1 (And.intro c2 (And.intro c3 (And.intro c4 c5))))
  clear H3 c1 c2 c3 c4 c5
  obtain ⟨mC, hmC⟩ : ∃ t, w2.heap.size = t := ⟨_, rfl⟩
  rw [hmC] at HN3
  simp only [hmC]
  have HmC := hid hmC
  clear hmC
  have H4 := hid (bNew_walk hB sB (mC + 2) w3)
  go_wp2_with fail
  refine H4.out.mono ?_
  rintro e4 w4 ⟨rfl, h4⟩
  have HN4 := hid h4
  clear H4 h4
  obtain ⟨bB, hbB⟩ : ∃ t, w3.heap.size = t := ⟨_, rfl⟩
  simp only [hbB]
  have HbB := hid hbB
  clear hbB
  obtain ⟨wB, hwB⟩ : ∃ t, w4.heap.size = t := ⟨_, rfl⟩
  have HwB := hid hwB
  have HR : Hid (NwP w (.returned (.pointer (some ⟨wB, 0, none⟩))) (w4.alloc (.cells #[.pointer (some ⟨hB, 0, none⟩), .pointer (some ⟨sB, 0, none⟩), .pointer (some ⟨mC + 2, 0, none⟩), .pointer (some ⟨bB, 0, none⟩)] 52))) := hid (by
    have n1 := HN1.out
    obtain ⟨s1, s2, s3, s4⟩ := HN2.out
    obtain ⟨c1, c2, c3, c4, c5⟩ := HN3.out
    have h4 := HN4.out
    have e1 := HtB.out
    have e2 := HsB.out
    have e3 := HmC.out
    have e4 := HbB.out
    have b12 : Below w1.heap.size w1 w2 := by rw [e1]; exact s3
    have b23 : Below w2.heap.size w2 w3 := by rw [e3]; exact c4
    have b34 : Below w3.heap.size w3 w4 := by rw [h4]; exact nbel _ _
    obtain ⟨w5, hw5⟩ : ∃ w5, w4.alloc (.cells #[.pointer (some ⟨hB, 0, none⟩), .pointer (some ⟨sB, 0, none⟩), .pointer (some ⟨mC + 2, 0, none⟩), .pointer (some ⟨bB, 0, none⟩)] 52) = w5 := ⟨_, rfl⟩
    have b45 : Below w4.heap.size w4 w5 := by rw [← hw5]; exact nbel _ _
    have b35 := b34.trans (b45.mono b34.size)
    have b25 := b23.trans (b35.mono b23.size)
    have b15 := b12.trans (b25.mono b12.size)
    have b05 := n1.be.trans (b15.mono n1.be.size)
    have z1 := b12.size
    have z2 := b23.size
    have z3 := b34.size
    have z4 : w4.heap.size = bB + 1 := by rw [h4]; simp [e4]
    have z5 : w5.heap.size = wB + 1 := by rw [← hw5]; simp [hwB]
    have hd := n1.df
    have hg := n1.g1
    have l1 := n1.hb.lt
    have l2 := n1.mh.lt
    have l3 := n1.wb.lt
    have l4 := n1.lb.lt
    rw [hw5]
    refine ⟨wB, fun g => if g = hB then 1 else if g = dB then 2 else if g = lB then 3 else if g = sB then 4 else if g = tB then 5 else if g = mC + 2 then 6 else if g = mH then 7 else if g = mC then 8 else if g = mC + 1 then 9 else if g = bB then 12 else 0, ⟨hB, dB, lB, sB, tB, mC + 2, mH, mC, mC + 1, .slice none 0 0, .slice none 0 0⟩, T0 bB, rfl, ⟨⟨⟨fun _ => n1.hb.below b15, fun _ => n1.wb.below b15, fun _ => n1.lb.below b15, fun _ => s1.below b25, fun _ => s2.below b25, fun _ => c1.below b35, fun _ => n1.mh.below b15, fun _ => by rw [show G0.cnt = fun _ => 0 from rfl, ctF0]; exact c2.below b35, fun _ => by rw [show G0.pend = fun _ => 0 from rfl, ctF0]; exact c3.below b35, fun _ => RowX.nil _ _ _ _, fun _ => RowX.nil _ _ _ _, ?_, ?_, ?_, ?_, ?_, ?_, ?_, ?_, ?_, ?_⟩, ?_, ?_, fun m _ => RowX.nil _ _ _ _, RowX.nil _ _ _ _, fun _ => RowX.nil _ _ _ _, fun _ g hg => (by cases hg), fun m _ _ => ⟨(show (0 : Nat) = (0 + 15) / 16 by decide), fun i s hs => by simp [T0] at hs⟩, fun i s hs => by simp [T0] at hs, ?_, fun s hs => by simp [allS, T0] at hs, fun m => Nat.zero_le _, fun _ => rfl⟩, ?_, ?_⟩, fun g hg' => ?_, b05, by omega⟩
    all_goals try dsimp only
    · rw [if_pos rfl]
    · rw [if_neg (by omega), if_pos rfl]
    · rw [if_neg (by omega), if_neg (by omega), if_pos rfl]
    · rw [if_neg (by omega), if_neg (by omega), if_neg (by omega), if_pos rfl]
    · rw [if_neg (by omega), if_neg (by omega), if_neg (by omega), if_neg (by omega), if_pos rfl]
    · rw [if_neg (by omega), if_neg (by omega), if_neg (by omega), if_neg (by omega), if_neg (by omega), if_pos rfl]
    · rw [if_neg (by omega), if_neg (by omega), if_neg (by omega), if_neg (by omega), if_neg (by omega), if_neg (by omega), if_pos rfl]
    · rw [if_neg (by omega), if_neg (by omega), if_neg (by omega), if_neg (by omega), if_neg (by omega), if_neg (by omega), if_neg (by omega), if_pos rfl]
    · rw [if_neg (by omega), if_neg (by omega), if_neg (by omega), if_neg (by omega), if_neg (by omega), if_neg (by omega), if_neg (by omega), if_neg (by omega), if_pos rfl]
    · intro g hg'
      apply Classical.byContradiction
      intro hge
      apply hg'
      rw [if_neg (by omega), if_neg (by omega), if_neg (by omega), if_neg (by omega), if_neg (by omega), if_neg (by omega), if_neg (by omega), if_neg (by omega), if_neg (by omega), if_neg (by omega)]
    · have hb := Blk.new w3 (fnC 285 (bF ⟨hB, 0, 0, sB, 0, mC + 2, 0, 0, 0, .slice none 0 0, .slice none 0 0⟩ (T0 0) B0)) 137
      rw [← h4, e4] at hb
      exact hb.below b45
    · rw [show (T0 bB).bB = bB from rfl, if_neg (by omega), if_neg (by omega), if_neg (by omega), if_neg (by omega), if_neg (by omega), if_neg (by omega), if_neg (by omega), if_neg (by omega), if_neg (by omega), if_pos rfl]
    · simp [allS, T0]
    · have hb := Blk.new w4 [.pointer (some ⟨hB, 0, none⟩), .pointer (some ⟨sB, 0, none⟩), .pointer (some ⟨mC + 2, 0, none⟩), .pointer (some ⟨bB, 0, none⟩)] 52
      rw [hwB] at hb
      rw [← hw5]
      exact hb
    · rw [if_neg (by omega), if_neg (by omega), if_neg (by omega), if_neg (by omega), if_neg (by omega), if_neg (by omega), if_neg (by omega), if_neg (by omega), if_neg (by omega), if_neg (by omega)]
    · rw [if_neg (by omega), if_neg (by omega), if_neg (by omega), if_neg (by omega), if_neg (by omega), if_neg (by omega), if_neg (by omega), if_neg (by omega), if_neg (by omega), if_neg (by omega)])
  clear HN1 HN2 HN3 HN4 HtB HsB HmC HbB
  go_wp2
  exact bodyPost_ret (v := .pointer (some ⟨wB, 0, none⟩)) (by simp [results, Try.results14, go_sem]) rfl HR.out
end Go.Proofs.Qxb6500888a
