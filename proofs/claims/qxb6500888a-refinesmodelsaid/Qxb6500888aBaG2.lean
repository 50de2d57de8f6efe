/- The ground: FillLogged, ClearLogged, Format, Release, Erase. -/
import Derived.Test.Qxb6500888aBaG1
namespace Go.Proofs.Qxb6500888a
open Go.RowKit
set_option linter.unusedSimpArgs false
set_option linter.unusedVariables false

def fillF {α : Type} (f : Nat → α) (s n : Nat) (x : α) : Nat → α := fun i => if s ≤ i ∧ i < s + n then x else f i
theorem fillF_0 {α : Type} (f : Nat → α) (s : Nat) (x : α) : fillF f s 0 x = f := by
  funext i
  unfold fillF
  rw [if_neg (by omega)]
theorem fillF_s {α : Type} (f : Nat → α) (s n : Nat) (x : α) : fup (fillF f s n x) (s + n) x = fillF f s (n + 1) x := by
  funext i
  unfold fup fillF
  by_cases h : i = s + n
  · rw [if_pos h, if_pos (by omega)]
  · rw [if_neg h]
    by_cases h2 : s ≤ i ∧ i < s + n
    · rw [if_pos h2, if_pos (by omega)]
    · rw [if_neg h2, if_neg (by omega)]
theorem fillF_in {α : Type} (f : Nat → α) {s n : Nat} (x : α) {i : Nat} (h : s ≤ i ∧ i < s + n) : fillF f s n x i = x := by unfold fillF; rw [if_pos h]
theorem fillF_out {α : Type} (f : Nat → α) {s n : Nat} (x : α) {i : Nat} (h : ¬ (s ≤ i ∧ i < s + n)) : fillF f s n x i = f i := by unfold fillF; rw [if_neg h]
section
variable {w : World} {ρ : Rl} {L : GL} {G : GS}
set_option maxRecDepth 1000000 in
set_option maxHeartbeats 2000000 in
theorem fillLogged_walk (h : GM w ρ L G) {a s : Nat} (ha : 65536 + s = a) (n : Nat) (hn : s + n ≤ 32768) (hs : s < 32768) (on : Bool) : Calls Try.prog 83 #[.pointer (some ⟨L.hB, 0, none⟩), .int .u64 (a : Int), .int .i64 (n : Int), .bool on] w fun e w' => e = .returned (.tuple #[]) ∧ GM w' ρ L { G with lg := fillF G.lg s n on } ∧ Fr gX ρ w ρ w' := by
  have HI : Hid (∀ w, Calls Try.prog 68 #[.int .u64 (a : Int)] w fun e w' => e = .returned (.int .i64 (s : Int)) ∧ w' = w) := hid (fun w => index_walk ha hs w)
  have HH := hid h
  have Hs := hid (And.intro hs hn)
  clear h ha hs hn
  go_enter Try.func83, Try.ntmps83
  go_wp2_with fail
  go_loopw [8] (fun i wr => ∃ j : Nat, j ≤ n ∧ i = .int .i64 (j : Int) ∧ Hid (GM wr ρ L { G with lg := fillF G.lg s j on }) ∧ Hid (Fr gX ρ w ρ wr)) (fun i _ => n - (intOf i).toNat)
  case atStart => exact ⟨0, by omega, rfl, hid (by rw [fillF_0]; exact HH.out), hid (Fr.refl _ _ _)⟩
  case round =>
    obtain ⟨j, hj, rfl, HM1, HF1⟩ := hrel
    by_cases hlt : j < n
    · as_aux_lemma =>
      have dk : decide ((j : Int) < (n : Int)) = true := decide_eq_true (by omega)
      obtain ⟨X, W, HTT, H0, hne, HC⟩ := class_below wr
      have c1 : ∀ y, (W y).cell? ⟨L.hB, 2, none⟩ = some (.slice (some ⟨L.lB, 0, none⟩) 32768 32768) := fun y => (HM1.out.below (HTT.out y)).hcells.2.2
      have i5 : (s : Int) + (j : Int) < 32768 := by have := Hs.out.2; omega
      have i6 : (0 : Int) ≤ (s : Int) + (j : Int) := by omega
      have i7 : ((s : Int) + (j : Int)).toNat = s + j := by omega
      have s1 : (s : Int) < 32768 := by have := Hs.out.1; omega
      go_upto_region 3 with fail
      refine wp_region_class_lastT W rfl (by kernel_rfl) (by kernel_rfl) (by kernel_rfl) H0.out ?_
      dsimp only [List.dropLast]
      repeat (go_big_quiet_step ((go_at_call 68; exact Calls.class_same (HI.out _))))
      refine wpQuiet_nil ?_
      intro z
      have HZ := hid (HTT.out z)
      generalize W z = wz at HZ ⊢
      clear c1 H0 HTT HC hne dk
      have hz := HM1.out.below HZ.out
      have c2 := hz.lcell (i := s + j) (by omega)
      have f2 : wz.frozen? ⟨L.lB, s + j, none⟩ = false := (hz.lb rfl).frozen _
      have HF := hid (hz.setL (i := s + j) (by omega) on)
      rw [fillF_s] at HF
      have HFz := hid (HF1.out.trans (Fr.below HZ.out))
      generalize ({ G with lg := fillF G.lg s j on } : GS).lg (s + j) = b0 at c2
      clear hz HM1 HF1
      go_wp2
      exact ⟨⟨j + 1, by omega, by go_num, hid HF.out.1, hid (HFz.out.trans HF.out.2)⟩, by simp [intOf]; omega⟩
    · as_aux_lemma =>
      have dk : decide ((j : Int) < (n : Int)) = false := decide_eq_false (by omega)
      rw [show j = n by omega] at HM1
      go_wp2
      exact bodyPost_end (v := .tuple #[]) (by simp [results, Try.results83, go_sem]) rfl ⟨rfl, HM1.out, HF1.out⟩
set_option maxRecDepth 1000000 in
set_option maxHeartbeats 2000000 in
theorem clearLogged_walk (h : GM w ρ L G) : Calls Try.prog 79 #[.pointer (some ⟨L.hB, 0, none⟩)] w fun e w' => e = .returned (.tuple #[]) ∧ GM w' ρ L { G with lg := fillF G.lg 0 32768 false } ∧ Fr gX ρ w ρ w' := by
  have HH := hid h
  have c1 := h.hcells.2.2
  clear h
  go_enter Try.func79, Try.ntmps79
  go_wp2_with fail
  go_loopw [8] (fun i wr => ∃ j : Nat, j ≤ 32768 ∧ i = .int .i64 (j : Int) ∧ Hid (GM wr ρ L { G with lg := fillF G.lg 0 j false }) ∧ Hid (Fr gX ρ w ρ wr)) (fun i _ => 32768 - (intOf i).toNat)
  case atStart => exact ⟨0, by omega, rfl, hid (by rw [fillF_0]; exact HH.out), hid (Fr.refl _ _ _)⟩
  case round =>
    obtain ⟨j, hj, rfl, HM1, HF1⟩ := hrel
    clear c1
    by_cases hlt : j < 32768
    · as_aux_lemma =>
      have dk : decide ((j : Int) < 32768) = true := decide_eq_true (by omega)
      have i5 : (j : Int) < 32768 := by omega
      have hz := HM1.out
      have c1 := hz.hcells.2.2
      have c2 := hz.lcell (i := j) (by omega)
      have f2 : wr.frozen? ⟨L.lB, j, none⟩ = false := (hz.lb rfl).frozen _
      have HF := hid (hz.setL (i := j) (by omega) false)
      have e := fillF_s G.lg 0 j false
      rw [Nat.zero_add] at e
      rw [e] at HF
      generalize ({ G with lg := fillF G.lg 0 j false } : GS).lg j = b0 at c2
      clear hz HM1 e
      go_wp2
      exact ⟨⟨j + 1, by omega, by go_num, hid HF.out.1, hid (HF1.out.trans HF.out.2)⟩, by simp [intOf]; omega⟩
    · as_aux_lemma =>
      have dk : decide ((j : Int) < 32768) = false := decide_eq_false (by omega)
      obtain rfl : j = 32768 := by omega
      go_wp2
      exact bodyPost_end (v := .tuple #[]) (by simp [results, Try.results79, go_sem]) rfl ⟨rfl, HM1.out, HF1.out⟩
set_option maxRecDepth 1000000 in
set_option maxHeartbeats 2000000 in
theorem release_walk (h : GM w ρ L G) {a s : Nat} (ha : 65536 + s = a) (n : Nat) (hn : s + n ≤ 32768) (hs : s < 32768) : Calls Try.prog 96 #[.pointer (some ⟨L.sB, 0, none⟩), .int .u64 (a : Int), .int .i64 (n : Int)] w fun e w' => e = .returned (.tuple #[]) ∧ GM w' ρ L { G with tk := fillF G.tk s n false } ∧ Fr gX ρ w ρ w' := by
  have HH := hid h
  have Hs := hid (And.intro hs hn)
  have hsub : (a : Int) - 65536 = (s : Int) := by omega
  clear h ha hs hn
  go_enter Try.func96, Try.ntmps96
  go_wp2_with fail
  go_loopw [6] (fun i wr => ∃ j : Nat, j ≤ n ∧ i = .int .i64 (j : Int) ∧ Hid (GM wr ρ L { G with tk := fillF G.tk s j false }) ∧ Hid (Fr gX ρ w ρ wr)) (fun i _ => n - (intOf i).toNat)
  case atStart => exact ⟨0, by omega, rfl, hid (by rw [fillF_0]; exact HH.out), hid (Fr.refl _ _ _)⟩
  case round =>
    obtain ⟨j, hj, rfl, HM1, HF1⟩ := hrel
    by_cases hlt : j < n
    · as_aux_lemma =>
      have dk : decide ((j : Int) < (n : Int)) = true := decide_eq_true (by omega)
      have i5 : (s : Int) + (j : Int) < 32768 := by have := Hs.out.2; omega
      have i6 : (0 : Int) ≤ (s : Int) + (j : Int) := by omega
      have i7 : ((s : Int) + (j : Int)).toNat = s + j := by omega
      have s1 : (s : Int) < 32768 := by have := Hs.out.1; omega
      have hz := HM1.out
      have c1 := hz.scell
      have c2 := hz.tcell (i := s + j) (by omega)
      have f2 : wr.frozen? ⟨L.tB, s + j, none⟩ = false := (hz.tb rfl).frozen _
      have HF := hid (hz.setT (i := s + j) (by omega) false)
      rw [fillF_s] at HF
      generalize ({ G with tk := fillF G.tk s j false } : GS).tk (s + j) = b0 at c2
      clear hz HM1
      go_wp2
      exact ⟨⟨j + 1, by omega, by go_num, hid HF.out.1, hid (HF1.out.trans HF.out.2)⟩, by simp [intOf]; omega⟩
    · as_aux_lemma =>
      have dk : decide ((j : Int) < (n : Int)) = false := decide_eq_false (by omega)
      rw [show j = n by omega] at HM1
      go_wp2
      exact bodyPost_end (v := .tuple #[]) (by simp [results, Try.results96, go_sem]) rfl ⟨rfl, HM1.out, HF1.out⟩
set_option maxRecDepth 1000000 in
set_option maxHeartbeats 2000000 in
theorem format_walk (h : GM w ρ L G) {a s : Nat} (ha : 65536 + s = a) (n q : Nat) (hn : s + n < 32768) : Calls Try.prog 82 #[.pointer (some ⟨L.hB, 0, none⟩), .int .u64 (a : Int), .int .i64 (n : Int), .int .i64 (q : Int)] w fun e w' => e = .returned (.tuple #[]) ∧ GM w' ρ L { G with head := fup G.head a (some (n, q)), word := fillF G.word s (n + 1) 0 } ∧ Fr gX ρ w ρ w' := by
  have HI : Hid (∀ w, Calls Try.prog 68 #[.int .u64 (a : Int)] w fun e w' => e = .returned (.int .i64 (s : Int)) ∧ w' = w) := hid (fun w => index_walk ha (by omega) w)
  have c0 := h.hcells.1
  obtain ⟨w1, hr, h1, f1⟩ := h.putH a (n, q)
  have HH := hid h1
  have HF0 := hid f1
  have Hs := hid hn
  unfold shV at hr
  dsimp only at hr
  clear h ha hn h1 f1
  go_enter Try.func82, Try.ntmps82
  go_wp2_with fail
  clear hr c0
  go_loopw [8] (fun i wr => ∃ j : Nat, j ≤ n + 1 ∧ i = .int .i64 (j : Int) ∧ Hid (GM wr ρ L { G with head := fup G.head a (some (n, q)), word := fillF G.word s j 0 }) ∧ Hid (Fr gX ρ w ρ wr)) (fun i _ => n + 1 - (intOf i).toNat)
  case atStart => exact ⟨0, by omega, rfl, hid (by rw [fillF_0]; exact HH.out), HF0⟩
  case round =>
    obtain ⟨j, hj, rfl, HM1, HF1⟩ := hrel
    by_cases hlt : j ≤ n
    · as_aux_lemma =>
      have dk : decide ((j : Int) ≤ (n : Int)) = true := decide_eq_true (by omega)
      obtain ⟨X, W, HTT, H0, hne, HC⟩ := class_below wr
      have c1 : ∀ y, (W y).cell? ⟨L.hB, 1, none⟩ = some (.slice (some ⟨L.wB, 0, none⟩) 32768 32768) := fun y => (HM1.out.below (HTT.out y)).hcells.2.1
      have i5 : (s : Int) + (j : Int) < 32768 := by have := Hs.out; omega
      have i6 : (0 : Int) ≤ (s : Int) + (j : Int) := by omega
      have i7 : ((s : Int) + (j : Int)).toNat = s + j := by omega
      have s1 : (s : Int) < 32768 := by omega
      go_upto_region 4 with fail
      refine wp_region_class_lastT W rfl (by kernel_rfl) (by kernel_rfl) (by kernel_rfl) H0.out ?_
      dsimp only [List.dropLast]
      repeat (go_big_quiet_step ((go_at_call 68; exact Calls.class_same (HI.out _))))
      refine wpQuiet_nil ?_
      intro z
      have HZ := hid (HTT.out z)
      generalize W z = wz at HZ ⊢
      clear c1 H0 HTT HC hne dk
      have hz := HM1.out.below HZ.out
      have c2 := hz.wcell (i := s + j) (by omega)
      have f2 : wz.frozen? ⟨L.wB, s + j, none⟩ = false := (hz.wb rfl).frozen _
      have HF := hid (hz.setW (i := s + j) (by omega) 0)
      rw [fillF_s] at HF
      have HFz := hid (HF1.out.trans (Fr.below HZ.out))
      generalize ({ G with head := fup G.head a (some (n, q)), word := fillF G.word s j 0 } : GS).word (s + j) = b0 at c2
      clear hz HM1 HF1
      go_wp2
      exact ⟨⟨j + 1, by omega, by go_num, hid HF.out.1, hid (HFz.out.trans HF.out.2)⟩, by simp [intOf]; omega⟩
    · as_aux_lemma =>
      have dk : decide ((j : Int) ≤ (n : Int)) = false := decide_eq_false (by omega)
      obtain rfl : j = n + 1 := by omega
      go_wp2
      exact bodyPost_end (v := .tuple #[]) (by simp [results, Try.results82, go_sem]) rfl ⟨rfl, HM1.out, HF1.out⟩
/-- How many words an object at a stands on, but for its header. -/
def szOf (G : GS) (a : Nat) : Nat := ((G.head a).getD (0, 0)).1
set_option maxRecDepth 1000000 in
set_option maxHeartbeats 2000000 in
theorem erase_walk (h : GM w ρ L G) {a s : Nat} (ha : 65536 + s = a) {n : Nat} (hsz : szOf G a = n) (hn : s + n < 32768) : Calls Try.prog 95 #[.pointer (some ⟨L.hB, 0, none⟩), .int .u64 (a : Int)] w fun e w' => e = .returned (.tuple #[]) ∧ GM w' ρ L { G with head := fup G.head a none, word := fillF G.word s (n + 1) 0, lg := fillF G.lg s (n + 1) false } ∧ Fr gX ρ w ρ w' := by
  have HI : Hid (∀ w, Calls Try.prog 68 #[.int .u64 (a : Int)] w fun e w' => e = .returned (.int .i64 (s : Int)) ∧ w' = w) := hid (fun w => index_walk ha (by omega) w)
  have HH := hid h
  have Hs := hid hn
  obtain ⟨q, hq⟩ : ∃ q, ((G.head a).getD (0, 0)).2 = q := ⟨_, rfl⟩
  have Hsz : Hid ((G.head a).getD (0, 0) = (n, q)) := hid (Prod.ext hsz hq)
  have fld : (∀ w, (Instr.field 73 (.agg #[.int .i64 (n : Int), .int .i64 (q : Int)]) 0).run Try.prog w = .ok (.int .i64 (n : Int)) w) := fun w => by kernel_rfl
  clear h ha hn hsz hq
  go_enter Try.func95, Try.ntmps95
  go_wp2_with fail
  go_loopw [4] (fun i wr => ∃ j : Nat, j ≤ n + 1 ∧ i = .int .i64 (j : Int) ∧ Hid (GM wr ρ L { G with word := fillF G.word s j 0, lg := fillF G.lg s j false }) ∧ Hid (Fr gX ρ w ρ wr)) (fun i _ => n + 1 - (intOf i).toNat)
  case atStart => exact ⟨0, by omega, rfl, hid (by rw [fillF_0, fillF_0]; exact HH.out), hid (Fr.refl _ _ _)⟩
  case round =>
    obtain ⟨j, hj, rfl, HM1, HF1⟩ := hrel
    have c0 := HM1.out.hcells.1
    have hl := HM1.out.lookH a
    rw [show ({ G with word := fillF G.word s j 0, lg := fillF G.lg s j false } : GS).head = G.head from rfl, Hsz.out] at hl
    unfold shV at hl
    dsimp only at hl
    by_cases hlt : j ≤ n
    · as_aux_lemma =>
      have dk : decide ((j : Int) ≤ (n : Int)) = true := decide_eq_true (by omega)
      have i5 : (s : Int) + (j : Int) < 32768 := by have := Hs.out; omega
      have i6 : (0 : Int) ≤ (s : Int) + (j : Int) := by omega
      have i7 : ((s : Int) + (j : Int)).toNat = s + j := by omega
      have s1 : (s : Int) < 32768 := by omega
      go_upto_region 3 with fail
      clear c0 hl dk
      obtain ⟨X, W, HTT, H0, hne, HC⟩ := class_below wr
      have c1 : ∀ y, (W y).cell? ⟨L.hB, 1, none⟩ = some (.slice (some ⟨L.wB, 0, none⟩) 32768 32768) := fun y => (HM1.out.below (HTT.out y)).hcells.2.1
      refine wp_region_class_lastT W rfl (by kernel_rfl) (by kernel_rfl) (by kernel_rfl) H0.out ?_
      dsimp only [List.dropLast]
      repeat (go_big_quiet_step ((go_at_call 68; exact Calls.class_same (HI.out _))))
      refine wpQuiet_nil ?_
      intro z
      have HZ := hid (HTT.out z)
      generalize W z = wz at HZ ⊢
      clear c1 H0 HTT HC hne
      have hz := HM1.out.below HZ.out
      have c2 := hz.wcell (i := s + j) (by omega)
      have f2 : wz.frozen? ⟨L.wB, s + j, none⟩ = false := (hz.wb rfl).frozen _
      have HF := hid (hz.setW (i := s + j) (by omega) 0)
      rw [fillF_s] at HF
      have HFz := hid (HF1.out.trans (Fr.below HZ.out))
      generalize ({ G with word := fillF G.word s j 0, lg := fillF G.lg s j false } : GS).word (s + j) = b0 at c2
      clear hz HM1 HF1
      go_upto_region 4 with fail
      clear c2 f2
      have HF2 := hid (HFz.out.trans HF.out.2)
      have HM2 := hid HF.out.1
      clear HF HFz HZ
      generalize wz.setCell ⟨L.wB, s + j, none⟩ (.int .u64 0) = wy at HF2 HM2 ⊢
      obtain ⟨X, W, HTT, H0, hne, HC⟩ := class_below wy
      have c1 : ∀ y, (W y).cell? ⟨L.hB, 2, none⟩ = some (.slice (some ⟨L.lB, 0, none⟩) 32768 32768) := fun y => (HM2.out.below (HTT.out y)).hcells.2.2
      refine wp_region_class_lastT W rfl (by kernel_rfl) (by kernel_rfl) (by kernel_rfl) H0.out ?_
      dsimp only [List.dropLast]
      repeat (go_big_quiet_step ((go_at_call 68; exact Calls.class_same (HI.out _))))
      refine wpQuiet_nil ?_
      intro z
      have HZ := hid (HTT.out z)
      generalize W z = wx at HZ ⊢
      clear c1 H0 HTT HC hne
      have hz := HM2.out.below HZ.out
      have c2 := hz.lcell (i := s + j) (by omega)
      have f2 : wx.frozen? ⟨L.lB, s + j, none⟩ = false := (hz.lb rfl).frozen _
      have HF := hid (hz.setL (i := s + j) (by omega) false)
      rw [fillF_s] at HF
      have HFx := hid (HF2.out.trans (Fr.below HZ.out))
      generalize GS.lg _ (s + j) = b0 at c2
      clear hz HM2 HF2
      go_wp2
      exact ⟨⟨j + 1, by omega, by go_num, hid HF.out.1, hid (HFx.out.trans HF.out.2)⟩, by simp [intOf]; omega⟩
    · as_aux_lemma =>
      have dk : decide ((j : Int) ≤ (n : Int)) = false := decide_eq_false (by omega)
      obtain rfl : j = n + 1 := by omega
      obtain ⟨w2, hr, h2, f2⟩ := HM1.out.delH a 0
      have HM2 := hid h2
      have HF2 := hid (HF1.out.trans f2)
      clear h2 f2 HM1 HF1
      go_wp2
      exact bodyPost_end (v := .tuple #[]) (by simp [results, Try.results95, go_sem]) rfl ⟨rfl, HM2.out, HF2.out⟩
end
end Go.Proofs.Qxb6500888a
