/- (*lists).agree. -/
import Derived.Test.Qxb6500887aArNew
namespace Go.Proofs.Qxb6500887a
open Go.RowKit
set_option linter.unusedSimpArgs false
set_option linter.unusedVariables false

structure Ls (w : World) (L lc lm ll : Nat) (cs ms ls : List Nat) : Prop where
  lb : Blk w L 30 [.slice (some ⟨lc, 0, none⟩) 16384 16384, .slice (some ⟨lm, 0, none⟩) 16384 16384, .slice (some ⟨ll, 0, none⟩) 32768 32768]
  bc : Blk w lc 5 (cs.map fun (x : Nat) => .int .u8 (x : Int))
  bm : Blk w lm 4 (ms.map fun (x : Nat) => .bool (onB x))
  bl : Blk w ll 4 (ls.map fun (x : Nat) => .bool (onB x))
  n1 : cs.length = 16384
  n2 : ms.length = 16384
  n3 : ls.length = 32768
  c3 : ∀ x ∈ cs, x ≤ 3
section
variable {w w' : World} {L lc lm ll : Nat} {cs ms ls : List Nat}
theorem Ls.below (h : Ls w L lc lm ll cs ms ls) (hb : Below w.heap.size w w') : Ls w' L lc lm ll cs ms ls :=
  ⟨h.lb.below hb, h.bc.below hb, h.bm.below hb, h.bl.below hb, h.n1, h.n2, h.n3, h.c3⟩
theorem Ls.drew (h : Ls w L lc lm ll cs ms ls) (hd : Drew w w') : Ls w' L lc lm ll cs ms ls := h.below (hd.below _)
theorem Ls.upd {g : Nat} (h : Ls w L lc lm ll cs ms ls) (hu : Upd g w w') (hg : g ∉ [L, lc, lm, ll]) : Ls w' L lc lm ll cs ms ls := by
  simp only [List.mem_cons, List.not_mem_nil, or_false, not_or] at hg
  obtain ⟨g1, g2, g3, g4⟩ := hg
  exact ⟨h.lb.upd hu (Ne.symm g1), h.bc.upd hu (Ne.symm g2), h.bm.upd hu (Ne.symm g3), h.bl.upd hu (Ne.symm g4), h.n1, h.n2, h.n3, h.c3⟩
theorem Ls.cellc (h : Ls w L lc lm ll cs ms ls) {g v : Nat} (hv : cs[g]? = some v) : w.cell? ⟨lc, g, none⟩ = some (.int .u8 (v : Int)) := by
  rw [h.bc.cell g]; simp [hv]
theorem Ls.cellm (h : Ls w L lc lm ll cs ms ls) {g v : Nat} (hv : ms[g]? = some v) : w.cell? ⟨lm, g, none⟩ = some (.bool (onB v)) := by
  rw [h.bm.cell g]; simp [hv]
theorem Ls.celll (h : Ls w L lc lm ll cs ms ls) {g v : Nat} (hv : ls[g]? = some v) : w.cell? ⟨ll, g, none⟩ = some (.bool (onB v)) := by
  rw [h.bl.cell g]; simp [hv]

set_option maxRecDepth 1000000 in
set_option maxHeartbeats 4000000 in
theorem agree_walk {A tc bc tm bm tl bl : Nat} (ha : Ar w A tc bc tm bm tl bl cs ms ls) (hl : Ls w L lc lm ll cs ms ls) (lo hi : Int) (h1 : -1000 ≤ lo) (h2 : lo ≤ 32768) (h3 : hi ≤ 33000) (h4 : 0 ≤ hi) :
    Calls Try.prog 21 #[.pointer (some ⟨L, 0, none⟩), .pointer (some ⟨A, 0, none⟩), .int .i64 lo, .int .i64 hi] w fun e w' => e = .returned (.bool true) ∧ Drew w w' := by
  have HA := hid ha
  have HL := hid hl
  clear ha hl
  obtain ⟨lo', hlo'⟩ : ∃ lo' : Nat, (lo' : Int) = if lo < 0 then 0 else lo := ⟨(if lo < 0 then 0 else lo).toNat, by split <;> omega⟩
  obtain ⟨hi', hhi'⟩ : ∃ hi' : Nat, (hi' : Int) = if 32768 < hi then 32768 else hi := ⟨(if 32768 < hi then 32768 else hi).toNat, by split <;> omega⟩
  have hh : hi' ≤ 32768 := by split at hhi' <;> omega
  have hl32 : lo' ≤ 32768 := by split at hlo' <;> omega
  have Hlo := hid hlo'
  have Hhi := hid hhi'
  clear hlo' hhi'
  go_enter Try.func21, Try.ntmps21
  go_upto_if 18 with fail
  go_cut [2] (fun v wc => v = .int .i64 (lo' : Int) ∧ wc = w)
  case first =>
    by_cases d : lo < 0
    · have dd : decide (lo < 0) = true := decide_eq_true d
      go_wp2_with fail
      go_meet
      case rel => exact ⟨by rw [Hlo.out, if_pos d], rfl⟩
    · have dd : decide (lo < 0) = false := decide_eq_false d
      have d' : ¬ lo < 0 := d
      go_wp2_with fail
      go_meet
      case rel => exact ⟨by rw [Hlo.out, if_neg (by omega)], rfl⟩
  case rest =>
  obtain ⟨rfl, rfl⟩ := hcut
  go_upto_if 20 with fail
  go_cut [3] (fun v wc2 => v = .int .i64 (hi' : Int) ∧ wc2 = wc)
  case first =>
    by_cases d : 32768 < hi
    · have dd : decide (32768 < hi) = true := decide_eq_true d
      go_wp2_with fail
      go_meet
      case rel => exact ⟨by rw [Hhi.out, if_pos d], rfl⟩
    · have dd : decide (32768 < hi) = false := decide_eq_false d
      go_wp2_with fail
      go_meet
      case rel => exact ⟨by rw [Hhi.out, if_neg (by omega)], rfl⟩
  case rest =>
  obtain ⟨rfl, rfl⟩ := hcut
  go_wp2_with fail
  rename World => w0
  go_loopw [9] (fun v wr => ∃ i : Nat, i ≤ 32768 ∧ v = .int .i64 (i : Int) ∧ Hid (Drew w0 wr)) (fun v _ => 32768 - (intOf v).toNat)
  case atStart => exact ⟨lo', hl32, rfl, hid (Drew.refl _)⟩
  case round =>
    obtain ⟨i, hi1, rfl, HD⟩ := hrel
    by_cases hlt : i < hi'
    rotate_left
    · have dd : decide ((i : Int) < (hi' : Int)) = false := decide_eq_false (by omega)
      go_wp2
      go_ret
      exact ⟨rfl, HD.out⟩
    have dd : decide ((i : Int) < (hi' : Int)) = true := decide_eq_true (by omega)
    have i32 : i < 32768 := by omega
    obtain ⟨vl, hvl⟩ : ∃ vl, ls[i]? = some vl := ⟨ls[i]'(by rw [HL.out.n3]; exact i32), List.getElem?_eq_getElem _⟩
    have HA1 := hid (HA.out.drew HD.out)
    have HL1 := hid (HL.out.drew HD.out)
    have HG := hid (logged_at HA1.out i vl i32 hvl)
    have Hvl := hid hvl
    clear hvl
    go_wp2_with fail
    refine (HG.out).mono ?_
    rintro e w2 ⟨rfl, hd2⟩
    have HA2 := hid (HA1.out.drew hd2)
    have HL2 := hid (HL1.out.drew hd2)
    have HD2 := hid (HD.out.trans hd2)
    clear hd2 HG
    have l2 : w2.cell? ⟨L, 2, none⟩ = some (.slice (some ⟨ll, 0, none⟩) 32768 32768) := HL2.out.lb.cell 2
    have cl : w2.cell? ⟨ll, i, none⟩ = some (.bool (onB vl)) := HL2.out.celll Hvl.out
    generalize onB vl = bvl at *
    by_cases he : i % 2 = 0
    · obtain ⟨g, rfl⟩ : ∃ g, i = 2 * g := ⟨i / 2, by omega⟩
      have g16 : g < 16384 := by omega
      obtain ⟨vc, hvc⟩ : ∃ vc, cs[g]? = some vc := ⟨cs[g]'(by rw [HL.out.n1]; exact g16), List.getElem?_eq_getElem _⟩
      obtain ⟨vm, hvm⟩ : ∃ vm, ms[g]? = some vm := ⟨ms[g]'(by rw [HL.out.n2]; exact g16), List.getElem?_eq_getElem _⟩
      have hc3 : vc ≤ 3 := HL.out.c3 vc (List.mem_of_getElem? hvc)
      have HC := hid (count_at HA2.out g vc g16 hvc (by omega))
      have Hvc := hid hvc
      have Hvm := hid hvm
      have r2 : ((2 * g : Nat) : Int) % 2 = 0 := by omega
      have q2 : ((2 * g : Nat) : Int) / 2 = (g : Int) := by omega
      clear hvc hvm he
      go_wp2_with fail
      clear l2 cl
      refine (HC.out).mono ?_
      rintro e w3 ⟨rfl, hd3⟩
      have HA3 := hid (HA2.out.drew hd3)
      have HL3 := hid (HL2.out.drew hd3)
      have HD3 := hid (HD2.out.trans hd3)
      have HM := hid (marked_at HA3.out g vm g16 Hvm.out)
      clear hd3 HC
      have l0 : w3.cell? ⟨L, 0, none⟩ = some (.slice (some ⟨lc, 0, none⟩) 16384 16384) := HL3.out.lb.cell 0
      have cc : w3.cell? ⟨lc, g, none⟩ = some (.int .u8 (vc : Int)) := HL3.out.cellc Hvc.out
      have q3 : 2 * (g : Int) / 2 = (g : Int) := by omega
      go_wp2_with fail
      clear l0 cc
      refine (HM.out).mono ?_
      rintro e w4 ⟨rfl, hd4⟩
      have HL4 := hid (HL3.out.drew hd4)
      have HD4 := hid (HD3.out.trans hd4)
      clear hd4 HM
      have l1 : w4.cell? ⟨L, 1, none⟩ = some (.slice (some ⟨lm, 0, none⟩) 16384 16384) := HL4.out.lb.cell 1
      have cm : w4.cell? ⟨lm, g, none⟩ = some (.bool (onB vm)) := HL4.out.cellm Hvm.out
      generalize onB vm = bvm at *
      go_wp2
      exact ⟨⟨2 * g + 1, by omega, by go_num, HD4⟩, by simp [intOf]; omega⟩
    · have r2 : ((i : Int) % 2 != 0) = true := by simp; omega
      have r3 : ((i : Int) % 2 == 0) = false := by simp; omega
      go_wp2
      exact ⟨⟨i + 1, by omega, by go_num, HD2⟩, by simp [intOf]; omega⟩
end
end Go.Proofs.Qxb6500887a
