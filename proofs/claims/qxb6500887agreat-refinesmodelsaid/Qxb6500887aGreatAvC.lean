/- same: an arena and a model that hold the same are found so. -/
import Derived.Test.Qxb6500887aGreatAvB
import Derived.Deep.DeepCutAuto
namespace Go.Proofs.Qxb6500887aGreat
open Go.RowKit
set_option linter.unusedSimpArgs false
set_option linter.unusedVariables false
section
variable {l : AL} {lm : ML} {S : AS} {w w' w0 : World}
/-- Arena and model side by side, only read. -/
structure SmI (l : AL) (lm : ML) (S : AS) (w0 : World) (w : World) : Prop where
  am0 : AM l S w0
  mm0 : MM lm (abE S) w0
  bel : Below w0.heap.size w0 w
theorem SmI.am (h : SmI l lm S w0 w) : AM l S w := h.am0.below h.bel
theorem SmI.mm (h : SmI l lm S w0 w) : MM lm (abE S) w := h.mm0.below h.bel
theorem SmI.below (h : SmI l lm S w0 w) (hb : Below w.heap.size w w') : SmI l lm S w0 w' := ⟨h.am0, h.mm0, h.bel.trans (hb.mono h.bel.size)⟩
theorem at_w {i : Nat} (hi : i < 32768) : InH (65536 + (i : Int)) ∧ wIx (65536 + (i : Int)) = i ∧ wantW (65536 + (i : Int)) = 0 := by
  have h : InH (65536 + (i : Int)) := ⟨by omega, by omega⟩
  obtain ⟨k1, k2⟩ := wIx_of h
  exact ⟨h, by omega, wantW_iff.2 h⟩
theorem at_g {g : Nat} (hg : g < 16384) : wantO (65536 + (g : Int) * 2) = 0 ∧ gIx (65536 + (g : Int) * 2) = g := by
  have h1 : InH (65536 + (g : Int) * 2) := ⟨by omega, by omega⟩
  have h2 : wantO (65536 + (g : Int) * 2) = 0 := by unfold wantO; rw [if_pos h1, if_pos (by omega)]
  obtain ⟨g1, g2, g3⟩ := gIx_of h2
  exact ⟨h2, by omega⟩
set_option maxRecDepth 1000000 in
set_option maxHeartbeats 8000000 in
theorem sameX (h : AM l S w) (hm : MM lm (abE S) w) : Calls Tryz.prog 16 #[.pointer (some ⟨l.a, 0, none⟩), .pointer (some ⟨lm.m, 0, none⟩)] w fun e w' => e = .returned (.bool true) ∧ Hid (Below w.heap.size w w') := by
  have H0 : Hid (SmI l lm S w w) := hid ⟨h, hm, Below.refl _ _⟩
  have hv := h.vl
  clear h hm
  obtain ⟨sv, hsv⟩ : ∃ v, S.v = v := ⟨_, rfl⟩
  have HSv := hid hsv
  rw [hsv] at hv
  clear hsv
  have dv : (((sv : Nat) : Int) != ((sv : Nat) : Int)) = false := by simp
  go_enter Tryz.func16, Tryz.ntmps16
  go_upto_region 1 with fail
  obtain ⟨X, W, HTT, HH0, hne, HCl⟩ := class_below w
  have y0 : ∀ y, (W y).cell? ⟨lm.m, 5, none⟩ = some (.int .u64 (sv : Int)) := fun y => by
    have := (H0.out.below (HTT.out y)).mm.cells.2.2.2.2.2
    rw [show (abE S).v = sv from HSv.out] at this
    exact this
  have HCt : Hid (∀ y, Calls Tryz.prog 17 #[.pointer (some ⟨l.a, 0, none⟩)] (W y) fun e w' => e = .returned (.int .u64 (sv : Int)) ∧ Below (W y).heap.size (W y) w') := hid (fun y => (versionZ (H0.out.below (HTT.out y)).am).mono (by
    rintro e w1 ⟨rfl, rfl⟩
    exact ⟨by rw [HSv.out], Below.refl _ _⟩))
  refine wp_region_class W (by kernel_rfl) (by kernel_rfl) HH0.out ?_
  repeat (go_big_quiet_step (first | (go_at_call 17; with_reducible exact Calls.class_of HCl.out (HCt.out _))))
  refine wpQuiet_nil ?_
  intro y
  have H1 := hid (H0.out.below (HTT.out y))
  generalize W y = w1 at H1 ⊢
  clear y0 HCt HH0 HTT HCl hne H0 HSv
  go_upto_region 4 with fail
  go_loopw [5] (fun u wr => ∃ i : Nat, u = .int .i64 (i : Int) ∧ i ≤ 32768 ∧ Hid (SmI l lm S w wr)) (fun u _ => 32768 - (intOf u).toNat)
  case atStart => exact ⟨0, rfl, by omega, H1⟩
  case round =>
  clear H1
  obtain ⟨i, rfl, hi, HK⟩ := hrel
  by_cases hin : i < 32768
  · as_aux_lemma =>
    have dq : decide ((i : Int) < 32768) = true := decide_eq_true (by omega)
    have dq' : decide (i < 32768) = true := decide_eq_true hin
    obtain ⟨a1, a2, a3⟩ := at_w hin
    have HL : Hid (Calls Tryz.prog 23 #[.pointer (some ⟨l.a, 0, none⟩), .int .u64 (65536 + (i : Int))] wr fun e w' => e = .returned (.tuple #[.int .u64 ((S.W i : Nat) : Int), .int .u8 0]) ∧ w' = wr) := hid (by
      have := loadZ HK.out.am (65536 + (i : Int))
      rw [if_pos a1, a2, a3] at this
      exact this)
    have HG : Hid (∀ wz, AM l S wz → Calls Tryz.prog 81 #[.pointer (some ⟨l.a, 0, none⟩), .int .u64 (65536 + (i : Int))] wz fun e w' => e = .returned (.tuple #[.bool ((abE S).G i), .int .u8 0]) ∧ Drew wz w') := hid (fun wz hz => by
      have := loggedZ hz (65536 + (i : Int))
      rw [if_pos a3, a2, a3, beq_int] at this
      exact this)
    have m0 := HK.out.mm.cells.1
    have mw := HK.out.mm.word hin
    rw [show (abE S).W i = S.W i from rfl] at mw
    obtain ⟨x, hx⟩ : ∃ x, S.W i = x := ⟨_, rfl⟩
    rw [hx] at HL mw
    obtain ⟨b, hb⟩ : ∃ b, (abE S).G i = b := ⟨_, rfl⟩
    rw [hb] at HG
    have Hb := hid hb
    clear hx hb a1 a2 a3
    have dx : ((x : Int) != (x : Int)) = false := by simp
    have db : (b != b) = false := by simp
    go_wp2_with fail
    refine HL.out.mono ?_
    rintro e w2 ⟨rfl, hw2⟩
    have hs2 := hw2.symm
    clear hw2 HL
    subst hs2
    go_upto_region 10 with fail
    go_wp2_with fail
    refine (HG.out _ HK.out.am).mono ?_
    rintro e w3 ⟨rfl, hd3⟩
    have H3 := hid (HK.out.below (hd3.below _))
    clear hd3 HG HK m0 mw
    have m3 := H3.out.mm.cells.2.2.2.1
    have mg := H3.out.mm.log hin
    rw [Hb.out] at mg
    go_wp2
    exact ⟨⟨i + 1, by go_num, by omega, H3⟩, by simp [intOf]; omega⟩
  as_aux_lemma =>
  have dq : decide ((i : Int) < 32768) = false := decide_eq_false (by omega)
  have dq' : decide (i < 32768) = false := decide_eq_false (by omega)
  go_upto_region 14 with fail
  go_loopw [10] (fun u wr => ∃ i : Nat, u = .int .i64 (i : Int) ∧ i ≤ 16384 ∧ Hid (SmI l lm S w wr)) (fun u _ => 16384 - (intOf u).toNat)
  case atStart => exact ⟨0, rfl, by omega, HK⟩
  case round =>
  clear HK
  obtain ⟨g, rfl, hg, HK⟩ := hrel
  by_cases hgn : g < 16384
  · as_aux_lemma =>
    have dq : decide ((g : Int) < 16384) = true := decide_eq_true (by omega)
    have dq' : decide (g < 16384) = true := decide_eq_true hgn
    obtain ⟨a1, a2⟩ := at_g hgn
    have HL : Hid (Calls Tryz.prog 73 #[.pointer (some ⟨l.a, 0, none⟩), .int .u64 (65536 + (g : Int) * 2)] wr fun e w' => e = .returned (.tuple #[.int .u8 (((abE S).C g : Nat) : Int), .int .u8 0]) ∧ Drew wr w') := hid (by
      have := countZ HK.out.am (65536 + (g : Int) * 2)
      rw [if_pos a1, a2, a1] at this
      exact this)
    have HG : Hid (∀ wz, AM l S wz → Calls Tryz.prog 76 #[.pointer (some ⟨l.a, 0, none⟩), .int .u64 (65536 + (g : Int) * 2)] wz fun e w' => e = .returned (.tuple #[.bool ((abE S).K g), .int .u8 0]) ∧ Drew wz w') := hid (fun wz hz => by
      have := markedZ hz (65536 + (g : Int) * 2)
      rw [if_pos a1, a2, a1, beq_int] at this
      exact this)
    have hx3 := abE_C S g
    obtain ⟨x, hx⟩ : ∃ x, (abE S).C g = x := ⟨_, rfl⟩
    rw [hx] at HL hx3
    have Hx := hid hx
    obtain ⟨b, hb⟩ : ∃ b, (abE S).K g = b := ⟨_, rfl⟩
    rw [hb] at HG
    have Hb := hid hb
    clear hx hb a1 a2
    have dx : ((x : Int) != (x : Int)) = false := by simp
    have db : (b != b) = false := by simp
    go_wp2_with fail
    refine HL.out.mono ?_
    rintro e w2 ⟨rfl, hd2⟩
    have H2 := hid (HK.out.below (hd2.below _))
    clear hd2 HL HK
    have m1 := H2.out.mm.cells.2.1
    have mc := H2.out.mm.count hgn
    rw [Hx.out] at mc
    go_upto_region 20 with fail
    go_wp2_with fail
    refine (HG.out _ H2.out.am).mono ?_
    rintro e w3 ⟨rfl, hd3⟩
    have H3 := hid (H2.out.below (hd3.below _))
    clear hd3 HG H2 m1 mc
    have m3 := H3.out.mm.cells.2.2.1
    have mg := H3.out.mm.mark hgn
    rw [Hb.out] at mg
    go_wp2
    exact ⟨⟨g + 1, by go_num, by omega, H3⟩, by simp [intOf]; omega⟩
  as_aux_lemma =>
  have dq : decide ((g : Int) < 16384) = false := decide_eq_false (by omega)
  have dq' : decide (g < 16384) = false := decide_eq_false (by omega)
  go_upto_region 24 with fail
  go_loopw [15] (fun u wr => ∃ i : Nat, u = .int .i64 (i : Int) ∧ i ≤ 2048 ∧ Hid (SmI l lm S w wr)) (fun u _ => 2048 - (intOf u).toNat)
  case atStart => exact ⟨0, rfl, by omega, HK⟩
  case round =>
  clear HK
  obtain ⟨n, rfl, hn, HK⟩ := hrel
  by_cases hnn : n < 2048
  · as_aux_lemma =>
    have dq : decide ((n : Int) < 2048) = true := decide_eq_true (by omega)
    have dq' : decide (n < 2048) = true := decide_eq_true hnn
    have HL : Hid (Calls Tryz.prog 131 #[.pointer (some ⟨l.a, 0, none⟩), .int .i64 (n : Int)] wr fun e w' => e = .returned (.tuple #[.int .i64 (((abE S).T n : Nat) : Int), .int .u8 0]) ∧ Drew wr w') := hid (by
      have := tallyZ HK.out.am (n : Int)
      rw [if_pos (by omega), if_pos (by omega)] at this
      exact this)
    have hx3 := abE_T S n
    obtain ⟨x, hx⟩ : ∃ x, (abE S).T n = x := ⟨_, rfl⟩
    rw [hx] at HL hx3
    have Hx := hid hx
    clear hx
    have dx : ((x : Int) != (x : Int)) = false := by simp
    go_wp2_with fail
    refine HL.out.mono ?_
    rintro e w2 ⟨rfl, hd2⟩
    have H2 := hid (HK.out.below (hd2.below _))
    clear hd2 HL HK
    have m1 := H2.out.mm.cells.2.2.2.2.1
    have mc := H2.out.mm.tally hnn
    rw [Hx.out] at mc
    go_wp2
    exact ⟨⟨n + 1, by go_num, by omega, H2⟩, by simp [intOf]; omega⟩
  as_aux_lemma =>
  have dq : decide ((n : Int) < 2048) = false := decide_eq_false (by omega)
  have dq' : decide (n < 2048) = false := decide_eq_false (by omega)
  go_wp2
  go_ret
  exact ⟨rfl, hid HK.out.bel⟩
end
end Go.Proofs.Qxb6500887aGreat
