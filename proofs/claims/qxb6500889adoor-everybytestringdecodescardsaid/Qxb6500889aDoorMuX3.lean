/- The machine: note, back, operand. -/
import Derived.Test.Qxb6500889aDoorMuX2
namespace Go.Proofs.Qxb6500889aDoor
open Go.RowKit
set_option linter.unusedSimpArgs false
set_option linter.unusedVariables false

def noteX (X : XS) (h : Nat) : XS := { X with ring := fup X.ring X.nx h, nx := (X.nx + 1) % 255, ct := if X.ct < 255 then X.ct + 1 else X.ct }
def opX (X : XS) (v : Nat) : Nat := if 1 ≤ v ∧ v ≤ 255 ∧ v ≤ X.ct then X.ring ((X.nx + 255 - v) % 255) else v
section
variable {w w' w'' : World} {ρ ρ' ρ'' : Rl} {L L' : HL} {T : XL} {H H' : HS} {X : XS}
theorem MM.setRing (h : MM w ρ L T H X) {i : Nat} (hi : i < 255) (v : Nat) : MM (w.setCell ⟨T.xB, 13 + i, none⟩ (.int .u64 (v : Int))) ρ L T H { X with ring := fup X.ring i v } ∧ Fx ρ w ρ (w.setCell ⟨T.xB, 13 + i, none⟩ (.int .u64 (v : Int))) :=
  h.setX (tv' := T.tv) (X' := { X with ring := fup X.ring i v }) (xC_set_ring _ _ _ hi v) h.tr
theorem MM.setNx (h : MM w ρ L T H X) (v : Nat) : MM (w.setCell ⟨T.xB, 268, none⟩ (.int .i64 (v : Int))) ρ L T H { X with nx := v } ∧ Fx ρ w ρ (w.setCell ⟨T.xB, 268, none⟩ (.int .i64 (v : Int))) :=
  h.setX (i := 268 + 0) (tv' := T.tv) (X' := { X with nx := v }) (xC_set_tl _ _ _ _ rfl rfl rfl) h.tr
theorem MM.setCt (h : MM w ρ L T H X) (v : Nat) : MM (w.setCell ⟨T.xB, 269, none⟩ (.int .i64 (v : Int))) ρ L T H { X with ct := v } ∧ Fx ρ w ρ (w.setCell ⟨T.xB, 269, none⟩ (.int .i64 (v : Int))) :=
  h.setX (i := 268 + 1) (tv' := T.tv) (X' := { X with ct := v }) (xC_set_tl _ _ _ _ rfl rfl rfl) h.tr
theorem MM.rcell (h : MM w ρ L T H X) {i : Nat} (hi : i < 255) : w.cell? ⟨T.xB, 13 + i, none⟩ = some (.int .u64 ((X.ring i : Nat) : Int)) := by rw [h.xcell]; exact xC_ring _ _ _ hi
set_option maxRecDepth 1000000 in
set_option maxHeartbeats 2000000 in
theorem note_walk (h : MM w ρ L T H X) (hb : XB X) (v : Nat) :
    Calls Tryd.prog 81 #[.pointer (some ⟨T.xB, 13, none⟩), .int .u64 (v : Int)] w fun e w' => e = .returned (.tuple #[]) ∧ MM w' ρ L T H (noteX X v) ∧ Fx ρ w ρ w' := by
  have hnx := hb.nx
  have hct := hb.ct
  have HH := hid h
  obtain ⟨nx, hn⟩ : ∃ n, X.nx = n := ⟨_, rfl⟩
  obtain ⟨ct, hc⟩ : ∃ n, X.ct = n := ⟨_, rfl⟩
  have Hn := hid hn
  have Hc := hid hc
  rw [hn] at hnx
  rw [hc] at hct
  obtain ⟨X0, W, hT, hI⟩ := class_mk (fun w' => Drew w w')
  have H0 : Hid (∃ y, w.drew = W y) := hid (hI _ ⟨1, rfl⟩)
  have hne : Nonempty X0 := ⟨H0.out.choose⟩
  have d0 : ∀ y, (W y).cell? ⟨T.xB, 268, none⟩ = some (.int .i64 (nx : Int)) := fun y => by rw [← hn]; exact (h.below (Drew.below (hT y) _)).hcells.1
  have HTT := hid hT
  obtain ⟨xB, hxB⟩ : ∃ b, T.xB = b := ⟨_, rfl⟩
  have HxB := hid hxB
  rw [hxB] at d0
  rw [hxB]
  have i1 : (nx : Int) < 255 := by omega
  clear h hT hI hn hc hxB
  go_enter Tryd.func81, Tryd.ntmps81
  go_upto_region 0 with fail
  refine wp_region_class_tailT W 8 (by kernel_rfl) (by kernel_rfl) (by kernel_rfl) H0.out ?_
  dsimp only [List.take, List.drop]
  repeat (go_big_quiet_step (fail))
  refine wpQuiet_nil ?_
  intro z
  have HZ := hid (Drew.below (HTT.out z) w.heap.size)
  generalize W z = wz at HZ ⊢
  clear d0 H0 HTT
  have HMz := hid (HH.out.below HZ.out)
  have HFz : Hid (Fx ρ w ρ wz) := hid (Fx.below HZ.out)
  have cr : wz.cell? ⟨xB, 13 + nx, none⟩ = some (.int .u64 ((X.ring nx : Nat) : Int)) := by rw [← HxB.out]; exact HMz.out.rcell hnx
  have fr : wz.frozen? ⟨xB, 13 + nx, none⟩ = false := by rw [← HxB.out]; exact HMz.out.xb.frozen _
  have h1 := HMz.out.setRing hnx v
  rw [HxB.out] at h1
  have HM1 := hid h1
  clear h1
  go_upto_region 1 with fail
  generalize wz.setCell ⟨xB, 13 + nx, none⟩ (.int .u64 (v : Int)) = w1 at HM1 ⊢
  clear cr fr
  have c1 : w1.cell? ⟨xB, 268, none⟩ = some (.int .i64 (nx : Int)) := by rw [← HxB.out, ← Hn.out]; exact HM1.out.1.hcells.1
  have f1 : w1.frozen? ⟨xB, 268, none⟩ = false := by rw [← HxB.out]; exact HM1.out.1.xb.frozen _
  obtain ⟨n2, hn2⟩ : ∃ n2, (nx + 1) % 255 = n2 := ⟨_, rfl⟩
  have hmod : ((nx : Int) + 1).tmod 255 = (n2 : Int) := by rw [Int.tmod_eq_emod_of_nonneg (by omega)]; omega
  have h2 := HM1.out.1.setNx n2
  rw [HxB.out] at h2
  have HM2 := hid (And.intro h2.1 (HFz.out.trans (HM1.out.2.trans h2.2)))
  have Hn2 := hid hn2
  have b2 : (n2 : Int) < 255 := by omega
  clear h2 hn2
  go_upto_region 2 with fail
  generalize w1.setCell ⟨xB, 268, none⟩ (.int .i64 (n2 : Int)) = w2 at HM2 ⊢
  clear c1 f1 hmod
  have c2 : w2.cell? ⟨xB, 269, none⟩ = some (.int .i64 (ct : Int)) := by rw [← HxB.out, ← Hc.out]; exact HM2.out.1.hcells.2
  have f2 : w2.frozen? ⟨xB, 269, none⟩ = false := by rw [← HxB.out]; exact HM2.out.1.xb.frozen _
  by_cases hlt : ct < 255
  · have dk : decide ((ct : Int) < 255) = true := decide_eq_true (by omega)
    have h3 := HM2.out.1.setCt (ct + 1)
    rw [HxB.out, show ((ct + 1 : Nat) : Int) = (ct : Int) + 1 by omega] at h3
    have HF : Hid (MM (w2.setCell ⟨xB, 269, none⟩ (.int .i64 ((ct : Int) + 1))) ρ L T H (noteX X v) ∧ Fx ρ w ρ (w2.setCell ⟨xB, 269, none⟩ (.int .i64 ((ct : Int) + 1)))) := hid ⟨by
      unfold noteX
      rw [Hn.out, Hc.out, if_pos hlt, Hn2.out]
      exact h3.1, HM2.out.2.trans h3.2⟩
    clear h3 HM1 HM2 HMz HFz
    go_wp2
    exact bodyPost_end (v := .tuple #[]) (by simp [results, Tryd.results81, go_sem]) rfl ⟨rfl, HF.out⟩
  · have dk : decide ((ct : Int) < 255) = false := decide_eq_false (by omega)
    have HF : Hid (MM w2 ρ L T H (noteX X v) ∧ Fx ρ w ρ w2) := hid ⟨by
      unfold noteX
      rw [Hn.out, Hc.out, if_neg hlt, Hn2.out, ← Hc.out]
      exact HM2.out.1, HM2.out.2⟩
    clear HM1 HM2 HMz HFz
    go_wp2
    exact bodyPost_end (v := .tuple #[]) (by simp [results, Tryd.results81, go_sem]) rfl ⟨rfl, HF.out⟩
set_option maxRecDepth 1000000 in
set_option maxHeartbeats 2000000 in
theorem back_walk (h : MM w ρ L T H X) (hb : XB X) {k : Nat} (hk1 : 1 ≤ k) (hk2 : k ≤ 255) :
    Calls Tryd.prog 70 #[.pointer (some ⟨T.xB, 13, none⟩), .int .i64 (k : Int)] w fun e w' => e = .returned (if k ≤ X.ct then .tuple #[.int .u64 ((X.ring ((X.nx + 255 - k) % 255) : Nat) : Int), .bool true] else .tuple #[.int .u64 0, .bool false]) ∧ Below w.heap.size w w' := by
  have hnx := hb.nx
  have hct := hb.ct
  obtain ⟨nx, hn⟩ : ∃ n, X.nx = n := ⟨_, rfl⟩
  obtain ⟨ct, hc⟩ : ∃ n, X.ct = n := ⟨_, rfl⟩
  rw [hn] at hnx
  rw [hc] at hct
  have c2 : w.cell? ⟨T.xB, 269, none⟩ = some (.int .i64 (ct : Int)) := by rw [← hc]; exact h.hcells.2
  rw [hn, hc]
  have d1 : decide ((k : Int) < 1) = false := decide_eq_false (by omega)
  by_cases hle : k ≤ ct
  · rw [if_pos hle]
    have d2 : decide ((ct : Int) < (k : Int)) = false := decide_eq_false (by omega)
    have d2' : decide ((k : Int) > (ct : Int)) = false := decide_eq_false (by omega)
    obtain ⟨j, hj⟩ : ∃ j, (nx + 255 - k) % 255 = j := ⟨_, rfl⟩
    rw [hj]
    have hj255 : j < 255 := by omega
    have hmod : ((nx : Int) - (k : Int) + 255).tmod 255 = (j : Int) := by rw [Int.tmod_eq_emod_of_nonneg (by omega)]; omega
    obtain ⟨X0, W, hT, hI⟩ := class_mk (fun w' => Drew w w')
    have H0 : Hid (∃ y, w.drew = W y) := hid (hI _ ⟨1, rfl⟩)
    have hne : Nonempty X0 := ⟨H0.out.choose⟩
    have e0 : ∀ y, (W y).cell? ⟨T.xB, 268, none⟩ = some (.int .i64 (nx : Int)) := fun y => by rw [← hn]; exact (h.below (Drew.below (hT y) _)).hcells.1
    have e1 : ∀ y, (W y).cell? ⟨T.xB, 13 + j, none⟩ = some (.int .u64 ((X.ring j : Nat) : Int)) := fun y => (h.below (Drew.below (hT y) _)).rcell hj255
    have HTT := hid hT
    have i1 : (j : Int) < 255 := by omega
    generalize X.ring j = rj at *
    generalize T.xB = xB at *
    clear h hT hI hn hc hj hb
    go_enter Tryd.func70, Tryd.ntmps70
    go_upto_region 3 with fail
    refine wp_region_class W (by kernel_rfl) (by kernel_rfl) H0.out ?_
    repeat (go_big_quiet_step (fail))
    refine wpQuiet_nil ?_
    intro z
    have HZ := hid (Drew.below (HTT.out z) w.heap.size)
    generalize W z = wz at HZ ⊢
    go_wp2_with fail
    exact bodyPost_ret (v := .tuple #[.int .u64 ((rj : Nat) : Int), .bool true]) (by simp [results, Tryd.results70, go_sem]) rfl ⟨rfl, HZ.out⟩
  · rw [if_neg hle]
    have d2 : decide ((ct : Int) < (k : Int)) = true := decide_eq_true (by omega)
    have d2' : decide ((k : Int) > (ct : Int)) = true := decide_eq_true (by omega)
    generalize T.xB = xB at *
    clear h hn hc hb
    go_enter Tryd.func70, Tryd.ntmps70
    go_wp2
    exact bodyPost_ret (v := .tuple #[.int .u64 0, .bool false]) (by simp [results, Tryd.results70, go_sem]) rfl ⟨rfl, Below.refl _ _⟩
set_option maxRecDepth 1000000 in
set_option maxHeartbeats 2000000 in
theorem operand_walk (h : MM w ρ L T H X) (hb : XB X) (v : Nat) (hv : v < 18446744073709551616) :
    Calls Tryd.prog 55 #[.pointer (some ⟨T.xB, 0, none⟩), .int .u64 (v : Int)] w fun e w' => e = .returned (.int .u64 ((opX X v : Nat) : Int)) ∧ Below w.heap.size w w' := by
  unfold opX
  by_cases h1 : 1 ≤ v ∧ v ≤ 255
  · have HB := hid (back_walk h hb h1.1 h1.2)
    have d1 : decide ((1 : Int) ≤ (v : Int)) = true := decide_eq_true (by omega)
    have d2 : decide ((v : Int) ≤ 255) = true := decide_eq_true (by omega)
    have b1 : (v : Int) ≤ 255 := by omega
    generalize T.xB = xB at *
    obtain ⟨h11, h12⟩ := h1
    by_cases hc : v ≤ X.ct
    · rw [if_pos ⟨h11, h12, hc⟩]
      rw [if_pos hc] at HB
      generalize X.ring ((X.nx + 255 - v) % 255) = rj at *
      clear h hb hc h11 h12 hv
      go_enter Tryd.func55, Tryd.ntmps55
      go_wp2_with fail
      refine (HB.out).mono ?_
      rintro e w1 ⟨rfl, hb1⟩
      have HB1 := hid hb1
      clear hb1
      go_wp2
      go_ret
      exact ⟨rfl, HB1.out⟩
    · rw [if_neg (fun h => hc h.2.2)]
      rw [if_neg hc] at HB
      clear h hb hc h11 h12 hv
      go_enter Tryd.func55, Tryd.ntmps55
      go_wp2_with fail
      refine (HB.out).mono ?_
      rintro e w1 ⟨rfl, hb1⟩
      have HB1 := hid hb1
      clear hb1
      go_wp2
      go_ret
      exact ⟨rfl, HB1.out⟩
  · rw [if_neg (fun h => h1 ⟨h.1, h.2.1⟩)]
    generalize T.xB = xB at *
    clear h hb
    by_cases h0 : 1 ≤ v
    · have d1 : decide ((1 : Int) ≤ (v : Int)) = true := decide_eq_true (by omega)
      have d2 : decide ((v : Int) ≤ 255) = false := decide_eq_false (by omega)
      clear h1 hv h0
      go_enter Tryd.func55, Tryd.ntmps55
      go_wp2
      go_ret
      exact ⟨rfl, Below.refl _ _⟩
    · have d1 : decide ((1 : Int) ≤ (v : Int)) = false := decide_eq_false (by omega)
      clear h1 hv h0
      go_enter Tryd.func55, Tryd.ntmps55
      go_wp2
      go_ret
      exact ⟨rfl, Below.refl _ _⟩
end
end Go.Proofs.Qxb6500889aDoor
