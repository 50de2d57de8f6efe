/- badNumberText. -/
import Derived.Test.Qxb6500883aGreatDoorScP
namespace Go.Proofs.Qxb6500883aGreatDoor
open Go.RowKit
set_option linter.unusedSimpArgs false
set_option linter.unusedVariables false
section
variable {w w' : World} {a : Option Addr} {n c : Nat} {bs : List UInt8} {N mg : Nat}
set_option maxRecDepth 100000 in
set_option maxHeartbeats 1000000 in
theorem badNumberTextW (hs : Src w a n c bs) (hg : Gl N mg w) (t : Tk) (ht : TkOk n t) (h3 : t.kind = 3) : Calls Tryz.prog 157 #[.slice a n c, .agg (tkC t).toArray] w fun e w' => ∃ s : ByteArray, e = .returned (.string s) ∧ 0 < s.size ∧ s.size ≤ 100 ∧ Hid (Below w.heap.size w w') := by
  obtain ⟨p, hp⟩ : ∃ p, w.heap.size = p := ⟨_, rfl⟩
  have H1 := hid (DsU.start hs hg t)
  rw [hp] at H1
  have hle := hs.le
  obtain ⟨k, ps, en, bd, vl⟩ := t
  obtain ⟨hk, hpe, hen, hbp, hbn, hv, hf⟩ := ht
  dsimp only at hk hpe hen hbp hbn hv hf h3
  have hbp := hbp h3
  have hpn : ps < n := by have := hf (by omega); omega
  dsimp only [tkC] at H1 ⊢
  clear hs hg h3 hf
  go_enter Tryz.func157, Tryz.ntmps157
  go_upto_region 1 with fail
  (try simp only [hp])
  generalize hw1 : w.alloc _ = w1 at H1 ⊢
  clear hw1 hp
  obtain ⟨c0, c1, c2, c3⟩ := H1.out.cells
  dsimp only at c0 c1 c2 c3
  have HB := hid H1.out.be
  by_cases hb : bd < n
  rotate_left
  · as_aux_lemma =>
    have d1 : decide ((n : Int) ≤ (bd : Int)) = true := decide_eq_true (by omega)
    have d2 : decide ((bd : Int) ≥ (n : Int)) = true := d1
    go_wp2
    go_ret
    exact ⟨_, rfl, by decide, by decide, HB⟩
  have d1 : decide ((n : Int) ≤ (bd : Int)) = false := decide_eq_false (by omega)
  have d2 : decide ((bd : Int) ≥ (n : Int)) = false := d1
  obtain ⟨b, off, rfl, _, hcx⟩ := H1.out.s.cell hb
  obtain ⟨b', off', e', _, hcp⟩ := H1.out.s.cell hpn
  cases e'
  have HX := hid (hexByteW (cN bs bd) (cN_lt _ _))
  have HD0 := hid (digitValueW (cN bs bd) 10 (cN_lt _ _) (.inl rfl))
  have HD1 := hid (digitValueW (cN bs bd) 16 (cN_lt _ _) (.inr rfl))
  have hx2 := cN_lt bs bd
  generalize cN bs bd = x at hcx HX HD0 HD1 hx2
  have hy2 := cN_lt bs ps
  generalize cN bs ps = y at hcp hy2
  obtain ⟨q, hq⟩ : ∃ q, (decide (2 ≤ bd - ps) && decide (cN bs (ps + 1) = 120)) = q := ⟨_, rfl⟩
  have Hq := hid hq
  clear hq
  have i1 : (ps : Int) < (n : Int) := by omega
  have i2 : (bd : Int) < (n : Int) := by omega
  go_upto_region 4 with fail
  go_cut [6] from 20 to 34 (fun v wc => v = .bool q ∧ wc = w1)
  case first =>
    by_cases h2 : 2 ≤ bd - ps
    · as_aux_lemma =>
      have d3 : decide ((bd : Int) - (ps : Int) ≥ 2) = true := decide_eq_true (by omega)
      have d4 : decide (2 ≤ (bd : Int) - (ps : Int)) = true := d3
      obtain ⟨b1, off1, e1, _, hc1⟩ := H1.out.s.cell (k := ps + 1) (by omega)
      cases e1
      have hc1' : w1.cell? ⟨b, off + ps + 1, none⟩ = some (.int .u8 (cN bs (ps + 1) : Int)) := by rw [Nat.add_assoc]; exact hc1
      have HE : Hid (((cN bs (ps + 1) : Int) == 120) = q) := hid (by
        rw [← Hq.out, decide_eq_true h2, Bool.true_and]
        exact Bool.eq_iff_iff.2 (by simp; omega))
      generalize cN bs (ps + 1) = z at hc1 hc1' HE
      have i3 : (ps : Int) + 1 < (n : Int) := by omega
      have he := HE.out
      go_wp2
      go_meet
      exact ⟨rfl, rfl⟩
    · as_aux_lemma =>
      have d3 : decide ((bd : Int) - (ps : Int) ≥ 2) = false := decide_eq_false (by omega)
      have d4 : decide (2 ≤ (bd : Int) - (ps : Int)) = false := d3
      have HE : Hid (false = q) := hid (by rw [← Hq.out, decide_eq_false h2]; rfl)
      go_wp2
      go_meet
      exact ⟨by rw [HE.out], rfl⟩
  case rest =>
  obtain ⟨rfl, rfl⟩ := hcut
  cases q with
  | true =>
    obtain ⟨ok, hok⟩ : ∃ ok, (dvN x 16).isSome = ok := ⟨_, rfl⟩
    rw [hok] at HD1
    clear hok HD0
    generalize (dvN x 16).getD 0 = dv at HD1
    cases ok with
    | true =>
      as_aux_lemma =>
      go_wp2_with fail
      refine (HD1.out _).mono ?_
      rintro e w2 ⟨rfl, rfl⟩
      go_wp2
      go_ret
      exact ⟨_, rfl, by decide, by decide, HB⟩
    | false =>
      as_aux_lemma =>
      go_wp2_with fail
      refine (HD1.out _).mono ?_
      rintro e w2 ⟨rfl, rfl⟩
      go_wp2_with fail
      refine (HX.out _).mono ?_
      rintro e w2 ⟨s, rfl, hs4, hb2⟩
      have HB2 := hid (HB.out.trans (hb2.out.mono HB.out.size))
      clear hb2 HB HX HD1
      go_wp2
      go_ret
      refine ⟨_, rfl, ?_, ?_, HB2⟩ <;> (rw [ba_size, ba_size, hs4]; decide)
  | false =>
    obtain ⟨ok, hok⟩ : ∃ ok, (dvN x 10).isSome = ok := ⟨_, rfl⟩
    rw [hok] at HD0
    clear hok HD1
    generalize (dvN x 10).getD 0 = dv at HD0
    cases ok with
    | true =>
      by_cases h48 : y = 48
      · as_aux_lemma =>
        have d5 : ((y : Int) == 48) = true := by simp; omega
        clear h48
        go_wp2_with fail
        refine (HD0.out _).mono ?_
        rintro e w2 ⟨rfl, rfl⟩
        go_wp2
        go_ret
        exact ⟨_, rfl, by decide, by decide, HB⟩
      · as_aux_lemma =>
        have d5 : ((y : Int) == 48) = false := by simp; omega
        go_wp2_with fail
        refine (HD0.out _).mono ?_
        rintro e w2 ⟨rfl, rfl⟩
        go_wp2
        go_ret
        exact ⟨_, rfl, by decide, by decide, HB⟩
    | false =>
      as_aux_lemma =>
      go_wp2_with fail
      refine (HD0.out _).mono ?_
      rintro e w2 ⟨rfl, rfl⟩
      go_wp2_with fail
      refine (HX.out _).mono ?_
      rintro e w2 ⟨s, rfl, hs4, hb2⟩
      have HB2 := hid (HB.out.trans (hb2.out.mono HB.out.size))
      clear hb2 HB HX HD0
      go_wp2
      go_ret
      refine ⟨_, rfl, ?_, ?_, HB2⟩ <;> (rw [ba_size, ba_size, hs4]; decide)
end
end Go.Proofs.Qxb6500883aGreatDoor
