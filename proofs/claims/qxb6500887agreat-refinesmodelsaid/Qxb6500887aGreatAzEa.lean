/- firstDifference (written by tools/mk_azea.py). -/
import Derived.Test.Qxb6500887aGreatAzPb
import Derived.Test.Qxb6500887aGreatAzLa
import Derived.Deep.DeepCutAuto
namespace Go.Proofs.Qxb6500887aGreat
open Go.RowKit
set_option linter.unusedSimpArgs false
set_option linter.unusedVariables false
section
variable {S S' : AS} {l l' : AL} {w w' w0 : World}
theorem inH_i {i : Nat} (hi : i < 32768) : InH ((65536 + i : Nat) : Int) := by unfold InH; omega
theorem wantW_i {i : Nat} (hi : i < 32768) : wantW ((65536 + i : Nat) : Int) = 0 := by unfold wantW; rw [if_pos (inH_i hi)]
theorem wIx_i (i : Nat) : wIx ((65536 + i : Nat) : Int) = i := by unfold wIx; omega
theorem wantO_i {i : Nat} (hi : i < 16384) : wantO ((65536 + i * 2 : Nat) : Int) = 0 := by
  unfold wantO
  rw [if_pos (inH_i (by omega)), if_pos (by omega)]
theorem gIx_i (i : Nat) : gIx ((65536 + i * 2 : Nat) : Int) = i := by unfold gIx; omega
theorem loadI (h : AM l S w) {i : Nat} (hi : i < 32768) : Calls Tryz.prog 23 #[.pointer (some ⟨l.a, 0, none⟩), .int .u64 ((65536 + i : Nat) : Int)] w fun e w' => e = .returned (.tuple #[.int .u64 ((S.W i : Nat) : Int), .int .u8 0]) ∧ Below w.heap.size w w' := by
  have := loadZ h ((65536 + i : Nat) : Int)
  rw [if_pos (inH_i hi), wantW_i hi, wIx_i] at this
  exact this.mono (by rintro e w' ⟨rfl, rfl⟩; exact ⟨rfl, Below.refl _ _⟩)
theorem countI (h : AM l S w) {i : Nat} (hi : i < 16384) : Calls Tryz.prog 73 #[.pointer (some ⟨l.a, 0, none⟩), .int .u64 ((65536 + i * 2 : Nat) : Int)] w fun e w' => e = .returned (.tuple #[.int .u8 ((S.te 0 i : Nat) : Int), .int .u8 0]) ∧ Below w.heap.size w w' := by
  have := countZ h ((65536 + i * 2 : Nat) : Int)
  rw [if_pos (wantO_i hi), wantO_i hi, gIx_i] at this
  exact this.mono (by rintro e w' ⟨rfl, hd⟩; exact ⟨rfl, hd.below _⟩)
theorem markedI (h : AM l S w) {i : Nat} (hi : i < 16384) : Calls Tryz.prog 76 #[.pointer (some ⟨l.a, 0, none⟩), .int .u64 ((65536 + i * 2 : Nat) : Int)] w fun e w' => e = .returned (.tuple #[.bool (!(((S.te 1 i : Nat) : Int) == 0)), .int .u8 0]) ∧ Below w.heap.size w w' := by
  have := markedZ h ((65536 + i * 2 : Nat) : Int)
  rw [if_pos (wantO_i hi), wantO_i hi, gIx_i] at this
  exact this.mono (by rintro e w' ⟨rfl, hd⟩; exact ⟨rfl, hd.below _⟩)
theorem loggedI (h : AM l S w) {i : Nat} (hi : i < 32768) : Calls Tryz.prog 81 #[.pointer (some ⟨l.a, 0, none⟩), .int .u64 ((65536 + i : Nat) : Int)] w fun e w' => e = .returned (.tuple #[.bool (!(((S.te 2 i : Nat) : Int) == 0)), .int .u8 0]) ∧ Below w.heap.size w w' := by
  have := loggedZ h ((65536 + i : Nat) : Int)
  rw [if_pos (wantW_i hi), wantW_i hi, wIx_i] at this
  exact this.mono (by rintro e w' ⟨rfl, hd⟩; exact ⟨rfl, hd.below _⟩)
theorem tallyI (h : AM l S w) {i : Nat} (hi : i < 2048) : Calls Tryz.prog 131 #[.pointer (some ⟨l.a, 0, none⟩), .int .i64 (i : Int)] w fun e w' => e = .returned (.tuple #[.int .i64 ((S.te 3 i : Nat) : Int), .int .u8 0]) ∧ Below w.heap.size w w' := by
  have := tallyZ h (i : Int)
  rw [if_pos (by omega), if_pos (by omega), show (i : Int).toNat = i by omega] at this
  exact this.mono (by rintro e w' ⟨rfl, hd⟩; exact ⟨rfl, hd.below _⟩)
theorem te_bit (S : AS) (i : Nat) : S.te 1 i < 2 ∧ S.te 2 i < 2 := by
  constructor
  · show enW 1 _ _ < 2
    unfold enW ent
    exact Nat.lt_of_le_of_lt Nat.and_le_right (by decide)
  · show enW 1 _ _ < 2
    unfold enW ent
    exact Nat.lt_of_le_of_lt Nat.and_le_right (by decide)
theorem bit_ne {x y : Nat} (hx : x < 2) (hy : y < 2) : ((!((x : Int) == 0)) != (!((y : Int) == 0))) = true ↔ x ≠ y := by
  match x, hx, y, hy with
  | 0, _, 0, _ => decide
  | 0, _, 1, _ => decide
  | 1, _, 0, _ => decide
  | 1, _, 1, _ => decide
/-- Inside firstDifference. -/
structure DX (w0 : World) (l l' : AL) (S S' : AS) (w : World) : Prop where
  a : AM l S w
  b : AM l' S' w
  bel : Below w0.heap.size w0 w
theorem DX.below (h : DX w0 l l' S S' w) (hb : Below w.heap.size w w') : DX w0 l l' S S' w' := ⟨h.a.below hb, h.b.below hb, h.bel.trans (hb.mono h.bel.size)⟩
theorem eqT.up {n : Nat} {f g : Nat → Nat} (h : eqT n f g) (he : f n = g n) : eqT (n + 1) f g := fun i hi => by
  by_cases c : i = n
  · rw [c]; exact he
  · exact h i (by omega)
set_option maxRecDepth 100000 in
set_option maxHeartbeats 8000000 in
theorem firstDifferenceZ (h : AM l S w) (h' : AM l' S' w) : Calls Tryz.prog 150 #[.pointer (some ⟨l.a, 0, none⟩), .pointer (some ⟨l'.a, 0, none⟩)] w fun e w' => ∃ p i : Nat, e = .returned (.tuple #[.int .u8 (p : Int), .int .i64 (i : Int)]) ∧ Hid (Fd S S' p i ∧ Below w.heap.size w w') := by
  have H0 : Hid (DX w l l' S S' w) := hid ⟨h, h', Below.refl _ _⟩
  clear h h'
  go_enter Tryz.func150, Tryz.ntmps150
  go_wp2_with fail
  go_loopw [6] (fun v wr => ∃ (i : Nat), v = .int .i64 (i : Int) ∧ i ≤ 32768 ∧ Hid (eqT i S.W S'.W ∧ DX w l l' S S' wr)) (fun v _ => 32768 - (intOf v).toNat)
  case atStart => exact ⟨0, rfl, Nat.zero_le _, hid ⟨fun i hi => (by omega), H0.out⟩⟩
  case round =>
  clear H0
  obtain ⟨i1, rfl, hi1, HI⟩ := hrel
  obtain ⟨x0, hx0⟩ : ∃ x, x = wr := ⟨_, rfl⟩
  subst hx0
  by_cases hlt : i1 < 32768
  · as_aux_lemma =>
    have di : decide ((i1 : Int) < 32768) = true := decide_eq_true (by omega)
    have din : decide (i1 < 32768) = true := decide_eq_true hlt
    obtain ⟨ad, had⟩ : ∃ x, 65536 + i1 = x := ⟨_, rfl⟩
    have ead : (65536 : Int) + (i1 : Int) = (ad : Int) := by omega
    have HC1 := hid (fun wz (hz : DX w l l' S S' wz) => loadI hz.a hlt)
    have HC2 := hid (fun wz (hz : DX w l l' S S' wz) => loadI hz.b hlt)
    rw [had] at HC1 HC2
    have hadb : ad ≤ 98304 := by omega
    clear had
    obtain ⟨x, hx⟩ : ∃ x, S.W i1 = x := ⟨_, rfl⟩
    obtain ⟨y, hy⟩ : ∃ x, S'.W i1 = x := ⟨_, rfl⟩
    rw [hx] at HC1
    rw [hy] at HC2
    have Hx := hid hx
    have Hy := hid hy
    clear hx hy
    go_wp2_with fail
    refine (HC1.out _ HI.out.2).mono ?_
    rintro e w1 ⟨rfl, hb1⟩
    have H1 := hid (HI.out.2.below hb1)
    clear hb1
    go_wp2_with fail
    refine (HC2.out _ H1.out).mono ?_
    rintro e w2 ⟨rfl, hb2⟩
    have H2 := hid (H1.out.below hb2)
    clear hb2 H1 HC1 HC2
    by_cases he : x = y
    · as_aux_lemma =>
      have d0 : ((x : Int) != (y : Int)) = false := by simp [he]
      have HF : Hid (eqT (i1 + 1) S.W S'.W ∧ DX w l l' S S' w2) := hid ⟨HI.out.1.up (by rw [Hx.out, Hy.out]; exact he), H2.out⟩
      clear HI Hx Hy H2 he
      go_wp2
      exact ⟨⟨i1 + 1, by go_num, by omega, HF⟩, by simp [intOf]; omega⟩
    · as_aux_lemma =>
      have d0 : ((x : Int) != (y : Int)) = true := by simp; omega
      have HF : Hid (Fd S S' 1 i1 ∧ Below w.heap.size w w2) := hid ⟨.inr (.inl ⟨rfl, hlt, by rw [Hx.out, Hy.out]; exact he, HI.out.1⟩), H2.out.bel⟩
      clear HI Hx Hy H2 he
      go_wp2
      refine bodyPost_ret (results_tmp2 Tryz.results150 _ _ _) rfl ?_
      exact ⟨1, i1, rfl, HF⟩
  have di : decide ((i1 : Int) < 32768) = false := decide_eq_false (by omega)
  have din : decide (i1 < 32768) = false := decide_eq_false hlt
  have HE1 : Hid (eqT 32768 S.W S'.W) := hid (fun j hj => HI.out.1 j (by omega))
  have H0 := hid HI.out.2
  clear HI hlt
  go_wp2_with fail
  go_loopw [11] (fun v wr => ∃ (i : Nat), v = .int .i64 (i : Int) ∧ i ≤ 16384 ∧ Hid (eqT i (S.te 0) (S'.te 0) ∧ DX w l l' S S' wr)) (fun v _ => 16384 - (intOf v).toNat)
  case atStart => exact ⟨0, rfl, Nat.zero_le _, hid ⟨fun i hi => (by omega), H0.out⟩⟩
  case round =>
  clear H0
  obtain ⟨i2, rfl, hi2, HI⟩ := hrel
  obtain ⟨x0, hx0⟩ : ∃ x, x = wr := ⟨_, rfl⟩
  subst hx0
  by_cases hlt : i2 < 16384
  · as_aux_lemma =>
    have di : decide ((i2 : Int) < 16384) = true := decide_eq_true (by omega)
    have din : decide (i2 < 16384) = true := decide_eq_true hlt
    obtain ⟨dbl, hi2⟩ : ∃ x, i2 * 2 = x := ⟨_, rfl⟩
    obtain ⟨ad, had⟩ : ∃ x, 65536 + dbl = x := ⟨_, rfl⟩
    have ei2 : (i2 : Int) * 2 = (dbl : Int) := by omega
    have ead : (65536 : Int) + (dbl : Int) = (ad : Int) := by omega
    have HC1 := hid (fun wz (hz : DX w l l' S S' wz) => countI hz.a hlt)
    have HC2 := hid (fun wz (hz : DX w l l' S S' wz) => countI hz.b hlt)
    rw [hi2, had] at HC1 HC2
    have hadb : ad ≤ 98304 := by omega
    have hi2b : dbl ≤ 32768 := by omega
    clear had hi2
    obtain ⟨x, hx⟩ : ∃ x, S.te 0 i2 = x := ⟨_, rfl⟩
    obtain ⟨y, hy⟩ : ∃ x, S'.te 0 i2 = x := ⟨_, rfl⟩
    rw [hx] at HC1
    rw [hy] at HC2
    have Hx := hid hx
    have Hy := hid hy
    clear hx hy
    go_wp2_with fail
    refine (HC1.out _ HI.out.2).mono ?_
    rintro e w1 ⟨rfl, hb1⟩
    have H1 := hid (HI.out.2.below hb1)
    clear hb1
    go_wp2_with fail
    refine (HC2.out _ H1.out).mono ?_
    rintro e w2 ⟨rfl, hb2⟩
    have H2 := hid (H1.out.below hb2)
    clear hb2 H1 HC1 HC2
    by_cases he : x = y
    · as_aux_lemma =>
      have d0 : ((x : Int) != (y : Int)) = false := by simp [he]
      have HF : Hid (eqT (i2 + 1) (S.te 0) (S'.te 0) ∧ DX w l l' S S' w2) := hid ⟨HI.out.1.up (by rw [Hx.out, Hy.out]; exact he), H2.out⟩
      clear HI Hx Hy H2 he
      go_wp2
      exact ⟨⟨i2 + 1, by go_num, by omega, HF⟩, by simp [intOf]; omega⟩
    · as_aux_lemma =>
      have d0 : ((x : Int) != (y : Int)) = true := by simp; omega
      have HF : Hid (Fd S S' 2 i2 ∧ Below w.heap.size w w2) := hid ⟨.inr (.inr ⟨0, by decide, rfl, HE1.out, fun j h => absurd h (Nat.not_lt_zero j), hlt, by rw [Hx.out, Hy.out]; exact he, HI.out.1⟩), H2.out.bel⟩
      clear HI Hx Hy H2 he
      go_wp2
      refine bodyPost_ret (results_tmp2 Tryz.results150 _ _ _) rfl ?_
      exact ⟨2, i2, rfl, HF⟩
  have di : decide ((i2 : Int) < 16384) = false := decide_eq_false (by omega)
  have din : decide (i2 < 16384) = false := decide_eq_false hlt
  have HE2 : Hid (eqT 16384 (S.te 0) (S'.te 0)) := hid (fun j hj => HI.out.1 j (by omega))
  have H0 := hid HI.out.2
  clear HI hlt
  go_wp2_with fail
  go_loopw [16] (fun v wr => ∃ (i : Nat), v = .int .i64 (i : Int) ∧ i ≤ 16384 ∧ Hid (eqT i (S.te 1) (S'.te 1) ∧ DX w l l' S S' wr)) (fun v _ => 16384 - (intOf v).toNat)
  case atStart => exact ⟨0, rfl, Nat.zero_le _, hid ⟨fun i hi => (by omega), H0.out⟩⟩
  case round =>
  clear H0
  obtain ⟨i3, rfl, hi3, HI⟩ := hrel
  obtain ⟨x0, hx0⟩ : ∃ x, x = wr := ⟨_, rfl⟩
  subst hx0
  by_cases hlt : i3 < 16384
  · as_aux_lemma =>
    have di : decide ((i3 : Int) < 16384) = true := decide_eq_true (by omega)
    have din : decide (i3 < 16384) = true := decide_eq_true hlt
    obtain ⟨dbl, hi2⟩ : ∃ x, i3 * 2 = x := ⟨_, rfl⟩
    obtain ⟨ad, had⟩ : ∃ x, 65536 + dbl = x := ⟨_, rfl⟩
    have ei2 : (i3 : Int) * 2 = (dbl : Int) := by omega
    have ead : (65536 : Int) + (dbl : Int) = (ad : Int) := by omega
    have HC1 := hid (fun wz (hz : DX w l l' S S' wz) => markedI hz.a hlt)
    have HC2 := hid (fun wz (hz : DX w l l' S S' wz) => markedI hz.b hlt)
    rw [hi2, had] at HC1 HC2
    have hadb : ad ≤ 98304 := by omega
    have hi2b : dbl ≤ 32768 := by omega
    clear had hi2
    obtain ⟨x, hx⟩ : ∃ x, S.te 1 i3 = x := ⟨_, rfl⟩
    obtain ⟨y, hy⟩ : ∃ x, S'.te 1 i3 = x := ⟨_, rfl⟩
    rw [hx] at HC1
    rw [hy] at HC2
    have hne : Hid (((!((x : Int) == 0)) != (!((y : Int) == 0))) = true ↔ x ≠ y) := hid (bit_ne (by rw [← hx]; exact (te_bit S i3).1) (by rw [← hy]; exact (te_bit S' i3).1))
    have Hx := hid hx
    have Hy := hid hy
    clear hx hy
    generalize (!((x : Int) == 0)) = bx at HC1 hne
    generalize (!((y : Int) == 0)) = byy at HC2 hne
    go_wp2_with fail
    refine (HC1.out _ HI.out.2).mono ?_
    rintro e w1 ⟨rfl, hb1⟩
    have H1 := hid (HI.out.2.below hb1)
    clear hb1
    go_wp2_with fail
    refine (HC2.out _ H1.out).mono ?_
    rintro e w2 ⟨rfl, hb2⟩
    have H2 := hid (H1.out.below hb2)
    clear hb2 H1 HC1 HC2
    by_cases he : x = y
    · as_aux_lemma =>
      have hbb : bx = byy := by
        cases hq : (bx != byy) with
        | false => simpa using hq
        | true => exact absurd he (hne.out.1 hq)
      subst hbb
      clear hne
      have HF : Hid (eqT (i3 + 1) (S.te 1) (S'.te 1) ∧ DX w l l' S S' w2) := hid ⟨HI.out.1.up (by rw [Hx.out, Hy.out]; exact he), H2.out⟩
      clear HI Hx Hy H2 he
      go_wp2
      exact ⟨⟨i3 + 1, by go_num, by omega, HF⟩, by simp [intOf]; omega⟩
    · as_aux_lemma =>
      have hbb : (bx != byy) = true := hne.out.2 he
      clear hne
      have HF : Hid (Fd S S' 3 i3 ∧ Below w.heap.size w w2) := hid ⟨.inr (.inr ⟨1, by decide, rfl, HE1.out, fun j h => by match j, h with | 0, _ => exact HE2.out, hlt, by rw [Hx.out, Hy.out]; exact he, HI.out.1⟩), H2.out.bel⟩
      clear HI Hx Hy H2 he
      cases bx with
      | true =>
        cases byy with
        | true => exact absurd hbb (by decide)
        | false =>
          go_wp2
          refine bodyPost_ret (results_tmp2 Tryz.results150 _ _ _) rfl ?_
          exact ⟨3, i3, rfl, HF⟩
      | false =>
        cases byy with
        | false => exact absurd hbb (by decide)
        | true =>
          go_wp2
          refine bodyPost_ret (results_tmp2 Tryz.results150 _ _ _) rfl ?_
          exact ⟨3, i3, rfl, HF⟩
  have di : decide ((i3 : Int) < 16384) = false := decide_eq_false (by omega)
  have din : decide (i3 < 16384) = false := decide_eq_false hlt
  have HE3 : Hid (eqT 16384 (S.te 1) (S'.te 1)) := hid (fun j hj => HI.out.1 j (by omega))
  have H0 := hid HI.out.2
  clear HI hlt
  go_wp2_with fail
  go_loopw [21] (fun v wr => ∃ (i : Nat), v = .int .i64 (i : Int) ∧ i ≤ 32768 ∧ Hid (eqT i (S.te 2) (S'.te 2) ∧ DX w l l' S S' wr)) (fun v _ => 32768 - (intOf v).toNat)
  case atStart => exact ⟨0, rfl, Nat.zero_le _, hid ⟨fun i hi => (by omega), H0.out⟩⟩
  case round =>
  clear H0
  obtain ⟨i4, rfl, hi4, HI⟩ := hrel
  obtain ⟨x0, hx0⟩ : ∃ x, x = wr := ⟨_, rfl⟩
  subst hx0
  by_cases hlt : i4 < 32768
  · as_aux_lemma =>
    have di : decide ((i4 : Int) < 32768) = true := decide_eq_true (by omega)
    have din : decide (i4 < 32768) = true := decide_eq_true hlt
    obtain ⟨ad, had⟩ : ∃ x, 65536 + i4 = x := ⟨_, rfl⟩
    have ead : (65536 : Int) + (i4 : Int) = (ad : Int) := by omega
    have HC1 := hid (fun wz (hz : DX w l l' S S' wz) => loggedI hz.a hlt)
    have HC2 := hid (fun wz (hz : DX w l l' S S' wz) => loggedI hz.b hlt)
    rw [had] at HC1 HC2
    have hadb : ad ≤ 98304 := by omega
    clear had
    obtain ⟨x, hx⟩ : ∃ x, S.te 2 i4 = x := ⟨_, rfl⟩
    obtain ⟨y, hy⟩ : ∃ x, S'.te 2 i4 = x := ⟨_, rfl⟩
    rw [hx] at HC1
    rw [hy] at HC2
    have hne : Hid (((!((x : Int) == 0)) != (!((y : Int) == 0))) = true ↔ x ≠ y) := hid (bit_ne (by rw [← hx]; exact (te_bit S i4).2) (by rw [← hy]; exact (te_bit S' i4).2))
    have Hx := hid hx
    have Hy := hid hy
    clear hx hy
    generalize (!((x : Int) == 0)) = bx at HC1 hne
    generalize (!((y : Int) == 0)) = byy at HC2 hne
    go_wp2_with fail
    refine (HC1.out _ HI.out.2).mono ?_
    rintro e w1 ⟨rfl, hb1⟩
    have H1 := hid (HI.out.2.below hb1)
    clear hb1
    go_wp2_with fail
    refine (HC2.out _ H1.out).mono ?_
    rintro e w2 ⟨rfl, hb2⟩
    have H2 := hid (H1.out.below hb2)
    clear hb2 H1 HC1 HC2
    by_cases he : x = y
    · as_aux_lemma =>
      have hbb : bx = byy := by
        cases hq : (bx != byy) with
        | false => simpa using hq
        | true => exact absurd he (hne.out.1 hq)
      subst hbb
      clear hne
      have HF : Hid (eqT (i4 + 1) (S.te 2) (S'.te 2) ∧ DX w l l' S S' w2) := hid ⟨HI.out.1.up (by rw [Hx.out, Hy.out]; exact he), H2.out⟩
      clear HI Hx Hy H2 he
      go_wp2
      exact ⟨⟨i4 + 1, by go_num, by omega, HF⟩, by simp [intOf]; omega⟩
    · as_aux_lemma =>
      have hbb : (bx != byy) = true := hne.out.2 he
      clear hne
      have HF : Hid (Fd S S' 4 i4 ∧ Below w.heap.size w w2) := hid ⟨.inr (.inr ⟨2, by decide, rfl, HE1.out, fun j h => by match j, h with | 0, _ => exact HE2.out | 1, _ => exact HE3.out, hlt, by rw [Hx.out, Hy.out]; exact he, HI.out.1⟩), H2.out.bel⟩
      clear HI Hx Hy H2 he
      cases bx with
      | true =>
        cases byy with
        | true => exact absurd hbb (by decide)
        | false =>
          go_wp2
          refine bodyPost_ret (results_tmp2 Tryz.results150 _ _ _) rfl ?_
          exact ⟨4, i4, rfl, HF⟩
      | false =>
        cases byy with
        | false => exact absurd hbb (by decide)
        | true =>
          go_wp2
          refine bodyPost_ret (results_tmp2 Tryz.results150 _ _ _) rfl ?_
          exact ⟨4, i4, rfl, HF⟩
  have di : decide ((i4 : Int) < 32768) = false := decide_eq_false (by omega)
  have din : decide (i4 < 32768) = false := decide_eq_false hlt
  have HE4 : Hid (eqT 32768 (S.te 2) (S'.te 2)) := hid (fun j hj => HI.out.1 j (by omega))
  have H0 := hid HI.out.2
  clear HI hlt
  go_wp2_with fail
  go_loopw [26] (fun v wr => ∃ (i : Nat), v = .int .i64 (i : Int) ∧ i ≤ 2048 ∧ Hid (eqT i (S.te 3) (S'.te 3) ∧ DX w l l' S S' wr)) (fun v _ => 2048 - (intOf v).toNat)
  case atStart => exact ⟨0, rfl, Nat.zero_le _, hid ⟨fun i hi => (by omega), H0.out⟩⟩
  case round =>
  clear H0
  obtain ⟨i5, rfl, hi5, HI⟩ := hrel
  obtain ⟨x0, hx0⟩ : ∃ x, x = wr := ⟨_, rfl⟩
  subst hx0
  by_cases hlt : i5 < 2048
  · as_aux_lemma =>
    have di : decide ((i5 : Int) < 2048) = true := decide_eq_true (by omega)
    have din : decide (i5 < 2048) = true := decide_eq_true hlt
    have HC1 := hid (fun wz (hz : DX w l l' S S' wz) => tallyI hz.a hlt)
    have HC2 := hid (fun wz (hz : DX w l l' S S' wz) => tallyI hz.b hlt)
    obtain ⟨x, hx⟩ : ∃ x, S.te 3 i5 = x := ⟨_, rfl⟩
    obtain ⟨y, hy⟩ : ∃ x, S'.te 3 i5 = x := ⟨_, rfl⟩
    rw [hx] at HC1
    rw [hy] at HC2
    have Hx := hid hx
    have Hy := hid hy
    clear hx hy
    go_wp2_with fail
    refine (HC1.out _ HI.out.2).mono ?_
    rintro e w1 ⟨rfl, hb1⟩
    have H1 := hid (HI.out.2.below hb1)
    clear hb1
    go_wp2_with fail
    refine (HC2.out _ H1.out).mono ?_
    rintro e w2 ⟨rfl, hb2⟩
    have H2 := hid (H1.out.below hb2)
    clear hb2 H1 HC1 HC2
    by_cases he : x = y
    · as_aux_lemma =>
      have d0 : ((x : Int) != (y : Int)) = false := by simp [he]
      have HF : Hid (eqT (i5 + 1) (S.te 3) (S'.te 3) ∧ DX w l l' S S' w2) := hid ⟨HI.out.1.up (by rw [Hx.out, Hy.out]; exact he), H2.out⟩
      clear HI Hx Hy H2 he
      go_wp2
      exact ⟨⟨i5 + 1, by go_num, by omega, HF⟩, by simp [intOf]; omega⟩
    · as_aux_lemma =>
      have d0 : ((x : Int) != (y : Int)) = true := by simp; omega
      have HF : Hid (Fd S S' 5 i5 ∧ Below w.heap.size w w2) := hid ⟨.inr (.inr ⟨3, by decide, rfl, HE1.out, fun j h => by match j, h with | 0, _ => exact HE2.out | 1, _ => exact HE3.out | 2, _ => exact HE4.out, hlt, by rw [Hx.out, Hy.out]; exact he, HI.out.1⟩), H2.out.bel⟩
      clear HI Hx Hy H2 he
      go_wp2
      refine bodyPost_ret (results_tmp2 Tryz.results150 _ _ _) rfl ?_
      exact ⟨5, i5, rfl, HF⟩
  have di : decide ((i5 : Int) < 2048) = false := decide_eq_false (by omega)
  have din : decide (i5 < 2048) = false := decide_eq_false hlt
  have HE5 : Hid (eqT 2048 (S.te 3) (S'.te 3)) := hid (fun j hj => HI.out.1 j (by omega))
  have H0 := hid HI.out.2
  clear HI hlt
  have HF : Hid (Fd S S' 0 0 ∧ Below w.heap.size w x0) := hid ⟨.inl ⟨rfl, rfl, HE1.out, fun j h => by match j, h with | 0, _ => exact HE2.out | 1, _ => exact HE3.out | 2, _ => exact HE4.out | 3, _ => exact HE5.out⟩, H0.out.bel⟩
  clear H0 HE1 HE2 HE3 HE4 HE5
  go_wp2
  refine bodyPost_ret (results_tmp2 Tryz.results150 _ _ _) rfl ?_
  exact ⟨0, 0, rfl, HF⟩
end
end Go.Proofs.Qxb6500887aGreat
