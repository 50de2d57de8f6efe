/- Searches and counts between two addresses (written by tools/mk_azp.py). -/
import Derived.Test.Qxb6500887aGreatAzO
namespace Go.Proofs.Qxb6500887aGreat
open Go.RowKit
set_option linter.unusedSimpArgs false
set_option linter.unusedVariables false

/-- A search among granules between two addresses. -/
def NgP (P : Nat → Bool) (x y v c : Int) : Prop := (stC x y true ≠ 0 ∧ v = 0 ∧ c = stC x y true) ∨ (stC x y true = 0 ∧ c = 0 ∧ ∃ r : Int, Nx P (wIx x / 2) (wIx y / 2) r ∧ v = if r < 0 then 0 else 65536 + r * 2)
/-- A search among words between two addresses. -/
def NwP (P : Nat → Bool) (x y v c : Int) : Prop := (stC x y false ≠ 0 ∧ v = 0 ∧ c = stC x y false) ∨ (stC x y false = 0 ∧ c = 0 ∧ ∃ r : Int, Nx P (wIx x) (wIx y) r ∧ v = if r < 0 then 0 else 65536 + r)
section
variable {t b n wd per len : Nat} {X : Nat → Nat} {w w0 w' : World}
set_option maxRecDepth 100000 in
set_option maxHeartbeats 1000000 in
theorem TB.nextGranule (h : TB t b 16384 wd per len X w) (x y : Int) : Calls Tryz.prog 225 #[.pointer (some ⟨t, 0, none⟩), .int .u64 x, .int .u64 y] w fun e w' => ∃ v c : Int, e = .returned (.tuple #[.int .u64 v, .int .u8 c]) ∧ Hid (NgP (nzP wd per X) x y v c ∧ Below w.heap.size w w') := by
  by_cases hc : stC x y true = 0
  · have HS := hid (stretch_g hc w)
    obtain ⟨b1, b2, hz⟩ := stC_ok hc
    clear hz
    have Hc := hid hc
    have HX : Hid (∀ r v : Int, Nx (nzP wd per X) (wIx x / 2) (wIx y / 2) r → (v = if r < 0 then 0 else 65536 + r * 2) → NgP (nzP wd per X) x y v 0) := hid (fun r v h1 h2 => .inr ⟨Hc.out, rfl, r, h1, h2⟩)
    have HN : Hid (Calls Tryz.prog 217 #[.pointer (some ⟨t, 0, none⟩), .int .i64 (((wIx x : Nat) : Int) / 2), .int .i64 (((wIx y : Nat) : Int) / 2)] w fun e w' => ∃ r : Int, e = .returned (.tuple #[.int .i64 r, .bool true]) ∧ Hid (Nx (nzP wd per X) (wIx x / 2) (wIx y / 2) r ∧ Below w.heap.size w w')) := hid (by
      have := h.nextNonzero (wIx x / 2) (wIx y / 2) (by omega) (by omega)
      rw [show ((wIx x / 2 : Nat) : Int) = ((wIx x : Nat) : Int) / 2 by omega, show ((wIx y / 2 : Nat) : Int) = ((wIx y : Nat) : Int) / 2 by omega] at this
      exact this)
    have HAd := hid (fun (k : Nat) (hk : k < 16384) wz => addrOfGranule_in (k : Int) (by omega) (by omega) wz)
    have b3 : wIx y / 2 ≤ 16384 := by omega
    generalize nzP wd per X = P at *
    generalize wIx x = p at *
    generalize wIx y = q at *
    clear h hc Hc
    go_enter Tryz.func225, Tryz.ntmps225
    (go_wp2_with fail; refine (HS.out).mono ?_; rintro e_ w_ ⟨he_, hw_⟩; subst he_; have hs_ := hw_.symm; clear hw_; subst hs_)
    go_wp2_with fail
    refine HN.out.mono ?_
    rintro e w2 ⟨r, rfl, HB⟩
    clear HN HS
    rcases HB.out.1 with ⟨rfl, _⟩ | ⟨k, rfl, hk1, hk2, _⟩
    · have HF := hid (HX.out (-1) 0 HB.out.1 rfl)
      go_wp2
      go_ret2
      exact ⟨0, 0, rfl, hid ⟨HF.out, HB.out.2⟩⟩
    · have HF := hid (HX.out (k : Int) (65536 + (k : Int) * 2) HB.out.1 (by rw [if_neg (by omega)]))
      have HA := hid (HAd.out k (by omega) w2)
      have d0 : decide ((k : Int) < 0) = false := decide_eq_false (by omega)
      (go_wp2_with fail; refine (HA.out).mono ?_; rintro e_ w_ ⟨he_, hw_⟩; subst he_; have hs_ := hw_.symm; clear hw_; subst hs_)
      go_wp2
      go_ret2
      exact ⟨_, 0, rfl, hid ⟨HF.out, HB.out.2⟩⟩
  · have HS := hid (stretch_b hc w)
    have HF : Hid (NgP (nzP wd per X) x y 0 (stC x y true)) := hid (.inl ⟨hc, rfl, rfl⟩)
    have dc : (stC x y true == 0) = false := by simpa using hc
    have dc2 : (stC x y true != 0) = true := by simp [bne, dc]
    generalize stC x y true = c at *
    clear h hc
    go_enter Tryz.func225, Tryz.ntmps225
    (go_wp2_with fail; refine (HS.out).mono ?_; rintro e_ w_ ⟨he_, hw_⟩; subst he_; have hs_ := hw_.symm; clear hw_; subst hs_)
    go_wp2
    go_ret2
    exact ⟨0, c, rfl, hid ⟨HF.out, Below.refl _ _⟩⟩
set_option maxRecDepth 100000 in
set_option maxHeartbeats 1000000 in
theorem TB.countGranules (h : TB t b 16384 wd per len X w) (x y : Int) : Calls Tryz.prog 229 #[.pointer (some ⟨t, 0, none⟩), .int .u64 x, .int .u64 y] w fun e w' => ∃ m : Nat, ∃ c : Int, e = .returned (.tuple #[.int .i64 (m : Int), .int .u8 c]) ∧ m ≤ 16777216 ∧ Hid (Below w.heap.size w w') := by
  by_cases hc : stC x y true = 0
  · have HS := hid (stretch_g hc w)
    obtain ⟨b1, b2, hz⟩ := stC_ok hc
    clear hz
    have HN : Hid (Calls Tryz.prog 214 #[.pointer (some ⟨t, 0, none⟩), .int .i64 (((wIx x : Nat) : Int) / 2), .int .i64 (((wIx y : Nat) : Int) / 2)] w fun e w' => ∃ c : Nat, e = .returned (.tuple #[.int .i64 (c : Int), .bool true]) ∧ c ≤ 16777216 ∧ Hid (Below w.heap.size w w')) := hid (by
      have := h.countNonzero (wIx x / 2) (wIx y / 2) (by omega) (by omega)
      rw [show ((wIx x / 2 : Nat) : Int) = ((wIx x : Nat) : Int) / 2 by omega, show ((wIx y / 2 : Nat) : Int) = ((wIx y : Nat) : Int) / 2 by omega] at this
      exact this)
    generalize wIx x = p at *
    generalize wIx y = q at *
    clear h hc
    go_enter Tryz.func229, Tryz.ntmps229
    (go_wp2_with fail; refine (HS.out).mono ?_; rintro e_ w_ ⟨he_, hw_⟩; subst he_; have hs_ := hw_.symm; clear hw_; subst hs_)
    go_wp2_with fail
    refine HN.out.mono ?_
    rintro e w2 ⟨m, rfl, hm, HB⟩
    go_wp2
    go_ret2
    exact ⟨m, 0, rfl, hm, HB⟩
  · have HS := hid (stretch_b hc w)
    have dc : (stC x y true == 0) = false := by simpa using hc
    have dc2 : (stC x y true != 0) = true := by simp [bne, dc]
    generalize stC x y true = c at *
    clear h hc
    go_enter Tryz.func229, Tryz.ntmps229
    (go_wp2_with fail; refine (HS.out).mono ?_; rintro e_ w_ ⟨he_, hw_⟩; subst he_; have hs_ := hw_.symm; clear hw_; subst hs_)
    go_wp2
    go_ret2
    exact ⟨0, c, rfl, by omega, hid (Below.refl _ _)⟩
end
section
variable {l : AL} {S : AS} {w w' w0 : World} {p q : Nat} {cs : List Value} {o : Ob}
set_option maxRecDepth 100000 in
theorem nextCountedZ (h : AM l S w) (x y : Int) : Calls Tryz.prog 178 #[.pointer (some ⟨l.a, 0, none⟩), .int .u64 x, .int .u64 y] w fun e w' => ∃ v c : Int, e = .returned (.tuple #[.int .u64 v, .int .u8 c]) ∧ Hid (NgP (nzP 2 32 S.C) x y v c ∧ Below w.heap.size w w') := by
  have HN := hid (h.tc.nextGranule x y)
  have k1 := h.cells.2.1
  clear h
  go_enter Tryz.func178, Tryz.ntmps178
  go_wp2_with fail
  refine HN.out.mono ?_
  rintro e w2 ⟨v, c, rfl, HB⟩
  go_wp2
  go_ret2
  exact ⟨v, c, rfl, HB⟩
set_option maxRecDepth 100000 in
theorem nextMarkedZ (h : AM l S w) (x y : Int) : Calls Tryz.prog 179 #[.pointer (some ⟨l.a, 0, none⟩), .int .u64 x, .int .u64 y] w fun e w' => ∃ v c : Int, e = .returned (.tuple #[.int .u64 v, .int .u8 c]) ∧ Hid (NgP (nzP 1 64 S.M) x y v c ∧ Below w.heap.size w w') := by
  have HN := hid (h.tm.nextGranule x y)
  have k1 := h.cells.2.2.1
  clear h
  go_enter Tryz.func179, Tryz.ntmps179
  go_wp2_with fail
  refine HN.out.mono ?_
  rintro e w2 ⟨v, c, rfl, HB⟩
  go_wp2
  go_ret2
  exact ⟨v, c, rfl, HB⟩
set_option maxRecDepth 100000 in
theorem countedBetweenZ (h : AM l S w) (x y : Int) : Calls Tryz.prog 182 #[.pointer (some ⟨l.a, 0, none⟩), .int .u64 x, .int .u64 y] w fun e w' => ∃ m : Nat, ∃ c : Int, e = .returned (.tuple #[.int .i64 (m : Int), .int .u8 c]) ∧ m ≤ 16777216 ∧ Hid (Below w.heap.size w w') := by
  have HN := hid (h.tc.countGranules x y)
  have k1 := h.cells.2.1
  clear h
  go_enter Tryz.func182, Tryz.ntmps182
  go_wp2_with fail
  refine HN.out.mono ?_
  rintro e w2 ⟨v, c, rfl, hm, HB⟩
  go_wp2
  go_ret2
  exact ⟨v, c, rfl, hm, HB⟩
set_option maxRecDepth 100000 in
theorem markedBetweenZ (h : AM l S w) (x y : Int) : Calls Tryz.prog 183 #[.pointer (some ⟨l.a, 0, none⟩), .int .u64 x, .int .u64 y] w fun e w' => ∃ m : Nat, ∃ c : Int, e = .returned (.tuple #[.int .i64 (m : Int), .int .u8 c]) ∧ m ≤ 16777216 ∧ Hid (Below w.heap.size w w') := by
  have HN := hid (h.tm.countGranules x y)
  have k1 := h.cells.2.2.1
  clear h
  go_enter Tryz.func183, Tryz.ntmps183
  go_wp2_with fail
  refine HN.out.mono ?_
  rintro e w2 ⟨v, c, rfl, hm, HB⟩
  go_wp2
  go_ret2
  exact ⟨v, c, rfl, hm, HB⟩
set_option maxRecDepth 100000 in
set_option maxHeartbeats 1000000 in
theorem nextLoggedZ (h : AM l S w) (x y : Int) : Calls Tryz.prog 180 #[.pointer (some ⟨l.a, 0, none⟩), .int .u64 x, .int .u64 y] w fun e w' => ∃ v c : Int, e = .returned (.tuple #[.int .u64 v, .int .u8 c]) ∧ Hid (NwP (nzP 1 64 S.L) x y v c ∧ Below w.heap.size w w') := by
  have k1 := h.cells.2.2.2.1
  by_cases hc : stC x y false = 0
  · have HS := hid (stretch_g hc w)
    obtain ⟨b1, b2, hz⟩ := stC_ok hc
    clear hz
    have Hc := hid hc
    have HX : Hid (∀ r v : Int, Nx (nzP 1 64 S.L) (wIx x) (wIx y) r → (v = if r < 0 then 0 else 65536 + r) → NwP (nzP 1 64 S.L) x y v 0) := hid (fun r v h1 h2 => .inr ⟨Hc.out, rfl, r, h1, h2⟩)
    have HN := hid (h.tl.nextNonzero (wIx x) (wIx y) b1 b2)
    have HAd := hid (fun (k : Nat) (hk : k < 32768) wz => addrOfWord_in (k : Int) (by omega) (by omega) wz)
    generalize nzP 1 64 S.L = P at *
    generalize wIx x = p at *
    generalize wIx y = q at *
    clear h hc Hc
    go_enter Tryz.func180, Tryz.ntmps180
    (go_wp2_with fail; refine (HS.out).mono ?_; rintro e_ w_ ⟨he_, hw_⟩; subst he_; have hs_ := hw_.symm; clear hw_; subst hs_)
    go_wp2_with fail
    refine HN.out.mono ?_
    rintro e w2 ⟨r, rfl, HB⟩
    clear HN HS
    rcases HB.out.1 with ⟨rfl, _⟩ | ⟨k, rfl, hk1, hk2, _⟩
    · have HF := hid (HX.out (-1) 0 HB.out.1 rfl)
      go_wp2
      go_ret2
      exact ⟨0, 0, rfl, hid ⟨HF.out, HB.out.2⟩⟩
    · have HF := hid (HX.out (k : Int) (65536 + (k : Int)) HB.out.1 (by rw [if_neg (by omega)]))
      have HA := hid (HAd.out k (by omega) w2)
      have d0 : decide ((k : Int) < 0) = false := decide_eq_false (by omega)
      (go_wp2_with fail; refine (HA.out).mono ?_; rintro e_ w_ ⟨he_, hw_⟩; subst he_; have hs_ := hw_.symm; clear hw_; subst hs_)
      go_wp2
      go_ret2
      exact ⟨_, 0, rfl, hid ⟨HF.out, HB.out.2⟩⟩
  · have HS := hid (stretch_b hc w)
    have HF : Hid (NwP (nzP 1 64 S.L) x y 0 (stC x y false)) := hid (.inl ⟨hc, rfl, rfl⟩)
    have dc : (stC x y false == 0) = false := by simpa using hc
    have dc2 : (stC x y false != 0) = true := by simp [bne, dc]
    generalize stC x y false = c at *
    clear h hc
    go_enter Tryz.func180, Tryz.ntmps180
    (go_wp2_with fail; refine (HS.out).mono ?_; rintro e_ w_ ⟨he_, hw_⟩; subst he_; have hs_ := hw_.symm; clear hw_; subst hs_)
    go_wp2
    go_ret2
    exact ⟨0, c, rfl, hid ⟨HF.out, Below.refl _ _⟩⟩
set_option maxRecDepth 100000 in
set_option maxHeartbeats 1000000 in
theorem loggedBetweenZ (h : AM l S w) (x y : Int) : Calls Tryz.prog 184 #[.pointer (some ⟨l.a, 0, none⟩), .int .u64 x, .int .u64 y] w fun e w' => ∃ m : Nat, ∃ c : Int, e = .returned (.tuple #[.int .i64 (m : Int), .int .u8 c]) ∧ m ≤ 16777216 ∧ Hid (Below w.heap.size w w') := by
  have k1 := h.cells.2.2.2.1
  by_cases hc : stC x y false = 0
  · have HS := hid (stretch_g hc w)
    obtain ⟨b1, b2, hz⟩ := stC_ok hc
    clear hz
    have HN := hid (h.tl.countNonzero (wIx x) (wIx y) b1 b2)
    generalize wIx x = p at *
    generalize wIx y = q at *
    clear h hc
    go_enter Tryz.func184, Tryz.ntmps184
    (go_wp2_with fail; refine (HS.out).mono ?_; rintro e_ w_ ⟨he_, hw_⟩; subst he_; have hs_ := hw_.symm; clear hw_; subst hs_)
    go_wp2_with fail
    refine HN.out.mono ?_
    rintro e w2 ⟨m, rfl, hm, HB⟩
    go_wp2
    go_ret2
    exact ⟨m, 0, rfl, hm, HB⟩
  · have HS := hid (stretch_b hc w)
    have dc : (stC x y false == 0) = false := by simpa using hc
    have dc2 : (stC x y false != 0) = true := by simp [bne, dc]
    generalize stC x y false = c at *
    clear h hc
    go_enter Tryz.func184, Tryz.ntmps184
    (go_wp2_with fail; refine (HS.out).mono ?_; rintro e_ w_ ⟨he_, hw_⟩; subst he_; have hs_ := hw_.symm; clear hw_; subst hs_)
    go_wp2
    go_ret2
    exact ⟨0, c, rfl, by omega, hid (Below.refl _ _)⟩
/-- The first counted and unmarked granule. -/
def ndP (S : AS) (i : Nat) : Bool := nzP 2 32 S.C i && zrP 1 64 S.M i
set_option maxRecDepth 100000 in
set_option maxHeartbeats 2000000 in
theorem nextDoomedZ (h : AM l S w) (x y : Int) : Calls Tryz.prog 181 #[.pointer (some ⟨l.a, 0, none⟩), .int .u64 x, .int .u64 y] w fun e w' => ∃ v c : Int, e = .returned (.tuple #[.int .u64 v, .int .u8 c]) ∧ Hid (NgP (ndP S) x y v c ∧ Below w.heap.size w w') := by
  have HM := hid h
  by_cases hc : stC x y true = 0
  · have HS := hid (stretch_g hc w)
    obtain ⟨b1, b2, hz⟩ := stC_ok hc
    clear hz
    have Hc := hid hc
    have HX : Hid (∀ r v : Int, Nx (ndP S) (wIx x / 2) (wIx y / 2) r → (v = if r < 0 then 0 else 65536 + r * 2) → NgP (ndP S) x y v 0) := hid (fun r v h1 h2 => .inr ⟨Hc.out, rfl, r, h1, h2⟩)
    have HAd := hid (fun (k : Nat) (hk : k < 16384) wz => addrOfGranule_in (k : Int) (by omega) (by omega) wz)
    generalize wIx x = p at *
    generalize wIx y = q at *
    have e1 : (p : Int) / 2 = ((p / 2 : Nat) : Int) := by omega
    have e2 : (q : Int) / 2 = ((q / 2 : Nat) : Int) := by omega
    have b3 : q / 2 ≤ 16384 := by omega
    have b4 : p / 2 ≤ q / 2 := by omega
    generalize p / 2 = lo at *
    generalize q / 2 = hi at *
    clear h hc Hc
    go_enter Tryz.func181, Tryz.ntmps181
    (go_wp2_with fail; refine (HS.out).mono ?_; rintro e_ w_ ⟨he_, hw_⟩; subst he_; have hs_ := hw_.symm; clear hw_; subst hs_)
    go_upto_region 6 with fail
    clear HS e1 e2 b1 b2
    go_loopw [12] (fun u wr => ∃ a : Nat, u = .int .i64 (a : Int) ∧ lo ≤ a ∧ a ≤ hi ∧ Hid (Below w.heap.size w wr ∧ ∀ i, lo ≤ i → i < a → ndP S i = false)) (fun u _ => hi - (intOf u).toNat)
    case atStart => exact ⟨lo, rfl, Nat.le_refl _, b4, hid ⟨Below.refl _ _, fun i h1 h2 => by omega⟩⟩
    case round =>
    obtain ⟨a, rfl, ha1, ha2, HK⟩ := hrel
    have fin : (∀ i, a ≤ i → i < hi → ndP S i = false) → NgP (ndP S) x y 0 0 := fun hz => HX.out (-1) 0 (.inl ⟨rfl, fun i h1 h2 => by
      by_cases hia : i < a
      · exact HK.out.2 i h1 hia
      · exact hz i (by omega) h2⟩) rfl
    have Hfin := hid fin
    clear fin
    by_cases hah : a < hi
    rotate_left
    · as_aux_lemma =>
      have dq : decide ((a : Int) < (hi : Int)) = false := decide_eq_false (by omega)
      have HF := hid (Hfin.out (fun i h1 h2 => by omega))
      go_wp2
      go_ret2
      exact ⟨0, 0, rfl, hid ⟨HF.out, HK.out.1⟩⟩
    as_aux_lemma =>
    have dq : decide ((a : Int) < (hi : Int)) = true := decide_eq_true (by omega)
    have HA1 := hid (HM.out.below HK.out.1)
    have k1 := HA1.out.cells.2.1
    have HN := hid (HA1.out.tc.nextNonzero a hi (by omega) (by omega))
    go_wp2_with fail
    refine HN.out.mono ?_
    rintro e w2 ⟨r, rfl, HB⟩
    have HB2 : Hid (Below w.heap.size w w2) := hid (HK.out.1.trans (HB.out.2.mono HK.out.1.size))
    have HA2 := hid (HA1.out.below HB.out.2)
    clear HN k1 HA1
    rcases HB.out.1 with ⟨rfl, hall⟩ | ⟨k, rfl, hk1, hk2, hk3, hk4⟩
    · as_aux_lemma =>
      have HF := hid (Hfin.out (fun i h1 h2 => by unfold ndP; rw [hall i h1 h2]; rfl))
      clear hall
      go_wp2
      go_ret2
      exact ⟨0, 0, rfl, hid ⟨HF.out, HB2.out⟩⟩
    have d0 : decide ((k : Int) < 0) = false := decide_eq_false (by omega)
    have HG := hid (HA2.out.tm.get k (by omega))
    have k2 := HA2.out.cells.2.2.1
    have Hbef : Hid (∀ i, lo ≤ i → i < k → ndP S i = false) := hid (fun i h1 h2 => by
      by_cases hia : i < a
      · exact HK.out.2 i h1 hia
      · unfold ndP; rw [hk4 i (by omega) h2]; rfl)
    have Hk3 := hid hk3
    clear hk4 hk3 HB HK Hfin
    go_wp2_with fail
    refine HG.out.mono ?_
    rintro e w3 ⟨rfl, hd3⟩
    have HB3 : Hid (Below w.heap.size w w3) := hid (HB2.out.trans ((hd3.below _).mono HB2.out.size))
    clear hd3 HB2 HG k2 HA2
    obtain ⟨m, hm⟩ : ∃ m, eN 1 64 S.M k = m := ⟨_, rfl⟩
    rw [hm]
    have Hm := hid hm
    clear hm
    by_cases h0 : m = 0
    · as_aux_lemma =>
      have d1 : ((m : Int) == 0) = true := by simp [h0]
      have HF := hid (HX.out (k : Int) (65536 + (k : Int) * 2) (.inr ⟨k, rfl, by omega, hk2, by unfold ndP zrP; rw [Hk3.out, Hm.out, h0]; rfl, Hbef.out⟩) (by rw [if_neg (by omega)]))
      have HA := hid (HAd.out k (by omega) w3)
      clear h0 Hm Hbef HX Hk3
      (go_wp2_with fail; refine (HA.out).mono ?_; rintro e_ w_ ⟨he_, hw_⟩; subst he_; have hs_ := hw_.symm; clear hw_; subst hs_)
      go_wp2
      go_ret2
      exact ⟨_, 0, rfl, hid ⟨HF.out, HB3.out⟩⟩
    · as_aux_lemma =>
      have d1 : ((m : Int) == 0) = false := by simp; omega
      have HF : Hid (Below w.heap.size w w3 ∧ ∀ i, lo ≤ i → i < k + 1 → ndP S i = false) := hid ⟨HB3.out, fun i h1 h2 => by
        by_cases hik : i = k
        · subst hik; unfold ndP zrP; rw [Hm.out]; simp [h0]
        · exact Hbef.out i h1 (by omega)⟩
      clear h0 Hm Hbef HX Hk3 HB3
      go_wp2
      exact ⟨⟨k + 1, by go_num, by omega, by omega, HF⟩, by simp [intOf]; omega⟩
  · have HS := hid (stretch_b hc w)
    have HF : Hid (NgP (ndP S) x y 0 (stC x y true)) := hid (.inl ⟨hc, rfl, rfl⟩)
    have dc : (stC x y true == 0) = false := by simpa using hc
    have dc2 : (stC x y true != 0) = true := by simp [bne, dc]
    generalize stC x y true = c at *
    clear h hc HM
    go_enter Tryz.func181, Tryz.ntmps181
    (go_wp2_with fail; refine (HS.out).mono ?_; rintro e_ w_ ⟨he_, hw_⟩; subst he_; have hs_ := hw_.symm; clear hw_; subst hs_)
    go_wp2
    go_ret2
    exact ⟨0, c, rfl, hid ⟨HF.out, Below.refl _ _⟩⟩
end
end Go.Proofs.Qxb6500887aGreat
