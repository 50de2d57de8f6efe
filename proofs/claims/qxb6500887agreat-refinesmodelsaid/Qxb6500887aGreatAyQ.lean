/- The model's steps: fitHole, largestHole. -/
import Derived.Test.Qxb6500887aGreatAyP
import Derived.Deep.DeepCutAuto
namespace Go.Proofs.Qxb6500887aGreat
open Go.RowKit
set_option linter.unusedSimpArgs false
set_option linter.unusedVariables false
section
variable {l : ML} {E E' : ES} {w w' w0 w3 w4 : World} {p : Nat}
theorem HoA.uniq {T : Nat → Nat} {b r n m : Nat} (h : HoA T b r n) (k : HoA T b r m) : n = m := by
  rcases Nat.lt_trichotomy n m with hl | hl | hl
  · exact absurd (k.z n hl) (h.e (by have := k.le; omega))
  · exact hl
  · exact absurd (h.z m hl) (k.e (by have := h.le; omega))
open Classical in
/-- The length of the hole at a row. -/
noncomputable def hlN (T : Nat → Nat) (b r : Nat) : Nat := if h : ∃ n, HoA T b r n then h.choose else 0
theorem hlN_of {T : Nat → Nat} {b r n : Nat} (h : HoA T b r n) : n = hlN T b r := by
  have he : ∃ n, HoA T b r n := ⟨n, h⟩
  unfold hlN
  rw [dif_pos he]
  exact h.uniq he.choose_spec
theorem haN (h : MM l E w) {b r : Nat} (hb : b < 64) (hr : r ≤ 32) : Calls Tryz.prog 195 #[.pointer (some ⟨l.m, 0, none⟩), .int .i64 (b : Int), .int .i64 (r : Int)] w fun e w' => e = .returned (.int .i64 ((hlN E.T b r : Nat) : Int)) ∧ w' = w := by
  refine (haM h hb hr).mono ?_
  rintro e w1 ⟨n, rfl, hn, hw⟩
  rw [hlN_of hn.out]
  exact ⟨rfl, hw⟩
theorem hlN_le {T : Nat → Nat} {b r : Nat} : hlN T b r ≤ 32 := by
  unfold hlN
  split
  · rename_i h
    have := h.choose_spec.le
    omega
  · omega
noncomputable def fhF (T : Nat → Nat) (b f nd : Nat) : Nat → Nat × Nat
  | 0 => (32, 0)
  | j + 1 => if shB T b f (31 - j) = true ∧ nd ≤ hlN T b (31 - j) then (31 - j, hlN T b (31 - j)) else fhF T b f nd j
noncomputable def fhR (T : Nat → Nat) (b f nd : Int) : List Value := if b < 0 ∨ 64 ≤ b ∨ f < 0 ∨ 32 < f then rsC 1 0 0 else if nd < 1 ∨ 32 < nd then rsC 4 0 0 else rsC 0 (((fhF T b.toNat f.toNat nd.toNat (32 - f.toNat)).1 : Nat) : Int) (((fhF T b.toNat f.toNat nd.toNat (32 - f.toNat)).2 : Nat) : Int)
noncomputable def lhF (T : Nat → Nat) (b : Nat) : Nat → Nat × Nat
  | 0 => (32, 0)
  | r + 1 => if (lhF T b r).2 < hlN T b r then (r, hlN T b r) else lhF T b r
theorem lhF_le (T : Nat → Nat) (b : Nat) : ∀ r, r ≤ 32 → (lhF T b r).1 ≤ 32 ∧ (lhF T b r).2 ≤ 32
  | 0, _ => ⟨Nat.le_refl _, Nat.zero_le _⟩
  | r + 1, h => by
    have := lhF_le T b r (by omega)
    unfold lhF
    split
    · exact ⟨by show r ≤ 32; omega, hlN_le⟩
    · exact this
noncomputable def lhR (T : Nat → Nat) (b : Int) : List Value := if b < 0 ∨ 64 ≤ b then rsC 1 0 0 else rsC 0 (((lhF T b.toNat 32).1 : Nat) : Int) (((lhF T b.toNat 32).2 : Nat) : Int)
set_option maxRecDepth 100000 in
set_option maxHeartbeats 2000000 in
theorem largestM (h : MM l E w) (b : Int) : Calls Tryz.prog 119 #[.pointer (some ⟨l.m, 0, none⟩), .int .i64 b] w fun e w' => e = .returned (.agg (lhR E.T b).toArray) ∧ Hid (MD w l E w') := by
  have I0 := hid info_rs
  have HR := hid (fun (c : Int) (wz : World) => refM c wz)
  have HB := hid (fun wz => bbM b wz)
  obtain ⟨p, hp⟩ : ∃ p, w.heap.size = p := ⟨_, rfl⟩
  have HX := hid (MX.start h hp)
  dsimp only [rsC, rsT] at HX
  clear h
  unfold lhR
  by_cases hc : b < 0 ∨ 64 ≤ b
  · as_aux_lemma =>
    rw [if_pos hc]
    rw [decide_eq_true hc] at HB
    clear hc
    go_enter Tryz.func119, Tryz.ntmps119
    go_upto_region 1 with fail
    (try simp only [hp])
    generalize hw2 : w.alloc _ = w2 at HX ⊢
    clear hw2 hp
    (go_wp2_with fail; refine (HB.out _).mono ?_; rintro e_ w_ ⟨he_, hw_⟩; subst he_; have hs_ := hw_.symm; clear hw_; subst hs_)
    go_wp2_with fail
    refine (HR.out 1 _).mono ?_
    rintro e w3 ⟨rfl, hb3⟩
    have HX3 := hid (HX.out.below hb3)
    clear hb3 HX
    go_wp2_with (refine wpList_store_blk rfl 46 _ _ rfl p rfl (rsC 1 0 0) rfl HX3.out.b rfl I0.out (rsC_one _ _ _) ?_; intro w9 HB9 HU9)
    refine bodyPost_ret (results_blk (cs := (rsC 1 0 0)) Tryz.results119 rfl agg_rs HB9.out) rfl ?_
    exact ⟨rfl, hid (HX3.out.done HU9.out)⟩
  as_aux_lemma =>
  rw [if_neg hc]
  rw [decide_eq_false hc] at HB
  obtain ⟨b, rfl⟩ : ∃ n : Nat, b = (n : Int) := ⟨b.toNat, by omega⟩
  rw [show ((b : Int)).toNat = b by omega]
  have hb : b < 64 := by omega
  clear hc
  go_enter Tryz.func119, Tryz.ntmps119
  go_upto_region 1 with fail
  (try simp only [hp])
  generalize hw2 : w.alloc _ = w2 at HX ⊢
  clear hw2 hp
  (go_wp2_with fail; refine (HB.out _).mono ?_; rintro e_ w_ ⟨he_, hw_⟩; subst he_; have hs_ := hw_.symm; clear hw_; subst hs_)
  go_upto_region 5 with fail
  go_loopw [5, 6, 7] (fun t s u wr => wr = w2 ∧ ∃ q : Nat, u = .int .i64 (q : Int) ∧ t = .int .i64 (((lhF E.T b q).1 : Nat) : Int) ∧ s = .int .i64 (((lhF E.T b q).2 : Nat) : Int) ∧ q ≤ 32) (fun _ _ u _ => 32 - (intOf u).toNat)
  case atStart => exact ⟨rfl, 0, rfl, rfl, rfl, Nat.zero_le _⟩
  case round =>
  obtain ⟨hwr, q, rfl, rfl, rfl, hq⟩ := hrel
  have hwr' := hwr.symm
  clear hwr
  subst hwr'
  have hle := lhF_le E.T b q hq
  by_cases hql : q < 32
  · have dq : decide ((q : Int) < 32) = true := decide_eq_true (by omega)
    have dqn : decide (q < 32) = true := decide_eq_true hql
    have HH := hid (haN HX.out.md.mm hb hq)
    have Hs : Hid (lhF E.T b (q + 1) = if (lhF E.T b q).2 < hlN E.T b q then (q, hlN E.T b q) else lhF E.T b q) := hid rfl
    have hhb : hlN E.T b q ≤ 32 := hlN_le
    obtain ⟨F, hF⟩ : ∃ F, lhF E.T b q = F := ⟨_, rfl⟩
    rw [hF] at Hs hle ⊢
    clear hF
    obtain ⟨F1, F2⟩ := F
    generalize hlN E.T b q = x at *
    by_cases h0 : F2 < x
    · as_aux_lemma =>
      have d0 : decide ((x : Int) > (F2 : Int)) = true := decide_eq_true (by omega)
      have d0' : decide ((F2 : Int) < (x : Int)) = true := decide_eq_true (by omega)
      have Hs2 : Hid (lhF E.T b (q + 1) = (q, x)) := hid (by rw [Hs.out, if_pos h0])
      clear Hs
      (go_wp2_with fail; refine (HH.out).mono ?_; rintro e_ w_ ⟨he_, hw_⟩; subst he_; have hs_ := hw_.symm; clear hw_; subst hs_)
      (go_wp2_with fail; refine (HH.out).mono ?_; rintro e_ w_ ⟨he_, hw_⟩; subst he_; have hs_ := hw_.symm; clear hw_; subst hs_)
      go_wp2
      exact ⟨⟨by trivial, q + 1, by go_num, by rw [Hs2.out], by rw [Hs2.out], by omega⟩, by simp [intOf]; omega⟩
    · as_aux_lemma =>
      have d0 : decide ((x : Int) > (F2 : Int)) = false := decide_eq_false (by omega)
      have d0' : decide ((F2 : Int) < (x : Int)) = false := decide_eq_false (by omega)
      have Hs2 : Hid (lhF E.T b (q + 1) = (F1, F2)) := hid (by rw [Hs.out, if_neg h0])
      clear Hs
      (go_wp2_with fail; refine (HH.out).mono ?_; rintro e_ w_ ⟨he_, hw_⟩; subst he_; have hs_ := hw_.symm; clear hw_; subst hs_)
      go_wp2
      exact ⟨⟨by trivial, q + 1, by go_num, by rw [Hs2.out], by rw [Hs2.out], by omega⟩, by simp [intOf]; omega⟩
  · as_aux_lemma =>
    have dq : decide ((q : Int) < 32) = false := decide_eq_false (by omega)
    have dqn : decide (q < 32) = false := decide_eq_false hql
    have e0 : q = 32 := by omega
    have HF : Hid (lhF E.T b q = lhF E.T b 32) := hid (by rw [e0])
    obtain ⟨F, hF⟩ : ∃ F, lhF E.T b q = F := ⟨_, rfl⟩
    rw [hF] at HF hle ⊢
    clear hF e0
    obtain ⟨F1, F2⟩ := F
    go_wp2_with fail
    refine (ansM (F1 : Int) (F2 : Int) _).mono ?_
    rintro e w3 ⟨rfl, hb3⟩
    have HX3 := hid (HX.out.below hb3)
    clear hb3 HX
    go_wp2_with (refine wpList_store_blk rfl 46 _ _ rfl p rfl (rsC 0 (F1 : Int) (F2 : Int)) rfl HX3.out.b rfl I0.out (rsC_one _ _ _) ?_; intro w9 HB9 HU9)
    refine bodyPost_ret (results_blk (cs := (rsC 0 (F1 : Int) (F2 : Int))) Tryz.results119 rfl agg_rs HB9.out) rfl ?_
    exact ⟨by rw [← HF.out], hid (HX3.out.done HU9.out)⟩
end
end Go.Proofs.Qxb6500887aGreat
