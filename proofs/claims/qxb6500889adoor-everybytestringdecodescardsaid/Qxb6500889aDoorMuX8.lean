/- The machine: Safepoint, Collect, Alloc. -/
import Derived.Test.Qxb6500889aDoorMuX7
namespace Go.Proofs.Qxb6500889aDoor
open Go.RowKit
set_option linter.unusedSimpArgs false
set_option linter.unusedVariables false

section
variable {w w' w'' : World} {ρ ρ' ρ'' : Rl} {L L' : HL} {T : XL} {H H' : HS} {X : XS}
def spX (X : XS) (m : Nat) : XS := { setTb X m (retT (X.tb m)) with sf := X.sf + 1 }
set_option maxRecDepth 1000000 in
set_option maxHeartbeats 2000000 in
theorem msafe_walk (h : MM w ρ L T H X) {m : Nat} (hm : m < 4) (hb : XB X) (hwf : Wf H) (hrl : ∀ m, m < 4 → (H.roots m).length ≤ 64) (hcl : ∀ a, Rr (offRun H m) a → ∃ x, H.objs a = some x) :
    Calls Tryd.prog 61 #[.pointer (some ⟨T.xB, 0, none⟩), .int .i64 (m : Int)] w fun e w' => e = .returned (.int .u8 0) ∧ Out w ρ L T (safeH H m) (spX X m) w' := by
  have HTb := hid (fun w => table_walk T.xB m hm w)
  have HRe := hid (retire_walk h hm hb)
  have HW := hid (And.intro hwf (And.intro hrl hcl))
  have hsf := hb.sf
  obtain ⟨sf, hsfe⟩ : ∃ s, X.sf = s := ⟨_, rfl⟩
  have Hsf := hid hsfe
  rw [hsfe] at hsf
  obtain ⟨xB, hxB⟩ : ∃ b, T.xB = b := ⟨_, rfl⟩
  have HxB := hid hxB
  obtain ⟨hB, hhB⟩ : ∃ b, L.hB = b := ⟨_, rfl⟩
  have HhB := hid hhB
  rw [hxB] at HTb HRe
  rw [hxB]
  clear h hb hwf hrl hcl hsfe hxB hhB
  go_enter Tryd.func61, Tryd.ntmps61
  go_wp2_with fail
  refine (HTb.out _).mono ?_
  rintro e w1 ⟨rfl, rfl⟩
  go_wp2_with fail
  refine (HRe.out).mono ?_
  rintro e w2 ⟨rfl, ⟨T2, hm2, hx2⟩, hf2⟩
  have HM2 := hid hm2
  have HF2 := hid hf2
  have c0 : w2.cell? ⟨xB, 273, none⟩ = some (.int .u64 (sf : Int)) := by
    have := hm2.scells.2.2.2
    rw [hx2] at this
    rw [← Hsf.out]
    exact this
  have f0 : w2.frozen? ⟨xB, 273, none⟩ = false := by rw [← hx2]; exact hm2.xb.frozen _
  have h3 := hm2.setSf (sf + 1)
  rw [hx2, show ((sf + 1 : Nat) : Int) = (sf : Int) + 1 by omega] at h3
  have HM3 := hid h3
  have Hx2 := hid hx2
  have b1 : (sf : Int) ≤ 100000000000 := by omega
  clear hm2 hf2 hx2 h3 HRe HTb
  go_upto_region 6 with fail
  generalize w2.setCell ⟨xB, 273, none⟩ (.int .u64 ((sf : Int) + 1)) = w3 at HM3 ⊢
  clear c0 f0
  have cH : w3.cell? ⟨xB, 0, none⟩ = some (.pointer (some ⟨hB, 0, none⟩)) := by rw [← HhB.out, ← Hx2.out]; exact HM3.out.1.heapP
  have HSp := hid (safepoint_walk HM3.out.1.hm HW.out.1 hm HW.out.2.1 HW.out.2.2)
  rw [HhB.out] at HSp
  go_wp2_with fail
  refine (HSp.out).mono ?_
  rintro e w4 ⟨rfl, hm4, hf4⟩
  have HO : Hid (Out w1 ρ L T (safeH H m) (spX X m) w4) := hid ⟨ρ, L, T2, by
    have := HM3.out.1.heap hm4 rfl hf4
    unfold spX
    rw [Hsf.out]
    exact this, rfl, by rw [Hx2.out]; exact HxB.out.symm, HF2.out.trans (HM3.out.2.trans hf4.fx)⟩
  clear hm4 hf4
  go_wp2
  go_ret
  exact ⟨rfl, HO.out⟩
set_option maxRecDepth 1000000 in
set_option maxHeartbeats 2000000 in
theorem collect_bad (x : Nat) (actor : Nat) (ha : 7 ≤ actor) (ha2 : actor < 256) (w : World) :
    Calls Tryd.prog 50 #[.pointer (some ⟨x, 0, none⟩), .int .i64 (actor : Int)] w fun e w' => e = .returned (.int .u8 1) ∧ w' = w := by
  have d1 : decide ((actor : Int) < 4) = false := decide_eq_false (by omega)
  have d2 : decide ((7 : Int) ≤ (actor : Int)) = true := decide_eq_true (by omega)
  have d2' : decide ((actor : Int) ≥ 7) = true := decide_eq_true (by omega)
  go_enter Tryd.func50, Tryd.ntmps50
  go_wp2
  go_ret
  exact ⟨rfl, rfl⟩
set_option maxRecDepth 1000000 in
set_option maxHeartbeats 2000000 in
theorem collect_walk (h : MM w ρ L T H X) (hwf : Wf H) {actor : Nat} (ha : actor = 4 ∨ actor = 5 ∨ actor = 6) :
    Calls Tryd.prog 50 #[.pointer (some ⟨T.xB, 0, none⟩), .int .i64 (actor : Int)] w fun e w' => e = .returned (.int .u8 0) ∧ ∃ H', StepR H actor H' ∧ Out w ρ L T H' X w' := by
  have HSt := hid (step_walk h.hm hwf ha)
  have HH := hid h
  have cH := h.heapP
  have d1 : decide ((actor : Int) < 4) = false := decide_eq_false (by omega)
  have d2 : decide ((7 : Int) ≤ (actor : Int)) = false := decide_eq_false (by omega)
  have d2' : decide ((actor : Int) ≥ 7) = false := decide_eq_false (by omega)
  obtain ⟨xB, hxB⟩ : ∃ b, T.xB = b := ⟨_, rfl⟩
  obtain ⟨hB, hhB⟩ : ∃ b, L.hB = b := ⟨_, rfl⟩
  rw [hxB, hhB] at cH
  rw [hhB] at HSt
  rw [hxB]
  clear h hwf ha hxB hhB
  go_enter Tryd.func50, Tryd.ntmps50
  go_wp2_with fail
  refine (HSt.out).mono ?_
  rintro e w1 ⟨rfl, H', hs, hm1, hf1⟩
  have HO : Hid (∃ H', StepR H actor H' ∧ Out w ρ L T H' X w1) := hid ⟨H', hs, Out.heap HH.out (Below.refl _ _) hm1 rfl hf1⟩
  clear hs hm1 hf1
  go_wp2
  go_ret
  exact ⟨rfl, HO.out⟩
/-- Alloc: the states, the handle, the code. -/
noncomputable def alO (H : HS) (X : XS) (m : Nat) (size refs : Int) : HS × XS × Nat × Nat :=
  if size < 1 ∨ 8192 < size then (H, X, 0, 6)
  else if refs < 0 ∨ size < refs then (H, X, 0, 7)
  else if fullB (X.tb m) = true then (H, X, 0, 11)
  else match placeP (baseH H (1 + size.toNat)).taken (1 + size.toNat) with
    | none => (baseH H (1 + size.toNat), X, 0, 8)
    | some s => (mkH (baseH H (1 + size.toNat)) m size.toNat refs.toNat s, givX { X with al := X.al + 1 } m (65536 + s), hN (X.tb m).gen m (X.tb m).ad.length, 0)
set_option maxRecDepth 1000000 in
set_option maxHeartbeats 2000000 in
theorem malloc_walk (h : MM w ρ L T H X) {m : Nat} (hm : m < 4) (hb : XB X) (hal : X.al < 100000000000) (hwf : Wf H) (size refs : Int) :
    Calls Tryd.prog 51 #[.pointer (some ⟨T.xB, 0, none⟩), .int .i64 (m : Int), .int .i64 size, .int .i64 refs] w fun e w' => e = .returned (.tuple #[.int .u64 ((alO H X m size refs).2.2.1 : Int), .int .u8 ((alO H X m size refs).2.2.2 : Int)]) ∧ Out w ρ L T (alO H X m size refs).1 (alO H X m size refs).2.1 w' := by
  have HTb := hid (fun w => table_walk T.xB m hm w)
  have HFl := hid (full_walk h hm hb)
  have HH := hid h
  have HOs := hid (Out.same h (Below.refl _ _))
  have cH := h.heapP
  unfold alO
  obtain ⟨xB, hxB⟩ : ∃ b, T.xB = b := ⟨_, rfl⟩
  have HxB := hid hxB
  rw [hxB] at HTb HFl cH
  rw [hxB]
  have hl := hb.len m
  have HB := hid hb
  have Hal := hid hal
  by_cases h1 : size < 1
  · rw [if_pos (.inl h1)]
    have d1 : decide (size < 1) = true := decide_eq_true h1
    clear h hb hwf hxB h1
    go_enter Tryd.func51, Tryd.ntmps51
    go_wp2_with fail
    refine (HTb.out _).mono ?_
    rintro e w1 ⟨rfl, rfl⟩
    go_wp2
    exact bodyPost_ret (v := .tuple #[.int .u64 0, .int .u8 6]) (by simp [results, Tryd.results51, go_sem]) rfl ⟨rfl, HOs.out⟩
  have d1 : decide (size < 1) = false := decide_eq_false h1
  by_cases h2 : 8192 < size
  · rw [if_pos (.inr h2)]
    have d2 : decide (8192 < size) = true := decide_eq_true h2
    clear h hb hwf hxB h1 h2
    go_enter Tryd.func51, Tryd.ntmps51
    go_wp2_with fail
    refine (HTb.out _).mono ?_
    rintro e w1 ⟨rfl, rfl⟩
    go_wp2
    exact bodyPost_ret (v := .tuple #[.int .u64 0, .int .u8 6]) (by simp [results, Tryd.results51, go_sem]) rfl ⟨rfl, HOs.out⟩
  have d2 : decide (8192 < size) = false := decide_eq_false h2
  rw [if_neg (by omega)]
  by_cases h3 : refs < 0
  · rw [if_pos (.inl h3)]
    have d3 : decide (refs < 0) = true := decide_eq_true h3
    clear h hb hwf hxB h1 h2 h3
    go_enter Tryd.func51, Tryd.ntmps51
    go_wp2_with fail
    refine (HTb.out _).mono ?_
    rintro e w1 ⟨rfl, rfl⟩
    go_wp2
    exact bodyPost_ret (v := .tuple #[.int .u64 0, .int .u8 7]) (by simp [results, Tryd.results51, go_sem]) rfl ⟨rfl, HOs.out⟩
  have d3 : decide (refs < 0) = false := decide_eq_false h3
  by_cases h4 : size < refs
  · rw [if_pos (.inr h4)]
    have d4 : decide (size < refs) = true := decide_eq_true h4
    clear h hb hwf hxB h1 h2 h3 h4
    go_enter Tryd.func51, Tryd.ntmps51
    go_wp2_with fail
    refine (HTb.out _).mono ?_
    rintro e w1 ⟨rfl, rfl⟩
    go_wp2
    exact bodyPost_ret (v := .tuple #[.int .u64 0, .int .u8 7]) (by simp [results, Tryd.results51, go_sem]) rfl ⟨rfl, HOs.out⟩
  have d4 : decide (size < refs) = false := decide_eq_false h4
  rw [if_neg (by omega)]
  obtain ⟨sz, rfl⟩ := Int.eq_ofNat_of_zero_le (show 0 ≤ size by omega)
  obtain ⟨rf, rfl⟩ := Int.eq_ofNat_of_zero_le (show 0 ≤ refs by omega)
  rw [Int.toNat_natCast, Int.toNat_natCast]
  by_cases hf : fullB (X.tb m) = true
  · rw [hf] at HFl
    rw [if_pos hf]
    have d4n : decide (sz < rf) = false := decide_eq_false (by omega)
    clear h hb hwf hxB h1 h2 h3 h4 hf
    go_enter Tryd.func51, Tryd.ntmps51
    go_wp2_with fail
    refine (HTb.out _).mono ?_
    rintro e w1 ⟨rfl, rfl⟩
    go_wp2_with fail
    refine (HFl.out).mono ?_
    rintro e w2 ⟨rfl, rfl⟩
    go_wp2
    exact bodyPost_ret (v := .tuple #[.int .u64 0, .int .u8 11]) (by simp [results, Tryd.results51, go_sem]) rfl ⟨rfl, HOs.out⟩
  have hff : fullB (X.tb m) = false := by simpa using hf
  rw [hff] at HFl
  rw [if_neg hf]
  have hlen : (X.tb m).ad.length < 128 := by
    unfold fullB at hff
    simp at hff
    omega
  have HAl := hid (alloc_walk h.hm hwf (m := m) (size := sz) (refs := rf) hm (by omega) (by omega) (by omega))
  obtain ⟨hB, hhB⟩ : ∃ b, L.hB = b := ⟨_, rfl⟩
  have HhB := hid hhB
  rw [hhB] at cH HAl
  have Hlen := hid hlen
  obtain ⟨p, hpp⟩ : ∃ p, placeP (baseH H (1 + sz)).taken (1 + sz) = p := ⟨_, rfl⟩
  rw [hpp]
  have Hpp := hid hpp
  have d4n : decide (sz < rf) = false := decide_eq_false (by omega)
  clear h hb hwf hxB h1 h2 h3 h4 hf hff hlen hl hhB hpp
  go_enter Tryd.func51, Tryd.ntmps51
  go_wp2_with fail
  refine (HTb.out _).mono ?_
  rintro e w1 ⟨rfl, rfl⟩
  go_wp2_with fail
  refine (HFl.out).mono ?_
  rintro e w2 ⟨rfl, rfl⟩
  go_wp2_with fail
  refine (HAl.out).mono ?_
  rintro e w3 hp
  unfold AllocP at hp
  rw [Hpp.out] at hp
  cases p with
  | none =>
    obtain ⟨rfl, g1, g2⟩ := hp
    have HO := hid (Out.heap HH.out (Below.refl _ _) g1 rfl g2)
    clear g1 g2
    go_wp2
    exact bodyPost_ret (v := .tuple #[.int .u64 0, .int .u8 8]) (by simp [results, Tryd.results51, go_sem]) rfl ⟨rfl, HO.out⟩
  | some s =>
    obtain ⟨rfl, L', ρ', g1, g2, g3⟩ := hp
    have hmm := HH.out.heap g1 g2 g3
    have HF3 := hid g3.fx
    have Hg2 := hid g2
    obtain ⟨al, hale⟩ : ∃ a, X.al = a := ⟨_, rfl⟩
    have c0 : w3.cell? ⟨xB, 272, none⟩ = some (.int .u64 (al : Int)) := by rw [← hale, ← HxB.out]; exact hmm.scells.2.2.1
    have f0 : w3.frozen? ⟨xB, 272, none⟩ = false := by rw [← HxB.out]; exact hmm.xb.frozen _
    have hm4 := hmm.setAl (al + 1)
    rw [HxB.out, show ((al + 1 : Nat) : Int) = (al : Int) + 1 by omega] at hm4
    have HM4 := hid hm4
    have b1 : (al : Int) ≤ 100000000000 := by have := Hal.out; omega
    have Hale := hid hale
    obtain ⟨ad, had⟩ : ∃ ad, 65536 + s = ad := ⟨_, rfl⟩
    simp only [had]
    have Had := hid had
    clear g1 g2 g3 hmm hm4 hale had
    go_upto_region 14 with fail
    generalize w3.setCell ⟨xB, 272, none⟩ (.int .u64 ((al : Int) + 1)) = w4 at HM4 ⊢
    clear c0 f0
    have hb4 : XB { X with al := al + 1 } := ⟨HB.out.nx, HB.out.ct, HB.out.gen, HB.out.len, HB.out.st, HB.out.rf, by have := Hal.out; have := Hale.out; show al + 1 ≤ 100000000000; omega, HB.out.sf⟩
    have HGv := hid (give_walk HM4.out.1 hm hb4 Hlen.out ad)
    rw [HxB.out] at HGv
    obtain ⟨hn, hhn⟩ : ∃ n, hN (X.tb m).gen m (X.tb m).ad.length = n := ⟨_, rfl⟩
    have HGv2 : Hid (Calls Tryd.prog 67 #[.pointer (some ⟨xB, 0, none⟩), .pointer (some ⟨xB, 1 + m * 3, none⟩), .int .u64 (ad : Int)] w4 fun e w' => e = .returned (.int .u64 (hn : Int)) ∧ Out w2 ρ L T (mkH (baseH H (1 + sz)) m sz rf s) (givX { X with al := X.al + 1 } m (65536 + s)) w') := hid (HGv.out.mono (by
      rintro e w'' ⟨rfl, T', ρ'', k1, k2, k3⟩
      refine ⟨by rw [← hhn], ρ'', L', T', ?_, Hg2.out, by rw [k2]; exact HxB.out.symm, HF3.out.trans (HM4.out.2.trans k3)⟩
      rw [Had.out, Hale.out]
      exact k1))
    have Hhn := hid hhn
    clear HGv hhn hb4
    go_wp2_with fail
    refine (HGv2.out).mono ?_
    rintro e w5 ⟨rfl, ho5⟩
    have HO5 := hid ho5
    clear ho5
    go_wp2
    exact bodyPost_ret (v := .tuple #[.int .u64 (hn : Int), .int .u8 0]) (by simp [results, Tryd.results51, go_sem]) rfl ⟨by rw [← Hhn.out], HO5.out⟩
end
end Go.Proofs.Qxb6500889aDoor
