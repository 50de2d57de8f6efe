/- TotalOrder: the law. -/
import Derived.Test.Qxb6500884aClLaw
import Derived.Test.Qxb6500884aClTotP
namespace Go.Proofs.Qxb6500884a
open Go.RowKit
set_option linter.unusedSimpArgs false
set_option linter.unusedVariables false

/-- The class of a register, for a call. -/
theorem MW.cls {w0 w : World} {mb : Nat} {a : Option Addr} {S : List (Nat × List (Int × Int))} (h : MW w0 mb a S w) {k : Nat} (hk : k < S.length) : ∃ p g off c xa xn xc, S[k]? = some p ∧ a = some ⟨g, off, none⟩ ∧ w.cell? ⟨mb, 0, none⟩ = some (.slice a S.length c) ∧ w.cell? ⟨g, off + k, none⟩ = some (.pointer (some ⟨p.1, 0, none⟩)) ∧ w.cell? ⟨p.1, 0, none⟩ = some (.slice xa xn xc) ∧ IvRow w xa xn xc p.2 ∧ Nrm p.2 ∧ Ty67 w xa xn := by
  obtain ⟨p, c, g, off, h1, h2, h3, h4, h5⟩ := h.mach.at hk
  obtain ⟨xa, xn, xc, tb, h6, h7, h8, _⟩ := h2.out
  exact ⟨p, g, off, c, xa, xn, xc, h1, h3, h4, h5, h6.cell 0, h7, h2.nrm, h8⟩
set_option maxRecDepth 100000 in
set_option maxHeartbeats 4000000 in
theorem totLaw_walk (a : Option Addr) (n c : Nat) (l : List COp) (w : World) (hs : Script w a n c l) :
    Calls Try.prog 9 #[.slice a n c] w fun e w' => e = .returned (.bool true) ∧ Below w.heap.size w w' := by
  have HS := hid hs
  have hl := hs.1.1
  clear hs
  go_enter Try.func9, Try.ntmps9
  go_wp2_with fail
  refine (small_walk a n c l _ HS.out).mono ?_
  rintro e w' ⟨r, rfl, rfl, hr⟩
  cases r with
  | false =>
    go_wp2
    go_ret
    exact ⟨rfl, Below.refl _ _⟩
  | true =>
  obtain ⟨hsm, hob⟩ := hr rfl
  have HOb := hid hob
  clear hr hob
  obtain ⟨mb, hmb⟩ : ∃ mb, w'.heap.size = mb := ⟨_, rfl⟩
  have HM0 := hid (MW.start w' hmb)
  go_upto_region 5 with fail
  generalize w'.alloc (.cells #[.slice none 0 0] 46) = w1 at HM0 ⊢
  have Hmb := hid hmb
  clear hmb
  go_loopw [20] (fun i wr => ∃ (k : Nat) (ma : Option Addr) (S : List (Nat × List (Int × Int))), k ≤ n ∧ i = .int .i64 k ∧ Hid (MW w' mb ma S wr)) (fun i _ => n - (intOf i).toNat)
  case atStart => exact ⟨0, none, [], Nat.zero_le _, rfl, HM0⟩
  case round =>
    clear HM0
    obtain ⟨k, ma, S, hk, rfl, HM⟩ := hrel
    by_cases hlt : k < n
    · as_aux_lemma =>
      obtain ⟨o, ho, hok, b, off, rfl, hb, c0, c1, c2, c3, c4⟩ := (HS.out.below HM.out.bel).at hlt
      have hob := HOb.out o (List.mem_of_getElem? ho)
      obtain ⟨kind, oa, ob, ia, inn, ic, iv, ra, rn, rc, rg⟩ := o
      dsimp only at c0 c1 c2 c3 c4 hob
      have dk : decide ((k : Int) < (n : Int)) = true := decide_eq_true (by omega)
      have i1 : (k : Int) < (n : Int) := by omega
      obtain ⟨pO, hpO⟩ : ∃ pO, wr.heap.size = pO := ⟨_, rfl⟩
      have HM2 : Hid (MW w' mb ma S (wr.alloc (.cells #[Value.int .i64 kind, .int .i64 oa, .int .i64 ob, .slice ia inn ic, .slice ra rn rc] 28)) ∧ Blk (wr.alloc (.cells #[Value.int .i64 kind, .int .i64 oa, .int .i64 ob, .slice ia inn ic, .slice ra rn rc] 28)) pO 28 [Value.int .i64 kind, .int .i64 oa, .int .i64 ob, .slice ia inn ic, .slice ra rn rc] ∧ OpOk (wr.alloc (.cells #[Value.int .i64 kind, .int .i64 oa, .int .i64 ob, .slice ia inn ic, .slice ra rn rc] 28)) ⟨kind, oa, ob, ia, inn, ic, iv, ra, rn, rc, rg⟩) := hid ⟨HM.out.below (nbel wr _), by
        have := Blk.new wr [Value.int .i64 kind, .int .i64 oa, .int .i64 ob, .slice ia inn ic, .slice ra rn rc] 28
        rw [hpO] at this
        exact this, hok.below (nbel wr _)⟩
      clear ho hok
      go_upto_region 7 with fail
      generalize wr.alloc (.cells #[Value.int .i64 kind, .int .i64 oa, .int .i64 ob, .slice ia inn ic, .slice ra rn rc] 28) = w2 at HM2 ⊢
      clear c0 c1 c2 c3 c4
      have o0 : w2.cell? ⟨pO, 0, none⟩ = some (.int .i64 kind) := HM2.out.2.1.cell 0
      have o1 : w2.cell? ⟨pO, 1, none⟩ = some (.int .i64 oa) := HM2.out.2.1.cell 1
      have o2 : w2.cell? ⟨pO, 2, none⟩ = some (.int .i64 ob) := HM2.out.2.1.cell 2
      have o3 : w2.cell? ⟨pO, 3, none⟩ = some (.slice ia inn ic) := HM2.out.2.1.cell 3
      have o4 : w2.cell? ⟨pO, 4, none⟩ = some (.slice ra rn rc) := HM2.out.2.1.cell 4
      have HSt := hid (step_walk mb ma S ⟨kind, oa, ob, ia, inn, ic, iv, ra, rn, rc, rg⟩ w2 HM2.out.1.mach HM2.out.2.2 hob.1 hob.2)
      go_wp2_with fail
      refine HSt.out.mono ?_
      rintro e w3 hp
      obtain ⟨res, pa, pn, pc, ps, a', rfl, hms⟩ := HM2.out.1.step hp
      have HM3 := hid hms.mw
      clear hp hms HSt HM2 o0 o1 o2 o3 o4
      go_wp2
      exact ⟨⟨k + 1, a', _, by omega, by go_num, HM3⟩, by simp [intOf]; omega⟩
    as_aux_lemma =>
    have dk : decide ((k : Int) < (n : Int)) = false := decide_eq_false (by omega)
    obtain ⟨N, hN⟩ : ∃ N, S.length = N := ⟨_, rfl⟩
    have HN := hid hN
    have hN12 : N ≤ 12 := by rw [← hN]; exact HM.out.mach.len
    obtain ⟨mc, hmc, _⟩ := HM.out.mach.out
    rw [hN] at hmc
    clear hN
    have cm : wr.cell? ⟨mb, 0, none⟩ = some (.slice ma N mc) := hmc.cell 0
    obtain ⟨wA, rfl⟩ : ∃ wA, wA = wr := ⟨_, rfl⟩
    have Hcm : Hid (∀ w2 : World, Below wA.heap.size wA w2 → w2.cell? ⟨mb, 0, none⟩ = some (.slice ma N mc)) := hid (fun w2 hb => by rw [hb.cell hmc.lt]; exact cm)
    clear hmc
    go_upto_region 10 with fail
    clear cm dk
    go_loopw [33] (fun i wr2 => ∃ (i1 : Nat), i1 ≤ N ∧ i = .int .i64 i1 ∧ Hid (Below wA.heap.size wA wr2)) (fun i _ => N - (intOf i).toNat)
    case atStart => exact ⟨0, Nat.zero_le _, rfl, hid (Below.refl _ _)⟩
    case round =>
      obtain ⟨i1, hi1, rfl, HB1⟩ := hrel
      by_cases hlt1 : i1 < N
      rotate_left
      · as_aux_lemma =>
        have d1 : decide ((i1 : Int) < (N : Int)) = false := decide_eq_false (by omega)
        go_wp2
        go_ret
        exact ⟨rfl, (HM.out.below HB1.out).bel⟩
      have d1 : decide ((i1 : Int) < (N : Int)) = true := decide_eq_true (by omega)
      have j1 : (i1 : Int) < (N : Int) := by omega
      obtain ⟨p1, g, off, _, xa1, xn1, xc1, hp1, hma, _, ce1, cx1, hr1, hn1, ht1⟩ := HM.out.cls (k := i1) (by rw [HN.out]; exact hlt1)
      subst hma
      have HR1 := hid hr1
      have HN1 := hid hn1
      have HC1 : Hid (∀ w2 : World, Below wA.heap.size wA w2 → w2.cell? ⟨p1.1, 0, none⟩ = some (.slice xa1 xn1 xc1)) := hid (fun w2 hb => by rw [hb.cell (block_lt_of_cell cx1)]; exact cx1)
      have ce1' : wr.cell? ⟨g, off + i1, none⟩ = some (.pointer (some ⟨p1.1, 0, none⟩)) := by rw [HB1.out.cell (block_lt_of_cell ce1)]; exact ce1
      have cm1 := Hcm.out wr HB1.out
      clear hp1 ce1 cx1 hr1 hn1 ht1
      go_upto_region 13 with fail
      clear ce1' cm1 d1
      go_loopw [42] (fun i wr2 => ∃ (i2 : Nat), i2 ≤ N ∧ i = .int .i64 i2 ∧ Hid (Below wA.heap.size wA wr2)) (fun i _ => N - (intOf i).toNat)
      case atStart => exact ⟨0, Nat.zero_le _, rfl, HB1⟩
      case round =>
        clear HB1
        obtain ⟨i2, hi2, rfl, HB2⟩ := hrel
        by_cases hlt2 : i2 < N
        rotate_left
        · as_aux_lemma =>
          have d2 : decide ((i2 : Int) < (N : Int)) = false := decide_eq_false (by omega)
          go_wp2
          exact ⟨⟨i1 + 1, by omega, by go_num, HB2⟩, by simp [intOf]; omega⟩
        have d2 : decide ((i2 : Int) < (N : Int)) = true := decide_eq_true (by omega)
        have j2 : (i2 : Int) < (N : Int) := by omega
        obtain ⟨p2, g', off', _, xa2, xn2, xc2, hp2, hma, _, ce2, cx2, hr2, hn2, ht2⟩ := HM.out.cls (k := i2) (by rw [HN.out]; exact hlt2)
        cases hma
        have HR2 := hid hr2
        have HN2 := hid hn2
        have HC2 : Hid (∀ w2 : World, Below wA.heap.size wA w2 → w2.cell? ⟨p2.1, 0, none⟩ = some (.slice xa2 xn2 xc2)) := hid (fun w2 hb => by rw [hb.cell (block_lt_of_cell cx2)]; exact cx2)
        have ce2' : wr.cell? ⟨g, off + i2, none⟩ = some (.pointer (some ⟨p2.1, 0, none⟩)) := by rw [HB2.out.cell (block_lt_of_cell ce2)]; exact ce2
        clear hp2 ce2 cx2 hr2 hn2 ht2
        obtain ⟨B12, hB12⟩ : ∃ B, cmpIv p1.2 p2.2 = B := ⟨_, rfl⟩
        obtain ⟨B21, hB21⟩ : ∃ B, cmpIv p2.2 p1.2 = B := ⟨_, rfl⟩
        have hrg := cmp_rng p1.2 p2.2
        have hsw := cmp_swap p1.2 p2.2
        rw [hB12] at hrg
        rw [hB12, hB21] at hsw
        have HK12 : Hid (∀ w2 : World, Below wA.heap.size wA w2 → Calls Try.prog 31 #[.agg #[.slice xa1 xn1 xc1], .agg #[.slice xa2 xn2 xc2]] w2 fun e w3 => e = .returned (.int .i64 B12) ∧ Below w2.heap.size w2 w3) := hid (fun w2 hb => by rw [← hB12]; exact compare_walk xa1 xn1 xc1 p1.2 xa2 xn2 xc2 p2.2 w2 (HR1.out.below hb) (HR2.out.below hb) HN1.out HN2.out)
        have HK21 : Hid (∀ w2 : World, Below wA.heap.size wA w2 → Calls Try.prog 31 #[.agg #[.slice xa2 xn2 xc2], .agg #[.slice xa1 xn1 xc1]] w2 fun e w3 => e = .returned (.int .i64 B21) ∧ Below w2.heap.size w2 w3) := hid (fun w2 hb => by rw [← hB21]; exact compare_walk xa2 xn2 xc2 p2.2 xa1 xn1 xc1 p1.2 w2 (HR2.out.below hb) (HR1.out.below hb) HN2.out HN1.out)
        have HB12 := hid hB12
        clear hB12 hB21
        go_upto_region 15 with fail
        clear ce2' d2
        obtain ⟨X, W, hT, hI⟩ := class_mk (fun w2 => Below wA.heap.size wA w2)
        have HCl : Hid (∀ x w2, Below (W x).heap.size (W x) w2 → ∃ y, w2 = W y) := hid (fun x w2 hb => hI _ ((hT x).trans (hb.mono (hT x).size)))
        have H0 : Hid (∃ x, wr.drew = W x) := hid (hI _ (HB2.out.trans ((Drew.below ⟨1, rfl⟩ _ : Below wr.heap.size wr wr.drew).mono HB2.out.size)))
        have hne : Nonempty X := ⟨H0.out.choose⟩
        have e1 : ∀ x, (W x).cell? ⟨p1.1, 0, none⟩ = some (.slice xa1 xn1 xc1) := fun x => HC1.out _ (hT x)
        have e2 : ∀ x, (W x).cell? ⟨p2.1, 0, none⟩ = some (.slice xa2 xn2 xc2) := fun x => HC2.out _ (hT x)
        have HCo : Hid (∀ x, Calls Try.prog 31 #[.agg #[.slice xa1 xn1 xc1], .agg #[.slice xa2 xn2 xc2]] (W x) fun e w3 => e = .returned (.int .i64 B12) ∧ Below (W x).heap.size (W x) w3) := hid (fun x => HK12.out _ (hT x))
        have HTT := hid hT
        clear hT hI
        refine wp_region_class W rfl (by kernel_rfl) H0.out ?_
        repeat (go_big_quiet_step ((go_at_call 31; exact Calls.class_of HCl.out (HCo.out _))))
        refine wpQuiet_nil ?_
        intro z
        have HZ := hid (HTT.out z)
        generalize W z = wz at HZ ⊢
        clear e1 e2 HCl H0 HTT HCo hne HB2
        have q1 : decide (B12 < -1) = false := decide_eq_false (by omega)
        have q2 : decide (1 < B12) = false := decide_eq_false (by omega)
        have q3 : (B12 != -B21) = false := by simp; omega
        have hr21 : -1 ≤ B21 ∧ B21 ≤ 1 := by omega
        have hra := hr21.1
        have hrb := hr21.2
        have hrc := hrg.1
        have hrd := hrg.2
        have Hsw := hid hsw
        clear hsw hr21 hrg
        go_upto_region 16 with fail
        obtain ⟨X, W, hT, hI⟩ := class_mk (fun w2 => Below wA.heap.size wA w2)
        have HCl : Hid (∀ x w2, Below (W x).heap.size (W x) w2 → ∃ y, w2 = W y) := hid (fun x w2 hb => hI _ ((hT x).trans (hb.mono (hT x).size)))
        have H0 : Hid (∃ x, wz.drew = W x) := hid (hI _ (HZ.out.trans ((Drew.below ⟨1, rfl⟩ _ : Below wz.heap.size wz wz.drew).mono HZ.out.size)))
        have hne : Nonempty X := ⟨H0.out.choose⟩
        have e0 : ∀ x, (W x).cell? ⟨p1.1, 0, none⟩ = some (.slice xa1 xn1 xc1) := fun x => HC1.out _ (hT x)
        have e1 : ∀ x, (W x).cell? ⟨p2.1, 0, none⟩ = some (.slice xa2 xn2 xc2) := fun x => HC2.out _ (hT x)
        have HCo0 : Hid (∀ x, Calls Try.prog 31 #[.agg #[.slice xa2 xn2 xc2], .agg #[.slice xa1 xn1 xc1]] (W x) fun e w3 => e = .returned (.int .i64 B21) ∧ Below (W x).heap.size (W x) w3) := hid (fun x => HK21.out _ (hT x))
        have HTT := hid hT
        clear hT hI
        refine wp_region_class W rfl (by kernel_rfl) H0.out ?_
        repeat (go_big_quiet_step ((go_at_call 31; first | (with_reducible exact Calls.class_of HCl.out (HCo0.out _)))))
        refine wpQuiet_nil ?_
        intro z
        have HZ2 := hid (HTT.out z)
        generalize W z = wy at HZ2 ⊢
        clear e0 e1 HCl H0 HTT HCo0 hne
        have cm2 := Hcm.out wy HZ2.out
        clear q1 q2 q3
        go_upto_region 19 with fail
        clear cm2
        go_loopw [80] (fun i wr2 => ∃ (i3 : Nat), i3 ≤ N ∧ i = .int .i64 i3 ∧ Hid (Below wA.heap.size wA wr2)) (fun i _ => N - (intOf i).toNat)
        case atStart => exact ⟨0, Nat.zero_le _, rfl, HZ2⟩
        case round =>
          clear HZ2 HZ
          obtain ⟨i3, hi3, rfl, HB3⟩ := hrel
          by_cases hlt3 : i3 < N
          rotate_left
          · as_aux_lemma =>
            have d3 : decide ((i3 : Int) < (N : Int)) = false := decide_eq_false (by omega)
            go_wp2
            exact ⟨⟨i2 + 1, by omega, by go_num, HB3⟩, by simp [intOf]; omega⟩
          have d3 : decide ((i3 : Int) < (N : Int)) = true := decide_eq_true (by omega)
          have j3 : (i3 : Int) < (N : Int) := by omega
          obtain ⟨p3, g', off', _, xa3, xn3, xc3, hp3, hma, _, ce3, cx3, hr3, hn3, ht3⟩ := HM.out.cls (k := i3) (by rw [HN.out]; exact hlt3)
          cases hma
          have HR3 := hid hr3
          have HN3 := hid hn3
          have HC3 : Hid (∀ w2 : World, Below wA.heap.size wA w2 → w2.cell? ⟨p3.1, 0, none⟩ = some (.slice xa3 xn3 xc3)) := hid (fun w2 hb => by rw [hb.cell (block_lt_of_cell cx3)]; exact cx3)
          have ce3' : wr.cell? ⟨g, off + i3, none⟩ = some (.pointer (some ⟨p3.1, 0, none⟩)) := by rw [HB3.out.cell (block_lt_of_cell ce3)]; exact ce3
          clear hp3 ce3 cx3 hr3 hn3 ht3
          obtain ⟨B23, hB23⟩ : ∃ B, cmpIv p2.2 p3.2 = B := ⟨_, rfl⟩
          obtain ⟨B13, hB13⟩ : ∃ B, cmpIv p1.2 p3.2 = B := ⟨_, rfl⟩
          have Htr : Hid (B12 ≤ 0 → B23 ≤ 0 → B13 ≤ 0) := hid (fun h1 h2 => by rw [← hB13]; exact cmp_trans p1.2 p2.2 p3.2 (by rw [HB12.out]; exact h1) (by rw [hB23]; exact h2))
          have HK23 : Hid (∀ w2 : World, Below wA.heap.size wA w2 → Calls Try.prog 31 #[.agg #[.slice xa2 xn2 xc2], .agg #[.slice xa3 xn3 xc3]] w2 fun e w3 => e = .returned (.int .i64 B23) ∧ Below w2.heap.size w2 w3) := hid (fun w2 hb => by rw [← hB23]; exact compare_walk xa2 xn2 xc2 p2.2 xa3 xn3 xc3 p3.2 w2 (HR2.out.below hb) (HR3.out.below hb) HN2.out HN3.out)
          have HK13 : Hid (∀ w2 : World, Below wA.heap.size wA w2 → Calls Try.prog 31 #[.agg #[.slice xa1 xn1 xc1], .agg #[.slice xa3 xn3 xc3]] w2 fun e w3 => e = .returned (.int .i64 B13) ∧ Below w2.heap.size w2 w3) := hid (fun w2 hb => by rw [← hB13]; exact compare_walk xa1 xn1 xc1 p1.2 xa3 xn3 xc3 p3.2 w2 (HR1.out.below hb) (HR3.out.below hb) HN1.out HN3.out)
          clear hB23 hB13
          go_upto_region 21 with fail
          clear ce3' d3
          by_cases h12 : B12 ≤ 0
          rotate_left
          · as_aux_lemma =>
            have q1 : decide (B12 ≤ 0) = false := decide_eq_false h12
            obtain ⟨X, W, hT, hI⟩ := class_mk (fun w2 => Below wA.heap.size wA w2)
            have HCl : Hid (∀ x w2, Below (W x).heap.size (W x) w2 → ∃ y, w2 = W y) := hid (fun x w2 hb => hI _ ((hT x).trans (hb.mono (hT x).size)))
            have H0 : Hid (∃ x, wr.drew = W x) := hid (hI _ (HB3.out.trans ((Drew.below ⟨1, rfl⟩ _ : Below wr.heap.size wr wr.drew).mono HB3.out.size)))
            have hne : Nonempty X := ⟨H0.out.choose⟩
            have e0 : ∀ x, (W x).cell? ⟨p1.1, 0, none⟩ = some (.slice xa1 xn1 xc1) := fun x => HC1.out _ (hT x)
            have e1 : ∀ x, (W x).cell? ⟨p2.1, 0, none⟩ = some (.slice xa2 xn2 xc2) := fun x => HC2.out _ (hT x)
            have e2 : ∀ x, (W x).cell? ⟨p3.1, 0, none⟩ = some (.slice xa3 xn3 xc3) := fun x => HC3.out _ (hT x)
            have HTT := hid hT
            clear hT hI
            refine wp_region_class W rfl (by kernel_rfl) H0.out ?_
            repeat (go_big_quiet_step ((go_at_call 31; first | (fail))))
            refine wpQuiet_nil ?_
            intro z
            have HZ4 := hid (HTT.out z)
            generalize W z = w4 at HZ4 ⊢
            clear e0 e1 e2 HCl H0 HTT  hne
            go_wp2
            exact ⟨⟨i3 + 1, by omega, by go_num, HZ4⟩, by simp [intOf]; omega⟩
          have q1 : decide (B12 ≤ 0) = true := decide_eq_true h12
          by_cases h23 : B23 ≤ 0
          rotate_left
          · as_aux_lemma =>
            have q2 : decide (B23 ≤ 0) = false := decide_eq_false h23
            obtain ⟨X, W, hT, hI⟩ := class_mk (fun w2 => Below wA.heap.size wA w2)
            have HCl : Hid (∀ x w2, Below (W x).heap.size (W x) w2 → ∃ y, w2 = W y) := hid (fun x w2 hb => hI _ ((hT x).trans (hb.mono (hT x).size)))
            have H0 : Hid (∃ x, wr.drew = W x) := hid (hI _ (HB3.out.trans ((Drew.below ⟨1, rfl⟩ _ : Below wr.heap.size wr wr.drew).mono HB3.out.size)))
            have hne : Nonempty X := ⟨H0.out.choose⟩
            have e0 : ∀ x, (W x).cell? ⟨p1.1, 0, none⟩ = some (.slice xa1 xn1 xc1) := fun x => HC1.out _ (hT x)
            have e1 : ∀ x, (W x).cell? ⟨p2.1, 0, none⟩ = some (.slice xa2 xn2 xc2) := fun x => HC2.out _ (hT x)
            have e2 : ∀ x, (W x).cell? ⟨p3.1, 0, none⟩ = some (.slice xa3 xn3 xc3) := fun x => HC3.out _ (hT x)
            have HCo0 : Hid (∀ x, Calls Try.prog 31 #[.agg #[.slice xa2 xn2 xc2], .agg #[.slice xa3 xn3 xc3]] (W x) fun e w3 => e = .returned (.int .i64 B23) ∧ Below (W x).heap.size (W x) w3) := hid (fun x => HK23.out _ (hT x))
            have HTT := hid hT
            clear hT hI
            refine wp_region_class W rfl (by kernel_rfl) H0.out ?_
            repeat (go_big_quiet_step ((go_at_call 31; first | (with_reducible exact Calls.class_of HCl.out (HCo0.out _)))))
            refine wpQuiet_nil ?_
            intro z
            have HZ4 := hid (HTT.out z)
            generalize W z = w4 at HZ4 ⊢
            clear e0 e1 e2 HCl H0 HTT HCo0 hne
            go_wp2
            exact ⟨⟨i3 + 1, by omega, by go_num, HZ4⟩, by simp [intOf]; omega⟩
          as_aux_lemma =>
          have q2 : decide (B23 ≤ 0) = true := decide_eq_true h23
          have q3 : decide (0 < B13) = false := decide_eq_false (by have := Htr.out h12 h23; omega)
          obtain ⟨X, W, hT, hI⟩ := class_mk (fun w2 => Below wA.heap.size wA w2)
          have HCl : Hid (∀ x w2, Below (W x).heap.size (W x) w2 → ∃ y, w2 = W y) := hid (fun x w2 hb => hI _ ((hT x).trans (hb.mono (hT x).size)))
          have H0 : Hid (∃ x, wr.drew = W x) := hid (hI _ (HB3.out.trans ((Drew.below ⟨1, rfl⟩ _ : Below wr.heap.size wr wr.drew).mono HB3.out.size)))
          have hne : Nonempty X := ⟨H0.out.choose⟩
          have e0 : ∀ x, (W x).cell? ⟨p1.1, 0, none⟩ = some (.slice xa1 xn1 xc1) := fun x => HC1.out _ (hT x)
          have e1 : ∀ x, (W x).cell? ⟨p2.1, 0, none⟩ = some (.slice xa2 xn2 xc2) := fun x => HC2.out _ (hT x)
          have e2 : ∀ x, (W x).cell? ⟨p3.1, 0, none⟩ = some (.slice xa3 xn3 xc3) := fun x => HC3.out _ (hT x)
          have HCo0 : Hid (∀ x, Calls Try.prog 31 #[.agg #[.slice xa2 xn2 xc2], .agg #[.slice xa3 xn3 xc3]] (W x) fun e w3 => e = .returned (.int .i64 B23) ∧ Below (W x).heap.size (W x) w3) := hid (fun x => HK23.out _ (hT x))
          have HCo1 : Hid (∀ x, Calls Try.prog 31 #[.agg #[.slice xa1 xn1 xc1], .agg #[.slice xa3 xn3 xc3]] (W x) fun e w3 => e = .returned (.int .i64 B13) ∧ Below (W x).heap.size (W x) w3) := hid (fun x => HK13.out _ (hT x))
          have HTT := hid hT
          clear hT hI
          refine wp_region_class W rfl (by kernel_rfl) H0.out ?_
          repeat (go_big_quiet_step ((go_at_call 31; first | (with_reducible exact Calls.class_of HCl.out (HCo0.out _)) | (with_reducible exact Calls.class_of HCl.out (HCo1.out _)))))
          refine wpQuiet_nil ?_
          intro z
          have HZ4 := hid (HTT.out z)
          generalize W z = w4 at HZ4 ⊢
          clear e0 e1 e2 HCl H0 HTT HCo0 HCo1 hne
          go_wp2
          exact ⟨⟨i3 + 1, by omega, by go_num, HZ4⟩, by simp [intOf]; omega⟩
end Go.Proofs.Qxb6500884a
