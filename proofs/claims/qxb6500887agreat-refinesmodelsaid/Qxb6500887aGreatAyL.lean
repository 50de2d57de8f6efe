/- The model's steps: scan, scanSome. -/
import Derived.Test.Qxb6500887aGreatAyK
import Derived.Deep.DeepCutAuto
namespace Go.Proofs.Qxb6500887aGreat
open Go.RowKit
set_option linter.unusedSimpArgs false
set_option linter.unusedVariables false
section
variable {l : ML} {E E' : ES} {w w' w0 w3 w4 : World} {p : Nat}
def rfsW (W : Nat → Nat) (k n : Nat) : List Nat := ((List.range n).map fun i => W (k + i)).filter fun x => !(x == 0)
theorem rfsW_zero (W : Nat → Nat) (k : Nat) : rfsW W k 0 = [] := rfl
theorem rfsW_step (W : Nat → Nat) (k n : Nat) : rfsW W k (n + 1) = rfsW W k n ++ (if W (k + n) = 0 then [] else [W (k + n)]) := by
  unfold rfsW
  rw [List.range_succ, List.map_append, List.filter_append]
  congr 1
  by_cases h : W (k + n) = 0
  · rw [if_pos h]; simp [h]
  · rw [if_neg h]; simp [h]
theorem rfsW_len (W : Nat → Nat) (k n : Nat) : (rfsW W k n).length ≤ n := by
  unfold rfsW
  refine Nat.le_trans (List.length_filter_le _ _) ?_
  simp
theorem sumU_app (xs : List Nat) (x : Nat) : sumU (xs ++ [x]) = (sumU xs + x) % 18446744073709551616 := by
  unfold sumU; rw [List.foldl_append]; rfl
def rfAllW (W : Nat → Nat) (k n : Nat) : Prop := ∀ i, i < n → rfOk (W (k + i))
open Classical in
/-- What scan answers: k is the first field's word. -/
noncomputable def scR (W : Nat → Nat) (k n : Nat) (u : Option Int) : List Value := if rfAllW W k n then rsC 0 (((rfsW W k n).length : Nat) : Int) (u.getD ((sumU (rfsW W k n) : Nat) : Int)) else rsC 9 0 0
theorem scR_ok {W : Nat → Nat} {k n : Nat} {u : Option Int} (h : rfAllW W k n) : scR W k n u = rsC 0 (((rfsW W k n).length : Nat) : Int) (u.getD ((sumU (rfsW W k n) : Nat) : Int)) := if_pos h
theorem scR_no {W : Nat → Nat} {k n : Nat} {u : Option Int} (h : ¬ rfAllW W k n) : scR W k n u = rsC 9 0 0 := if_neg h
set_option maxRecDepth 100000 in
set_option maxHeartbeats 2000000 in
theorem scanM (h : MM l E w) (a : Int) (hi : InH a) (fr te : Nat) (hft : fr ≤ te) (hto : wIx a + 1 + te ≤ 32768) (sm : Bool) : Calls Tryz.prog 102 #[.pointer (some ⟨l.m, 0, none⟩), .int .u64 a, .int .i64 (fr : Int), .int .i64 (te : Int), .bool sm] w fun e w' => e = .returned (.agg (scR E.W (wIx a + 1 + fr) (te - fr) (if sm then none else some (te : Int))).toArray) ∧ Hid (MD w l E w') := by
  have I0 := hid info_rs
  have HR := hid (fun (c : Int) (wz : World) => refM c wz)
  obtain ⟨p, hp⟩ : ∃ p, w.heap.size = p := ⟨_, rfl⟩
  have HX := hid (MX.start h hp)
  dsimp only [rsC, rsT] at HX
  clear h
  obtain ⟨k1, k2⟩ := wIx_of hi
  have HO := hid (fun wz => wofM' a hi.1 (by have := hi.2; omega) wz)
  rw [← k1] at HO
  generalize wIx a = k at *
  clear hi k1
  obtain ⟨n, rfl⟩ : ∃ n, te = fr + n := ⟨te - fr, by omega⟩
  rw [show fr + n - fr = n by omega]
  obtain ⟨f0, hf0⟩ : ∃ f0, k + 1 + fr = f0 := ⟨_, rfl⟩
  rw [hf0]
  obtain ⟨te, hto'⟩ : ∃ te, fr + n = te := ⟨_, rfl⟩
  rw [hto'] at hto ⊢
  obtain ⟨R, hR⟩ : ∃ R, scR E.W f0 n (if sm then none else some (te : Int)) = R := ⟨_, rfl⟩
  rw [hR]
  have HRR := hid hR
  clear hR
  go_enter Tryz.func102, Tryz.ntmps102
  go_upto_region 1 with fail
  (try simp only [hp])
  generalize hw2 : w.alloc _ = w2 at HX ⊢
  clear hw2 hp
  go_upto_region 3 with fail
  go_loopw [11, 12, 13] (fun t s u wr => ∃ q : Nat, u = .int .i64 ((fr + q : Nat) : Int) ∧ t = .int .u64 (((rfsW E.W f0 q).length : Nat) : Int) ∧ s = .int .u64 ((sumU (rfsW E.W f0 q) : Nat) : Int) ∧ q ≤ n ∧ Hid (rfAllW E.W f0 q ∧ MX w l E p wr)) (fun _ _ u _ => 32769 - (intOf u).toNat)
  case atStart => exact ⟨0, rfl, rfl, rfl, Nat.zero_le _, hid ⟨fun i hi => by omega, HX.out⟩⟩
  case round =>
  clear HX
  obtain ⟨q, rfl, rfl, rfl, hq, HK⟩ := hrel
  obtain ⟨i, hi⟩ : ∃ i, fr + q = i := ⟨_, rfl⟩
  rw [hi]
  have hl := rfsW_len E.W f0 q
  have hs := sumU_lt (rfsW E.W f0 q)
  by_cases hql : i < te
  · have dq : decide ((i : Int) < (te : Int)) = true := decide_eq_true (by omega)
    obtain ⟨y, hy⟩ : ∃ y, f0 + q = y := ⟨_, rfl⟩
    have ey : (k : Int) + 1 + (i : Int) = (y : Int) := by omega
    have hy2 : y < 32768 := by omega
    obtain ⟨x, hx⟩ : ∃ x, E.W y = x := ⟨_, rfl⟩
    have hxb : x < 18446744073709551616 := by rw [← hx]; exact HK.out.2.md.mm.wl y
    have Hst := hid (rfsW_step E.W f0 q)
    rw [hy, hx] at Hst
    have Hx : Hid (E.W (f0 + q) = x) := hid (by rw [hy]; exact hx)
    have HI := hid (fun wz => refOkM (x : Int) wz)
    go_upto_region 5 with fail
    obtain ⟨X', W, HTT, H0, hne, HCl⟩ := class_below wr
    have y1 : ∀ z, (W z).cell? ⟨l.m, 0, none⟩ = some (.slice (some ⟨l.w, 0, none⟩) 32768 32768) := fun z => (HK.out.2.below (HTT.out z)).md.mm.cells.1
    have y2 : ∀ z, (W z).cell? ⟨l.w, y, none⟩ = some (.int .u64 (x : Int)) := fun z => by rw [← hx]; exact (HK.out.2.below (HTT.out z)).md.mm.word hy2
    refine wp_region_class_lastT W rfl (by kernel_rfl) (by kernel_rfl) (by kernel_rfl) H0.out ?_
    dsimp only [List.dropLast, List.getLast]
    repeat (go_big_quiet_step (with_reducible exact Calls.class_same (HO.out _)))
    refine wpQuiet_nil ?_
    intro z
    have HZ : Hid (rfAllW E.W f0 q ∧ MX w l E p (W z)) := hid ⟨HK.out.1, HK.out.2.below (HTT.out z)⟩
    generalize W z = wz at HZ ⊢
    clear y1 y2 H0 HTT HCl hne HK hx hy
    by_cases hr : rfOk (x : Int)
    · rw [decide_eq_true hr] at HI
      have HN : Hid (rfAllW E.W f0 (q + 1) ∧ MX w l E p wz) := hid ⟨fun j hj => by
        by_cases e : j = q
        · rw [e, Hx.out]; exact hr
        · exact HZ.out.1 j (by omega), HZ.out.2⟩
      clear HZ hr Hx
      generalize rfsW E.W f0 q = xs at *
      by_cases h0 : x = 0
      · as_aux_lemma =>
        have d0 : ((x : Int) != 0) = false := by simp; omega
        have Hst2 : Hid (rfsW E.W f0 (q + 1) = xs) := hid (by rw [Hst.out, if_pos h0, List.append_nil])
        clear Hst h0
        obtain ⟨ln, hln⟩ : ∃ ln, xs.length = ln := ⟨_, rfl⟩
        obtain ⟨su, hsu⟩ : ∃ su, sumU xs = su := ⟨_, rfl⟩
        have HLn := hid hln
        have HSu := hid hsu
        rw [hln, hsu]
        rw [hln] at hl
        rw [hsu] at hs
        clear hln hsu
        (go_wp2_with fail; refine (HI.out _).mono ?_; rintro e_ w_ ⟨he_, hw_⟩; subst he_; have hs_ := hw_.symm; clear hw_; subst hs_)
        go_wp2
        exact ⟨⟨q + 1, by rw [show fr + (q + 1) = i + 1 by omega]; go_num, by rw [Hst2.out, HLn.out], by rw [Hst2.out, HSu.out], by omega, HN⟩, by simp [intOf]; omega⟩
      · as_aux_lemma =>
        have d0 : ((x : Int) != 0) = true := by simp; omega
        have Hst2 : Hid (rfsW E.W f0 (q + 1) = xs ++ [x]) := hid (by rw [Hst.out, if_neg h0])
        have HE : Hid (IntKind.u64.wrap (((sumU xs : Nat) : Int) + (x : Int)) = ((sumU (xs ++ [x]) : Nat) : Int)) := hid (by rw [sumU_app, IntKind.wrap_u64]; omega)
        clear Hst h0
        (go_wp2_with fail; refine (HI.out _).mono ?_; rintro e_ w_ ⟨he_, hw_⟩; subst he_; have hs_ := hw_.symm; clear hw_; subst hs_)
        go_wp2
        refine ⟨⟨q + 1, by rw [show fr + (q + 1) = i + 1 by omega]; go_num, ?_, ?_, by omega, HN⟩, by simp [intOf]; omega⟩
        · rw [Hst2.out, List.length_append]; go_num
        · rw [Hst2.out, ← HE.out]
    · as_aux_lemma =>
      rw [decide_eq_false hr] at HI
      have HR2 : Hid (R = rsC 9 0 0) := hid (by
        rw [← HRR.out]
        exact scR_no (fun ha => hr (by have := ha q (by omega); rw [Hx.out] at this; exact this)))
      have HX := hid HZ.out.2
      clear HZ hr Hx Hst
      (go_wp2_with fail; refine (HI.out _).mono ?_; rintro e_ w_ ⟨he_, hw_⟩; subst he_; have hs_ := hw_.symm; clear hw_; subst hs_)
      go_wp2_with fail
      refine (HR.out 9 _).mono ?_
      rintro e w3 ⟨rfl, hb3⟩
      have HX3 := hid (HX.out.below hb3)
      clear hb3 HX
      go_wp2_with (refine wpList_store_blk rfl 46 _ _ rfl p rfl (rsC 9 0 0) rfl HX3.out.b rfl I0.out (rsC_one _ _ _) ?_; intro w9 HB9 HU9)
      refine bodyPost_ret (results_blk (cs := (rsC 9 0 0)) Tryz.results102 rfl agg_rs HB9.out) rfl ?_
      exact ⟨by rw [HR2.out], hid (HX3.out.done HU9.out)⟩
  · have dq : decide ((i : Int) < (te : Int)) = false := decide_eq_false (by omega)
    have e0 : q = n := by omega
    have HR2 : Hid (R = rsC 0 (((rfsW E.W f0 q).length : Nat) : Int) ((if sm then none else some (te : Int)).getD ((sumU (rfsW E.W f0 q) : Nat) : Int))) := hid (by
      rw [← HRR.out, e0]
      rw [e0] at HK
      exact scR_ok HK.out.1)
    have HX := hid HK.out.2
    clear HK
    generalize (rfsW E.W f0 q).length = ln at *
    generalize sumU (rfsW E.W f0 q) = su at *
    cases sm with
    | true =>
      as_aux_lemma =>
      go_wp2_with fail
      refine (ansM (ln : Int) (su : Int) _).mono ?_
      rintro e w3 ⟨rfl, hb3⟩
      have HX3 := hid (HX.out.below hb3)
      clear hb3 HX
      go_wp2_with (refine wpList_store_blk rfl 46 _ _ rfl p rfl (rsC 0 (ln : Int) (su : Int)) rfl HX3.out.b rfl I0.out (rsC_one _ _ _) ?_; intro w9 HB9 HU9)
      refine bodyPost_ret (results_blk (cs := (rsC 0 (ln : Int) (su : Int))) Tryz.results102 rfl agg_rs HB9.out) rfl ?_
      exact ⟨by rw [HR2.out]; rfl, hid (HX3.out.done HU9.out)⟩
    | false =>
      as_aux_lemma =>
      go_wp2_with fail
      refine (ansM (ln : Int) (te : Int) _).mono ?_
      rintro e w3 ⟨rfl, hb3⟩
      have HX3 := hid (HX.out.below hb3)
      clear hb3 HX
      go_wp2_with (refine wpList_store_blk rfl 46 _ _ rfl p rfl (rsC 0 (ln : Int) (te : Int)) rfl HX3.out.b rfl I0.out (rsC_one _ _ _) ?_; intro w9 HB9 HU9)
      refine bodyPost_ret (results_blk (cs := (rsC 0 (ln : Int) (te : Int))) Tryz.results102 rfl agg_rs HB9.out) rfl ?_
      exact ⟨by rw [HR2.out]; rfl, hid (HX3.out.done HU9.out)⟩
end
end Go.Proofs.Qxb6500887aGreat
