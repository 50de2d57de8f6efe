/- The model's small functions. -/
import Derived.Test.Qxb6500884aClLstP
import Derived.Test.Qxb6500884aClTab
import Derived.Test.Qxb6500884aLastT
namespace Go.Proofs.Qxb6500884a
open Go.RowKit
set_option linter.unusedSimpArgs false
set_option linter.unusedVariables false

set_option maxRecDepth 100000 in
theorem mtruth_walk (b : Bool) (w : World) : Calls Try.prog 72 #[.bool b] w fun e w' => e = .returned (.agg (resC 0 true (bitI b)).toArray) ∧ Below w.heap.size w w' := by
  obtain ⟨r, hr⟩ : ∃ r, w.heap.size = r := ⟨_, rfl⟩
  have hb := Blk.new w (resC 0 false 0) 51
  rw [hr] at hb
  have HB := hid hb
  have HBe := hid (nbel w (.cells (resC 0 false 0).toArray 51))
  clear hb
  cases b with
  | true =>
    have I0 : Hid ((Try.prog.info? 51).map (·.size) = some (resC 0 true 1).length) := hid info_res
    go_enter Try.func72, Try.ntmps72
    go_wp2_with (refine wpList_store_blk rfl 51 _ _ rfl r rfl (resC 0 true 1) rfl HB.out rfl I0.out (res_one _ _ _) ?_; intro w9 HB9 HU9)
    exact bodyPost_ret (results_blk Try.results72 rfl (show AggOf Try.prog 51 (List.length (resC 0 true 1)) from aggRes) HB9.out) rfl ⟨rfl, HBe.out.trans (HU9.out.below (by omega) HBe.out.size)⟩
  | false =>
    have I0 : Hid ((Try.prog.info? 51).map (·.size) = some (resC 0 true 0).length) := hid info_res
    go_enter Try.func72, Try.ntmps72
    go_wp2_with (refine wpList_store_blk rfl 51 _ _ rfl r rfl (resC 0 true 0) rfl HB.out rfl I0.out (res_one _ _ _) ?_; intro w9 HB9 HU9)
    exact bodyPost_ret (results_blk Try.results72 rfl (show AggOf Try.prog 51 (List.length (resC 0 true 0)) from aggRes) HB9.out) rfl ⟨rfl, HBe.out.trans (HU9.out.below (by omega) HBe.out.size)⟩
set_option maxRecDepth 100000 in
theorem maybe_walk (v : Int) (ok : Bool) (w : World) : Calls Try.prog 74 #[.int .i64 v, .bool ok] w fun e w' => e = .returned (.agg (numR v ok).toArray) ∧ Below w.heap.size w w' := by
  obtain ⟨r, hr⟩ : ∃ r, w.heap.size = r := ⟨_, rfl⟩
  have hb := Blk.new w (resC 0 false 0) 51
  rw [hr] at hb
  have HB := hid hb
  have HBe := hid (nbel w (.cells (resC 0 false 0).toArray 51))
  clear hb
  cases ok with
  | true =>
    have I0 : Hid ((Try.prog.info? 51).map (·.size) = some (resC 0 true v).length) := hid info_res
    go_enter Try.func74, Try.ntmps74
    go_wp2_with (refine wpList_store_blk rfl 51 _ _ rfl r rfl (resC 0 true v) rfl HB.out rfl I0.out (res_one _ _ _) ?_; intro w9 HB9 HU9)
    exact bodyPost_ret (results_blk Try.results74 rfl (show AggOf Try.prog 51 (List.length (resC 0 true v)) from aggRes) HB9.out) rfl ⟨rfl, HBe.out.trans (HU9.out.below (by omega) HBe.out.size)⟩
  | false =>
    have I0 : Hid ((Try.prog.info? 51).map (·.size) = some (resC 0 false 0).length) := hid info_res
    go_enter Try.func74, Try.ntmps74
    go_wp2_with (refine wpList_store_blk rfl 51 _ _ rfl r rfl (resC 0 false 0) rfl HB.out rfl I0.out (res_one _ _ _) ?_; intro w9 HB9 HU9)
    exact bodyPost_ret (results_blk Try.results74 rfl (show AggOf Try.prog 51 (List.length (resC 0 false 0)) from aggRes) HB9.out) rfl ⟨rfl, HBe.out.trans (HU9.out.below (by omega) HBe.out.size)⟩
set_option maxRecDepth 100000 in
set_option maxHeartbeats 1000000 in
theorem mcount_walk (g : Nat) (f : Nat → Bool) (w : World) (h : Blk w g 4 (tabL f)) :
    Calls Try.prog 73 #[.slice (some ⟨g, 0, none⟩) 196608 196608] w fun e w' => e = .returned (.int .i64 (cntA f 196608)) ∧ w' = w := by
  have HG := hid h
  clear h
  go_enter Try.func73, Try.ntmps73
  go_upto_region 3 with fail
  go_loopw [3, 7] (fun v i wr => wr = w ∧ ∃ k : Nat, k ≤ 196608 ∧ i = .int .i64 k ∧ v = .int .i64 (cntA f k)) (fun _ i _ => 196608 - (intOf i).toNat)
  case atStart => exact ⟨rfl, 0, Nat.zero_le _, rfl, rfl⟩
  case round =>
    obtain ⟨rfl, k, hk, rfl, rfl⟩ := hrel
    have hrg := cntA_rng f k
    obtain ⟨m, hm⟩ : ∃ m, cntA f k = m := ⟨_, rfl⟩
    by_cases hlt : k < 196608
    · as_aux_lemma =>
      have dk : decide ((k : Int) < 196608) = true := decide_eq_true (by omega)
      have i1 : (k : Int) < 196608 := by omega
      obtain ⟨B, hB⟩ : ∃ B, f k = B := ⟨_, rfl⟩
      have cg : wr.cell? ⟨g, k, none⟩ = some (.bool B) := by rw [HG.out.cell, tabL_get _ hlt, hB]
      have hs : cntA f (k + 1) = if B = true then cntA f k + 1 else cntA f k := by rw [← hB]; rfl
      rw [hm] at hrg hs
      rw [hm]
      have Hs := hid hs
      clear hB hm hs
      have b1 : 0 ≤ m := hrg.1
      have b2 : m ≤ 196608 := by omega
      cases B with
      | true =>
        go_wp2
        exact ⟨⟨trivial, k + 1, by omega, by go_num, by rw [Hs.out]; go_num⟩, by simp [intOf]; omega⟩
      | false =>
        go_wp2
        exact ⟨⟨trivial, k + 1, by omega, by go_num, by rw [Hs.out]; rfl⟩, by simp [intOf]; omega⟩
    · as_aux_lemma =>
      have dk : decide ((k : Int) < 196608) = false := decide_eq_false (by omega)
      have hk2 : k = 196608 := by omega
      subst hk2
      go_wp2
      go_ret
      exact ⟨rfl, rfl⟩
set_option maxRecDepth 100000 in
set_option maxHeartbeats 1000000 in
theorem mmin_walk (g : Nat) (f : Nat → Bool) (w : World) (h : Blk w g 4 (tabL f)) :
    Calls Try.prog 75 #[.slice (some ⟨g, 0, none⟩) 196608 196608] w fun e w' => (∃ v ok, e = .returned (.tuple #[.int .i64 v, .bool ok]) ∧ ((ok = false ∧ v = 0 ∧ ∀ i : Nat, i < 196608 → f i = false) ∨ ∃ i : Nat, i < 196608 ∧ ok = true ∧ v = (i : Int) ∧ f i = true ∧ ∀ j : Nat, j < i → f j = false)) ∧ w' = w := by
  have HG := hid h
  clear h
  go_enter Try.func75, Try.ntmps75
  go_upto_region 2 with fail
  go_loopw [4] (fun i wr => wr = w ∧ ∃ k : Nat, k ≤ 196608 ∧ i = .int .i64 k ∧ Hid (∀ i, i < k → f i = false)) (fun i _ => 196608 - (intOf i).toNat)
  case atStart => exact ⟨rfl, 0, Nat.zero_le _, rfl, hid (fun i hi => by omega)⟩
  case round =>
    obtain ⟨rfl, k, hk, rfl, HE⟩ := hrel
    by_cases hlt : k < 196608
    · as_aux_lemma =>
      have dk : decide ((k : Int) ≤ 196607) = true := decide_eq_true (by omega)
      have i1 : (k : Int) < 196608 := by omega
      obtain ⟨B, hB⟩ : ∃ B, f k = B := ⟨_, rfl⟩
      have cg : wr.cell? ⟨g, k, none⟩ = some (.bool B) := by rw [HG.out.cell, tabL_get _ hlt, hB]
      have HBk := hid hB
      clear hB
      cases B with
      | true =>
        go_wp2
        refine bodyPost_ret (results_tmp2 Try.results75 _ _ _) rfl ?_
        exact ⟨⟨_, _, rfl, .inr ⟨k, hlt, rfl, rfl, HBk.out, HE.out⟩⟩, rfl⟩
      | false =>
        have HE2 : Hid (∀ i, i < k + 1 → f i = false) := hid (fun i hi => if e : i = k then e ▸ HBk.out else HE.out i (by omega))
        go_wp2
        exact ⟨⟨trivial, k + 1, by omega, by go_num, HE2⟩, by simp [intOf]; omega⟩
    · as_aux_lemma =>
      have dk : decide ((k : Int) ≤ 196607) = false := decide_eq_false (by omega)
      go_wp2
      refine bodyPost_ret (results_tmp2 Try.results75 _ _ _) rfl ?_
      exact ⟨⟨_, _, rfl, .inl ⟨rfl, rfl, fun i hi => HE.out i (by omega)⟩⟩, rfl⟩
set_option maxRecDepth 100000 in
set_option maxHeartbeats 1000000 in
theorem mmax_walk (g : Nat) (f : Nat → Bool) (w : World) (h : Blk w g 4 (tabL f)) :
    Calls Try.prog 76 #[.slice (some ⟨g, 0, none⟩) 196608 196608] w fun e w' => (∃ v ok, e = .returned (.tuple #[.int .i64 v, .bool ok]) ∧ ((ok = false ∧ v = 0 ∧ ∀ i : Nat, i < 196608 → f i = false) ∨ ∃ i : Nat, i < 196608 ∧ ok = true ∧ v = (i : Int) ∧ f i = true ∧ ∀ j : Nat, i < j → j < 196608 → f j = false)) ∧ w' = w := by
  have HG := hid h
  clear h
  go_enter Try.func76, Try.ntmps76
  go_upto_region 2 with fail
  go_loopw [4] (fun i wr => wr = w ∧ ∃ (k : Nat) (x : Int), k ≤ 196608 ∧ x = (k : Int) - 1 ∧ i = .int .i64 x ∧ Hid (∀ i, k ≤ i → i < 196608 → f i = false)) (fun i _ => (intOf i + 1).toNat)
  case atStart => exact ⟨rfl, 196608, 196607, by omega, by omega, rfl, hid (fun i h1 h2 => by omega)⟩
  case round =>
    obtain ⟨rfl, k, x, hk, hx, rfl, HE⟩ := hrel
    rcases Nat.eq_zero_or_pos k with hk0 | hk0
    · as_aux_lemma =>
      subst hk0
      have dx : decide (x ≥ 0) = false := decide_eq_false (by omega)
      have dx2 : decide (0 ≤ x) = false := decide_eq_false (by omega)
      clear hx
      go_wp2
      refine bodyPost_ret (results_tmp2 Try.results76 _ _ _) rfl ?_
      exact ⟨⟨_, _, rfl, .inl ⟨rfl, rfl, fun i hi => HE.out i (by omega) hi⟩⟩, rfl⟩
    · as_aux_lemma =>
      obtain ⟨y, rfl⟩ : ∃ y, k = y + 1 := ⟨k - 1, by omega⟩
      have hxy : x = (y : Int) := by omega
      subst hxy
      have hy : y < 196608 := by omega
      have hyi : (y : Int) < 196608 := by omega
      have dx : decide ((y : Int) ≥ 0) = true := decide_eq_true (by omega)
      have dx2 : decide (0 ≤ (y : Int)) = true := decide_eq_true (by omega)
      obtain ⟨B, hB⟩ : ∃ B, f y = B := ⟨_, rfl⟩
      have cg : wr.cell? ⟨g, y, none⟩ = some (.bool B) := by rw [HG.out.cell, tabL_get _ hy, hB]
      have HBk := hid hB
      clear hB hx
      cases B with
      | true =>
        go_wp2
        refine bodyPost_ret (results_tmp2 Try.results76 _ _ _) rfl ?_
        exact ⟨⟨_, _, rfl, .inr ⟨y, hy, rfl, rfl, HBk.out, fun j h1 h2 => HE.out j (by omega) h2⟩⟩, rfl⟩
      | false =>
        have HE2 : Hid (∀ i, y ≤ i → i < 196608 → f i = false) := hid (fun i h1 h2 => if e : i = y then e ▸ HBk.out else HE.out i (by omega) h2)
        go_wp2
        exact ⟨⟨trivial, y, (y : Int) - 1, by omega, rfl, by go_num, HE2⟩, by simp [intOf]⟩
set_option maxRecDepth 100000 in
theorem cl1_walk (a b : Bool) (w : World) : Calls Try.prog 66 #[.bool a, .bool b] w fun e w' => e = .returned (.bool (a || b)) ∧ w' = w := by
  cases a <;> cases b
  all_goals
    go_enter Try.func66, Try.ntmps66
    go_wp2
    go_ret
    exact ⟨rfl, rfl⟩
set_option maxRecDepth 100000 in
set_option maxHeartbeats 2000000 in
theorem comb1_walk (g1 g2 : Nat) (f1 f2 : Nat → Bool) (w : World) (h1 : Blk w g1 4 (tabL f1)) (h2 : Blk w g2 4 (tabL f2)) :
    Calls Try.prog 65 #[.slice (some ⟨g1, 0, none⟩) 196608 196608, .slice (some ⟨g2, 0, none⟩) 196608 196608, .func (.func 66) #[] #[]] w fun e w' => ∃ g, e = .returned (.slice (some ⟨g, 0, none⟩) 196608 196608) ∧ w.heap.size ≤ g ∧ Tb w g (fun i => (fun a b => a || b) (f1 i) (f2 i)) w' := by
  have HG1 := hid h1
  have HG2 := hid h2
  obtain ⟨g, hg⟩ : ∃ g, w.heap.size = g := ⟨_, rfl⟩
  have HT0 : Hid (Tb w g (fun _ => false) (w.alloc (.cells (tabL fun _ => false).toArray 4))) := hid ⟨nbel w _, by have := Blk.new w (tabL fun _ => false) 4; rw [hg] at this; exact this⟩
  have hgw : w.heap.size ≤ g := by omega
  have HNn := hid (none_walk w)
  rw [hg] at HNn
  clear h1 h2
  go_enter Try.func65, Try.ntmps65
  go_wp2_with fail
  refine (HNn.out).mono ?_
  rintro e w1 ⟨rfl, rfl⟩
  generalize w.alloc (.cells (tabL fun _ => false).toArray 4) = w1 at HT0 ⊢
  go_upto_region 3 with fail
  go_loopw [12] (fun i wr => ∃ k : Nat, k ≤ 196608 ∧ i = .int .i64 k ∧ Hid (Tb w g (fun i => decide (i < k) && (fun a b => a || b) (f1 i) (f2 i)) wr)) (fun i _ => 196608 - (intOf i).toNat)
  case atStart => exact ⟨0, by omega, rfl, hid (HT0.out.ext (fun i _ => by simp))⟩
  case round =>
    clear HT0
    obtain ⟨k, hk, rfl, HT⟩ := hrel
    by_cases hlt : k < 196608
    rotate_left
    · as_aux_lemma =>
      have dk : decide ((k : Int) < 196608) = false := decide_eq_false (by omega)
      have HTe := hid (HT.out.ext (f' := fun i => (fun a b => a || b) (f1 i) (f2 i)) (fun i hi => by rw [decide_eq_true (show i < k by omega), Bool.true_and]))
      go_wp2
      go_ret
      exact ⟨g, rfl, by omega, HTe.out⟩
    as_aux_lemma =>
    have dk : decide ((k : Int) < 196608) = true := decide_eq_true (by omega)
    have i2 : (k : Int) < 196608 := by omega
    obtain ⟨X, W, hT, hI⟩ := class_mk (Tb w g (fun i => decide (i < k) && (fun a b => a || b) (f1 i) (f2 i)))
    have H0 : Hid (∃ x, wr.drew = W x) := hid (hI _ (HT.out.below (Drew.below ⟨1, rfl⟩ _)))
    have hne : Nonempty X := ⟨H0.out.choose⟩
    obtain ⟨B1, hB1⟩ : ∃ B, f1 k = B := ⟨_, rfl⟩
    obtain ⟨B2, hB2⟩ : ∃ B, f2 k = B := ⟨_, rfl⟩
    have e1 : ∀ x, (W x).cell? ⟨g1, k, none⟩ = some (.bool B1) := fun x => by rw [(HG1.out.below (hT x).bel).cell, tabL_get _ hlt, hB1]
    have e2 : ∀ x, (W x).cell? ⟨g2, k, none⟩ = some (.bool B2) := fun x => by rw [(HG2.out.below (hT x).bel).cell, tabL_get _ hlt, hB2]
    obtain ⟨B, hB⟩ : ∃ B, (fun a b => a || b) B1 B2 = B := ⟨_, rfl⟩
    have HCo : Hid (∀ x, Calls Try.prog 66 #[.bool B1, .bool B2] (W x) fun e w' => e = .returned (.bool B) ∧ w' = W x) := hid (fun x => by rw [← hB]; exact cl1_walk B1 B2 (W x))
    have HTT := hid hT
    have HBv : Hid ((fun a b => a || b) (f1 k) (f2 k) = B) := hid (by rw [hB1, hB2]; exact hB)
    clear hT hI hB hB1 hB2
    go_upto_region 5 with fail
    refine wp_region_class_lastT W rfl (by kernel_rfl) (by kernel_rfl) (by kernel_rfl) H0.out ?_
    dsimp only [List.dropLast, List.getLast]
    repeat (go_big_quiet_step ((go_at_call 66; exact Calls.class_same (HCo.out _))))
    refine wpQuiet_nil ?_
    intro z
    have HZ := hid (HTT.out z)
    generalize W z = wz at HZ ⊢
    clear e1 e2 H0 HTT HCo
    have cg : wz.cell? ⟨g, k, none⟩ = some (.bool (decide (k < k) && (fun a b => a || b) (f1 k) (f2 k))) := by rw [HZ.out.blk.cell]; exact tabL_get _ hlt
    have fg := HZ.out.blk.frozen k
    have HZ2 : Hid (Tb w g (fun i => decide (i < k + 1) && (fun a b => a || b) (f1 i) (f2 i)) (wz.setCell ⟨g, k, none⟩ (.bool B))) := hid ((HZ.out.set hgw hlt B).ext (fun i hi => by
      by_cases h : i = k
      · subst h
        rw [if_pos rfl, decide_eq_true (by omega), Bool.true_and]
        exact HBv.out.symm
      · rw [if_neg h]
        have : decide (i < k) = decide (i < k + 1) := by rw [decide_eq_decide]; omega
        rw [this]))
    go_wp2
    exact ⟨⟨k + 1, by omega, by go_num, HZ2⟩, by simp [intOf]; omega⟩
set_option maxRecDepth 100000 in
theorem cl2_walk (a b : Bool) (w : World) : Calls Try.prog 67 #[.bool a, .bool b] w fun e w' => e = .returned (.bool (a || b)) ∧ w' = w := by
  cases a <;> cases b
  all_goals
    go_enter Try.func67, Try.ntmps67
    go_wp2
    go_ret
    exact ⟨rfl, rfl⟩
set_option maxRecDepth 100000 in
set_option maxHeartbeats 2000000 in
theorem comb2_walk (g1 g2 : Nat) (f1 f2 : Nat → Bool) (w : World) (h1 : Blk w g1 4 (tabL f1)) (h2 : Blk w g2 4 (tabL f2)) :
    Calls Try.prog 65 #[.slice (some ⟨g1, 0, none⟩) 196608 196608, .slice (some ⟨g2, 0, none⟩) 196608 196608, .func (.func 67) #[] #[]] w fun e w' => ∃ g, e = .returned (.slice (some ⟨g, 0, none⟩) 196608 196608) ∧ w.heap.size ≤ g ∧ Tb w g (fun i => (fun a b => a || b) (f1 i) (f2 i)) w' := by
  have HG1 := hid h1
  have HG2 := hid h2
  obtain ⟨g, hg⟩ : ∃ g, w.heap.size = g := ⟨_, rfl⟩
  have HT0 : Hid (Tb w g (fun _ => false) (w.alloc (.cells (tabL fun _ => false).toArray 4))) := hid ⟨nbel w _, by have := Blk.new w (tabL fun _ => false) 4; rw [hg] at this; exact this⟩
  have hgw : w.heap.size ≤ g := by omega
  have HNn := hid (none_walk w)
  rw [hg] at HNn
  clear h1 h2
  go_enter Try.func65, Try.ntmps65
  go_wp2_with fail
  refine (HNn.out).mono ?_
  rintro e w1 ⟨rfl, rfl⟩
  generalize w.alloc (.cells (tabL fun _ => false).toArray 4) = w1 at HT0 ⊢
  go_upto_region 3 with fail
  go_loopw [12] (fun i wr => ∃ k : Nat, k ≤ 196608 ∧ i = .int .i64 k ∧ Hid (Tb w g (fun i => decide (i < k) && (fun a b => a || b) (f1 i) (f2 i)) wr)) (fun i _ => 196608 - (intOf i).toNat)
  case atStart => exact ⟨0, by omega, rfl, hid (HT0.out.ext (fun i _ => by simp))⟩
  case round =>
    clear HT0
    obtain ⟨k, hk, rfl, HT⟩ := hrel
    by_cases hlt : k < 196608
    rotate_left
    · as_aux_lemma =>
      have dk : decide ((k : Int) < 196608) = false := decide_eq_false (by omega)
      have HTe := hid (HT.out.ext (f' := fun i => (fun a b => a || b) (f1 i) (f2 i)) (fun i hi => by rw [decide_eq_true (show i < k by omega), Bool.true_and]))
      go_wp2
      go_ret
      exact ⟨g, rfl, by omega, HTe.out⟩
    as_aux_lemma =>
    have dk : decide ((k : Int) < 196608) = true := decide_eq_true (by omega)
    have i2 : (k : Int) < 196608 := by omega
    obtain ⟨X, W, hT, hI⟩ := class_mk (Tb w g (fun i => decide (i < k) && (fun a b => a || b) (f1 i) (f2 i)))
    have H0 : Hid (∃ x, wr.drew = W x) := hid (hI _ (HT.out.below (Drew.below ⟨1, rfl⟩ _)))
    have hne : Nonempty X := ⟨H0.out.choose⟩
    obtain ⟨B1, hB1⟩ : ∃ B, f1 k = B := ⟨_, rfl⟩
    obtain ⟨B2, hB2⟩ : ∃ B, f2 k = B := ⟨_, rfl⟩
    have e1 : ∀ x, (W x).cell? ⟨g1, k, none⟩ = some (.bool B1) := fun x => by rw [(HG1.out.below (hT x).bel).cell, tabL_get _ hlt, hB1]
    have e2 : ∀ x, (W x).cell? ⟨g2, k, none⟩ = some (.bool B2) := fun x => by rw [(HG2.out.below (hT x).bel).cell, tabL_get _ hlt, hB2]
    obtain ⟨B, hB⟩ : ∃ B, (fun a b => a || b) B1 B2 = B := ⟨_, rfl⟩
    have HCo : Hid (∀ x, Calls Try.prog 67 #[.bool B1, .bool B2] (W x) fun e w' => e = .returned (.bool B) ∧ w' = W x) := hid (fun x => by rw [← hB]; exact cl2_walk B1 B2 (W x))
    have HTT := hid hT
    have HBv : Hid ((fun a b => a || b) (f1 k) (f2 k) = B) := hid (by rw [hB1, hB2]; exact hB)
    clear hT hI hB hB1 hB2
    go_upto_region 5 with fail
    refine wp_region_class_lastT W rfl (by kernel_rfl) (by kernel_rfl) (by kernel_rfl) H0.out ?_
    dsimp only [List.dropLast, List.getLast]
    repeat (go_big_quiet_step ((go_at_call 67; exact Calls.class_same (HCo.out _))))
    refine wpQuiet_nil ?_
    intro z
    have HZ := hid (HTT.out z)
    generalize W z = wz at HZ ⊢
    clear e1 e2 H0 HTT HCo
    have cg : wz.cell? ⟨g, k, none⟩ = some (.bool (decide (k < k) && (fun a b => a || b) (f1 k) (f2 k))) := by rw [HZ.out.blk.cell]; exact tabL_get _ hlt
    have fg := HZ.out.blk.frozen k
    have HZ2 : Hid (Tb w g (fun i => decide (i < k + 1) && (fun a b => a || b) (f1 i) (f2 i)) (wz.setCell ⟨g, k, none⟩ (.bool B))) := hid ((HZ.out.set hgw hlt B).ext (fun i hi => by
      by_cases h : i = k
      · subst h
        rw [if_pos rfl, decide_eq_true (by omega), Bool.true_and]
        exact HBv.out.symm
      · rw [if_neg h]
        have : decide (i < k) = decide (i < k + 1) := by rw [decide_eq_decide]; omega
        rw [this]))
    go_wp2
    exact ⟨⟨k + 1, by omega, by go_num, HZ2⟩, by simp [intOf]; omega⟩
set_option maxRecDepth 100000 in
theorem cl3_walk (a b : Bool) (w : World) : Calls Try.prog 68 #[.bool a, .bool b] w fun e w' => e = .returned (.bool (a && b)) ∧ w' = w := by
  cases a <;> cases b
  all_goals
    go_enter Try.func68, Try.ntmps68
    go_wp2
    go_ret
    exact ⟨rfl, rfl⟩
set_option maxRecDepth 100000 in
set_option maxHeartbeats 2000000 in
theorem comb3_walk (g1 g2 : Nat) (f1 f2 : Nat → Bool) (w : World) (h1 : Blk w g1 4 (tabL f1)) (h2 : Blk w g2 4 (tabL f2)) :
    Calls Try.prog 65 #[.slice (some ⟨g1, 0, none⟩) 196608 196608, .slice (some ⟨g2, 0, none⟩) 196608 196608, .func (.func 68) #[] #[]] w fun e w' => ∃ g, e = .returned (.slice (some ⟨g, 0, none⟩) 196608 196608) ∧ w.heap.size ≤ g ∧ Tb w g (fun i => (fun a b => a && b) (f1 i) (f2 i)) w' := by
  have HG1 := hid h1
  have HG2 := hid h2
  obtain ⟨g, hg⟩ : ∃ g, w.heap.size = g := ⟨_, rfl⟩
  have HT0 : Hid (Tb w g (fun _ => false) (w.alloc (.cells (tabL fun _ => false).toArray 4))) := hid ⟨nbel w _, by have := Blk.new w (tabL fun _ => false) 4; rw [hg] at this; exact this⟩
  have hgw : w.heap.size ≤ g := by omega
  have HNn := hid (none_walk w)
  rw [hg] at HNn
  clear h1 h2
  go_enter Try.func65, Try.ntmps65
  go_wp2_with fail
  refine (HNn.out).mono ?_
  rintro e w1 ⟨rfl, rfl⟩
  generalize w.alloc (.cells (tabL fun _ => false).toArray 4) = w1 at HT0 ⊢
  go_upto_region 3 with fail
  go_loopw [12] (fun i wr => ∃ k : Nat, k ≤ 196608 ∧ i = .int .i64 k ∧ Hid (Tb w g (fun i => decide (i < k) && (fun a b => a && b) (f1 i) (f2 i)) wr)) (fun i _ => 196608 - (intOf i).toNat)
  case atStart => exact ⟨0, by omega, rfl, hid (HT0.out.ext (fun i _ => by simp))⟩
  case round =>
    clear HT0
    obtain ⟨k, hk, rfl, HT⟩ := hrel
    by_cases hlt : k < 196608
    rotate_left
    · as_aux_lemma =>
      have dk : decide ((k : Int) < 196608) = false := decide_eq_false (by omega)
      have HTe := hid (HT.out.ext (f' := fun i => (fun a b => a && b) (f1 i) (f2 i)) (fun i hi => by rw [decide_eq_true (show i < k by omega), Bool.true_and]))
      go_wp2
      go_ret
      exact ⟨g, rfl, by omega, HTe.out⟩
    as_aux_lemma =>
    have dk : decide ((k : Int) < 196608) = true := decide_eq_true (by omega)
    have i2 : (k : Int) < 196608 := by omega
    obtain ⟨X, W, hT, hI⟩ := class_mk (Tb w g (fun i => decide (i < k) && (fun a b => a && b) (f1 i) (f2 i)))
    have H0 : Hid (∃ x, wr.drew = W x) := hid (hI _ (HT.out.below (Drew.below ⟨1, rfl⟩ _)))
    have hne : Nonempty X := ⟨H0.out.choose⟩
    obtain ⟨B1, hB1⟩ : ∃ B, f1 k = B := ⟨_, rfl⟩
    obtain ⟨B2, hB2⟩ : ∃ B, f2 k = B := ⟨_, rfl⟩
    have e1 : ∀ x, (W x).cell? ⟨g1, k, none⟩ = some (.bool B1) := fun x => by rw [(HG1.out.below (hT x).bel).cell, tabL_get _ hlt, hB1]
    have e2 : ∀ x, (W x).cell? ⟨g2, k, none⟩ = some (.bool B2) := fun x => by rw [(HG2.out.below (hT x).bel).cell, tabL_get _ hlt, hB2]
    obtain ⟨B, hB⟩ : ∃ B, (fun a b => a && b) B1 B2 = B := ⟨_, rfl⟩
    have HCo : Hid (∀ x, Calls Try.prog 68 #[.bool B1, .bool B2] (W x) fun e w' => e = .returned (.bool B) ∧ w' = W x) := hid (fun x => by rw [← hB]; exact cl3_walk B1 B2 (W x))
    have HTT := hid hT
    have HBv : Hid ((fun a b => a && b) (f1 k) (f2 k) = B) := hid (by rw [hB1, hB2]; exact hB)
    clear hT hI hB hB1 hB2
    go_upto_region 5 with fail
    refine wp_region_class_lastT W rfl (by kernel_rfl) (by kernel_rfl) (by kernel_rfl) H0.out ?_
    dsimp only [List.dropLast, List.getLast]
    repeat (go_big_quiet_step ((go_at_call 68; exact Calls.class_same (HCo.out _))))
    refine wpQuiet_nil ?_
    intro z
    have HZ := hid (HTT.out z)
    generalize W z = wz at HZ ⊢
    clear e1 e2 H0 HTT HCo
    have cg : wz.cell? ⟨g, k, none⟩ = some (.bool (decide (k < k) && (fun a b => a && b) (f1 k) (f2 k))) := by rw [HZ.out.blk.cell]; exact tabL_get _ hlt
    have fg := HZ.out.blk.frozen k
    have HZ2 : Hid (Tb w g (fun i => decide (i < k + 1) && (fun a b => a && b) (f1 i) (f2 i)) (wz.setCell ⟨g, k, none⟩ (.bool B))) := hid ((HZ.out.set hgw hlt B).ext (fun i hi => by
      by_cases h : i = k
      · subst h
        rw [if_pos rfl, decide_eq_true (by omega), Bool.true_and]
        exact HBv.out.symm
      · rw [if_neg h]
        have : decide (i < k) = decide (i < k + 1) := by rw [decide_eq_decide]; omega
        rw [this]))
    go_wp2
    exact ⟨⟨k + 1, by omega, by go_num, HZ2⟩, by simp [intOf]; omega⟩
set_option maxRecDepth 100000 in
theorem cl4_walk (a b : Bool) (w : World) : Calls Try.prog 69 #[.bool a, .bool b] w fun e w' => e = .returned (.bool (a && !b)) ∧ w' = w := by
  cases a <;> cases b
  all_goals
    go_enter Try.func69, Try.ntmps69
    go_wp2
    go_ret
    exact ⟨rfl, rfl⟩
set_option maxRecDepth 100000 in
set_option maxHeartbeats 2000000 in
theorem comb4_walk (g1 g2 : Nat) (f1 f2 : Nat → Bool) (w : World) (h1 : Blk w g1 4 (tabL f1)) (h2 : Blk w g2 4 (tabL f2)) :
    Calls Try.prog 65 #[.slice (some ⟨g1, 0, none⟩) 196608 196608, .slice (some ⟨g2, 0, none⟩) 196608 196608, .func (.func 69) #[] #[]] w fun e w' => ∃ g, e = .returned (.slice (some ⟨g, 0, none⟩) 196608 196608) ∧ w.heap.size ≤ g ∧ Tb w g (fun i => (fun a b => a && !b) (f1 i) (f2 i)) w' := by
  have HG1 := hid h1
  have HG2 := hid h2
  obtain ⟨g, hg⟩ : ∃ g, w.heap.size = g := ⟨_, rfl⟩
  have HT0 : Hid (Tb w g (fun _ => false) (w.alloc (.cells (tabL fun _ => false).toArray 4))) := hid ⟨nbel w _, by have := Blk.new w (tabL fun _ => false) 4; rw [hg] at this; exact this⟩
  have hgw : w.heap.size ≤ g := by omega
  have HNn := hid (none_walk w)
  rw [hg] at HNn
  clear h1 h2
  go_enter Try.func65, Try.ntmps65
  go_wp2_with fail
  refine (HNn.out).mono ?_
  rintro e w1 ⟨rfl, rfl⟩
  generalize w.alloc (.cells (tabL fun _ => false).toArray 4) = w1 at HT0 ⊢
  go_upto_region 3 with fail
  go_loopw [12] (fun i wr => ∃ k : Nat, k ≤ 196608 ∧ i = .int .i64 k ∧ Hid (Tb w g (fun i => decide (i < k) && (fun a b => a && !b) (f1 i) (f2 i)) wr)) (fun i _ => 196608 - (intOf i).toNat)
  case atStart => exact ⟨0, by omega, rfl, hid (HT0.out.ext (fun i _ => by simp))⟩
  case round =>
    clear HT0
    obtain ⟨k, hk, rfl, HT⟩ := hrel
    by_cases hlt : k < 196608
    rotate_left
    · as_aux_lemma =>
      have dk : decide ((k : Int) < 196608) = false := decide_eq_false (by omega)
      have HTe := hid (HT.out.ext (f' := fun i => (fun a b => a && !b) (f1 i) (f2 i)) (fun i hi => by rw [decide_eq_true (show i < k by omega), Bool.true_and]))
      go_wp2
      go_ret
      exact ⟨g, rfl, by omega, HTe.out⟩
    as_aux_lemma =>
    have dk : decide ((k : Int) < 196608) = true := decide_eq_true (by omega)
    have i2 : (k : Int) < 196608 := by omega
    obtain ⟨X, W, hT, hI⟩ := class_mk (Tb w g (fun i => decide (i < k) && (fun a b => a && !b) (f1 i) (f2 i)))
    have H0 : Hid (∃ x, wr.drew = W x) := hid (hI _ (HT.out.below (Drew.below ⟨1, rfl⟩ _)))
    have hne : Nonempty X := ⟨H0.out.choose⟩
    obtain ⟨B1, hB1⟩ : ∃ B, f1 k = B := ⟨_, rfl⟩
    obtain ⟨B2, hB2⟩ : ∃ B, f2 k = B := ⟨_, rfl⟩
    have e1 : ∀ x, (W x).cell? ⟨g1, k, none⟩ = some (.bool B1) := fun x => by rw [(HG1.out.below (hT x).bel).cell, tabL_get _ hlt, hB1]
    have e2 : ∀ x, (W x).cell? ⟨g2, k, none⟩ = some (.bool B2) := fun x => by rw [(HG2.out.below (hT x).bel).cell, tabL_get _ hlt, hB2]
    obtain ⟨B, hB⟩ : ∃ B, (fun a b => a && !b) B1 B2 = B := ⟨_, rfl⟩
    have HCo : Hid (∀ x, Calls Try.prog 69 #[.bool B1, .bool B2] (W x) fun e w' => e = .returned (.bool B) ∧ w' = W x) := hid (fun x => by rw [← hB]; exact cl4_walk B1 B2 (W x))
    have HTT := hid hT
    have HBv : Hid ((fun a b => a && !b) (f1 k) (f2 k) = B) := hid (by rw [hB1, hB2]; exact hB)
    clear hT hI hB hB1 hB2
    go_upto_region 5 with fail
    refine wp_region_class_lastT W rfl (by kernel_rfl) (by kernel_rfl) (by kernel_rfl) H0.out ?_
    dsimp only [List.dropLast, List.getLast]
    repeat (go_big_quiet_step ((go_at_call 69; exact Calls.class_same (HCo.out _))))
    refine wpQuiet_nil ?_
    intro z
    have HZ := hid (HTT.out z)
    generalize W z = wz at HZ ⊢
    clear e1 e2 H0 HTT HCo
    have cg : wz.cell? ⟨g, k, none⟩ = some (.bool (decide (k < k) && (fun a b => a && !b) (f1 k) (f2 k))) := by rw [HZ.out.blk.cell]; exact tabL_get _ hlt
    have fg := HZ.out.blk.frozen k
    have HZ2 : Hid (Tb w g (fun i => decide (i < k + 1) && (fun a b => a && !b) (f1 i) (f2 i)) (wz.setCell ⟨g, k, none⟩ (.bool B))) := hid ((HZ.out.set hgw hlt B).ext (fun i hi => by
      by_cases h : i = k
      · subst h
        rw [if_pos rfl, decide_eq_true (by omega), Bool.true_and]
        exact HBv.out.symm
      · rw [if_neg h]
        have : decide (i < k) = decide (i < k + 1) := by rw [decide_eq_decide]; omega
        rw [this]))
    go_wp2
    exact ⟨⟨k + 1, by omega, by go_num, HZ2⟩, by simp [intOf]; omega⟩
set_option maxRecDepth 100000 in
theorem cl5_walk (a b : Bool) (w : World) : Calls Try.prog 70 #[.bool a, .bool b] w fun e w' => e = .returned (.bool (a != b)) ∧ w' = w := by
  cases a <;> cases b
  all_goals
    go_enter Try.func70, Try.ntmps70
    go_wp2
    go_ret
    exact ⟨rfl, rfl⟩
set_option maxRecDepth 100000 in
set_option maxHeartbeats 2000000 in
theorem comb5_walk (g1 g2 : Nat) (f1 f2 : Nat → Bool) (w : World) (h1 : Blk w g1 4 (tabL f1)) (h2 : Blk w g2 4 (tabL f2)) :
    Calls Try.prog 65 #[.slice (some ⟨g1, 0, none⟩) 196608 196608, .slice (some ⟨g2, 0, none⟩) 196608 196608, .func (.func 70) #[] #[]] w fun e w' => ∃ g, e = .returned (.slice (some ⟨g, 0, none⟩) 196608 196608) ∧ w.heap.size ≤ g ∧ Tb w g (fun i => (fun a b => a != b) (f1 i) (f2 i)) w' := by
  have HG1 := hid h1
  have HG2 := hid h2
  obtain ⟨g, hg⟩ : ∃ g, w.heap.size = g := ⟨_, rfl⟩
  have HT0 : Hid (Tb w g (fun _ => false) (w.alloc (.cells (tabL fun _ => false).toArray 4))) := hid ⟨nbel w _, by have := Blk.new w (tabL fun _ => false) 4; rw [hg] at this; exact this⟩
  have hgw : w.heap.size ≤ g := by omega
  have HNn := hid (none_walk w)
  rw [hg] at HNn
  clear h1 h2
  go_enter Try.func65, Try.ntmps65
  go_wp2_with fail
  refine (HNn.out).mono ?_
  rintro e w1 ⟨rfl, rfl⟩
  generalize w.alloc (.cells (tabL fun _ => false).toArray 4) = w1 at HT0 ⊢
  go_upto_region 3 with fail
  go_loopw [12] (fun i wr => ∃ k : Nat, k ≤ 196608 ∧ i = .int .i64 k ∧ Hid (Tb w g (fun i => decide (i < k) && (fun a b => a != b) (f1 i) (f2 i)) wr)) (fun i _ => 196608 - (intOf i).toNat)
  case atStart => exact ⟨0, by omega, rfl, hid (HT0.out.ext (fun i _ => by simp))⟩
  case round =>
    clear HT0
    obtain ⟨k, hk, rfl, HT⟩ := hrel
    by_cases hlt : k < 196608
    rotate_left
    · as_aux_lemma =>
      have dk : decide ((k : Int) < 196608) = false := decide_eq_false (by omega)
      have HTe := hid (HT.out.ext (f' := fun i => (fun a b => a != b) (f1 i) (f2 i)) (fun i hi => by rw [decide_eq_true (show i < k by omega), Bool.true_and]))
      go_wp2
      go_ret
      exact ⟨g, rfl, by omega, HTe.out⟩
    as_aux_lemma =>
    have dk : decide ((k : Int) < 196608) = true := decide_eq_true (by omega)
    have i2 : (k : Int) < 196608 := by omega
    obtain ⟨X, W, hT, hI⟩ := class_mk (Tb w g (fun i => decide (i < k) && (fun a b => a != b) (f1 i) (f2 i)))
    have H0 : Hid (∃ x, wr.drew = W x) := hid (hI _ (HT.out.below (Drew.below ⟨1, rfl⟩ _)))
    have hne : Nonempty X := ⟨H0.out.choose⟩
    obtain ⟨B1, hB1⟩ : ∃ B, f1 k = B := ⟨_, rfl⟩
    obtain ⟨B2, hB2⟩ : ∃ B, f2 k = B := ⟨_, rfl⟩
    have e1 : ∀ x, (W x).cell? ⟨g1, k, none⟩ = some (.bool B1) := fun x => by rw [(HG1.out.below (hT x).bel).cell, tabL_get _ hlt, hB1]
    have e2 : ∀ x, (W x).cell? ⟨g2, k, none⟩ = some (.bool B2) := fun x => by rw [(HG2.out.below (hT x).bel).cell, tabL_get _ hlt, hB2]
    obtain ⟨B, hB⟩ : ∃ B, (fun a b => a != b) B1 B2 = B := ⟨_, rfl⟩
    have HCo : Hid (∀ x, Calls Try.prog 70 #[.bool B1, .bool B2] (W x) fun e w' => e = .returned (.bool B) ∧ w' = W x) := hid (fun x => by rw [← hB]; exact cl5_walk B1 B2 (W x))
    have HTT := hid hT
    have HBv : Hid ((fun a b => a != b) (f1 k) (f2 k) = B) := hid (by rw [hB1, hB2]; exact hB)
    clear hT hI hB hB1 hB2
    go_upto_region 5 with fail
    refine wp_region_class_lastT W rfl (by kernel_rfl) (by kernel_rfl) (by kernel_rfl) H0.out ?_
    dsimp only [List.dropLast, List.getLast]
    repeat (go_big_quiet_step ((go_at_call 70; exact Calls.class_same (HCo.out _))))
    refine wpQuiet_nil ?_
    intro z
    have HZ := hid (HTT.out z)
    generalize W z = wz at HZ ⊢
    clear e1 e2 H0 HTT HCo
    have cg : wz.cell? ⟨g, k, none⟩ = some (.bool (decide (k < k) && (fun a b => a != b) (f1 k) (f2 k))) := by rw [HZ.out.blk.cell]; exact tabL_get _ hlt
    have fg := HZ.out.blk.frozen k
    have HZ2 : Hid (Tb w g (fun i => decide (i < k + 1) && (fun a b => a != b) (f1 i) (f2 i)) (wz.setCell ⟨g, k, none⟩ (.bool B))) := hid ((HZ.out.set hgw hlt B).ext (fun i hi => by
      by_cases h : i = k
      · subst h
        rw [if_pos rfl, decide_eq_true (by omega), Bool.true_and]
        exact HBv.out.symm
      · rw [if_neg h]
        have : decide (i < k) = decide (i < k + 1) := by rw [decide_eq_decide]; omega
        rw [this]))
    go_wp2
    exact ⟨⟨k + 1, by omega, by go_num, HZ2⟩, by simp [intOf]; omega⟩
set_option maxRecDepth 100000 in
theorem cl6_walk (a b : Bool) (w : World) : Calls Try.prog 71 #[.bool a, .bool b] w fun e w' => e = .returned (.bool (!a)) ∧ w' = w := by
  cases a <;> cases b
  all_goals
    go_enter Try.func71, Try.ntmps71
    go_wp2
    go_ret
    exact ⟨rfl, rfl⟩
set_option maxRecDepth 100000 in
set_option maxHeartbeats 2000000 in
theorem comb6_walk (g1 g2 : Nat) (f1 f2 : Nat → Bool) (w : World) (h1 : Blk w g1 4 (tabL f1)) (h2 : Blk w g2 4 (tabL f2)) :
    Calls Try.prog 65 #[.slice (some ⟨g1, 0, none⟩) 196608 196608, .slice (some ⟨g2, 0, none⟩) 196608 196608, .func (.func 71) #[] #[]] w fun e w' => ∃ g, e = .returned (.slice (some ⟨g, 0, none⟩) 196608 196608) ∧ w.heap.size ≤ g ∧ Tb w g (fun i => (fun a b => !a) (f1 i) (f2 i)) w' := by
  have HG1 := hid h1
  have HG2 := hid h2
  obtain ⟨g, hg⟩ : ∃ g, w.heap.size = g := ⟨_, rfl⟩
  have HT0 : Hid (Tb w g (fun _ => false) (w.alloc (.cells (tabL fun _ => false).toArray 4))) := hid ⟨nbel w _, by have := Blk.new w (tabL fun _ => false) 4; rw [hg] at this; exact this⟩
  have hgw : w.heap.size ≤ g := by omega
  have HNn := hid (none_walk w)
  rw [hg] at HNn
  clear h1 h2
  go_enter Try.func65, Try.ntmps65
  go_wp2_with fail
  refine (HNn.out).mono ?_
  rintro e w1 ⟨rfl, rfl⟩
  generalize w.alloc (.cells (tabL fun _ => false).toArray 4) = w1 at HT0 ⊢
  go_upto_region 3 with fail
  go_loopw [12] (fun i wr => ∃ k : Nat, k ≤ 196608 ∧ i = .int .i64 k ∧ Hid (Tb w g (fun i => decide (i < k) && (fun a b => !a) (f1 i) (f2 i)) wr)) (fun i _ => 196608 - (intOf i).toNat)
  case atStart => exact ⟨0, by omega, rfl, hid (HT0.out.ext (fun i _ => by simp))⟩
  case round =>
    clear HT0
    obtain ⟨k, hk, rfl, HT⟩ := hrel
    by_cases hlt : k < 196608
    rotate_left
    · as_aux_lemma =>
      have dk : decide ((k : Int) < 196608) = false := decide_eq_false (by omega)
      have HTe := hid (HT.out.ext (f' := fun i => (fun a b => !a) (f1 i) (f2 i)) (fun i hi => by rw [decide_eq_true (show i < k by omega), Bool.true_and]))
      go_wp2
      go_ret
      exact ⟨g, rfl, by omega, HTe.out⟩
    as_aux_lemma =>
    have dk : decide ((k : Int) < 196608) = true := decide_eq_true (by omega)
    have i2 : (k : Int) < 196608 := by omega
    obtain ⟨X, W, hT, hI⟩ := class_mk (Tb w g (fun i => decide (i < k) && (fun a b => !a) (f1 i) (f2 i)))
    have H0 : Hid (∃ x, wr.drew = W x) := hid (hI _ (HT.out.below (Drew.below ⟨1, rfl⟩ _)))
    have hne : Nonempty X := ⟨H0.out.choose⟩
    obtain ⟨B1, hB1⟩ : ∃ B, f1 k = B := ⟨_, rfl⟩
    obtain ⟨B2, hB2⟩ : ∃ B, f2 k = B := ⟨_, rfl⟩
    have e1 : ∀ x, (W x).cell? ⟨g1, k, none⟩ = some (.bool B1) := fun x => by rw [(HG1.out.below (hT x).bel).cell, tabL_get _ hlt, hB1]
    have e2 : ∀ x, (W x).cell? ⟨g2, k, none⟩ = some (.bool B2) := fun x => by rw [(HG2.out.below (hT x).bel).cell, tabL_get _ hlt, hB2]
    obtain ⟨B, hB⟩ : ∃ B, (fun a b => !a) B1 B2 = B := ⟨_, rfl⟩
    have HCo : Hid (∀ x, Calls Try.prog 71 #[.bool B1, .bool B2] (W x) fun e w' => e = .returned (.bool B) ∧ w' = W x) := hid (fun x => by rw [← hB]; exact cl6_walk B1 B2 (W x))
    have HTT := hid hT
    have HBv : Hid ((fun a b => !a) (f1 k) (f2 k) = B) := hid (by rw [hB1, hB2]; exact hB)
    clear hT hI hB hB1 hB2
    go_upto_region 5 with fail
    refine wp_region_class_lastT W rfl (by kernel_rfl) (by kernel_rfl) (by kernel_rfl) H0.out ?_
    dsimp only [List.dropLast, List.getLast]
    repeat (go_big_quiet_step ((go_at_call 71; exact Calls.class_same (HCo.out _))))
    refine wpQuiet_nil ?_
    intro z
    have HZ := hid (HTT.out z)
    generalize W z = wz at HZ ⊢
    clear e1 e2 H0 HTT HCo
    have cg : wz.cell? ⟨g, k, none⟩ = some (.bool (decide (k < k) && (fun a b => !a) (f1 k) (f2 k))) := by rw [HZ.out.blk.cell]; exact tabL_get _ hlt
    have fg := HZ.out.blk.frozen k
    have HZ2 : Hid (Tb w g (fun i => decide (i < k + 1) && (fun a b => !a) (f1 i) (f2 i)) (wz.setCell ⟨g, k, none⟩ (.bool B))) := hid ((HZ.out.set hgw hlt B).ext (fun i hi => by
      by_cases h : i = k
      · subst h
        rw [if_pos rfl, decide_eq_true (by omega), Bool.true_and]
        exact HBv.out.symm
      · rw [if_neg h]
        have : decide (i < k) = decide (i < k + 1) := by rw [decide_eq_decide]; omega
        rw [this]))
    go_wp2
    exact ⟨⟨k + 1, by omega, by go_num, HZ2⟩, by simp [intOf]; omega⟩
set_option maxRecDepth 100000 in
theorem cl7_walk (a b : Bool) (w : World) : Calls Try.prog 77 #[.bool a, .bool b] w fun e w' => e = .returned (.bool (a != b)) ∧ w' = w := by
  cases a <;> cases b
  all_goals
    go_enter Try.func77, Try.ntmps77
    go_wp2
    go_ret
    exact ⟨rfl, rfl⟩
set_option maxRecDepth 100000 in
set_option maxHeartbeats 2000000 in
theorem comb7_walk (g1 g2 : Nat) (f1 f2 : Nat → Bool) (w : World) (h1 : Blk w g1 4 (tabL f1)) (h2 : Blk w g2 4 (tabL f2)) :
    Calls Try.prog 65 #[.slice (some ⟨g1, 0, none⟩) 196608 196608, .slice (some ⟨g2, 0, none⟩) 196608 196608, .func (.func 77) #[] #[]] w fun e w' => ∃ g, e = .returned (.slice (some ⟨g, 0, none⟩) 196608 196608) ∧ w.heap.size ≤ g ∧ Tb w g (fun i => (fun a b => a != b) (f1 i) (f2 i)) w' := by
  have HG1 := hid h1
  have HG2 := hid h2
  obtain ⟨g, hg⟩ : ∃ g, w.heap.size = g := ⟨_, rfl⟩
  have HT0 : Hid (Tb w g (fun _ => false) (w.alloc (.cells (tabL fun _ => false).toArray 4))) := hid ⟨nbel w _, by have := Blk.new w (tabL fun _ => false) 4; rw [hg] at this; exact this⟩
  have hgw : w.heap.size ≤ g := by omega
  have HNn := hid (none_walk w)
  rw [hg] at HNn
  clear h1 h2
  go_enter Try.func65, Try.ntmps65
  go_wp2_with fail
  refine (HNn.out).mono ?_
  rintro e w1 ⟨rfl, rfl⟩
  generalize w.alloc (.cells (tabL fun _ => false).toArray 4) = w1 at HT0 ⊢
  go_upto_region 3 with fail
  go_loopw [12] (fun i wr => ∃ k : Nat, k ≤ 196608 ∧ i = .int .i64 k ∧ Hid (Tb w g (fun i => decide (i < k) && (fun a b => a != b) (f1 i) (f2 i)) wr)) (fun i _ => 196608 - (intOf i).toNat)
  case atStart => exact ⟨0, by omega, rfl, hid (HT0.out.ext (fun i _ => by simp))⟩
  case round =>
    clear HT0
    obtain ⟨k, hk, rfl, HT⟩ := hrel
    by_cases hlt : k < 196608
    rotate_left
    · as_aux_lemma =>
      have dk : decide ((k : Int) < 196608) = false := decide_eq_false (by omega)
      have HTe := hid (HT.out.ext (f' := fun i => (fun a b => a != b) (f1 i) (f2 i)) (fun i hi => by rw [decide_eq_true (show i < k by omega), Bool.true_and]))
      go_wp2
      go_ret
      exact ⟨g, rfl, by omega, HTe.out⟩
    as_aux_lemma =>
    have dk : decide ((k : Int) < 196608) = true := decide_eq_true (by omega)
    have i2 : (k : Int) < 196608 := by omega
    obtain ⟨X, W, hT, hI⟩ := class_mk (Tb w g (fun i => decide (i < k) && (fun a b => a != b) (f1 i) (f2 i)))
    have H0 : Hid (∃ x, wr.drew = W x) := hid (hI _ (HT.out.below (Drew.below ⟨1, rfl⟩ _)))
    have hne : Nonempty X := ⟨H0.out.choose⟩
    obtain ⟨B1, hB1⟩ : ∃ B, f1 k = B := ⟨_, rfl⟩
    obtain ⟨B2, hB2⟩ : ∃ B, f2 k = B := ⟨_, rfl⟩
    have e1 : ∀ x, (W x).cell? ⟨g1, k, none⟩ = some (.bool B1) := fun x => by rw [(HG1.out.below (hT x).bel).cell, tabL_get _ hlt, hB1]
    have e2 : ∀ x, (W x).cell? ⟨g2, k, none⟩ = some (.bool B2) := fun x => by rw [(HG2.out.below (hT x).bel).cell, tabL_get _ hlt, hB2]
    obtain ⟨B, hB⟩ : ∃ B, (fun a b => a != b) B1 B2 = B := ⟨_, rfl⟩
    have HCo : Hid (∀ x, Calls Try.prog 77 #[.bool B1, .bool B2] (W x) fun e w' => e = .returned (.bool B) ∧ w' = W x) := hid (fun x => by rw [← hB]; exact cl7_walk B1 B2 (W x))
    have HTT := hid hT
    have HBv : Hid ((fun a b => a != b) (f1 k) (f2 k) = B) := hid (by rw [hB1, hB2]; exact hB)
    clear hT hI hB hB1 hB2
    go_upto_region 5 with fail
    refine wp_region_class_lastT W rfl (by kernel_rfl) (by kernel_rfl) (by kernel_rfl) H0.out ?_
    dsimp only [List.dropLast, List.getLast]
    repeat (go_big_quiet_step ((go_at_call 77; exact Calls.class_same (HCo.out _))))
    refine wpQuiet_nil ?_
    intro z
    have HZ := hid (HTT.out z)
    generalize W z = wz at HZ ⊢
    clear e1 e2 H0 HTT HCo
    have cg : wz.cell? ⟨g, k, none⟩ = some (.bool (decide (k < k) && (fun a b => a != b) (f1 k) (f2 k))) := by rw [HZ.out.blk.cell]; exact tabL_get _ hlt
    have fg := HZ.out.blk.frozen k
    have HZ2 : Hid (Tb w g (fun i => decide (i < k + 1) && (fun a b => a != b) (f1 i) (f2 i)) (wz.setCell ⟨g, k, none⟩ (.bool B))) := hid ((HZ.out.set hgw hlt B).ext (fun i hi => by
      by_cases h : i = k
      · subst h
        rw [if_pos rfl, decide_eq_true (by omega), Bool.true_and]
        exact HBv.out.symm
      · rw [if_neg h]
        have : decide (i < k) = decide (i < k + 1) := by rw [decide_eq_decide]; omega
        rw [this]))
    go_wp2
    exact ⟨⟨k + 1, by omega, by go_num, HZ2⟩, by simp [intOf]; omega⟩
set_option maxRecDepth 100000 in
theorem cl8_walk (a b : Bool) (w : World) : Calls Try.prog 78 #[.bool a, .bool b] w fun e w' => e = .returned (.bool (a && !b)) ∧ w' = w := by
  cases a <;> cases b
  all_goals
    go_enter Try.func78, Try.ntmps78
    go_wp2
    go_ret
    exact ⟨rfl, rfl⟩
set_option maxRecDepth 100000 in
set_option maxHeartbeats 2000000 in
theorem comb8_walk (g1 g2 : Nat) (f1 f2 : Nat → Bool) (w : World) (h1 : Blk w g1 4 (tabL f1)) (h2 : Blk w g2 4 (tabL f2)) :
    Calls Try.prog 65 #[.slice (some ⟨g1, 0, none⟩) 196608 196608, .slice (some ⟨g2, 0, none⟩) 196608 196608, .func (.func 78) #[] #[]] w fun e w' => ∃ g, e = .returned (.slice (some ⟨g, 0, none⟩) 196608 196608) ∧ w.heap.size ≤ g ∧ Tb w g (fun i => (fun a b => a && !b) (f1 i) (f2 i)) w' := by
  have HG1 := hid h1
  have HG2 := hid h2
  obtain ⟨g, hg⟩ : ∃ g, w.heap.size = g := ⟨_, rfl⟩
  have HT0 : Hid (Tb w g (fun _ => false) (w.alloc (.cells (tabL fun _ => false).toArray 4))) := hid ⟨nbel w _, by have := Blk.new w (tabL fun _ => false) 4; rw [hg] at this; exact this⟩
  have hgw : w.heap.size ≤ g := by omega
  have HNn := hid (none_walk w)
  rw [hg] at HNn
  clear h1 h2
  go_enter Try.func65, Try.ntmps65
  go_wp2_with fail
  refine (HNn.out).mono ?_
  rintro e w1 ⟨rfl, rfl⟩
  generalize w.alloc (.cells (tabL fun _ => false).toArray 4) = w1 at HT0 ⊢
  go_upto_region 3 with fail
  go_loopw [12] (fun i wr => ∃ k : Nat, k ≤ 196608 ∧ i = .int .i64 k ∧ Hid (Tb w g (fun i => decide (i < k) && (fun a b => a && !b) (f1 i) (f2 i)) wr)) (fun i _ => 196608 - (intOf i).toNat)
  case atStart => exact ⟨0, by omega, rfl, hid (HT0.out.ext (fun i _ => by simp))⟩
  case round =>
    clear HT0
    obtain ⟨k, hk, rfl, HT⟩ := hrel
    by_cases hlt : k < 196608
    rotate_left
    · as_aux_lemma =>
      have dk : decide ((k : Int) < 196608) = false := decide_eq_false (by omega)
      have HTe := hid (HT.out.ext (f' := fun i => (fun a b => a && !b) (f1 i) (f2 i)) (fun i hi => by rw [decide_eq_true (show i < k by omega), Bool.true_and]))
      go_wp2
      go_ret
      exact ⟨g, rfl, by omega, HTe.out⟩
    as_aux_lemma =>
    have dk : decide ((k : Int) < 196608) = true := decide_eq_true (by omega)
    have i2 : (k : Int) < 196608 := by omega
    obtain ⟨X, W, hT, hI⟩ := class_mk (Tb w g (fun i => decide (i < k) && (fun a b => a && !b) (f1 i) (f2 i)))
    have H0 : Hid (∃ x, wr.drew = W x) := hid (hI _ (HT.out.below (Drew.below ⟨1, rfl⟩ _)))
    have hne : Nonempty X := ⟨H0.out.choose⟩
    obtain ⟨B1, hB1⟩ : ∃ B, f1 k = B := ⟨_, rfl⟩
    obtain ⟨B2, hB2⟩ : ∃ B, f2 k = B := ⟨_, rfl⟩
    have e1 : ∀ x, (W x).cell? ⟨g1, k, none⟩ = some (.bool B1) := fun x => by rw [(HG1.out.below (hT x).bel).cell, tabL_get _ hlt, hB1]
    have e2 : ∀ x, (W x).cell? ⟨g2, k, none⟩ = some (.bool B2) := fun x => by rw [(HG2.out.below (hT x).bel).cell, tabL_get _ hlt, hB2]
    obtain ⟨B, hB⟩ : ∃ B, (fun a b => a && !b) B1 B2 = B := ⟨_, rfl⟩
    have HCo : Hid (∀ x, Calls Try.prog 78 #[.bool B1, .bool B2] (W x) fun e w' => e = .returned (.bool B) ∧ w' = W x) := hid (fun x => by rw [← hB]; exact cl8_walk B1 B2 (W x))
    have HTT := hid hT
    have HBv : Hid ((fun a b => a && !b) (f1 k) (f2 k) = B) := hid (by rw [hB1, hB2]; exact hB)
    clear hT hI hB hB1 hB2
    go_upto_region 5 with fail
    refine wp_region_class_lastT W rfl (by kernel_rfl) (by kernel_rfl) (by kernel_rfl) H0.out ?_
    dsimp only [List.dropLast, List.getLast]
    repeat (go_big_quiet_step ((go_at_call 78; exact Calls.class_same (HCo.out _))))
    refine wpQuiet_nil ?_
    intro z
    have HZ := hid (HTT.out z)
    generalize W z = wz at HZ ⊢
    clear e1 e2 H0 HTT HCo
    have cg : wz.cell? ⟨g, k, none⟩ = some (.bool (decide (k < k) && (fun a b => a && !b) (f1 k) (f2 k))) := by rw [HZ.out.blk.cell]; exact tabL_get _ hlt
    have fg := HZ.out.blk.frozen k
    have HZ2 : Hid (Tb w g (fun i => decide (i < k + 1) && (fun a b => a && !b) (f1 i) (f2 i)) (wz.setCell ⟨g, k, none⟩ (.bool B))) := hid ((HZ.out.set hgw hlt B).ext (fun i hi => by
      by_cases h : i = k
      · subst h
        rw [if_pos rfl, decide_eq_true (by omega), Bool.true_and]
        exact HBv.out.symm
      · rw [if_neg h]
        have : decide (i < k) = decide (i < k + 1) := by rw [decide_eq_decide]; omega
        rw [this]))
    go_wp2
    exact ⟨⟨k + 1, by omega, by go_num, HZ2⟩, by simp [intOf]; omega⟩
set_option maxRecDepth 100000 in
theorem cl9_walk (a b : Bool) (w : World) : Calls Try.prog 79 #[.bool a, .bool b] w fun e w' => e = .returned (.bool (a && b)) ∧ w' = w := by
  cases a <;> cases b
  all_goals
    go_enter Try.func79, Try.ntmps79
    go_wp2
    go_ret
    exact ⟨rfl, rfl⟩
set_option maxRecDepth 100000 in
set_option maxHeartbeats 2000000 in
theorem comb9_walk (g1 g2 : Nat) (f1 f2 : Nat → Bool) (w : World) (h1 : Blk w g1 4 (tabL f1)) (h2 : Blk w g2 4 (tabL f2)) :
    Calls Try.prog 65 #[.slice (some ⟨g1, 0, none⟩) 196608 196608, .slice (some ⟨g2, 0, none⟩) 196608 196608, .func (.func 79) #[] #[]] w fun e w' => ∃ g, e = .returned (.slice (some ⟨g, 0, none⟩) 196608 196608) ∧ w.heap.size ≤ g ∧ Tb w g (fun i => (fun a b => a && b) (f1 i) (f2 i)) w' := by
  have HG1 := hid h1
  have HG2 := hid h2
  obtain ⟨g, hg⟩ : ∃ g, w.heap.size = g := ⟨_, rfl⟩
  have HT0 : Hid (Tb w g (fun _ => false) (w.alloc (.cells (tabL fun _ => false).toArray 4))) := hid ⟨nbel w _, by have := Blk.new w (tabL fun _ => false) 4; rw [hg] at this; exact this⟩
  have hgw : w.heap.size ≤ g := by omega
  have HNn := hid (none_walk w)
  rw [hg] at HNn
  clear h1 h2
  go_enter Try.func65, Try.ntmps65
  go_wp2_with fail
  refine (HNn.out).mono ?_
  rintro e w1 ⟨rfl, rfl⟩
  generalize w.alloc (.cells (tabL fun _ => false).toArray 4) = w1 at HT0 ⊢
  go_upto_region 3 with fail
  go_loopw [12] (fun i wr => ∃ k : Nat, k ≤ 196608 ∧ i = .int .i64 k ∧ Hid (Tb w g (fun i => decide (i < k) && (fun a b => a && b) (f1 i) (f2 i)) wr)) (fun i _ => 196608 - (intOf i).toNat)
  case atStart => exact ⟨0, by omega, rfl, hid (HT0.out.ext (fun i _ => by simp))⟩
  case round =>
    clear HT0
    obtain ⟨k, hk, rfl, HT⟩ := hrel
    by_cases hlt : k < 196608
    rotate_left
    · as_aux_lemma =>
      have dk : decide ((k : Int) < 196608) = false := decide_eq_false (by omega)
      have HTe := hid (HT.out.ext (f' := fun i => (fun a b => a && b) (f1 i) (f2 i)) (fun i hi => by rw [decide_eq_true (show i < k by omega), Bool.true_and]))
      go_wp2
      go_ret
      exact ⟨g, rfl, by omega, HTe.out⟩
    as_aux_lemma =>
    have dk : decide ((k : Int) < 196608) = true := decide_eq_true (by omega)
    have i2 : (k : Int) < 196608 := by omega
    obtain ⟨X, W, hT, hI⟩ := class_mk (Tb w g (fun i => decide (i < k) && (fun a b => a && b) (f1 i) (f2 i)))
    have H0 : Hid (∃ x, wr.drew = W x) := hid (hI _ (HT.out.below (Drew.below ⟨1, rfl⟩ _)))
    have hne : Nonempty X := ⟨H0.out.choose⟩
    obtain ⟨B1, hB1⟩ : ∃ B, f1 k = B := ⟨_, rfl⟩
    obtain ⟨B2, hB2⟩ : ∃ B, f2 k = B := ⟨_, rfl⟩
    have e1 : ∀ x, (W x).cell? ⟨g1, k, none⟩ = some (.bool B1) := fun x => by rw [(HG1.out.below (hT x).bel).cell, tabL_get _ hlt, hB1]
    have e2 : ∀ x, (W x).cell? ⟨g2, k, none⟩ = some (.bool B2) := fun x => by rw [(HG2.out.below (hT x).bel).cell, tabL_get _ hlt, hB2]
    obtain ⟨B, hB⟩ : ∃ B, (fun a b => a && b) B1 B2 = B := ⟨_, rfl⟩
    have HCo : Hid (∀ x, Calls Try.prog 79 #[.bool B1, .bool B2] (W x) fun e w' => e = .returned (.bool B) ∧ w' = W x) := hid (fun x => by rw [← hB]; exact cl9_walk B1 B2 (W x))
    have HTT := hid hT
    have HBv : Hid ((fun a b => a && b) (f1 k) (f2 k) = B) := hid (by rw [hB1, hB2]; exact hB)
    clear hT hI hB hB1 hB2
    go_upto_region 5 with fail
    refine wp_region_class_lastT W rfl (by kernel_rfl) (by kernel_rfl) (by kernel_rfl) H0.out ?_
    dsimp only [List.dropLast, List.getLast]
    repeat (go_big_quiet_step ((go_at_call 79; exact Calls.class_same (HCo.out _))))
    refine wpQuiet_nil ?_
    intro z
    have HZ := hid (HTT.out z)
    generalize W z = wz at HZ ⊢
    clear e1 e2 H0 HTT HCo
    have cg : wz.cell? ⟨g, k, none⟩ = some (.bool (decide (k < k) && (fun a b => a && b) (f1 k) (f2 k))) := by rw [HZ.out.blk.cell]; exact tabL_get _ hlt
    have fg := HZ.out.blk.frozen k
    have HZ2 : Hid (Tb w g (fun i => decide (i < k + 1) && (fun a b => a && b) (f1 i) (f2 i)) (wz.setCell ⟨g, k, none⟩ (.bool B))) := hid ((HZ.out.set hgw hlt B).ext (fun i hi => by
      by_cases h : i = k
      · subst h
        rw [if_pos rfl, decide_eq_true (by omega), Bool.true_and]
        exact HBv.out.symm
      · rw [if_neg h]
        have : decide (i < k) = decide (i < k + 1) := by rw [decide_eq_decide]; omega
        rw [this]))
    go_wp2
    exact ⟨⟨k + 1, by omega, by go_num, HZ2⟩, by simp [intOf]; omega⟩
end Go.Proofs.Qxb6500884a
