/- The model: New, refuse, full, lookup, operand. -/
import Derived.Test.Qxb6500889aDoorMuN1
namespace Go.Proofs.Qxb6500889aDoor
open Go.RowKit
set_option linter.unusedSimpArgs false
set_option linter.unusedVariables false
section
variable {w w' w'' : World} {σ σ' σ'' : Rl} {N N' : ML} {M M' : MS} {n : Nat}
set_option maxRecDepth 100000 in
theorem mrefuse_walk (c : Nat) (w : World) : Calls Tryd.prog 37 #[.int .u8 (c : Int)] w fun e w' => e = .returned (.agg (rzC (rzR c)).toArray) ∧ Below w.heap.size w w' := by
  obtain ⟨r, hr⟩ : ∃ r, w.heap.size = r := ⟨_, rfl⟩
  have hb := Blk.new w (rzC (rzR 0)) 36
  rw [hr] at hb
  have HB := hid hb
  have I0 : Hid ((Tryd.prog.info? 36).map (·.size) = some (rzC (rzR c)).length) := hid info_rz
  clear hb
  go_enter Tryd.func37, Tryd.ntmps37
  go_wp2_with (refine wpList_store_blk rfl 36 _ _ rfl r rfl (rzC (rzR c)) rfl HB.out rfl I0.out (rz_one _) ?_; intro w9 HB9 HU9)
  exact bodyPost_ret (results_blk Tryd.results37 rfl (show AggOf Tryd.prog 36 (rzC (rzR c)).length from AggOf.struct Tryd.underlying36 info_rz) HB9.out) rfl
    ⟨rfl, (nbel w _).trans (HU9.out.below (by omega) (by simp))⟩
def N0 (r : Nat) : ML := ⟨r, .slice none 0 0, fun _ => 0, fun _ => 0, fun _ => .slice none 0 0, fun _ => .slice none 0 0, .slice none 0 0⟩
set_option maxRecDepth 100000 in
theorem mnew_walk (w : World) {r : Nat} (hr : w.heap.size = r) : Calls Tryd.prog 7 #[] w fun e w' => e = .returned (.pointer (some ⟨r, 0, none⟩)) ∧ MN w' (fup (fun _ => 0) r 1) (N0 r) M0 ∧ Below w.heap.size w w' := by
  obtain ⟨w1, hw1⟩ : ∃ w1, w.alloc (.cells (mC (N0 r) M0).toArray 69) = w1 := ⟨_, rfl⟩
  have HM : Hid (MN w1 (fup (fun _ => 0) r 1) (N0 r) M0 ∧ Below w.heap.size w w1) := hid (by
    have hb : Below w.heap.size w w1 := by rw [← hw1]; exact nbel _ _
    have hbk := Blk.new w (mC (N0 r) M0) 69
    rw [hr, hw1] at hbk
    refine ⟨⟨hbk, ⟨World.ownsRow_nil _ _ _ _, fun g hg => (by cases hg), fun i q hq => ?_, fun m _ => RowK.nil _ _ _ _ _, fun m _ => RowK.nil _ _ _ _ _, RowK.nil _ _ _ _ _⟩, fup_self _ _ _, fun g hg => ?_⟩, hb⟩
    · simp [M0] at hq
    · by_cases e : g = r
      · rw [e]; exact hbk.lt
      · rw [fup_ne _ _ e] at hg; exact absurd rfl hg)
  have hw1' : w.alloc (.cells #[.slice none 0 0, .slice none 0 0, .slice none 0 0, .slice none 0 0, .slice none 0 0, .slice none 0 0, .slice none 0 0, .slice none 0 0, .slice none 0 0, .int .u64 0, .int .u64 0, .int .u64 0, .int .u64 0, .slice none 0 0, .int .i64 0, .int .u64 0, .int .u64 0, .int .u64 0] 69) = w1 := hw1
  clear hw1
  go_enter Tryd.func7, Tryd.ntmps7
  go_wp2_with fail
  go_ret
  exact ⟨rfl, HM.out⟩
set_option maxRecDepth 100000 in
theorem mfull_walk (h : MN w σ N M) (hb : MBd M n) (hn : n ≤ 100000000000) {m : Nat} (hm : m < 4) :
    Calls Tryd.prog 39 #[.pointer (some ⟨N.mB, 0, none⟩), .int .i64 (m : Int)] w fun e w' => e = .returned (.bool (mFull M m)) ∧ w' = w := by
  obtain ⟨c1, c2, c3⟩ := h.rcell hm
  obtain ⟨a, k, hv⟩ := (h.pt.hd m hm).shape
  rw [hv] at c2
  have hl := hb.hd m hm
  have hg := hb.gen m hm
  unfold mFull
  generalize (M.held m).length = ln at *
  generalize M.gen m = gn at *
  generalize N.mB = mB at *
  clear h hv c1
  have i1 : (m : Int) < 4 := by omega
  have e1 : decide (1099511627775 ≤ gn) = false := decide_eq_false (by omega)
  rw [e1]
  by_cases h1 : ln = 128
  · subst h1
    go_enter Tryd.func39, Tryd.ntmps39
    go_wp2
    go_ret
    exact ⟨by simp, rfl⟩
  · have d1 : ((ln : Int) == 128) = false := by simp; omega
    have d2 : decide ((gn : Int) ≥ 1099511627775) = false := decide_eq_false (by omega)
    have d3 : decide ((1099511627775 : Int) ≤ (gn : Int)) = false := decide_eq_false (by omega)
    have H1 := hid h1
    clear hg hb e1 h1
    go_enter Tryd.func39, Tryd.ntmps39
    go_wp2
    go_ret
    exact ⟨by rw [decide_eq_false H1.out]; rfl, rfl⟩
theorem mLook_hN {m s : Nat} (hm : m < 4) (hs : s < 256) (hg : M.gen m ≤ 100000000000) : mLook M m (hN (M.gen m) m s) = (M.held m)[s]? := by
  unfold mLook hN
  rw [if_pos (by omega)]
  congr 1
  omega
theorem mLook_none {m h : Nat} (hl : (M.held m).length ≤ 128) (hg : M.gen m ≤ 100000000000) (hn : ∀ s, s < (M.held m).length → hN (M.gen m) m s ≠ h) : mLook M m h = none := by
  unfold mLook
  split
  · rename_i hc
    apply List.getElem?_eq_none
    apply Classical.byContradiction
    intro hlt
    refine hn (h % 256) (by omega) ?_
    unfold hN
    omega
  · rfl
def lkM (o : Option Nat) : Value := .tuple #[.int .i64 ((o.getD 0 : Nat) : Int), .bool o.isSome]
set_option maxRecDepth 100000 in
set_option maxHeartbeats 1000000 in
theorem mlookup_walk (h : MN w σ N M) (hb : MBd M n) (hn : n ≤ 100000000000) {m : Nat} (hm : m < 4) (v : Nat) :
    Calls Tryd.prog 43 #[.pointer (some ⟨N.mB, 0, none⟩), .int .i64 (m : Int), .int .u64 (v : Int)] w fun e w' => e = .returned (lkM (mLook M m v)) ∧ w' = w := by
  obtain ⟨c1, c2, c3⟩ := h.rcell hm
  obtain ⟨a, k, hv⟩ := (h.pt.hd m hm).shape
  rw [hv] at c2
  have hl := hb.hd m hm
  have hg := hb.gen m hm
  have HGe : Hid (∀ (j x : Nat), (M.held m)[j]? = some x → ∃ g, a = some ⟨g, 0, none⟩ ∧ w.cell? ⟨g, j, none⟩ = some (.int .i64 (x : Int))) := hid (fun j x hx => by
    obtain ⟨g, q, e1, e2⟩ := (h.pt.hd m hm).get hx
    rw [hv] at e1
    injection e1 with e3
    exact ⟨g, e3, e2⟩)
  obtain ⟨ln, hln⟩ : ∃ x, (M.held m).length = x := ⟨_, rfl⟩
  obtain ⟨gn, hgn⟩ : ∃ x, M.gen m = x := ⟨_, rfl⟩
  rw [hln] at c2 hl
  rw [hgn] at c3 hg
  have Hln := hid hln
  have Hgn := hid hgn
  generalize N.mB = mB at *
  obtain ⟨wo, hwo⟩ : ∃ x, x = w := ⟨_, rfl⟩
  subst hwo
  have i1 : (m : Int) < 4 := by omega
  have HHo : Hid (∀ s : Nat, s < 256 → ∀ w9 : World, Calls Tryd.prog 62 #[.int .i64 (m : Int), .int .u64 (gn : Int), .int .i64 (s : Int)] w9 fun e w' => e = .returned (.int .u64 ((hN gn m s : Nat) : Int)) ∧ w' = w9) := hid (fun s hs w9 => handleOf_walk m gn s hm (by omega) hs w9)
  clear h hv c1 hln hgn hb
  go_enter Tryd.func43, Tryd.ntmps43
  go_wp2_with fail
  go_loopw [17] (fun j wr => ∃ s : Nat, s ≤ ln ∧ j = .int .i64 (s : Int) ∧ Hid (wr = wo) ∧ Hid (∀ t, t < s → hN gn m t ≠ v)) (fun j _ => ln - (intOf j).toNat)
  case atStart => exact ⟨0, by omega, rfl, hid rfl, hid (fun t ht => absurd ht (Nat.not_lt_zero _))⟩
  case round =>
    obtain ⟨s, hs, rfl, Hwr, HNo⟩ := hrel
    obtain rfl := Hwr.out
    by_cases hlt : s < ln
    · have ds : decide ((s : Int) < (ln : Int)) = true := decide_eq_true (by omega)
      have is : (s : Int) < (ln : Int) := by omega
      have hget : (M.held m)[s]? = some ((M.held m)[s]'(by rw [Hln.out]; exact hlt)) := List.getElem?_eq_getElem _
      obtain ⟨g, rfl, ce⟩ := HGe.out s _ hget
      obtain ⟨x, hx⟩ : ∃ x, (M.held m)[s]'(by rw [Hln.out]; exact hlt) = x := ⟨_, rfl⟩
      rw [hx] at ce hget
      have Hget := hid hget
      clear hget hx
      by_cases heq : hN gn m s = v
      · as_aux_lemma =>
        have hres : mLook M m v = some x := by
          rw [← heq, ← Hgn.out, mLook_hN hm (by omega) (by rw [Hgn.out]; omega)]
          exact Hget.out
        have Hres := hid hres
        have HC := hid (HHo.out s (by omega))
        rw [heq] at HC
        clear HHo hres heq
        go_wp2_with fail
        refine (HC.out _).mono ?_
        rintro e w9 ⟨rfl, rfl⟩
        go_wp2
        exact bodyPost_ret (v := .tuple #[.int .i64 (x : Int), .bool true]) (by simp [results, Tryd.results43, go_sem]) rfl ⟨by rw [Hres.out]; rfl, rfl⟩
      · as_aux_lemma =>
        have HC := hid (HHo.out s (by omega))
        have de : (((hN gn m s : Nat) : Int) == (v : Int)) = false := by simp; omega
        have HNo2 : Hid (∀ t, t < s + 1 → hN gn m t ≠ v) := hid (fun t ht => by
          by_cases e : t = s
          · rw [e]; exact heq
          · exact HNo.out t (by omega))
        generalize hN gn m s = hv at HC de
        clear HHo heq HNo
        go_wp2_with fail
        refine (HC.out _).mono ?_
        rintro e w9 ⟨rfl, rfl⟩
        go_wp2
        exact ⟨⟨s + 1, by omega, by go_num, Hwr, HNo2⟩, by simp [intOf]; omega⟩
    · as_aux_lemma =>
      obtain rfl : s = ln := by omega
      have hres : mLook M m v = none := mLook_none (by rw [Hln.out]; exact hl) (by rw [Hgn.out]; omega) (fun t ht => by rw [Hgn.out]; exact HNo.out t (by rw [Hln.out] at ht; exact ht))
      have Hres := hid hres
      have ds : decide ((s : Int) < (s : Int)) = false := decide_eq_false (by omega)
      clear hres
      go_wp2
      exact bodyPost_ret (v := .tuple #[.int .i64 0, .bool false]) (by simp [results, Tryd.results43, go_sem]) rfl ⟨by rw [Hres.out]; rfl, rfl⟩
set_option maxRecDepth 1000000 in
set_option maxHeartbeats 1000000 in
theorem moperand_walk (h : MN w σ N M) (hb : MBd M n) (hn : n ≤ 100000000000) (v : Nat) (hv : v < 18446744073709551616) :
    Calls Tryd.prog 42 #[.pointer (some ⟨N.mB, 0, none⟩), .int .u64 (v : Int)] w fun e w' => e = .returned (.int .u64 ((mOp M v : Nat) : Int)) ∧ Below w.heap.size w w' := by
  have cI : w.cell? ⟨N.mB, 13, none⟩ = some N.iv := h.cell 13
  obtain ⟨a, k, hiv, hk1, hk2⟩ : ∃ a k, N.iv = .slice a M.iss.length k ∧ M.iss.length ≤ k ∧ k ≤ maxLen := by
    obtain ⟨a, k, e⟩ := h.pt.is.shape
    have := h.pt.is
    rw [e] at this
    exact ⟨a, k, e, this.cap.2, this.cap.1⟩
  have hil := hb.iss
  have HH := hid h
  rw [hiv] at cI
  have Hiv := hid hiv
  obtain ⟨mB, hmB⟩ : ∃ b, N.mB = b := ⟨_, rfl⟩
  have HmB := hid hmB
  rw [hmB] at cI
  rw [hmB]
  obtain ⟨ln, hln⟩ : ∃ x, M.iss.length = x := ⟨_, rfl⟩
  rw [hln] at cI hil
  have Hln := hid hln
  unfold mOp
  rw [hln]
  have i0 : (ln : Int) ≤ 100000000000 := by omega
  have iv : (v : Int) < 18446744073709551616 := by omega
  clear h hiv hmB hln hb hk1 hk2
  by_cases h1 : 1 ≤ v
  · have d1 : decide ((v : Int) ≥ 1) = true := decide_eq_true (by omega)
    have d1' : decide ((1 : Int) ≤ (v : Int)) = true := decide_eq_true (by omega)
    by_cases h2 : v ≤ 255
    · have d2 : decide ((v : Int) ≤ 255) = true := decide_eq_true (by omega)
      by_cases h3 : v ≤ ln
      · as_aux_lemma =>
        rw [if_pos ⟨h1, h2, h3⟩]
        have d3 : decide ((v : Int) ≤ (ln : Int)) = true := decide_eq_true (by omega)
        have d4 : decide (v ≤ ln) = true := decide_eq_true (by omega)
        obtain ⟨x, hx⟩ : ∃ x, M.iss[ln - v]? = some x := ⟨_, List.getElem?_eq_getElem (by rw [Hln.out]; omega)⟩
        have hgd : M.iss.getD (ln - v) 0 = x := by rw [List.getD_eq_getElem?_getD, hx]; rfl
        rw [hgd]
        obtain ⟨g, q, e1, e2⟩ := HH.out.pt.is.get hx
        rw [Hiv.out] at e1
        injection e1 with e3
        subst e3
        have HC : Hid (∀ wz, Below w.heap.size w wz → wz.cell? ⟨mB, 13, none⟩ = some (.slice (some ⟨g, 0, none⟩) ln k) ∧ wz.cell? ⟨g, ln - v, none⟩ = some (.int .u64 (x : Int))) := hid (fun wz hz => by
          have hz2 := HH.out.below hz
          have q1 := hz2.cell 13
          rw [HmB.out] at q1
          refine ⟨by rw [q1]; show some N.iv = _; rw [Hiv.out, Hln.out], ?_⟩
          obtain ⟨g', q', e4, e5⟩ := hz2.pt.is.get hx
          rw [Hiv.out] at e4
          injection e4 with e6
          injection e6 with e6
          injection e6 with e6
          rw [e6]
          exact e5)
        obtain ⟨d, hd⟩ : ∃ d, ln - v = d := ⟨_, rfl⟩
        rw [hd] at HC
        have hdi : (ln : Int) - (v : Int) = (d : Int) := by omega
        have idl : (d : Int) < (ln : Int) := by omega
        clear e2 hx hgd hd h1 h2 h3
        go_enter Tryd.func42, Tryd.ntmps42
        go_upto_region 2 with fail
        refine wp_region_heavy (fun wz => Below w.heap.size w wz) 14 [0, 1, 2, 3, 4, 5, 6, 7, 8, 9, 10, 11, 12, 13] [] rfl (by kernel_rfl) (by kernel_rfl) (fun d _ _ _ _ h => by cases d <;> exact h) (Drew.below ⟨1, rfl⟩ _) ?_
        apply Exists.intro
        refine ⟨?_, ?_⟩
        · intro W hW
          have q0 : ∀ x, (W x).cell? ⟨mB, 13, none⟩ = some (.slice (some ⟨g, 0, none⟩) ln k) := fun x => (HC.out _ (hW x)).1
          have q1 : ∀ y, (W y).cell? ⟨g, d, none⟩ = some (.int .u64 (x : Int)) := fun y => (HC.out _ (hW y)).2
          clear hW
          simp only [List.take, opsAt, List.drop, List.cons_append, List.nil_append]
          repeat (go_big_quiet_step (fail))
          exact rfl
        simp only [List.take, List.drop, opsAt, List.cons_append, List.nil_append, wpHv, QN]
        have HB0 : Hid (Below w.heap.size w w.drew) := hid (Drew.below ⟨1, rfl⟩ _)
        generalize w.drew = wd at HB0 ⊢
        go_wp2
        go_ret
        exact ⟨rfl, HB0.out⟩
      · as_aux_lemma =>
        rw [if_neg (fun h => h3 h.2.2)]
        have d3 : decide ((v : Int) ≤ (ln : Int)) = false := decide_eq_false (by omega)
        have d4 : decide (v ≤ ln) = false := decide_eq_false (by omega)
        clear h1 h2 h3
        go_enter Tryd.func42, Tryd.ntmps42
        go_wp2
        go_ret
        exact ⟨rfl, Below.refl _ _⟩
    · as_aux_lemma =>
      rw [if_neg (fun h => h2 h.2.1)]
      have d2 : decide ((v : Int) ≤ 255) = false := decide_eq_false (by omega)
      clear h1 h2
      go_enter Tryd.func42, Tryd.ntmps42
      go_wp2
      go_ret
      exact ⟨rfl, Below.refl _ _⟩
  · as_aux_lemma =>
    rw [if_neg (fun h => h1 h.1)]
    have d1 : decide ((v : Int) ≥ 1) = false := decide_eq_false (by omega)
    have d1' : decide ((1 : Int) ≤ (v : Int)) = false := decide_eq_false (by omega)
    clear h1
    go_enter Tryd.func42, Tryd.ntmps42
    go_wp2
    go_ret
    exact ⟨rfl, Below.refl _ _⟩
end
end Go.Proofs.Qxb6500889aDoor
