/- The model: alloc (written by tools/mk_mal.py). -/
import Derived.Test.Qxb6500889aDoorMuN5
namespace Go.Proofs.Qxb6500889aDoor
open Go.RowKit
set_option linter.unusedSimpArgs false
set_option linter.unusedVariables false
section
variable {w w' w'' wz : World} {σ σ' σ'' : Rl} {N N' : ML} {M M' : MS} {n m : Nat} {xs : List XBk}
theorem MN.setAlt (h : MN w σ N M) (v : Nat) : MOut w σ N { M with alt := v } (w.setCell ⟨N.mB, 14, none⟩ (.int .i64 (v : Int))) := by
  refine h.put2 (Below.refl _ _) (fun _ _ _ _ => trivial) (fun _ _ _ => rfl) (fun _ _ => rfl) h.dom (N' := N) ⟨h.pt.ow, h.pt.ro, h.pt.o, h.pt.rt, h.pt.hd, h.pt.is⟩ rfl rfl
theorem ov_shape (h : Pt w σ N M) : ∃ a k, N.ov = .slice a M.objs.length k := by
  rcases h.ow.2 with ⟨e, h0⟩ | ⟨g, cap, cur, e, _⟩
  · exact ⟨none, 0, by rw [e, h0]⟩
  · exact ⟨_, _, e⟩
theorem own2_shape {v : Value} {n : Nat} {xs : List Value} (h : w.ownsRow 0 93 2 v n xs) : ∃ a k, v = .slice a n k := by
  rcases h.2 with ⟨e, h0⟩ | ⟨g, cap, cur, e, _⟩
  · exact ⟨none, 0, by rw [e, h0]⟩
  · exact ⟨_, _, e⟩
/-- A new object, its blocks made, the row grown, the cell written. -/
theorem MN.newObj (h : MN w σ N M) {rB dB refs words : Nat} {wm : World} (hs : Below w.heap.size w wm) (hr : Blk wm rB 3 (aK .i64 (List.replicate refs 0))) (hd : Blk wm dB 29 (aK .u64 (List.replicate words 0))) (r1 : w.heap.size ≤ rB) (d1 : w.heap.size ≤ dB) (ne : rB ≠ dB) (hsz : refs + words ≤ 8192) :
    ∃ σm, MN wm σm N M ∧ Fm σ w σm wm ∧ ∀ (v8 : Value) (w8 : World) (σ8 : Rl), w8.ownsRow 0 93 2 v8 (M.objs.length + 1) (oC N.rb N.db 0 M.objs ++ [.slice (some ⟨rB, 0, none⟩) refs refs, .slice (some ⟨dB, 0, none⟩) words words]) → (∀ g, v8.ownBlock = some g → σ8 g = 2) → (∀ g, g < wm.heap.size → σ8 g = σm g) → (∀ g, g < wm.heap.size → σm g ≠ 2 → w8.heap[g]? = wm.heap[g]?) → (∀ g, σ8 g ≠ 0 → g < w8.heap.size) → Below 0 wm w8 → MOut w σ N { M with objs := M.objs ++ [⟨List.replicate refs 0, List.replicate words 0⟩] } (w8.setCell ⟨N.mB, 0, none⟩ v8) := by
  have hold : ∀ g, g < w.heap.size → fup (fup σ rB (64 + 2 * M.objs.length)) dB (65 + 2 * M.objs.length) g = σ g := fun g hg => by rw [fup_ne _ _ (by omega), fup_ne _ _ (by omega)]
  have hdom : ∀ g, fup (fup σ rB (64 + 2 * M.objs.length)) dB (65 + 2 * M.objs.length) g ≠ 0 → g < wm.heap.size := fun g hg => by
    by_cases e1 : g = dB
    · rw [e1]; exact hd.lt
    · rw [fup_ne _ _ e1] at hg
      by_cases e2 : g = rB
      · rw [e2]; exact hr.lt
      · rw [fup_ne _ _ e2] at hg
        exact Nat.lt_of_lt_of_le (h.dom g hg) hs.size
  have hPm : Pt wm (fup (fup σ rB (64 + 2 * M.objs.length)) dB (65 + 2 * M.objs.length)) N M := h.pt.of (fun g hg _ => ⟨hs.block g hg, hold g hg⟩)
  have hMm : MN wm (fup (fup σ rB (64 + 2 * M.objs.length)) dB (65 + 2 * M.objs.length)) N M := ⟨h.mb.below hs, hPm, by rw [hold _ h.mb.lt]; exact h.r1, hdom⟩
  have hFm : Fm σ w (fup (fup σ rB (64 + 2 * M.objs.length)) dB (65 + 2 * M.objs.length)) wm := ⟨hs.os, hs.tape, hs.output, hs.size, hold, fun g hg _ => hs.block g hg⟩
  refine ⟨_, hMm, hFm, fun v8 w8 σ8 k1 k2 k3 k4 k5 k6 => ?_⟩
  have eR : fup (fup σ rB (64 + 2 * M.objs.length)) dB (65 + 2 * M.objs.length) rB = 64 + 2 * M.objs.length := by rw [fup_ne _ _ ne, fup_self]
  have eD : fup (fup σ rB (64 + 2 * M.objs.length)) dB (65 + 2 * M.objs.length) dB = 65 + 2 * M.objs.length := fup_self _ _ _
  have hq : MoM w8 σ8 (fup N.rb M.objs.length rB) (fup N.db M.objs.length dB) M.objs.length ⟨List.replicate refs 0, List.replicate words 0⟩ := by
    refine ⟨?_, ?_, ?_, ?_, by simpa using hsz⟩
    · rw [fup_self]; exact hr.of (k4 rB hr.lt (by rw [eR]; omega))
    · rw [fup_self]; exact hd.of (k4 dB hd.lt (by rw [eD]; omega))
    · rw [fup_self, k3 rB hr.lt]; exact eR
    · rw [fup_self, k3 dB hd.lt]; exact eD
  have how : w8.ownsRow 0 93 2 v8 (M.objs.length + 1) (oC N.rb N.db 0 M.objs ++ obC (fup N.rb M.objs.length rB) (fup N.db M.objs.length dB) M.objs.length ⟨List.replicate refs 0, List.replicate words 0⟩) := by
    unfold obC
    rw [fup_self, fup_self]
    simpa using k1
  obtain ⟨σ9, N9, q1, q2, q3⟩ := hMm.put2 (i := 0) (v := v8) k6 (fun _ _ _ _ => trivial) (fun g hg hr' => k4 g hg (by omega)) k3 k5 (hPm.objd k4 k3 how k2 hq) rfl rfl
  exact ⟨σ9, N9, q1, q2, hFm.trans q3⟩
set_option maxRecDepth 1000000 in
set_option maxHeartbeats 8000000 in
theorem mAlloc_walk (h : MN w σ N M) (hb : MBd M n) (hn : n < 100000000000) (hm : m < 4) (size refs : Nat) (hs9 : size < 18446744073709551616) (hr9 : refs < 18446744073709551616) (room : Bool) :
    Calls Tryd.prog 38 #[.pointer (some ⟨N.mB, 0, none⟩), .int .i64 (m : Int), .int .u64 (size : Int), .int .u64 (refs : Int), .bool room] w fun e w' => e = .returned (.agg (rzC (mAlloc M m size refs room).2).toArray) ∧ MOut w σ N (mAlloc M m size refs room).1 w' := by
  have HE00 := (EM.start h).alloc (rzC (rzR 0)) 36
  obtain ⟨r, hr⟩ : ∃ r, w.heap.size = r := ⟨_, rfl⟩
  rw [hr] at HE00
  have HE0 := hid HE00
  have I0 : Hid ((Tryd.prog.info? 36).map (·.size) = some 8) := hid info_rz
  obtain ⟨mB, hmB⟩ : ∃ b, N.mB = b := ⟨_, rfl⟩
  have HmB := hid hmB
  have HFl : Hid (∀ wz, EM w σ N M [(r, 36, rzC (rzR 0))] wz → Calls Tryd.prog 39 #[.pointer (some ⟨mB, 0, none⟩), .int .i64 (m : Int)] wz fun e w' => e = .returned (.bool (mFull M m)) ∧ EM w σ N M [(r, 36, rzC (rzR 0))] w') := hid (fun wz hz => by
    have := hz.pure (f := 39) (args := fun x => #[.pointer (some ⟨x, 0, none⟩), .int .i64 (m : Int)]) (e0 := .returned (.bool (mFull M m))) (fun σ' N' hM => (mfull_walk hM hb (by omega) hm).mono (fun e w' ⟨k1, k2⟩ => ⟨k1, by rw [k2]; exact Below.refl _ _⟩))
    rw [hmB] at this
    exact this)
  have HBd := hid hb
  rw [hmB]
  have i1 : (size : Int) < 18446744073709551616 := by omega
  have i2 : (refs : Int) < 18446744073709551616 := by omega
  have im : (m : Int) < 4 := by omega
  clear h hb hmB HE00
  by_cases c0 : size < 1
  · rw [show mAlloc M m size refs room = (M, rzR 6) by unfold mAlloc; rw [if_pos (.inl c0)]]
    as_aux_lemma =>
    have d0 : decide ((size : Int) < 1) = true := decide_eq_true (by omega)
    clear c0
    go_enter Tryd.func38, Tryd.ntmps38
    go_upto_region 1 with fail
    obtain ⟨w1, hw1⟩ : ∃ w1, w.alloc (.cells (rzC (rzR 0)).toArray 36) = w1 := ⟨_, rfl⟩
    have HE : Hid (EM w σ N M [(r, 36, rzC (rzR 0))] w1) := by rw [← hw1]; exact HE0
    rw [show w.alloc (.cells #[.int .u8 0, .int .u64 0, .int .u64 0, .int .u64 0, .int .u64 0, .int .u64 0, .int .i64 0, .int .i64 0] 36) = w1 from hw1]
    clear hw1 HE0
    go_wp2_with fail
    refine (mrefuse_walk 6 _).mono ?_
    rintro e w3 ⟨rfl, hb3⟩
    have HE3 := hid (HE.out.below hb3)
    clear HE hb3
    go_wp2_with (refine wpList_store_blk rfl 36 _ _ rfl r rfl (rzC (rzR 6)) rfl (HE3.out.bl (r, 36, rzC (rzR 0)) (by simp)).1 rfl I0.out (rz_one _) ?_; intro w9 HB9 HU9)
    exact bodyPost_ret (results_blk Tryd.results38 rfl (show AggOf Tryd.prog 36 (rzC (rzR 6)).length from AggOf.struct Tryd.underlying36 info_rz) HB9.out) rfl
      ⟨rfl, (HE3.out.set (i := 0) rfl HB9.out HU9.out).out⟩
  have d0 : decide ((size : Int) < 1) = false := decide_eq_false (by omega)
  by_cases c1 : 8192 < size
  · rw [show mAlloc M m size refs room = (M, rzR 6) by unfold mAlloc; rw [if_pos (.inr c1)]]
    as_aux_lemma =>
    have d1 : decide ((size : Int) > 8192) = true := decide_eq_true (by omega)
    have d1' : decide ((8192 : Int) < (size : Int)) = true := decide_eq_true (by omega)
    clear c0 c1
    go_enter Tryd.func38, Tryd.ntmps38
    go_upto_region 1 with fail
    obtain ⟨w1, hw1⟩ : ∃ w1, w.alloc (.cells (rzC (rzR 0)).toArray 36) = w1 := ⟨_, rfl⟩
    have HE : Hid (EM w σ N M [(r, 36, rzC (rzR 0))] w1) := by rw [← hw1]; exact HE0
    rw [show w.alloc (.cells #[.int .u8 0, .int .u64 0, .int .u64 0, .int .u64 0, .int .u64 0, .int .u64 0, .int .i64 0, .int .i64 0] 36) = w1 from hw1]
    clear hw1 HE0
    go_wp2_with fail
    refine (mrefuse_walk 6 _).mono ?_
    rintro e w3 ⟨rfl, hb3⟩
    have HE3 := hid (HE.out.below hb3)
    clear HE hb3
    go_wp2_with (refine wpList_store_blk rfl 36 _ _ rfl r rfl (rzC (rzR 6)) rfl (HE3.out.bl (r, 36, rzC (rzR 0)) (by simp)).1 rfl I0.out (rz_one _) ?_; intro w9 HB9 HU9)
    exact bodyPost_ret (results_blk Tryd.results38 rfl (show AggOf Tryd.prog 36 (rzC (rzR 6)).length from AggOf.struct Tryd.underlying36 info_rz) HB9.out) rfl
      ⟨rfl, (HE3.out.set (i := 0) rfl HB9.out HU9.out).out⟩
  have d1 : decide ((size : Int) > 8192) = false := decide_eq_false (by omega)
  have d1' : decide ((8192 : Int) < (size : Int)) = false := decide_eq_false (by omega)
  have ec : ¬ (size < 1 ∨ 8192 < size) := by omega
  by_cases c2 : size < refs
  · rw [show mAlloc M m size refs room = (M, rzR 7) by unfold mAlloc; rw [if_neg ec, if_pos c2]]
    as_aux_lemma =>
    have d2 : decide ((refs : Int) > (size : Int)) = true := decide_eq_true (by omega)
    have d2' : decide ((size : Int) < (refs : Int)) = true := decide_eq_true (by omega)
    have d2'' : decide (size < refs) = true := decide_eq_true (by omega)
    clear c0 c1 c2 ec
    go_enter Tryd.func38, Tryd.ntmps38
    go_upto_region 1 with fail
    obtain ⟨w1, hw1⟩ : ∃ w1, w.alloc (.cells (rzC (rzR 0)).toArray 36) = w1 := ⟨_, rfl⟩
    have HE : Hid (EM w σ N M [(r, 36, rzC (rzR 0))] w1) := by rw [← hw1]; exact HE0
    rw [show w.alloc (.cells #[.int .u8 0, .int .u64 0, .int .u64 0, .int .u64 0, .int .u64 0, .int .u64 0, .int .i64 0, .int .i64 0] 36) = w1 from hw1]
    clear hw1 HE0
    go_wp2_with fail
    refine (mrefuse_walk 7 _).mono ?_
    rintro e w3 ⟨rfl, hb3⟩
    have HE3 := hid (HE.out.below hb3)
    clear HE hb3
    go_wp2_with (refine wpList_store_blk rfl 36 _ _ rfl r rfl (rzC (rzR 7)) rfl (HE3.out.bl (r, 36, rzC (rzR 0)) (by simp)).1 rfl I0.out (rz_one _) ?_; intro w9 HB9 HU9)
    exact bodyPost_ret (results_blk Tryd.results38 rfl (show AggOf Tryd.prog 36 (rzC (rzR 7)).length from AggOf.struct Tryd.underlying36 info_rz) HB9.out) rfl
      ⟨rfl, (HE3.out.set (i := 0) rfl HB9.out HU9.out).out⟩
  have d2 : decide ((refs : Int) > (size : Int)) = false := decide_eq_false (by omega)
  have d2' : decide ((size : Int) < (refs : Int)) = false := decide_eq_false (by omega)
  have d2'' : decide (size < refs) = false := decide_eq_false (by omega)
  cases hfl : mFull M m with
  | true =>
    rw [show mAlloc M m size refs room = (M, rzR 11) by unfold mAlloc; rw [if_neg ec, if_neg c2, if_pos hfl]]
    as_aux_lemma =>
    rw [hfl] at HFl
    clear c0 c1 c2 ec hfl
    go_enter Tryd.func38, Tryd.ntmps38
    go_upto_region 1 with fail
    obtain ⟨w1, hw1⟩ : ∃ w1, w.alloc (.cells (rzC (rzR 0)).toArray 36) = w1 := ⟨_, rfl⟩
    have HE : Hid (EM w σ N M [(r, 36, rzC (rzR 0))] w1) := by rw [← hw1]; exact HE0
    rw [show w.alloc (.cells #[.int .u8 0, .int .u64 0, .int .u64 0, .int .u64 0, .int .u64 0, .int .u64 0, .int .i64 0, .int .i64 0] 36) = w1 from hw1]
    clear hw1 HE0
    go_wp2_with fail
    refine (HFl.out _ HE.out).mono ?_
    rintro e w2 ⟨rfl, hE2⟩
    have HE2 := hid hE2
    clear hE2 HE
    go_wp2_with fail
    refine (mrefuse_walk 11 _).mono ?_
    rintro e w3 ⟨rfl, hb3⟩
    have HE3 := hid (HE2.out.below hb3)
    clear HE2 hb3
    go_wp2_with (refine wpList_store_blk rfl 36 _ _ rfl r rfl (rzC (rzR 11)) rfl (HE3.out.bl (r, 36, rzC (rzR 0)) (by simp)).1 rfl I0.out (rz_one _) ?_; intro w9 HB9 HU9)
    exact bodyPost_ret (results_blk Tryd.results38 rfl (show AggOf Tryd.prog 36 (rzC (rzR 11)).length from AggOf.struct Tryd.underlying36 info_rz) HB9.out) rfl
      ⟨rfl, (HE3.out.set (i := 0) rfl HB9.out HU9.out).out⟩
  | false =>
  rw [hfl] at HFl
  have efl : ¬ (mFull M m = true) := by rw [hfl]; simp
  cases room with
  | false =>
    rw [show mAlloc M m size refs false = (M, rzR 8) by unfold mAlloc; rw [if_neg ec, if_neg c2, if_neg efl, if_pos rfl]]
    as_aux_lemma =>
    clear c0 c1 c2 ec hfl efl
    go_enter Tryd.func38, Tryd.ntmps38
    go_upto_region 1 with fail
    obtain ⟨w1, hw1⟩ : ∃ w1, w.alloc (.cells (rzC (rzR 0)).toArray 36) = w1 := ⟨_, rfl⟩
    have HE : Hid (EM w σ N M [(r, 36, rzC (rzR 0))] w1) := by rw [← hw1]; exact HE0
    rw [show w.alloc (.cells #[.int .u8 0, .int .u64 0, .int .u64 0, .int .u64 0, .int .u64 0, .int .u64 0, .int .i64 0, .int .i64 0] 36) = w1 from hw1]
    clear hw1 HE0
    go_wp2_with fail
    refine (HFl.out _ HE.out).mono ?_
    rintro e w2 ⟨rfl, hE2⟩
    have HE2 := hid hE2
    clear hE2 HE
    go_wp2_with fail
    refine (mrefuse_walk 8 _).mono ?_
    rintro e w3 ⟨rfl, hb3⟩
    have HE3 := hid (HE2.out.below hb3)
    clear HE2 hb3
    go_wp2_with (refine wpList_store_blk rfl 36 _ _ rfl r rfl (rzC (rzR 8)) rfl (HE3.out.bl (r, 36, rzC (rzR 0)) (by simp)).1 rfl I0.out (rz_one _) ?_; intro w9 HB9 HU9)
    exact bodyPost_ret (results_blk Tryd.results38 rfl (show AggOf Tryd.prog 36 (rzC (rzR 8)).length from AggOf.struct Tryd.underlying36 info_rz) HB9.out) rfl
      ⟨rfl, (HE3.out.set (i := 0) rfl HB9.out HU9.out).out⟩
  | true =>
    rw [show mAlloc M m size refs true = (mGive { M with objs := M.objs ++ [⟨List.replicate refs 0, List.replicate (size - refs) 0⟩], alt := M.alt + wrdM size } m (M.objs.length + 1), rzA (hN (M.gen m) m (M.held m).length) 0) by unfold mAlloc; rw [if_neg ec, if_neg c2, if_neg efl, if_neg (by simp)]]
    as_aux_lemma =>
    have hsz : size ≤ 8192 := by omega
    have hrs : refs ≤ size := by omega
    have hhl : (M.held m).length < 128 := by
      have h1 := HBd.out.hd m hm
      unfold mFull at hfl
      simp at hfl
      omega
    clear c0 c1 c2 ec hfl efl
    go_enter Tryd.func38, Tryd.ntmps38
    go_upto_region 1 with fail
    obtain ⟨w1, hw1⟩ : ∃ w1, w.alloc (.cells (rzC (rzR 0)).toArray 36) = w1 := ⟨_, rfl⟩
    have HE : Hid (EM w σ N M [(r, 36, rzC (rzR 0))] w1) := by rw [← hw1]; exact HE0
    rw [show w.alloc (.cells #[.int .u8 0, .int .u64 0, .int .u64 0, .int .u64 0, .int .u64 0, .int .u64 0, .int .i64 0, .int .i64 0] 36) = w1 from hw1]
    clear hw1 HE0
    go_upto_region 5 with fail
    go_wp2_with fail
    refine (HFl.out _ HE.out).mono ?_
    rintro e w2 ⟨rfl, hE2⟩
    have HE2 := hid hE2
    clear hE2 HE
    obtain ⟨σ1, N1, hM1, hB1, hF1, h01⟩ := HE2.out.ex
    have HM1 := hid hM1
    have HEq : Hid (N1.mB = N.mB ∧ Fm σ w σ1 w2 ∧ ∀ x ∈ [(r, 36, rzC (rzR 0))], σ1 x.1 = 0) := hid ⟨hB1, hF1, h01⟩
    have HB1 : Hid (N1.mB = mB) := hid (hB1.trans HmB.out)
    obtain ⟨oa, ok, hov⟩ := ov_shape hM1.pt
    obtain ⟨no, hno⟩ : ∃ x, M.objs.length = x := ⟨_, rfl⟩
    rw [hno] at hov
    have Hov := hid hov
    have Hno := hid hno
    have HC : Hid (∀ wy, Below w2.heap.size w2 wy → wy.cell? ⟨mB, 0, none⟩ = some (.slice oa no ok)) := hid (fun wy hy => by
      have := (HM1.out.below hy).cell 0
      rw [HB1.out] at this
      rw [this, ← Hov.out]
      rfl)
    obtain ⟨wd9, hwd9⟩ : ∃ x, size - refs = x := ⟨_, rfl⟩
    have hmk1 := fun w => make_refs refs (by omega) w
    have hmk2 := fun w => make_words wd9 (by omega) w
    have hsr : (size : Int) - (refs : Int) = (wd9 : Int) := by omega
    have no9 : no ≤ 100000000000 := by have := HBd.out.ob; omega
    have Hwd9 := hid hwd9
    clear hM1 hB1 hF1 h01 hov hno
    go_upto_region 9 with fail
    go_cut [33] from 29 to 44 (fun v wc => Hid (EM w σ N { M with objs := M.objs ++ [⟨List.replicate refs 0, List.replicate wd9 0⟩] } [(r, 36, rzC (rzR 0))] wc))
    case first =>
      as_aux_lemma =>
      refine wp_region_tree (fun wy => wy.cell? ⟨mB, 0, none⟩ = some (.slice oa no ok)) 14 [0, 1, 2, 3, 4, 5, 7, 8, 9] (.two 6 (.one 10 (.lit [11] (.one 12 (.one 13 .leaf)))) 10 (.one 6 (.lit [11] (.one 12 (.one 13 .leaf))))) rfl (by kernel_rfl) (by kernel_rfl) (fun d _ _ _ _ h => by cases d <;> exact h) (HC.out _ (Drew.below ⟨1, rfl⟩ _)) ?_
      apply Exists.intro
      refine ⟨?_, ?_⟩
      · intro W hW
        simp only [List.take, opsAt, List.drop, List.cons_append, List.nil_append]
        repeat (go_big_quiet_step (fail))
        exact rfl
      have HB0 : Hid (Below w2.heap.size w2 w2.drew) := hid (Drew.below ⟨1, rfl⟩ _)
      generalize w2.drew = wd at HB0 ⊢
      simp only [wpTr]
      refine ⟨?_, ?_⟩
      · skip
        simp only [wpTr, opsAt, List.take, List.drop, List.cons_append, List.nil_append]
        as_aux_lemma =>
        obtain ⟨q, hq⟩ : ∃ q, wd.heap.size = q := ⟨_, rfl⟩
        obtain ⟨wa, hwa⟩ : ∃ x, wd.alloc (.cells (aK .i64 (List.replicate refs 0)).toArray 3) = x := ⟨_, rfl⟩
        obtain ⟨wb, hwb⟩ : ∃ x, wa.alloc (.cells (aK .u64 (List.replicate wd9 0)).toArray 29) = x := ⟨_, rfl⟩
        have sa : wa.heap.size = q + 1 := by rw [← hwa, ← hq]; simp
        have sb : wb.heap.size = q + 2 := by rw [← hwb]; simp [sa]
        obtain ⟨wm, hwm⟩ : ∃ x, wb.alloc (.cells #[.slice (some ⟨q, 0, none⟩) refs refs, .slice (some ⟨(q + 1), 0, none⟩) wd9 wd9] 93) = x := ⟨_, rfl⟩
        have ba : Below wd.heap.size wd wa := by rw [← hwa]; exact nbel _ _
        have bb : Below wa.heap.size wa wb := by rw [← hwb]; exact nbel _ _
        have bm : Below wb.heap.size wb wm := by rw [← hwm]; exact nbel _ _
        have bab : Below wd.heap.size wd wb := ba.trans (bb.mono ba.size)
        have bam : Below wd.heap.size wd wm := bab.trans (bm.mono bab.size)
        have SA : Hid (Below w2.heap.size w2 wa) := hid (HB0.out.trans (ba.mono HB0.out.size))
        have SB : Hid (Below w2.heap.size w2 wb) := hid (HB0.out.trans (bab.mono HB0.out.size))
        have SM : Hid (Below w2.heap.size w2 wm) := hid (HB0.out.trans (bam.mono HB0.out.size))
        have xR : Blk wm q 3 (aK .i64 (List.replicate refs 0)) := by
          have := Blk.new wd (aK .i64 (List.replicate refs 0)) 3
          rw [hq, hwa] at this
          exact (this.below bb).below bm
        have xD : Blk wm (q + 1) 29 (aK .u64 (List.replicate wd9 0)) := by
          have := Blk.new wa (aK .u64 (List.replicate wd9 0)) 29
          rw [sa, hwb] at this
          exact this.below bm
        have hq2 : w2.heap.size ≤ q := by rw [← hq]; exact HB0.out.size
        obtain ⟨σm, hMm, hFm, hAll⟩ := HM1.out.newObj SM.out xR xD (by omega) (by omega) (by omega) (by omega)
        have HMm := hid hMm
        have HAll := hid hAll
        have HNws : Hid (∀ ad, some (⟨q + 2, 0, none⟩ : Addr) = some ad → ∀ j u, [Value.slice (some ⟨q, 0, none⟩) refs refs, .slice (some ⟨(q + 1), 0, none⟩) wd9 wd9][j]? = some u → wm.cell? (ad.add j) = some u) := hid (by rw [← hwm, ← sb]; exact newRow wb [.slice (some ⟨q, 0, none⟩) refs refs, .slice (some ⟨(q + 1), 0, none⟩) wd9 wd9] 93 _ rfl)
        have HOw : Hid (wm.ownsRow 0 93 2 (.slice oa no ok) no (oC N1.rb N1.db 0 M.objs)) := hid (by have := hMm.pt.ow; rw [Hov.out, Hno.out] at this; exact this)
        have HRo : Hid (∀ g, (Value.slice oa no ok).ownBlock = some g → σm g = 2) := hid (fun g hg => hMm.pt.ro g (by rw [Hov.out]; exact hg))
        have hbb : (no + 1) * 48 ≤ 140737488355328 := by omega
        clear ba bb bm bab bam xR xD hMm hFm hAll
        go_wp2_with fail
        (try simp only [hwa, hq])
        refine ⟨HC.out _ SA.out, ?_⟩
        simp only [wpTr, opsAt, List.take, List.drop, List.cons_append, List.nil_append]
        go_wp2_with fail
        (try simp only [hwb, sa])
        refine ⟨HC.out _ SB.out, ?_⟩
        simp only [wpTr, opsAt, List.take, List.drop, List.cons_append, List.nil_append]
        apply Exists.intro
        refine ⟨?_, ?_⟩
        · intro W hW
          clear hW
          repeat (go_big_quiet_step (fail))
          exact rfl
        (try simp only [wpTr, opsAt, List.take, List.drop, List.cons_append, List.nil_append])
        go_wp2_with fail
        (try simp only [hwm, sb])
        refine ⟨HC.out _ SM.out, ?_⟩
        (try simp only [wpTr, opsAt, List.take, List.drop, List.cons_append, List.nil_append])
        refine wpList_app_obj rfl (.tmp 33) (.tmp 41) rfl wm σm (.slice oa no ok) no (oC N1.rb N1.db 0 M.objs) (by simp [Act.eval, Act.put]; done) HOw.out HRo.out HMm.out.dom (q + 2) (by simp [Act.eval, Act.put]; done) (.slice (some ⟨q, 0, none⟩) refs refs) (.slice (some ⟨(q + 1), 0, none⟩) wd9 wd9) rfl rfl HNws.out hbb ?_
        intro v8 w8 σ8 k1 k2 k3 k4 k5 k6
        have hO8 := HAll.out v8 w8 σ8 (by rw [Hno.out]; exact k1) k2 k3 k4 k5 k6
        obtain ⟨a8, k8, h8⟩ := own2_shape k1
        subst h8
        have hmlt : mB < wm.heap.size := by have := HMm.out.mb.lt; rw [HB1.out] at this; exact this
        have hk8m : w8.heap[mB]? = wm.heap[mB]? := k4 mB hmlt (by have := HMm.out.r1; rw [HB1.out] at this; rw [this]; omega)
        have c8 : w8.cell? ⟨mB, 0, none⟩ = some (.slice oa no ok) := by rw [← HC.out _ SM.out]; exact World.cell?_of_block hk8m
        have f8 : w8.frozen? ⟨mB, 0, none⟩ = false := by
          rw [World.frozen?_of_block (w := wm) hk8m]
          have := HMm.out.mb.frozen 0
          rw [HB1.out] at this
          exact this
        have HE8 : Hid (EM w σ N { M with objs := M.objs ++ [⟨List.replicate refs 0, List.replicate wd9 0⟩] } [(r, 36, rzC (rzR 0))] (w8.setCell ⟨mB, 0, none⟩ (.slice a8 (no + 1) k8))) := hid (by
          rw [HB1.out] at hO8
          exact HE2.out.run1 HM1.out HEq.out hO8)
        clear k1 k2 k3 k4 k5 k6 hO8 hk8m hmlt
        go_wp2_with fail
        refine ⟨c8, ?_⟩
        simp only [wpTr, QN]
        go_wp2_with fail
        go_meet
        case rel => exact HE8
      · skip
        simp only [wpTr, opsAt, List.take, List.drop, List.cons_append, List.nil_append]
        as_aux_lemma =>
        obtain ⟨q, hq⟩ : ∃ q, wd.heap.size = q := ⟨_, rfl⟩
        obtain ⟨wa, hwa⟩ : ∃ x, wd.alloc (.cells (aK .u64 (List.replicate wd9 0)).toArray 29) = x := ⟨_, rfl⟩
        obtain ⟨wb, hwb⟩ : ∃ x, wa.alloc (.cells (aK .i64 (List.replicate refs 0)).toArray 3) = x := ⟨_, rfl⟩
        have sa : wa.heap.size = q + 1 := by rw [← hwa, ← hq]; simp
        have sb : wb.heap.size = q + 2 := by rw [← hwb]; simp [sa]
        obtain ⟨wm, hwm⟩ : ∃ x, wb.alloc (.cells #[.slice (some ⟨(q + 1), 0, none⟩) refs refs, .slice (some ⟨q, 0, none⟩) wd9 wd9] 93) = x := ⟨_, rfl⟩
        have ba : Below wd.heap.size wd wa := by rw [← hwa]; exact nbel _ _
        have bb : Below wa.heap.size wa wb := by rw [← hwb]; exact nbel _ _
        have bm : Below wb.heap.size wb wm := by rw [← hwm]; exact nbel _ _
        have bab : Below wd.heap.size wd wb := ba.trans (bb.mono ba.size)
        have bam : Below wd.heap.size wd wm := bab.trans (bm.mono bab.size)
        have SA : Hid (Below w2.heap.size w2 wa) := hid (HB0.out.trans (ba.mono HB0.out.size))
        have SB : Hid (Below w2.heap.size w2 wb) := hid (HB0.out.trans (bab.mono HB0.out.size))
        have SM : Hid (Below w2.heap.size w2 wm) := hid (HB0.out.trans (bam.mono HB0.out.size))
        have xR : Blk wm (q + 1) 3 (aK .i64 (List.replicate refs 0)) := by
          have := Blk.new wa (aK .i64 (List.replicate refs 0)) 3
          rw [sa, hwb] at this
          exact this.below bm
        have xD : Blk wm q 29 (aK .u64 (List.replicate wd9 0)) := by
          have := Blk.new wd (aK .u64 (List.replicate wd9 0)) 29
          rw [hq, hwa] at this
          exact (this.below bb).below bm
        have hq2 : w2.heap.size ≤ q := by rw [← hq]; exact HB0.out.size
        obtain ⟨σm, hMm, hFm, hAll⟩ := HM1.out.newObj SM.out xR xD (by omega) (by omega) (by omega) (by omega)
        have HMm := hid hMm
        have HAll := hid hAll
        have HNws : Hid (∀ ad, some (⟨q + 2, 0, none⟩ : Addr) = some ad → ∀ j u, [Value.slice (some ⟨(q + 1), 0, none⟩) refs refs, .slice (some ⟨q, 0, none⟩) wd9 wd9][j]? = some u → wm.cell? (ad.add j) = some u) := hid (by rw [← hwm, ← sb]; exact newRow wb [.slice (some ⟨(q + 1), 0, none⟩) refs refs, .slice (some ⟨q, 0, none⟩) wd9 wd9] 93 _ rfl)
        have HOw : Hid (wm.ownsRow 0 93 2 (.slice oa no ok) no (oC N1.rb N1.db 0 M.objs)) := hid (by have := hMm.pt.ow; rw [Hov.out, Hno.out] at this; exact this)
        have HRo : Hid (∀ g, (Value.slice oa no ok).ownBlock = some g → σm g = 2) := hid (fun g hg => hMm.pt.ro g (by rw [Hov.out]; exact hg))
        have hbb : (no + 1) * 48 ≤ 140737488355328 := by omega
        clear ba bb bm bab bam xR xD hMm hFm hAll
        go_wp2_with fail
        (try simp only [hwa, hq])
        refine ⟨HC.out _ SA.out, ?_⟩
        simp only [wpTr, opsAt, List.take, List.drop, List.cons_append, List.nil_append]
        go_wp2_with fail
        (try simp only [hwb, sa])
        refine ⟨HC.out _ SB.out, ?_⟩
        simp only [wpTr, opsAt, List.take, List.drop, List.cons_append, List.nil_append]
        apply Exists.intro
        refine ⟨?_, ?_⟩
        · intro W hW
          clear hW
          repeat (go_big_quiet_step (fail))
          exact rfl
        (try simp only [wpTr, opsAt, List.take, List.drop, List.cons_append, List.nil_append])
        go_wp2_with fail
        (try simp only [hwm, sb])
        refine ⟨HC.out _ SM.out, ?_⟩
        (try simp only [wpTr, opsAt, List.take, List.drop, List.cons_append, List.nil_append])
        refine wpList_app_obj rfl (.tmp 33) (.tmp 41) rfl wm σm (.slice oa no ok) no (oC N1.rb N1.db 0 M.objs) (by simp [Act.eval, Act.put]; done) HOw.out HRo.out HMm.out.dom (q + 2) (by simp [Act.eval, Act.put]; done) (.slice (some ⟨(q + 1), 0, none⟩) refs refs) (.slice (some ⟨q, 0, none⟩) wd9 wd9) rfl rfl HNws.out hbb ?_
        intro v8 w8 σ8 k1 k2 k3 k4 k5 k6
        have hO8 := HAll.out v8 w8 σ8 (by rw [Hno.out]; exact k1) k2 k3 k4 k5 k6
        obtain ⟨a8, k8, h8⟩ := own2_shape k1
        subst h8
        have hmlt : mB < wm.heap.size := by have := HMm.out.mb.lt; rw [HB1.out] at this; exact this
        have hk8m : w8.heap[mB]? = wm.heap[mB]? := k4 mB hmlt (by have := HMm.out.r1; rw [HB1.out] at this; rw [this]; omega)
        have c8 : w8.cell? ⟨mB, 0, none⟩ = some (.slice oa no ok) := by rw [← HC.out _ SM.out]; exact World.cell?_of_block hk8m
        have f8 : w8.frozen? ⟨mB, 0, none⟩ = false := by
          rw [World.frozen?_of_block (w := wm) hk8m]
          have := HMm.out.mb.frozen 0
          rw [HB1.out] at this
          exact this
        have HE8 : Hid (EM w σ N { M with objs := M.objs ++ [⟨List.replicate refs 0, List.replicate wd9 0⟩] } [(r, 36, rzC (rzR 0))] (w8.setCell ⟨mB, 0, none⟩ (.slice a8 (no + 1) k8))) := hid (by
          rw [HB1.out] at hO8
          exact HE2.out.run1 HM1.out HEq.out hO8)
        clear k1 k2 k3 k4 k5 k6 hO8 hk8m hmlt
        go_wp2_with fail
        refine ⟨c8, ?_⟩
        simp only [wpTr, QN]
        go_wp2_with fail
        go_meet
        case rel => exact HE8
    case rest =>
    as_aux_lemma =>
    obtain ⟨M1, hM1e⟩ : ∃ x, ({ M with objs := M.objs ++ [⟨List.replicate refs 0, List.replicate wd9 0⟩] } : MS) = x := ⟨_, rfl⟩
    rw [hM1e] at hcut
    have HM1e := hid hM1e
    have HE9 := hcut
    obtain ⟨al, hal⟩ : ∃ x, M.alt = x := ⟨_, rfl⟩
    obtain ⟨ws, hws⟩ : ∃ x, wrdM size = x := ⟨_, rfl⟩
    have hws9 : ws ≤ 8194 := by rw [← hws]; unfold wrdM; omega
    have HC2 : Hid (∀ wy, Below wc.heap.size wc wy → wy.cell? ⟨mB, 14, none⟩ = some (.int .i64 (al : Int))) := hid (fun wy hy => by
      obtain ⟨σ2, N2, q1, q2, q3, q4⟩ := (HE9.out.below hy).ex
      have := q1.cell 14
      rw [q2, HmB.out, ← HM1e.out] at this
      rw [this, ← hal]
      rfl)
    have HWo : Hid (∀ w9 : World, Calls Tryd.prog 47 #[.int .i64 (size : Int)] w9 fun e w' => e = .returned (.int .i64 (ws : Int)) ∧ w' = w9) := hid (fun w9 => by have := words_walk size hsz w9; rw [hws] at this; exact this)
    have al9 : (al : Int) ≤ 1000000000000000 := by have := HBd.out.alt; omega
    have ws9 : (ws : Int) ≤ 8194 := by omega
    have sz9 : (size : Int) ≤ 8192 := by omega
    have Hal := hid hal
    have Hws := hid hws
    clear hcut hal hws HC HEq HM1 HE2 hM1e
    go_upto_region 10 with fail
    refine wp_region_heavy (fun wy => Below wc.heap.size wc wy) 8 [0, 1, 2, 3, 4, 5, 6, 7] [] rfl (by kernel_rfl) (by kernel_rfl) (fun d _ _ _ _ h => by cases d <;> exact h) (Drew.below ⟨1, rfl⟩ _) ?_
    apply Exists.intro
    refine ⟨?_, ?_⟩
    · intro W hW
      have q0 : ∀ x, (W x).cell? ⟨mB, 14, none⟩ = some (.int .i64 (al : Int)) := fun x => HC2.out _ (hW x)
      clear hW
      simp only [List.take, opsAt, List.drop, List.cons_append, List.nil_append]
      repeat (go_big_quiet_step ((go_at_call 47; exact Calls.class_same (HWo.out _))))
      exact rfl
    simp only [List.take, List.drop, opsAt, List.cons_append, List.nil_append, wpHv, QN]
    have HEd : Hid (EM w σ N M1 [(r, 36, rzC (rzR 0))] wc.drew) := hid (HE9.out.below (Drew.below ⟨1, rfl⟩ _))
    have cA := HC2.out wc.drew (Drew.below ⟨1, rfl⟩ _)
    generalize wc.drew = wd at HEd cA ⊢
    obtain ⟨σ2, N2, q1, q2, q3, q4⟩ := HEd.out.ex
    have fA : wd.frozen? ⟨mB, 14, none⟩ = false := by have := q1.mb.frozen 14; rw [q2, HmB.out] at this; exact this
    have HEs : Hid (EM w σ N { M1 with alt := al + ws } [(r, 36, rzC (rzR 0))] (wd.setCell ⟨mB, 14, none⟩ (.int .i64 ((al : Int) + (ws : Int))))) := hid (by
      have := q1.setAlt (al + ws)
      rw [q2, HmB.out] at this
      exact HEd.out.run1 q1 ⟨q2, q3, q4⟩ this)
    clear q1 q2 q3 q4 HE9 HC2 HEd
    go_upto_region 11 with fail
    generalize wd.setCell ⟨mB, 14, none⟩ (.int .i64 ((al : Int) + (ws : Int))) = w5 at HEs ⊢
    clear cA fA
    obtain ⟨M2, hM2⟩ : ∃ x, ({ M1 with alt := al + ws } : MS) = x := ⟨_, rfl⟩
    rw [hM2] at HEs
    have hb2 : MBd M2 (n + 1) := by
      have hb := HBd.out
      rw [← hM2, ← HM1e.out]
      refine ⟨?_, Nat.le_trans hb.iss (by omega), fun i hi => Nat.le_trans (hb.gen i hi) (by omega), hb.hd, hb.rt, Nat.le_trans hb.st (by omega), Nat.le_trans hb.rf (by omega), Nat.le_trans hb.sf (by omega), ?_, hb.ih⟩
      · show (M.objs ++ [_]).length ≤ n + 1
        rw [List.length_append, List.length_singleton]
        have := hb.ob
        omega
      · show al + ws ≤ (n + 1) * 8194
        have := hb.alt
        rw [Hal.out] at this
        omega
    have e1 : M2.gen m = M.gen m := by rw [← hM2, ← HM1e.out]
    have e2 : M2.held m = M.held m := by rw [← hM2, ← HM1e.out]
    have e3 : M2.objs.length = no + 1 := by rw [← hM2, ← HM1e.out]; show (M.objs ++ [_]).length = _; rw [List.length_append, List.length_singleton, Hno.out]
    have HG : Hid (mGive M2 m (no + 1) = mGive { M with objs := M.objs ++ [⟨List.replicate refs 0, List.replicate wd9 0⟩], alt := M.alt + wrdM size } m (M.objs.length + 1)) := hid (by rw [← hM2, ← HM1e.out, Hal.out, Hws.out, Hno.out])
    obtain ⟨hvv, hhv⟩ : ∃ x, hN (M.gen m) m (M.held m).length = x := ⟨_, rfl⟩
    have Hhv := hid hhv
    have HGv : Hid (∀ wz, EM w σ N M2 [(r, 36, rzC (rzR 0))] wz → Calls Tryd.prog 40 #[.pointer (some ⟨mB, 0, none⟩), .int .i64 (m : Int), .int .i64 ((no + 1 : Nat) : Int)] wz fun e w' => ∃ M', (e = .returned (.int .u64 (hvv : Int)) ∧ M' = mGive M2 m (no + 1)) ∧ EM w σ N M' [(r, 36, rzC (rzR 0))] w') := hid (fun wz hz => by
      have := hz.call (f := 40) (args := fun x => #[.pointer (some ⟨x, 0, none⟩), .int .i64 (m : Int), .int .i64 ((no + 1 : Nat) : Int)]) (R := fun e M' => e = .returned (.int .u64 (hvv : Int)) ∧ M' = mGive M2 m (no + 1)) (fun σ' N' hM => (mgive_walk hM hb2 (by omega) hm (by rw [e2]; exact hhl) (no + 1)).mono (fun e w' ⟨k1, k2⟩ => ⟨_, ⟨by rw [k1, e1, e2, hhv], rfl⟩, k2⟩))
      rw [HmB.out] at this
      exact this)
    obtain ⟨oa2, ok2, c5⟩ : ∃ a k, w5.cell? ⟨mB, 0, none⟩ = some (.slice a (no + 1) k) := by
      obtain ⟨σ2, N2, q1, q2, q3, q4⟩ := HEs.out.ex
      obtain ⟨a2, k2, e4⟩ := ov_shape q1.pt
      have := q1.cell 0
      rw [q2, HmB.out] at this
      exact ⟨a2, k2, by rw [this, ← e3, ← e4]; rfl⟩
    clear hM2 hb2 e1 e2 e3 hhv
    go_wp2_with fail
    refine (HGv.out _ HEs.out).mono ?_
    rintro e w6 ⟨M6, ⟨rfl, rfl⟩, hE6⟩
    have HE6 := hid hE6
    clear hE6 HEs HGv c5
    go_wp2_with (refine wpList_store_blk rfl 36 _ _ rfl r rfl (rzC (rzA hvv 0)) rfl (HE6.out.bl (r, 36, rzC (rzR 0)) (by simp)).1 rfl I0.out (rz_one _) ?_; intro w9 HB9 HU9)
    exact bodyPost_ret (results_blk Tryd.results38 rfl (show AggOf Tryd.prog 36 (rzC (rzA hvv 0)).length from AggOf.struct Tryd.underlying36 info_rz) HB9.out) rfl
      ⟨by rw [Hhv.out], by rw [← HG.out]; exact (HE6.out.set (i := 0) rfl HB9.out HU9.out).out⟩
end
end Go.Proofs.Qxb6500889aDoor
