/- Audit, exactly (written by tools/mk_at2.py). -/
import Derived.Test.Qxb6500887aGreatAt1
namespace Go.Proofs.Qxb6500887aGreat
open Go.RowKit
set_option linter.unusedSimpArgs false
set_option linter.unusedVariables false
/-- Audit's records. -/
def auG (l : AL) (ge gr rr bx : Nat) (s : AuT) : List (Nat × TypeId × List Value) := [(ge, 3, [.int .i64 (s.en : Int)]), (gr, 36, [.int .i64 (s.ct : Int), .int .i64 (s.nh : Int), .int .i64 (s.ov : Int), .int .i64 (s.un : Int), .int .i64 (s.bf : Int)]), (rr, 36, [.int .i64 0, .int .i64 0, .int .i64 0, .int .i64 0, .int .i64 0]), (bx, 24, [.pointer (some ⟨l.a, 0, none⟩)])]
section
variable {l : AL} {S : AS} {w w' w0 : World} {p q : Nat} {cs : List Value} {o : Ob}
/-- What a boolean adds. -/
theorem b_add (x : Nat) (b : Bool) : (if b = true then x + 1 else x) = x + b.toNat := by cases b <;> rfl
theorem hsV_hsE {S : AS} {g : Nat} (hg : g < 16384) (h : opW S.W g = 0) : hsV S (opO S g) = hsE (abE S).T (2 * g) (1 + szN S.W g) := by
  have hw : wantO (65536 + 2 * (g : Int)) = 0 ∧ gIx (65536 + 2 * (g : Int)) = g := by
    have h1 : InH (65536 + 2 * (g : Int)) := ⟨by omega, by omega⟩
    have h2 : wantO (65536 + 2 * (g : Int)) = 0 := by unfold wantO; rw [if_pos h1, if_pos (by omega)]
    obtain ⟨g1, g2, g3⟩ := gIx_of h2
    exact ⟨h2, by omega⟩
  have ho : onC S (65536 + 2 * (g : Int)) = 0 := by unfold onC; rw [if_pos hw.1, hw.2]; exact h
  have h1 := rd47 (b := 0) (c := 0) (bb := hsV S (opO S g)) ho (by rw [hw.2]) rfl
  have h2 : (stR (abE S) 47 (65536 + 2 * (g : Int)) 0 0).1 = rsC 0 ((bitN (hsE (abE S).T (2 * g) (1 + szN (abE S).W g)) : Nat) : Int) 0 := by
    show hsdE (abE S) _ = _
    unfold hsdE
    rw [if_pos (show onE (abE S).W (65536 + 2 * (g : Int)) = 0 from ho), hw.2]
  rw [h2] at h1
  have h3 : (bitN (hsV S (opO S g)) : Nat) = bitN (hsE (abE S).T (2 * g) (1 + szN (abE S).W g)) := by
    have := congrArg (fun xs : List Value => xs[1]?) h1
    have h4 : ((bitN (hsV S (opO S g)) : Nat) : Int) = ((bitN (hsE (abE S).T (2 * g) (1 + szN (abE S).W g)) : Nat) : Int) := by simpa [rsC, rsOf] using this
    exact Int.ofNat_inj.1 h4
  revert h3
  show _ = bitN (hsE (abE S).T (2 * g) (1 + szN S.W g)) → _
  generalize hsV S (opO S g) = x
  generalize hsE (abE S).T (2 * g) (1 + szN S.W g) = y
  cases x <;> cases y <;> simp [bitN]
theorem au_law {S : AS} {k ct nh ov un bf en c1 n1 u1 f1 ovn unn bfn nn : Nat} {o : Ob} {b1 b2 nb nb2 : Bool} (hop : opW S.W k = 0) (hk : k < 16384) (hF : (abE S).C k ≠ 0 ∧ c1 = ct + 1 ∧ n1 = nh + 1 ∧ u1 = un + 1 ∧ f1 = bf + 1 ∧ ovn = ov + (decide (2 * k < en)).toNat) (ho : opO S k = o) (hn : 1 + o.sz = nn) (hb1 : hsV S o = b1) (hu : (if nb = true then u1 else un) = unn ∧ (!b1) = nb) (hf : (if nb2 = true then f1 else bf) = bfn ∧ (!b2) = nb2) (hb2 : b2 = true ↔ rfAll S (o.k + 1) o.rf) : auStep (abE S) k ⟨ct, nh, ov, un, bf, en⟩ = ⟨c1, nh, ovn, unn, bfn, max en (o.k + nn)⟩ := by
  obtain ⟨f1, f2, f3, f4, f5, f6⟩ := hF
  subst ho
  unfold auStep
  rw [if_neg f1, if_pos (show opW (abE S).W k = 0 from hop), f2, f6, ← hu.1, ← hf.1, f4, f5, b_add, b_add, ← hu.2, ← hf.2, ← hb1, hsV_hsE hk hop, ← hn]
  have hr : rfB (abE S).W k = b2 := by
    unfold rfB
    rw [Bool.eq_iff_iff, hb2]
    exact @decide_eq_true_iff _ (Classical.propDecidable _)
  rw [hr]
  show _ = AuT.mk _ _ _ _ _ (max en (2 * k + (1 + szN S.W k)))
  rw [Nat.add_assoc]
  rfl
set_option maxRecDepth 100000 in
set_option maxHeartbeats 8000000 in
theorem audit1X {ge gr rr bx en ct nh ov un bf : Nat} (H0 : Hid (OwV (AM l S) w0 [(ge, 3, [.int .i64 (en : Int)]), (gr, 36, [.int .i64 (ct : Int), .int .i64 (nh : Int), .int .i64 (ov : Int), .int .i64 (un : Int), .int .i64 (bf : Int)]), (rr, 36, [.int .i64 0, .int .i64 0, .int .i64 0, .int .i64 0, .int .i64 0]), (bx, 24, [.pointer (some ⟨l.a, 0, none⟩)])] w)) (k : Nat) (v : Int) (hk : k < 16384) (hC : eN 2 32 S.C k ≠ 0) (hct : ct ≤ k) (hnh : nh ≤ k) (hov : ov ≤ k) (hun : un ≤ k) (hbf : bf ≤ k) (hen : en ≤ 32768) : Calls Tryz.prog 263 #[.int .i64 (k : Int), .int .u64 v, .pointer (some ⟨gr, 0, none⟩), .pointer (some ⟨ge, 0, none⟩), .pointer (some ⟨bx, 0, none⟩)] w (fun e w' => e = .returned (.bool true) ∧ OwV (AM l S) w0 (auG l ge gr rr bx (auStep (abE S) k ⟨ct, nh, ov, un, bf, en⟩)) w') := by
  have I0 := hid info_ob
  have I1 := hid info_ex
  obtain ⟨c1, hc1⟩ : ∃ x, ct + 1 = x := ⟨_, rfl⟩
  have ec1 : (ct : Int) + 1 = (c1 : Int) := by omega
  obtain ⟨n1, hn1⟩ : ∃ x, nh + 1 = x := ⟨_, rfl⟩
  have en1 : (nh : Int) + 1 = (n1 : Int) := by omega
  obtain ⟨o1, ho1⟩ : ∃ x, ov + 1 = x := ⟨_, rfl⟩
  have eo1 : (ov : Int) + 1 = (o1 : Int) := by omega
  obtain ⟨u1, hu1⟩ : ∃ x, un + 1 = x := ⟨_, rfl⟩
  have eu1 : (un : Int) + 1 = (u1 : Int) := by omega
  obtain ⟨f1, hf1⟩ : ∃ x, bf + 1 = x := ⟨_, rfl⟩
  have ef1 : (bf : Int) + 1 = (f1 : Int) := by omega
  have hb1 : c1 ≤ 20000 ∧ n1 ≤ 20000 ∧ o1 ≤ 20000 ∧ u1 ≤ 20000 ∧ f1 ≤ 20000 := by omega
  obtain ⟨b, hb⟩ : ∃ b, decide ((k : Int) * 2 < (en : Int)) = b := ⟨_, rfl⟩
  obtain ⟨ovn, hovn⟩ : ∃ x, (if b = true then o1 else ov) = x := ⟨_, rfl⟩
  have HF : Hid ((abE S).C k ≠ 0 ∧ c1 = ct + 1 ∧ n1 = nh + 1 ∧ u1 = un + 1 ∧ f1 = bf + 1 ∧ ovn = ov + (decide (2 * k < en)).toNat) := hid ⟨hC, hc1.symm, hn1.symm, hu1.symm, hf1.symm, by
    rw [← hovn, ← ho1, b_add, ← hb]
    congr 2
    exact decide_eq_decide.2 ⟨fun h => by omega, fun h => by omega⟩⟩
  have Hovn := hid hovn
  clear hC hc1 hn1 ho1 hu1 hf1 hovn
  go_enter Tryz.func263, Tryz.ntmps263
  have cx_ : w.cell? ⟨gr, 0, none⟩ = some (.int .i64 (ct : Int)) := H0.out.cell (k := 1) rfl 0
  have zx_ := H0.out.frozen (k := 1) rfl 0
  go_upto_region 2 with fail
  have HP_ := hid (fun y => H0.out.put (k := 1) rfl 0 y)
  generalize hz_ : World.setCell _ (⟨gr, 0, none⟩ : Addr) _ = w_H1
  have H1 : Hid (OwV (AM l S) w0 [(ge, 3, [.int .i64 (en : Int)]), (gr, 36, [.int .i64 (c1 : Int), .int .i64 (nh : Int), .int .i64 (ov : Int), .int .i64 (un : Int), .int .i64 (bf : Int)]), (rr, 36, [.int .i64 0, .int .i64 0, .int .i64 0, .int .i64 0, .int .i64 0]), (bx, 24, [.pointer (some ⟨l.a, 0, none⟩)])] w_H1) := hid (by rw [← hz_]; exact HP_.out _)
  clear hz_ HP_ cx_ zx_ H0
  have ce : w_H1.cell? ⟨ge, 0, none⟩ = some (.int .i64 (en : Int)) := H1.out.cell (k := 0) rfl 0
  go_upto_if 18 with fail
  clear hb ce
  go_cut [] from 19 to 22 (fun wc => Hid (OwV (AM l S) w0 [(ge, 3, [.int .i64 (en : Int)]), (gr, 36, [.int .i64 (c1 : Int), .int .i64 (nh : Int), .int .i64 (ovn : Int), .int .i64 (un : Int), .int .i64 (bf : Int)]), (rr, 36, [.int .i64 0, .int .i64 0, .int .i64 0, .int .i64 0, .int .i64 0]), (bx, 24, [.pointer (some ⟨l.a, 0, none⟩)])] wc))
  case first =>
    as_aux_lemma =>
    cases b with
    | false =>
      have e0 : ov = ovn := Hovn.out
      go_wp2
      go_meet
      case rel => exact hid (by rw [← e0]; exact H1.out)
    | true =>
      have cx_ : w_H1.cell? ⟨gr, 2, none⟩ = some (.int .i64 (ov : Int)) := H1.out.cell (k := 1) rfl 2
      have zx_ := H1.out.frozen (k := 1) rfl 2
      have He0 : Hid (o1 = ovn) := hid Hovn.out
      go_wp2
      go_meet
      case rel => exact hid (by rw [← He0.out]; exact H1.out.put (k := 1) rfl 2 _)
  case rest =>
  as_aux_lemma =>
  clear H1
  have H2 := hid hcut.out
  generalize hwc : wc = w2 at H2 ⊢
  clear hwc hcut Hovn
  clear eo1
  have k2 : w2.cell? ⟨bx, 0, none⟩ = some (.pointer (some ⟨l.a, 0, none⟩)) := H2.out.cell (k := 3) rfl 0
  have HO := hid (openGranuleZ H2.out.b k hk)
  have Hlen := hid (opL_len l S k)
  have Hone := hid (opL_one l S k)
  have HOk := hid (fun (hc : opC S k = 0) => (opC_ok hk (H2.out.b.wl _) hc).2.1)
  go_wp2_with fail
  refine HO.out.mono ?_
  rintro e w3 ⟨rfl, hb3⟩
  have H3 := hid (H2.out.below hb3)
  clear hb3 H2 HO k2
  obtain ⟨q, hq⟩ : ∃ q, w3.heap.size = q := ⟨_, rfl⟩
  have HN : Hid (Blk (w3.alloc (.cells #[.pointer none, .int .i64 0, .int .u64 0, .int .i64 0, .int .i64 0] 61)) q 61 ob0) := hid (by
    have kk := Blk.new w3 ob0 61
    rw [hq] at kk
    exact kk)
  (try simp only [hq])
  go_upto_region 5 with (refine wpList_store_blk rfl 61 _ _ rfl q rfl (opL l S k) rfl HN.out (by rw [Hlen.out]; rfl) (by rw [Hlen.out]; exact I0.out) Hone.out ?_; intro w4 HB4 HU4)
  by_cases hc : opC S k = 0
  rotate_left
  · as_aux_lemma =>
    have H4 := hid ((H3.out.newSet (cs := ob0) hq HU4.out HB4.out).drop)
    have dc : (opC S k == 0) = false := by simpa using hc
    have dc2 : (opC S k != 0) = true := by simp [bne, dc]
    have HR : Hid (auStep (abE S) k ⟨ct, nh, ov, un, bf, en⟩ = ⟨c1, n1, ovn, un, bf, en⟩) := hid (by
      obtain ⟨f1, f2, f3, f4, f5, f6⟩ := HF.out
      unfold auStep
      rw [if_neg f1, if_neg (show ¬ opW (abE S).W k = 0 from hc), f2, f3, f6])
    generalize opC S k = c at *
    clear hc HB4 HU4 H3 HN hq HF
    have cx_ : w4.cell? ⟨gr, 1, none⟩ = some (.int .i64 (nh : Int)) := H4.out.cell (k := 1) rfl 1
    have zx_ := H4.out.frozen (k := 1) rfl 1
    go_upto_region 7 with fail
    have HP_ := hid (fun y => H4.out.put (k := 1) rfl 1 y)
    generalize hz_ : World.setCell _ (⟨gr, 1, none⟩ : Addr) _ = w_H5
    have H5 : Hid (OwV (AM l S) w0 [(ge, 3, [.int .i64 (en : Int)]), (gr, 36, [.int .i64 (c1 : Int), .int .i64 (n1 : Int), .int .i64 (ovn : Int), .int .i64 (un : Int), .int .i64 (bf : Int)]), (rr, 36, [.int .i64 0, .int .i64 0, .int .i64 0, .int .i64 0, .int .i64 0]), (bx, 24, [.pointer (some ⟨l.a, 0, none⟩)])] w_H5) := hid (by rw [← hz_]; exact HP_.out _)
    clear hz_ HP_ cx_ zx_ H4
    go_wp2
    go_ret
    exact ⟨rfl, by rw [HR.out]; exact H5.out⟩
  as_aux_lemma =>
  have hob := HOk.out hc
  have e1 : opL l S k = obL l (opO S k) := by unfold opL; rw [if_pos hc]
  rw [e1] at HB4
  rw [hc]
  have H4 : Hid (OwV (AM l S) w0 [(q, 61, obL l (opO S k)), (ge, 3, [.int .i64 (en : Int)]), (gr, 36, [.int .i64 (c1 : Int), .int .i64 (nh : Int), .int .i64 (ovn : Int), .int .i64 (un : Int), .int .i64 (bf : Int)]), (rr, 36, [.int .i64 0, .int .i64 0, .int .i64 0, .int .i64 0, .int .i64 0]), (bx, 24, [.pointer (some ⟨l.a, 0, none⟩)])] w4) := hid (H3.out.newSet (cs := ob0) hq HU4.out HB4.out)
  have Hop : Hid (opW S.W k = 0) := hid hc
  clear HB4 HU4 H3 HN hq HOk Hlen Hone e1 hc
  have HEx := hid (fun wz (hz : AM l S wz) => obExtentZ hz hob)
  have HHo := hid (fun wz (hz : AM l S wz) => housedZ hz hob)
  have HFs := hid (fun wz (hz : AM l S wz) => fieldsSoundX hz hob)
  have HEn := hid (fun wz => extEndN (k := (opO S k).k) (n := 1 + (opO S k).sz) (by omega) (by have := hob.k; omega) wz)
  have hkb := hob.k
  obtain ⟨nn, hnn⟩ : ∃ nn, 1 + (opO S k).sz = nn := ⟨_, rfl⟩
  simp only [hnn] at HEx HEn
  have hnb : (opO S k).k + nn ≤ 32768 := by omega
  generalize hb1_ : hsV S (opO S k) = b1 at *
  have HS0 : Hid (opO S k = opO S k ∧ 1 + (opO S k).sz = nn ∧ hsV S (opO S k) = b1) := hid ⟨rfl, hnn, hb1_⟩
  clear hnn hob hb1_
  generalize hoo : opO S k = o at *
  have Hoo := hid hoo
  clear hoo
  have q0 := H4.out.cell (k := 0) rfl 0
  have q1 := H4.out.cell (k := 0) rfl 1
  have q2 := H4.out.cell (k := 0) rfl 2
  have q3 := H4.out.cell (k := 0) rfl 3
  have q4 := H4.out.cell (k := 0) rfl 4
  simp only [obL, List.getElem?_cons_zero, List.getElem?_cons_succ] at q0 q1 q2 q3 q4
  go_wp2_with fail
  refine (HEx.out _ H4.out.b).mono ?_
  rintro e w5 ⟨rfl, hb5⟩
  have H5 := hid (H4.out.below hb5)
  clear hb5 H4 q0 q1 q2 q3 q4 HEx
  obtain ⟨r, hr⟩ : ∃ r, w5.heap.size = r := ⟨_, rfl⟩
  have H6 : Hid (OwV (AM l S) w0 [(r, 84, [.int .i64 (o.k : Int), .int .i64 (nn : Int)]), (q, 61, obL l o), (ge, 3, [.int .i64 (en : Int)]), (gr, 36, [.int .i64 (c1 : Int), .int .i64 (nh : Int), .int .i64 (ovn : Int), .int .i64 (un : Int), .int .i64 (bf : Int)]), (rr, 36, [.int .i64 0, .int .i64 0, .int .i64 0, .int .i64 0, .int .i64 0]), (bx, 24, [.pointer (some ⟨l.a, 0, none⟩)])] (w5.alloc (.cells #[.int .i64 (o.k : Int), .int .i64 (nn : Int)] 84))) := hid (H5.out.new hr 84 [.int .i64 (o.k : Int), .int .i64 (nn : Int)])
  go_upto_region 9 with fail
  (try simp only [hr])
  generalize hw6 : w5.alloc _ = w6 at H6 ⊢
  clear hw6 hr H5
  have q0 := H6.out.cell (k := 1) rfl 0
  have q1 := H6.out.cell (k := 1) rfl 1
  have q2 := H6.out.cell (k := 1) rfl 2
  have q3 := H6.out.cell (k := 1) rfl 3
  have q4 := H6.out.cell (k := 1) rfl 4
  simp only [obL, List.getElem?_cons_zero, List.getElem?_cons_succ] at q0 q1 q2 q3 q4
  obtain ⟨nb, hnb1⟩ : ∃ nb, (!b1) = nb := ⟨_, rfl⟩
  obtain ⟨unn, hunn⟩ : ∃ x, (if nb = true then u1 else un) = x := ⟨_, rfl⟩
  have Hunn : Hid ((if nb = true then u1 else un) = unn ∧ (!b1) = nb) := hid ⟨hunn, hnb1⟩
  clear hunn
  go_wp2_with fail
  refine (HHo.out _ H6.out.b).mono ?_
  rintro e w7 ⟨rfl, hb7⟩
  have H7 := hid (H6.out.below hb7.out)
  clear hb7 H6 q0 q1 q2 q3 q4 HHo
  go_upto_if 39 with fail
  clear hnb1
  go_cut [] from 40 to 43 (fun wc => Hid (OwV (AM l S) w0 [(r, 84, [.int .i64 (o.k : Int), .int .i64 (nn : Int)]), (q, 61, obL l o), (ge, 3, [.int .i64 (en : Int)]), (gr, 36, [.int .i64 (c1 : Int), .int .i64 (nh : Int), .int .i64 (ovn : Int), .int .i64 (unn : Int), .int .i64 (bf : Int)]), (rr, 36, [.int .i64 0, .int .i64 0, .int .i64 0, .int .i64 0, .int .i64 0]), (bx, 24, [.pointer (some ⟨l.a, 0, none⟩)])] wc))
  case first =>
    as_aux_lemma =>
    cases nb with
    | false =>
      have He0 : Hid (un = unn) := hid Hunn.out.1
      go_wp2
      go_meet
      case rel => exact hid (by rw [← He0.out]; exact H7.out)
    | true =>
      have cx_ : w7.cell? ⟨gr, 3, none⟩ = some (.int .i64 (un : Int)) := H7.out.cell (k := 3) rfl 3
      have zx_ := H7.out.frozen (k := 3) rfl 3
      have He0 : Hid (u1 = unn) := hid Hunn.out.1
      go_wp2
      go_meet
      case rel => exact hid (by rw [← He0.out]; exact H7.out.put (k := 3) rfl 3 _)
  case rest =>
  as_aux_lemma =>
  clear H7
  have H8 := hid hcut.out
  generalize hwc : wc = w8 at H8 ⊢
  clear hwc hcut eu1
  have q0 := H8.out.cell (k := 1) rfl 0
  have q1 := H8.out.cell (k := 1) rfl 1
  have q2 := H8.out.cell (k := 1) rfl 2
  have q3 := H8.out.cell (k := 1) rfl 3
  have q4 := H8.out.cell (k := 1) rfl 4
  simp only [obL, List.getElem?_cons_zero, List.getElem?_cons_succ] at q0 q1 q2 q3 q4
  go_wp2_with fail
  refine (HFs.out _ H8.out.b).mono ?_
  rintro e w9 ⟨b2, rfl, hb9⟩
  have H9 := hid (H8.out.below hb9.out.2)
  have HB2 := hid hb9.out.1
  clear hb9 H8 q0 q1 q2 q3 q4 HFs
  obtain ⟨nb2, hnb2⟩ : ∃ nb, (!b2) = nb := ⟨_, rfl⟩
  obtain ⟨bfn, hbfn⟩ : ∃ x, (if nb2 = true then f1 else bf) = x := ⟨_, rfl⟩
  have Hbfn : Hid ((if nb2 = true then f1 else bf) = bfn ∧ (!b2) = nb2) := hid ⟨hbfn, hnb2⟩
  clear hbfn
  go_upto_if 46 with fail
  clear hnb2
  go_cut [] from 47 to 50 (fun wc => Hid (OwV (AM l S) w0 [(r, 84, [.int .i64 (o.k : Int), .int .i64 (nn : Int)]), (q, 61, obL l o), (ge, 3, [.int .i64 (en : Int)]), (gr, 36, [.int .i64 (c1 : Int), .int .i64 (nh : Int), .int .i64 (ovn : Int), .int .i64 (unn : Int), .int .i64 (bfn : Int)]), (rr, 36, [.int .i64 0, .int .i64 0, .int .i64 0, .int .i64 0, .int .i64 0]), (bx, 24, [.pointer (some ⟨l.a, 0, none⟩)])] wc))
  case first =>
    as_aux_lemma =>
    cases nb2 with
    | false =>
      have He0 : Hid (bf = bfn) := hid Hbfn.out.1
      go_wp2
      go_meet
      case rel => exact hid (by rw [← He0.out]; exact H9.out)
    | true =>
      have cx_ : w9.cell? ⟨gr, 4, none⟩ = some (.int .i64 (bf : Int)) := H9.out.cell (k := 3) rfl 4
      have zx_ := H9.out.frozen (k := 3) rfl 4
      have He0 : Hid (f1 = bfn) := hid Hbfn.out.1
      go_wp2
      go_meet
      case rel => exact hid (by rw [← He0.out]; exact H9.out.put (k := 3) rfl 4 _)
  case rest =>
  as_aux_lemma =>
  clear H9
  have Ha := hid hcut.out
  generalize hwc : wc = wa at Ha ⊢
  clear hwc hcut ef1 ec1 en1
  have HR : Hid (auStep (abE S) k ⟨ct, nh, ov, un, bf, en⟩ = ⟨c1, nh, ovn, unn, bfn, max en (o.k + nn)⟩) := hid (au_law Hop.out hk HF.out Hoo.out HS0.out.2.1 HS0.out.2.2 Hunn.out Hbfn.out HB2.out)
  clear HF Hop Hoo HS0 Hunn Hbfn HB2
  go_upto_region 13 with fail
  obtain ⟨X, W, HTT, HH0, hne, HCl⟩ := class_below wa
  have y0 : ∀ y, (W y).cell? ⟨r, 0, none⟩ = some (.int .i64 (o.k : Int)) := fun y => (Ha.out.below (HTT.out y)).cell (k := 0) rfl 0
  have y1 : ∀ y, (W y).cell? ⟨r, 1, none⟩ = some (.int .i64 (nn : Int)) := fun y => (Ha.out.below (HTT.out y)).cell (k := 0) rfl 1
  have y2 : ∀ y, (W y).cell? ⟨ge, 0, none⟩ = some (.int .i64 (en : Int)) := fun y => (Ha.out.below (HTT.out y)).cell (k := 2) rfl 0
  have HEn' := hid (fun y => HEn.out (W y))
  refine wp_region_class W (by kernel_rfl) (by kernel_rfl) HH0.out ?_
  repeat (go_big_quiet_step (first | (go_at_call 44; with_reducible exact Calls.class_of HCl.out (HEn'.out _))))
  refine wpQuiet_nil ?_
  intro y
  have Hb := hid (Ha.out.below (HTT.out y))
  generalize W y = wb at Hb ⊢
  clear y0 y1 y2 HEn' HH0 HTT HCl hne Ha
  have q5 : wb.cell? ⟨r, 0, none⟩ = some (.int .i64 (o.k : Int)) := Hb.out.cell (k := 0) rfl 0
  have q6 : wb.cell? ⟨r, 1, none⟩ = some (.int .i64 (nn : Int)) := Hb.out.cell (k := 0) rfl 1
  by_cases hlt3 : (en : Int) < (o.k : Int) + (nn : Int)
  rotate_left
  · as_aux_lemma =>
    have hb3 : decide ((en : Int) < (o.k : Int) + (nn : Int)) = false := decide_eq_false hlt3
    have hb4 : decide ((o.k : Int) + (nn : Int) > (en : Int)) = false := decide_eq_false hlt3
    have HM : Hid (max en (o.k + nn) = en) := hid (by omega)
    go_wp2
    go_ret
    exact ⟨rfl, by rw [HR.out, HM.out]; exact Hb.out.drop.drop⟩
  · as_aux_lemma =>
    have hb3 : decide ((en : Int) < (o.k : Int) + (nn : Int)) = true := decide_eq_true hlt3
    have hb4 : decide ((o.k : Int) + (nn : Int) > (en : Int)) = true := decide_eq_true hlt3
    have HM : Hid (max en (o.k + nn) = o.k + nn) := hid (by omega)
    go_wp2_with fail
    refine (HEn.out _).mono ?_
    rintro e wd ⟨rfl, hbd⟩
    have Hd := hid (Hb.out.below hbd)
    have cx_ : wd.cell? ⟨ge, 0, none⟩ = some (.int .i64 (en : Int)) := Hd.out.cell (k := 2) rfl 0
    have zx_ := Hd.out.frozen (k := 2) rfl 0
    clear hbd Hb q5 q6
    go_wp2
    go_ret
    exact ⟨rfl, by rw [HR.out, HM.out]; exact (Hd.out.put (k := 2) rfl 0 _).drop.drop⟩
end
end Go.Proofs.Qxb6500887aGreat
