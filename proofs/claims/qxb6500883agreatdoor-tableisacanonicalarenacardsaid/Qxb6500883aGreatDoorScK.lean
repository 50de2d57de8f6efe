/- next (written by tools/mk_sck.py). -/
import Derived.Test.Qxb6500883aGreatDoorScJ
namespace Go.Proofs.Qxb6500883aGreatDoor
open Go.RowKit
set_option linter.unusedSimpArgs false
set_option linter.unusedVariables false
/-- The token that begins at a place, and the tokens handed out behind it. -/
def tokAt (bs : List UInt8) (n s k : Nat) : Tk × Nat :=
  if n ≤ s then (⟨0, s, s, 0, 0⟩, k)
  else if 65536 ≤ k then (⟨1, s, s, 0, 0⟩, k)
  else if ltB (cN bs s) = true then (wordT bs s, k + 1)
  else if dgB (cN bs s) = true then (numT bs n s, k + 1)
  else if puN (cN bs s) = 0 then (⟨2, s, s + 1, 0, 0⟩, k + 1)
  else if puN (cN bs s) = 18 ∧ s + 1 < n ∧ cN bs (s + 1) = 42 then (⟨20, s, s + 1 + 1, 0, 0⟩, k + 1)
  else (⟨puN (cN bs s), s, s + 1, 0, 0⟩, k + 1)
def nextT (bs : List UInt8) (n i k : Nat) : Tk × Nat := tokAt bs n (skipP bs i) k
section
variable {w w' : World} {g : Nat} {t : TypeId} {cs : List Value} {a : Option Addr} {n c : Nat} {bs : List UInt8} {i k N mg : Nat}
set_option maxRecDepth 100000 in
set_option maxHeartbeats 4000000 in
theorem nextW (hG : Gl N mg w) (hN : N ≤ g) (h : LxM w g t cs a n c bs i k) (hk : k ≤ 65536) : Calls Tryz.prog 78 #[.pointer (some ⟨g, 0, none⟩)] w fun e w' => e = .returned (.agg (tkC (nextT bs n i k).1).toArray) ∧ Hid (LxP w g t cs a n c bs (nextT bs n i k).1.en (nextT bs n i k).2 w') := by
  have I0 := hid info_tk
  obtain ⟨hcap, hn, hcm⟩ := h.src.cap
  have hnl := h.src.len
  have hg := h.blk.lt
  obtain ⟨p, hp⟩ : ∃ p, w.heap.size = p := ⟨_, rfl⟩
  have H1 := hid (TkU.start h [.int .u8 0, .int .i64 0, .int .i64 0, .int .i64 0, .int .u64 0] rfl)
  have HG1 := hid (hG.below' (nbel w (.cells #[.int .u8 0, .int .i64 0, .int .i64 0, .int .i64 0, .int .u64 0] 112)))
  rw [hp] at H1
  have hs : skipP bs i ≤ n := by rw [← hnl]; exact skipP_le bs (by rw [hnl]; exact h.hi)
  obtain ⟨s, hs2⟩ : ∃ s, skipP bs i = s := ⟨_, rfl⟩
  obtain ⟨X, hX⟩ : ∃ X, nextT bs n i k = X := ⟨_, rfl⟩
  have HX : Hid (tokAt bs n s k = X) := hid (by rw [← hs2]; exact hX)
  rw [hX]
  have Hs2 := hid hs2
  rw [hs2] at hs
  have Hn := hid hnl
  clear h hX hnl hs2 hG
  go_enter Tryz.func78, Tryz.ntmps78
  go_upto_region 1 with fail
  (try simp only [hp])
  generalize hw1 : w.alloc _ = w1 at H1 HG1 ⊢
  clear hw1 hp
  have HSk := hid (skipBlankW H1.out.lx)
  rw [Hs2.out] at HSk
  go_wp2_with fail
  refine HSk.out.mono ?_
  rintro e w2 ⟨rfl, rfl⟩
  have H2 := hid (H1.out.pos (j := s) hs)
  have HG2 := hid (HG1.out.upd hN ((Upd.refl g w1).setCell (p := ⟨g, 1, none⟩) rfl (.int .i64 (s : Int))))
  generalize hw2 : w1.setCell _ _ = w2 at H2 HG2 ⊢
  clear hw2 HSk H1 HG1 Hs2
  obtain ⟨c0, c1, c2⟩ := H2.out.lx.cells
  have f1 := H2.out.lx.fz 1
  have f2 := H2.out.lx.fz 2
  by_cases hsn : s < n
  rotate_left
  · as_aux_lemma =>
    have d1 : decide ((n : Int) ≤ (s : Int)) = true := decide_eq_true (by omega)
    have d2 : decide ((s : Int) ≥ (n : Int)) = true := d1
    obtain rfl : (⟨0, s, s, 0, 0⟩, k) = X := by rw [← HX.out]; unfold tokAt; rw [if_pos (by omega)]
    obtain ⟨ds, hd1, hd2⟩ := H2.out.b
    go_wp2_with (refine wpList_store_blk rfl 112 _ _ rfl p rfl (tkC ⟨0, s, s, 0, 0⟩) rfl hd2 hd1 I0.out (tkC_one _) ?_; intro w9 HB9 HU9)
    refine bodyPost_ret (results_blk (cs := tkC ⟨0, s, s, 0, 0⟩) Tryz.results78 rfl agg_tk HB9.out) rfl ?_
    exact ⟨rfl, hid (H2.out.done HU9.out)⟩
  have d1 : decide ((n : Int) ≤ (s : Int)) = false := decide_eq_false (by omega)
  have d2 : decide ((s : Int) ≥ (n : Int)) = false := d1
  obtain ⟨b, off, ha, _, hcs⟩ := H2.out.lx.src.cell hsn
  subst ha
  by_cases hkm : k = 65536
  · as_aux_lemma =>
    have d3 : decide ((65536 : Int) ≤ (k : Int)) = true := decide_eq_true (by omega)
    have d4 : decide ((k : Int) ≥ 65536) = true := d3
    obtain rfl : (⟨1, s, s, 0, 0⟩, k) = X := by rw [← HX.out]; unfold tokAt; rw [if_neg (by omega), if_pos (by omega)]
    clear hkm
    obtain ⟨ds, hd1, hd2⟩ := H2.out.b
    go_wp2_with (refine wpList_store_blk rfl 112 _ _ rfl p rfl (tkC ⟨1, s, s, 0, 0⟩) rfl hd2 hd1 I0.out (tkC_one _) ?_; intro w9 HB9 HU9)
    refine bodyPost_ret (results_blk (cs := tkC ⟨1, s, s, 0, 0⟩) Tryz.results78 rfl agg_tk HB9.out) rfl ?_
    exact ⟨rfl, hid (H2.out.done HU9.out)⟩
  have d3 : decide ((65536 : Int) ≤ (k : Int)) = false := decide_eq_false (by omega)
  have d4 : decide ((k : Int) ≥ 65536) = false := d3
  have HXa : Hid ((if ltB (cN bs s) = true then (wordT bs s, k + 1) else if dgB (cN bs s) = true then (numT bs n s, k + 1) else if puN (cN bs s) = 0 then (⟨2, s, s + 1, 0, 0⟩, k + 1)
    else if puN (cN bs s) = 18 ∧ s + 1 < n ∧ cN bs (s + 1) = 42 then (⟨20, s, s + 1 + 1, 0, 0⟩, k + 1) else (⟨puN (cN bs s), s, s + 1, 0, 0⟩, k + 1)) = X) := hid (by rw [← HX.out]; unfold tokAt; rw [if_neg (show ¬ n ≤ s by omega), if_neg (show ¬ 65536 ≤ k by omega)])
  clear HX
  have hk2 : (k : Int) ≤ 9223372036854775806 := by omega
  clear hkm hk
  have H3 := hid (H2.out.cnt (k + 1))
  have HG3 := hid (HG2.out.upd hN ((Upd.refl g w2).setCell (p := ⟨g, 2, none⟩) rfl (.int .i64 ((k + 1 : Nat) : Int))))
  have ek : ((k + 1 : Nat) : Int) = (k : Int) + 1 := by omega
  rw [ek] at H3 HG3
  go_upto_region 8 with fail
  generalize hw3 : w2.setCell _ _ = w3 at H3 HG3 ⊢
  clear hw3 c0 c1 c2 f1 f2 hcs H2 HG2 ek
  obtain ⟨c0, c1, c2⟩ := H3.out.lx.cells
  have f1 := H3.out.lx.fz 1
  obtain ⟨b', off', e', _, hcs⟩ := H3.out.lx.src.cell hsn
  cases e'
  have hx2 := cN_lt bs s
  have HL := hid (isLetterW (cN bs s) hx2)
  have HD := hid (isDigitW (cN bs s) hx2)
  have hpu := HG3.out.pu (cN bs s) hx2
  obtain ⟨x, hx⟩ : ∃ x, cN bs s = x := ⟨_, rfl⟩
  rw [hx] at HL HD hpu hcs hx2 HXa
  clear hx
  obtain ⟨q1, hq1⟩ : ∃ q, ltB x = q := ⟨_, rfl⟩
  rw [hq1] at HL HXa
  clear hq1
  cases q1 with
  | true =>
    as_aux_lemma =>
    obtain rfl : (wordT bs s, k + 1) = X := by rw [← HXa.out, if_pos rfl]
    have HWd := hid (wordW HG3.out hN H3.out.lx s hsn)
    go_wp2_with fail
    refine (HL.out _).mono ?_
    rintro e w4 ⟨rfl, rfl⟩
    go_wp2_with fail
    refine HWd.out.mono ?_
    rintro e w5 ⟨rfl, hp5⟩
    have H5 := hid (H3.out.call hp5.out)
    clear hp5 HWd
    obtain ⟨ds, hd1, hd2⟩ := H5.out.b
    go_wp2_with (refine wpList_store_blk rfl 112 _ _ rfl p rfl (tkC (wordT bs s)) rfl hd2 hd1 I0.out (tkC_one _) ?_; intro w9 HB9 HU9)
    refine bodyPost_ret (results_blk (cs := tkC (wordT bs s)) Tryz.results78 rfl agg_tk HB9.out) rfl ?_
    exact ⟨rfl, hid (H5.out.done HU9.out)⟩
  | false =>
  obtain ⟨q2, hq2⟩ : ∃ q, dgB x = q := ⟨_, rfl⟩
  rw [hq2] at HD HXa
  clear hq2
  cases q2 with
  | true =>
    as_aux_lemma =>
    obtain rfl : (numT bs n s, k + 1) = X := by rw [← HXa.out, if_neg (by decide), if_pos rfl]
    have HWd := hid (numberW H3.out.lx s hsn)
    go_wp2_with fail
    refine (HL.out _).mono ?_
    rintro e w4 ⟨rfl, rfl⟩
    go_wp2_with fail
    refine (HD.out _).mono ?_
    rintro e w4 ⟨rfl, rfl⟩
    go_wp2_with fail
    refine HWd.out.mono ?_
    rintro e w5 ⟨rfl, hp5⟩
    have H5 := hid (H3.out.call hp5.out)
    clear hp5 HWd
    obtain ⟨ds, hd1, hd2⟩ := H5.out.b
    go_wp2_with (refine wpList_store_blk rfl 112 _ _ rfl p rfl (tkC (numT bs n s)) rfl hd2 hd1 I0.out (tkC_one _) ?_; intro w9 HB9 HU9)
    refine bodyPost_ret (results_blk (cs := tkC (numT bs n s)) Tryz.results78 rfl agg_tk HB9.out) rfl ?_
    exact ⟨rfl, hid (H5.out.done HU9.out)⟩
  | false =>
  have hpl := puN_lt x
  obtain ⟨u, hu⟩ : ∃ u, puN x = u := ⟨_, rfl⟩
  rw [hu] at hpl hpu HXa
  clear hu
  go_wp2_with fail
  refine (HL.out _).mono ?_
  rintro e w4 ⟨rfl, rfl⟩
  go_wp2_with fail
  refine (HD.out _).mono ?_
  rintro e w4 ⟨rfl, rfl⟩
  clear HL HD
  by_cases hu0 : u = 0
  · as_aux_lemma =>
    obtain rfl : (⟨2, s, s + 1, 0, 0⟩, k + 1) = X := by rw [← HXa.out, if_neg (by decide), if_neg (by decide), if_pos hu0]
    have d5 : ((u : Int) == 0) = true := by simp; omega
    have H5 := hid (H3.out.pos (j := s + 1) (by omega))
    have es : ((s + 1 : Nat) : Int) = (s : Int) + 1 := by omega
    rw [es] at H5
    clear hu0
    go_upto_region 16 with fail
    generalize hw5 : w4.setCell _ _ = w5 at H5 ⊢
    clear hw5
    obtain ⟨ds, hd1, hd2⟩ := H5.out.b
    go_wp2_with (refine wpList_store_blk rfl 112 _ _ rfl p rfl (tkC ⟨2, s, s + 1, 0, 0⟩) rfl hd2 hd1 I0.out (tkC_one _) ?_; intro w9 HB9 HU9)
    refine bodyPost_ret (results_blk (cs := tkC ⟨2, s, s + 1, 0, 0⟩) Tryz.results78 rfl agg_tk HB9.out) rfl ?_
    exact ⟨rfl, hid (H5.out.done HU9.out)⟩
  have d5 : ((u : Int) == 0) = false := by simp; omega
  have HXb : Hid ((if u = 18 ∧ s + 1 < n ∧ cN bs (s + 1) = 42 then (⟨20, s, s + 1 + 1, 0, 0⟩, k + 1) else (⟨u, s, s + 1, 0, 0⟩, k + 1)) = X) := hid (by rw [← HXa.out, if_neg (show ¬ (false = true) by decide), if_neg (show ¬ (false = true) by decide), if_neg hu0])
  clear HXa
  by_cases h18 : u = 18
  rotate_left
  · as_aux_lemma =>
    have d6 : ((u : Int) == 18) = false := by simp; omega
    obtain rfl : (⟨u, s, s + 1, 0, 0⟩, k + 1) = X := by rw [← HXb.out, if_neg (fun h => h18 h.1)]
    have H5 := hid (H3.out.pos (j := s + 1) (by omega))
    have es : ((s + 1 : Nat) : Int) = (s : Int) + 1 := by omega
    rw [es] at H5
    go_upto_region 22 with fail
    generalize hw5 : w4.setCell _ _ = w5 at H5 ⊢
    clear hw5
    obtain ⟨ds, hd1, hd2⟩ := H5.out.b
    go_wp2_with (refine wpList_store_blk rfl 112 _ _ rfl p rfl (tkC ⟨u, s, s + 1, 0, 0⟩) rfl hd2 hd1 I0.out (tkC_one _) ?_; intro w9 HB9 HU9)
    refine bodyPost_ret (results_blk (cs := tkC ⟨u, s, s + 1, 0, 0⟩) Tryz.results78 rfl agg_tk HB9.out) rfl ?_
    exact ⟨rfl, hid (H5.out.done HU9.out)⟩
  have d6 : ((u : Int) == 18) = true := by simp; omega
  have H18 := hid h18
  clear h18
  by_cases hs1 : s + 1 < n
  rotate_left
  · as_aux_lemma =>
    have d7 : decide ((s : Int) + 1 < (n : Int)) = false := decide_eq_false (by omega)
    obtain rfl : (⟨u, s, s + 1, 0, 0⟩, k + 1) = X := by rw [← HXb.out, if_neg (fun h => hs1 h.2.1)]
    have H5 := hid (H3.out.pos (j := s + 1) (by omega))
    have es : ((s + 1 : Nat) : Int) = (s : Int) + 1 := by omega
    rw [es] at H5
    go_upto_region 22 with fail
    generalize hw5 : w4.setCell _ _ = w5 at H5 ⊢
    clear hw5
    obtain ⟨ds, hd1, hd2⟩ := H5.out.b
    go_wp2_with (refine wpList_store_blk rfl 112 _ _ rfl p rfl (tkC ⟨u, s, s + 1, 0, 0⟩) rfl hd2 hd1 I0.out (tkC_one _) ?_; intro w9 HB9 HU9)
    refine bodyPost_ret (results_blk (cs := tkC ⟨u, s, s + 1, 0, 0⟩) Tryz.results78 rfl agg_tk HB9.out) rfl ?_
    exact ⟨rfl, hid (H5.out.done HU9.out)⟩
  have d7 : decide ((s : Int) + 1 < (n : Int)) = true := decide_eq_true (by omega)
  obtain ⟨b1, off1, e1, _, hc1⟩ := H3.out.lx.src.cell hs1
  cases e1
  obtain ⟨y, hy⟩ : ∃ y, cN bs (s + 1) = y := ⟨_, rfl⟩
  rw [hy] at hc1 HXb
  clear hy
  have hc1' : w4.cell? ⟨b, off + s + 1, none⟩ = some (.int .u8 (y : Int)) := by rw [Nat.add_assoc]; exact hc1
  by_cases h42 : y = 42
  · as_aux_lemma =>
    have d8 : ((y : Int) == 42) = true := by simp; omega
    obtain rfl : (⟨20, s, s + 1 + 1, 0, 0⟩, k + 1) = X := by rw [← HXb.out, if_pos ⟨H18.out, hs1, h42⟩]
    have H5 := hid (H3.out.pos (j := s + 1 + 1) (by omega))
    have es : ((s + 1 + 1 : Nat) : Int) = (s : Int) + 1 + 1 := by omega
    rw [es] at H5
    clear h42
    go_upto_region 22 with fail
    generalize hw5 : w4.setCell _ _ = w5 at H5 ⊢
    clear hw5
    obtain ⟨ds, hd1, hd2⟩ := H5.out.b
    go_wp2_with (refine wpList_store_blk rfl 112 _ _ rfl p rfl (tkC ⟨20, s, s + 1 + 1, 0, 0⟩) rfl hd2 hd1 I0.out (tkC_one _) ?_; intro w9 HB9 HU9)
    refine bodyPost_ret (results_blk (cs := tkC ⟨20, s, s + 1 + 1, 0, 0⟩) Tryz.results78 rfl agg_tk HB9.out) rfl ?_
    exact ⟨rfl, hid (H5.out.done HU9.out)⟩
  · as_aux_lemma =>
    have d8 : ((y : Int) == 42) = false := by simp; omega
    obtain rfl : (⟨u, s, s + 1, 0, 0⟩, k + 1) = X := by rw [← HXb.out, if_neg (fun h => h42 h.2.2)]
    have H5 := hid (H3.out.pos (j := s + 1) (by omega))
    have es : ((s + 1 : Nat) : Int) = (s : Int) + 1 := by omega
    rw [es] at H5
    go_upto_region 22 with fail
    generalize hw5 : w4.setCell _ _ = w5 at H5 ⊢
    clear hw5
    obtain ⟨ds, hd1, hd2⟩ := H5.out.b
    go_wp2_with (refine wpList_store_blk rfl 112 _ _ rfl p rfl (tkC ⟨u, s, s + 1, 0, 0⟩) rfl hd2 hd1 I0.out (tkC_one _) ?_; intro w9 HB9 HU9)
    refine bodyPost_ret (results_blk (cs := tkC ⟨u, s, s + 1, 0, 0⟩) Tryz.results78 rfl agg_tk HB9.out) rfl ?_
    exact ⟨rfl, hid (H5.out.done HU9.out)⟩
end
end Go.Proofs.Qxb6500883aGreatDoor
