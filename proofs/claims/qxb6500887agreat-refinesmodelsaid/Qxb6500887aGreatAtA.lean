/- Describe, exactly (written by tools/mk_ata.py). -/
import Derived.Test.Qxb6500887aGreatAt9
namespace Go.Proofs.Qxb6500887aGreat
open Go.RowKit
set_option linter.unusedSimpArgs false
set_option linter.unusedVariables false
section
variable {w w' w0 w1 : World} {n0 : Nat} {v v' : Value} {bs : List UInt8} {l : AL} {S : AS} {o : Ob}
/-- Describe under way, with its text. -/
structure DSX (l : AL) (S : AS) (w0 : World) (q : Nat) (cs : List Value) (k : Nat) (d : List UInt8) (a : Option Addr) (m c : Nat) (w : World) : Prop where
  am0 : AM l S w0
  ap : ApX w0.heap.size w0 [] k d w (.slice a m c)
  bk : Blk w q 61 cs
section
variable {q k m c : Nat} {cs : List Value} {a : Option Addr} {d : List UInt8}
theorem DSX.am (h : DSX l S w0 q cs k d a m c w) : AM l S w := h.am0.below h.ap.bel
theorem DSX.below (h : DSX l S w0 q cs k d a m c w) (hb : Below w.heap.size w w') : DSX l S w0 q cs k d a m c w' := ⟨h.am0, h.ap.below (Nat.le_refl _) hb, h.bk.below hb⟩
theorem DSX.label (h : DSX l S w0 q cs k d a m c w) (s : ByteArray) (hs : s.size ≤ 16) (n : Nat) (hn : n ≤ 9223372036854775807) (hk : k ≤ 800000) : Calls Tryz.prog 270 #[.slice a m c, .string s, .int .i64 (n : Int)] w fun e w' => ∃ (a' : Option Addr) (m' c' : Nat), e = .returned (.slice a' m' c') ∧ Hid (DSX l S w0 q cs (k + 36) (d ++ s.data.toList ++ dgL n) a' m' c' w') :=
  (h.ap.labelK (Nat.le_refl _) h.bk (by decide) s hs n hn (by show 0 + k ≤ _; omega)).mono (by
    rintro e w9 ⟨a9, m9, q9, rfl, H9⟩
    exact ⟨a9, m9, q9, rfl, hid ⟨h.am0, H9.out.1, H9.out.2⟩⟩)
theorem DSX.str (h : DSX l S w0 q cs k d a m c w) : ∃ s : ByteArray, s = bsA d ∧ (convert 252 9 (.slice a m c)).run Tryz.prog w = .ok (.string s) w := ⟨_, rfl, h.ap.row.str⟩
theorem DSX.row (h : DSX l S w0 q cs k d a m c w) : ∃ ds : List UInt8, ds = d ∧ ds.length ≤ k ∧ OwR rtB w0.heap.size w (.slice a m c) ([] ++ ds) := ⟨d, rfl, h.ap.le, h.ap.row⟩
theorem DSX.kep {ds es : List UInt8} {w'' : World} {v'' : Value} (h : DSX l S w0 q cs k d a m c w) (hde : ds = d) (hk : Kep w (.slice a m c) w'') (hr2 : OwR rtB w0.heap.size w'' v'' ([] ++ ds ++ es)) (n : Nat) (hn : es.length ≤ n) : ∃ a' m' c', v'' = .slice a' m' c' ∧ DSX l S w0 q cs (k + n) (d ++ es) a' m' c' w'' := by
  subst hde
  obtain ⟨a', c', rfl⟩ := hr2.shape
  exact ⟨a', _, c', rfl, ⟨h.am0, (h.ap.kep (Nat.le_refl _) hk hr2).mono (by omega), hk.keep h.bk (h.ap.row.ne h.bk (by decide))⟩⟩
end
theorem ds_no {x : Int} (hx : U64 x) (hc : onC S x ≠ 0) : dsL (abE S) x.toNat = placeL x.toNat ++ [58, 32] ++ erL (onC S x) := by
  have e : ((x.toNat : Nat) : Int) = x := by have := hx.1; omega
  unfold dsL
  rw [e, if_neg (show ¬ onE (abE S).W x = 0 from hc)]
  rfl
/-- The head of the text. -/
def dsH (x : Int) (o : Ob) (v1 v2 : Nat) : List UInt8 := placeL x.toNat ++ [32, 115, 105, 122, 101, 61] ++ dgL o.sz ++ [32, 114, 101, 102, 115, 61] ++ dgL o.rf ++ [32, 99, 111, 117, 110, 116, 61] ++ dgL v1 ++ [32, 109, 97, 114, 107, 61] ++ dgL v2 ++ [32, 108, 111, 103, 61]
theorem ds_ok {x : Int} {v1 v2 : Nat} {DD : List UInt8} (hx : U64 x) (hc : onC S x = 0) (ho : opO S (gIx x) = o) (h1 : eN 2 32 S.C (o.k / 2) = v1) (h2 : eN 1 64 S.M (o.k / 2) = v2) (hD : dsH x o v1 v2 = DD) : (o.rf = 0 → dsL (abE S) x.toNat = DD ++ [45]) ∧ (o.rf ≠ 0 → o.rf ≤ 32 → dsL (abE S) x.toNat = DD ++ bmF (lgB (abE S) (o.k + 1)) o.rf) ∧ (32 < o.rf → dsL (abE S) x.toNat = DD ++ bmF (lgB (abE S) (o.k + 1)) 32 ++ [43]) := by
  have e : ((x.toNat : Nat) : Int) = x := by have := hx.1; omega
  subst ho
  have ek : (opO S (gIx x)).k = 2 * gIx x := rfl
  have er : (opO S (gIx x)).rf = rfN S.W (gIx x) := rfl
  have es : (opO S (gIx x)).sz = szN S.W (gIx x) := rfl
  rw [ek, Nat.mul_div_cancel_left _ (by decide)] at h1 h2
  have hv2 : v2 < 2 := by rw [← h2]; exact eN_lt 1 64 S.M _
  have hB : dsB (abE S) x.toNat ++ [32, 108, 111, 103, 61] = DD := by
    rw [← hD]
    unfold dsB dsA dsH
    rw [e, es, er, show (abE S).C (gIx x) = v1 from h1, show (abE S).K (gIx x) = !(v2 == 0) by rw [← h2]; rfl]
    have hm : (if (!(v2 == 0)) = true then [32, 109, 97, 114, 107, 61, 49] else [32, 109, 97, 114, 107, 61, 48] : List UInt8) = [32, 109, 97, 114, 107, 61] ++ dgL v2 := by
      have : v2 = 0 ∨ v2 = 1 := by omega
      rcases this with rfl | rfl
      · rw [dgL_small (by decide)]; rfl
      · rw [dgL_small (by decide)]; rfl
    rw [hm]
    simp only [List.append_assoc]
    rfl
  rw [er, ek]
  unfold dsL dsD dsC
  rw [e, if_pos (show onE (abE S).W x = 0 from hc), hB]
  have ew : (abE S).W = S.W := rfl
  rw [ew]
  refine ⟨fun hr => ?_, fun hr hr2 => ?_, fun hr => ?_⟩
  · rw [hr, if_pos rfl, if_neg (by decide), List.append_nil]
    show DD ++ [45] ++ bmF _ 0 = _
    exact List.append_nil _
  · rw [if_neg hr, if_neg (by omega), List.append_nil, List.append_nil, Nat.min_eq_left hr2]
  · rw [if_neg (by omega), if_pos hr, List.append_nil, Nat.min_eq_right (by omega)]
set_option maxRecDepth 100000 in
set_option maxHeartbeats 8000000 in
theorem describeX (h : AM l S w) (x : Int) (hx : U64 x) : Calls Tryz.prog 245 #[.pointer (some ⟨l.a, 0, none⟩), .int .u64 x] w fun e w' => ∃ s : ByteArray, e = .returned (.string s) ∧ Hid (s = bsA (dsL (abE S) x.toNat) ∧ Below w.heap.size w w') := by
  obtain ⟨RR, hRR⟩ : ∃ R, dsL (abE S) x.toNat = R := ⟨_, rfl⟩
  rw [hRR]
  have HNo : Hid (onC S x ≠ 0 → RR = placeL x.toNat ++ [58, 32] ++ erL (onC S x)) := hid (fun h => by rw [← hRR]; exact ds_no hx h)
  have HRR := hid hRR
  have HUx := hid hx
  clear hRR
  have I0 := hid info_ob
  have HA := hid h
  have HAd := hid (appendAddrX (OwR.nil rtB w.heap.size w) (Nat.le_refl _) x hx (by decide))
  have HO := hid (fun wz (hz : AM l S wz) => openZ hz x)
  have Hlen := hid (onL_len l S x)
  have Hone := hid (onL_one l S x)
  have HOk := hid (fun (hc : onC S x = 0) => onC_ok h hc)
  clear h
  go_enter Tryz.func245, Tryz.ntmps245
  go_wp2_with fail
  refine HAd.out.mono ?_
  rintro e w1 ⟨a1, m1, q1, rfl, H1⟩
  clear HAd
  go_wp2_with fail
  refine (HO.out _ (HA.out.below H1.out.bel)).mono ?_
  rintro e w2 ⟨rfl, hb2⟩
  have H2 := hid (H1.out.below (Nat.le_refl _) hb2)
  clear hb2 H1 HO
  obtain ⟨q, hq⟩ : ∃ q, w2.heap.size = q := ⟨_, rfl⟩
  have HN : Hid (Blk (w2.alloc (.cells #[.pointer none, .int .i64 0, .int .u64 0, .int .i64 0, .int .i64 0] 61)) q 61 ob0 ∧ ApX w.heap.size w [] 120 (placeL x.toNat) (w2.alloc (.cells #[.pointer none, .int .i64 0, .int .u64 0, .int .i64 0, .int .i64 0] 61)) (.slice a1 m1 q1) ∧ w.heap.size ≤ q) := hid (by
    have kk := Blk.new w2 ob0 61
    rw [hq] at kk
    have := H2.out.bel.size
    exact ⟨kk, H2.out.below (Nat.le_refl _) (nbel w2 _), by omega⟩)
  (try simp only [hq])
  go_upto_region 3 with (refine wpList_store_blk rfl 61 _ _ rfl q rfl (onL l S x) rfl HN.out.1 (by rw [Hlen.out]; rfl) (by rw [Hlen.out]; exact I0.out) Hone.out ?_; intro w4 HB4 HU4)
  have H4 : Hid (DSX l S w q (onL l S x) 120 (placeL x.toNat) a1 m1 q1 w4) := hid ⟨HA.out, HN.out.2.1.updG (Nat.le_refl _) HN.out.2.2 HN.out.1 (by decide) HU4.out, HB4.out⟩
  clear HB4 HU4 HN hq H2
  by_cases hc : onC S x = 0
  rotate_left
  · as_aux_lemma =>
    have dc : (onC S x == 0) = false := by simpa using hc
    have dc2 : (onC S x != 0) = true := by simp [bne, dc]
    have HRf0 : Hid (RR = placeL x.toNat ++ [58, 32] ++ erL (onC S x)) := hid (HNo.out hc)
    clear HNo HRR HUx HOk
    generalize onC S x = c at *
    clear hc
    have HEr := hid (fun wz => (errorX c wz).mono (fun e w' h => (⟨bsA (erL c), h.1, by rw [bsA_size]; exact erL_len c, rfl, h.2⟩ : ∃ s : ByteArray, e = .returned (.string s) ∧ s.size ≤ 32 ∧ s = bsA (erL c) ∧ w' = wz)))
    go_wp2_with (at_builtin; refine stopHere ?_)
    intro _
    obtain ⟨ds, hde, hd1, hd2⟩ := H4.out.row
    have Hde := hid hde
    clear hde
    refine wpList_app_s rfl _ _ hd2 rfl rfl { data := #[58, 32] } rfl (by show _ + 2 ≤ _; have e : ([] ++ ds).length = ds.length := rfl; omega) H4.out.ap.bel.size ?_
    intro v2_ w2_ hr2_ hk2_
    obtain ⟨a_H5, m_H5, c_H5, hv_, hs_⟩ := H4.out.kep Hde.out hk2_.out hr2_.out 2 (by decide)
    subst hv_
    have H5 := hid hs_
    clear hs_ hr2_ hk2_ hd2 hd1 Hde H4
    go_wp2_with fail
    refine (HEr.out _).mono ?_
    rintro e w6 ⟨s, rfl, hsz0, hse, hw6⟩
    have HSe := hid hse
    clear hse
    have hw6' := hw6.symm
    clear hw6
    subst hw6'
    have hsz : s.data.toList.length ≤ 32 := by
      have : s.data.toList.length = s.size := by rw [Array.length_toList]; rfl
      omega
    have hsz1 : s.size ≤ 32 := hsz0
    go_wp2_with (at_builtin; refine stopHere ?_)
    intro _
    obtain ⟨ds, hde, hd1, hd2⟩ := H5.out.row
    have Hde := hid hde
    clear hde
    refine wpList_app_s rfl _ _ hd2 rfl rfl s rfl (by have := hsz1; have e : ([] ++ ds).length = ds.length := rfl; omega) H5.out.ap.bel.size ?_
    intro v2_ w2_ hr2_ hk2_
    obtain ⟨a_H6, m_H6, c_H6, hv_, hs_⟩ := H5.out.kep Hde.out hk2_.out hr2_.out 32 (by exact hsz)
    subst hv_
    have H6 := hid hs_
    clear hs_ hr2_ hk2_ hd2 hd1 Hde H5
    obtain ⟨ss, hss, hcv⟩ := H6.out.str
    have HFi : Hid (ss = bsA RR) := hid (by rw [hss, HRf0.out, HSe.out]; rfl)
    clear hss
    have HB := hid H6.out.ap.bel
    go_wp2
    go_ret
    exact ⟨ss, rfl, hid ⟨HFi.out, HB.out⟩⟩
  as_aux_lemma =>
  obtain ⟨hwo, hgx, e1, hob⟩ := HOk.out hc
  rw [e1] at H4
  rw [hc]
  have HSz := hid (fun wz => obSizeZ (l := l) hob wz)
  have HRf := hid (fun wz => obRefsZ (l := l) hob wz)
  have o1 := hob.k
  have o2 := hob.rf
  have o3 := hob.ev
  have Hc0 := hid hc
  clear hc HOk Hlen Hone hwo hgx e1 hob HNo
  generalize hoo : opO S (gIx x) = o at *
  have Hoo := hid hoo
  clear hoo
  have q0 := H4.out.bk.cell 0
  have q1_ := H4.out.bk.cell 1
  have q2 := H4.out.bk.cell 2
  have q3 := H4.out.bk.cell 3
  have q4 := H4.out.bk.cell 4
  simp only [obL, List.getElem?_cons_zero, List.getElem?_cons_succ] at q0 q1_ q2 q3 q4
  have k1 := H4.out.am.cells.2.1
  have HG : Hid (Calls Tryz.prog 153 #[.pointer (some ⟨l.tc, 0, none⟩), .int .i64 ((o.k : Int) / 2)] w4 fun e w' => e = .returned (.tuple #[.int .u64 ((eN 2 32 S.C (o.k / 2) : Nat) : Int), .bool true]) ∧ Drew w4 w') := hid (by
    have := H4.out.am.tc.get (o.k / 2) (by omega)
    rw [show ((o.k / 2 : Nat) : Int) = (o.k : Int) / 2 by omega] at this
    exact this)
  have hv1 : eN 2 32 S.C (o.k / 2) < 4 := eN_lt 2 32 S.C (o.k / 2)
  generalize hv1_ : eN 2 32 S.C (o.k / 2) = v1 at *
  have Hv1 := hid hv1_
  clear hv1_
  go_wp2_with fail
  refine HG.out.mono ?_
  rintro e w5 ⟨rfl, hd5⟩
  have H5 := hid (H4.out.below (hd5.below _))
  clear hd5 H4 HG k1 q0 q1_ q2 q3 q4
  have k2 := H5.out.am.cells.2.2.1
  have HG : Hid (Calls Tryz.prog 153 #[.pointer (some ⟨l.tm, 0, none⟩), .int .i64 ((o.k : Int) / 2)] w5 fun e w' => e = .returned (.tuple #[.int .u64 ((eN 1 64 S.M (o.k / 2) : Nat) : Int), .bool true]) ∧ Drew w5 w') := hid (by
    have := H5.out.am.tm.get (o.k / 2) (by omega)
    rw [show ((o.k / 2 : Nat) : Int) = (o.k : Int) / 2 by omega] at this
    exact this)
  have hv2 : eN 1 64 S.M (o.k / 2) < 2 := eN_lt 1 64 S.M (o.k / 2)
  generalize hv2_ : eN 1 64 S.M (o.k / 2) = v2 at *
  have Hv2 := hid hv2_
  clear hv2_
  go_wp2_with fail
  refine HG.out.mono ?_
  rintro e w6 ⟨rfl, hd6⟩
  have H6 := hid (H5.out.below (hd6.below _))
  clear hd6 H5 HG k2
  have q0 := H6.out.bk.cell 0
  have qq1 := H6.out.bk.cell 1
  have q2 := H6.out.bk.cell 2
  have q3 := H6.out.bk.cell 3
  have q4 := H6.out.bk.cell 4
  simp only [obL, List.getElem?_cons_zero, List.getElem?_cons_succ] at q0 qq1 q2 q3 q4
  go_wp2_with fail
  refine (HSz.out _).mono ?_
  rintro e w7 ⟨rfl, hb_⟩
  have H7 := hid (H6.out.below hb_)
  clear hb_ H6
  clear q0 qq1 q2 q3 q4
  have HL := hid (H7.out.label { data := #[32, 115, 105, 122, 101, 61] } (by decide) o.sz (by omega) (by omega))
  go_wp2_with fail
  refine HL.out.mono ?_
  rintro e w8 ⟨a_H8, m_H8, c_H8, rfl, H8⟩
  clear HL H7
  have q0 := H8.out.bk.cell 0
  have qq1 := H8.out.bk.cell 1
  have q2 := H8.out.bk.cell 2
  have q3 := H8.out.bk.cell 3
  have q4 := H8.out.bk.cell 4
  simp only [obL, List.getElem?_cons_zero, List.getElem?_cons_succ] at q0 qq1 q2 q3 q4
  go_wp2_with fail
  refine (HRf.out _).mono ?_
  rintro e w9 ⟨rfl, hb_⟩
  have H9 := hid (H8.out.below hb_)
  clear hb_ H8
  clear q0 qq1 q2 q3 q4
  have HL := hid (H9.out.label { data := #[32, 114, 101, 102, 115, 61] } (by decide) o.rf (by omega) (by omega))
  go_wp2_with fail
  refine HL.out.mono ?_
  rintro e wa ⟨a_Ha, m_Ha, c_Ha, rfl, Ha⟩
  clear HL H9
  have HL := hid (Ha.out.label { data := #[32, 99, 111, 117, 110, 116, 61] } (by decide) v1 (by omega) (by omega))
  go_wp2_with fail
  refine HL.out.mono ?_
  rintro e wb ⟨a_Hb, m_Hb, c_Hb, rfl, Hb⟩
  clear HL Ha
  have HL := hid (Hb.out.label { data := #[32, 109, 97, 114, 107, 61] } (by decide) v2 (by omega) (by omega))
  go_wp2_with fail
  refine HL.out.mono ?_
  rintro e wc ⟨a_Hc, m_Hc, c_Hc, rfl, Hc⟩
  clear HL Hb
  go_wp2_with (at_builtin; refine stopHere ?_)
  intro _
  obtain ⟨ds, hde, hd1, hd2⟩ := Hc.out.row
  have Hde := hid hde
  clear hde
  refine wpList_app_s rfl _ _ hd2 rfl rfl { data := #[32, 108, 111, 103, 61] } rfl (by show _ + 5 ≤ _; have e : ([] ++ ds).length = ds.length := rfl; omega) Hc.out.ap.bel.size ?_
  intro v2_ w2_ hr2_ hk2_
  obtain ⟨a_Hd, m_Hd, c_Hd, hv_, hs_⟩ := Hc.out.kep Hde.out hk2_.out hr2_.out 5 (by decide)
  subst hv_
  have Hd := hid hs_
  clear hs_ hr2_ hk2_ hd2 hd1 Hde Hc
  have q0 := Hd.out.bk.cell 0
  have qq1 := Hd.out.bk.cell 1
  have q2 := Hd.out.bk.cell 2
  have q3 := Hd.out.bk.cell 3
  have q4 := Hd.out.bk.cell 4
  simp only [obL, List.getElem?_cons_zero, List.getElem?_cons_succ] at q0 qq1 q2 q3 q4
  go_wp2_with fail
  refine (HRf.out _).mono ?_
  rintro e we ⟨rfl, hb_⟩
  have He := hid (Hd.out.below hb_)
  clear hb_ Hd
  clear q0 qq1 q2 q3 q4
  obtain ⟨DD, hDD⟩ : ∃ D, dsH x o v1 v2 = D := ⟨_, rfl⟩
  have HLw : Hid ((o.rf = 0 → RR = DD ++ [45]) ∧ (o.rf ≠ 0 → o.rf ≤ 32 → RR = DD ++ bmF (lgB (abE S) (o.k + 1)) o.rf) ∧ (32 < o.rf → RR = DD ++ bmF (lgB (abE S) (o.k + 1)) 32 ++ [43])) := hid (by rw [← HRR.out]; exact ds_ok HUx.out Hc0.out Hoo.out Hv1.out Hv2.out hDD)
  have He2 : Hid (DSX l S w q (obL l o) (120 + 36 + 36 + 36 + 36 + 5) DD a_Hd m_Hd c_Hd we) := hid (by rw [← hDD]; exact He.out)
  clear hDD He HRR HUx Hc0 Hoo Hv1 Hv2
  have He := hid He2.out
  clear He2
  by_cases hr0 : o.rf = 0
  · as_aux_lemma =>
    have dr : ((o.rf : Int) == 0) = true := by simp [hr0]
    go_wp2_with (at_builtin; refine stopHere ?_)
    intro _
    obtain ⟨ds, hde, hd1, hd2⟩ := He.out.row
    have Hde := hid hde
    clear hde
    obtain ⟨k8, hk8⟩ : ∃ k, we.heap.size = k := ⟨_, rfl⟩
    obtain ⟨wf, hwf⟩ : ∃ wf, we.alloc (.cells #[.int .u8 45] 5) = wf := ⟨_, rfl⟩
    have HJf : Hid (DSX l S w q (obL l o) (120 + 36 + 36 + 36 + 36 + 5) DD a_Hd m_Hd c_Hd wf ∧ OwR rtB w.heap.size wf (.slice a_Hd m_Hd c_Hd) ([] ++ ds)) := hid (by rw [← hwf]; exact ⟨He.out.below (nbel _ _), hd2.below (nbel _ _)⟩)
    have HNw : Hid (∀ ad, some (⟨k8, 0, none⟩ : Addr) = some ad → ∀ j u, ([45].flatMap rtB.f)[j]? = some u → wf.cell? (ad.add j) = some u) := hid (by rw [← hwf]; exact newX rtB _ 45 _ hk8.symm)
    (try simp only [hwf, hk8])
    clear hwf hk8
    refine wpList_app_l okB rfl _ _ HJf.out.2 rfl [45] rfl (some ⟨k8, 0, none⟩) 1 1 rfl rfl (fun h => by cases h) HNw.out (by
      show (([] ++ ds).length + 1) * 1 ≤ _
      have e : ([] ++ ds).length = ds.length := rfl
      omega) HJf.out.1.ap.bel.size ?_
    intro v9_ w9_ hr9_ hk9_ _
    obtain ⟨a_Hf, m_Hf, c_Hf, hv_, hs_⟩ := HJf.out.1.kep Hde.out hk9_.out hr9_.out 1 (Nat.le_refl 1)
    subst hv_
    have Hf := hid hs_
    clear hs_ hr9_ hk9_ hd2 hd1 Hde HJf HNw He
    obtain ⟨ss, hss, hcv⟩ := Hf.out.str
    have HFi : Hid (ss = bsA RR) := hid (by rw [hss, HLw.out.1 hr0])
    clear hss
    have HB := hid Hf.out.ap.bel
    go_wp2
    go_ret
    exact ⟨ss, rfl, hid ⟨HFi.out, HB.out⟩⟩
  as_aux_lemma =>
  have dr : ((o.rf : Int) == 0) = false := by simp; omega
  go_upto_region 17 with fail
  go_loopw [5, 13] (fun t u wr => ∃ (j : Nat) (a : Option Addr) (m c : Nat), u = .int .i64 (j : Int) ∧ t = .slice a m c ∧ j ≤ o.rf ∧ j ≤ 32 ∧ Hid (DSX l S w q (obL l o) (269 + j) (DD ++ bmF (lgB (abE S) (o.k + 1)) j) a m c wr)) (fun _ u _ => 33 - (intOf u).toNat)
  case atStart => exact ⟨0, _, _, _, rfl, rfl, by omega, by omega, hid (by show DSX l S w q (obL l o) (269 + 0) (DD ++ []) _ _ _ _; rw [List.append_nil]; exact He.out)⟩
  case round =>
  clear He
  obtain ⟨j, a, m, c, rfl, rfl, hj1, hj2, HK⟩ := hrel
  have q0 := HK.out.bk.cell 0
  have qq1 := HK.out.bk.cell 1
  have q2 := HK.out.bk.cell 2
  have q3 := HK.out.bk.cell 3
  have q4 := HK.out.bk.cell 4
  simp only [obL, List.getElem?_cons_zero, List.getElem?_cons_succ] at q0 qq1 q2 q3 q4
  go_wp2_with fail
  refine (HRf.out _).mono ?_
  rintro e wk ⟨rfl, hb_⟩
  have HK2 := hid (HK.out.below hb_)
  clear hb_ HK
  clear q0 qq1 q2 q3 q4
  by_cases hjn : j < o.rf
  rotate_left
  · as_aux_lemma =>
    have dq : decide ((j : Int) < (o.rf : Int)) = false := decide_eq_false (by omega)
    have dq' : decide (j < o.rf) = false := decide_eq_false (by omega)
    obtain ⟨ss, hss, hcv⟩ := HK2.out.str
    have HFi : Hid (ss = bsA RR) := hid (by rw [hss, show j = o.rf by omega, HLw.out.2.1 hr0 (by omega)])
    clear hss
    have HB := hid HK2.out.ap.bel
    go_wp2
    go_ret
    exact ⟨ss, rfl, hid ⟨HFi.out, HB.out⟩⟩
  have dq : decide ((j : Int) < (o.rf : Int)) = true := decide_eq_true (by omega)
  have dq' : decide (j < o.rf) = true := decide_eq_true (by omega)
  by_cases hj3 : j = 32
  · as_aux_lemma =>
    have d3 : ((j : Int) == 32) = true := by simp [hj3]
    go_wp2_with (at_builtin; refine stopHere ?_)
    intro _
    obtain ⟨ds, hde, hd1, hd2⟩ := HK2.out.row
    have Hde := hid hde
    clear hde
    obtain ⟨k8, hk8⟩ : ∃ k, wk.heap.size = k := ⟨_, rfl⟩
    obtain ⟨wf, hwf⟩ : ∃ wf, wk.alloc (.cells #[.int .u8 43] 5) = wf := ⟨_, rfl⟩
    have HJf : Hid (DSX l S w q (obL l o) (269 + j) (DD ++ bmF (lgB (abE S) (o.k + 1)) j) a m c wf ∧ OwR rtB w.heap.size wf (.slice a m c) ([] ++ ds)) := hid (by rw [← hwf]; exact ⟨HK2.out.below (nbel _ _), hd2.below (nbel _ _)⟩)
    have HNw : Hid (∀ ad, some (⟨k8, 0, none⟩ : Addr) = some ad → ∀ j u, ([43].flatMap rtB.f)[j]? = some u → wf.cell? (ad.add j) = some u) := hid (by rw [← hwf]; exact newX rtB _ 43 _ hk8.symm)
    (try simp only [hwf, hk8])
    clear hwf hk8
    refine wpList_app_l okB rfl _ _ HJf.out.2 rfl [43] rfl (some ⟨k8, 0, none⟩) 1 1 rfl rfl (fun h => by cases h) HNw.out (by
      show (([] ++ ds).length + 1) * 1 ≤ _
      have e : ([] ++ ds).length = ds.length := rfl
      omega) HJf.out.1.ap.bel.size ?_
    intro v9_ w9_ hr9_ hk9_ _
    obtain ⟨a_Hf, m_Hf, c_Hf, hv_, hs_⟩ := HJf.out.1.kep Hde.out hk9_.out hr9_.out 1 (Nat.le_refl 1)
    subst hv_
    have Hf := hid hs_
    clear hs_ hr9_ hk9_ hd2 hd1 Hde HJf HNw HK2
    obtain ⟨ss, hss, hcv⟩ := Hf.out.str
    have HFi : Hid (ss = bsA RR) := hid (by rw [hss, hj3, HLw.out.2.2 (by omega)])
    clear hss
    have HB := hid Hf.out.ap.bel
    go_wp2
    go_ret
    exact ⟨ss, rfl, hid ⟨HFi.out, HB.out⟩⟩
  as_aux_lemma =>
  have d3 : ((j : Int) == 32) = false := by simp; omega
  go_upto_region 21 with fail
  obtain ⟨X, W, HTT, HH0, hne, HCl⟩ := class_below wk
  have y0 : ∀ y, (W y).cell? ⟨l.a, 3, none⟩ = some (.pointer (some ⟨l.tl, 0, none⟩)) := fun y => (HK2.out.below (HTT.out y)).am.cells.2.2.2.1
  have y1 : ∀ y, (W y).cell? ⟨q, 1, none⟩ = some (.int .i64 (o.k : Int)) := fun y => (HK2.out.below (HTT.out y)).bk.cell 1
  have HG : Hid (∀ y, Calls Tryz.prog 153 #[.pointer (some ⟨l.tl, 0, none⟩), .int .i64 ((o.k : Int) + 1 + (j : Int))] (W y) fun e w' => e = .returned (.tuple #[.int .u64 ((eN 1 64 S.L (o.k + 1 + j) : Nat) : Int), .bool true]) ∧ Below (W y).heap.size (W y) w') := hid (fun y => by
    have := (HK2.out.below (HTT.out y)).am.tl.get (o.k + 1 + j) (by omega)
    rw [show ((o.k + 1 + j : Nat) : Int) = (o.k : Int) + 1 + (j : Int) by omega] at this
    exact this.mono (by rintro e w1 ⟨rfl, hd⟩; exact ⟨rfl, hd.below _⟩))
  have hv3 : eN 1 64 S.L (o.k + 1 + j) < 2 := eN_lt 1 64 S.L (o.k + 1 + j)
  generalize hv3_ : eN 1 64 S.L (o.k + 1 + j) = v3 at *
  have Hv3 := hid hv3_
  clear hv3_
  refine wp_region_class W (by kernel_rfl) (by kernel_rfl) HH0.out ?_
  repeat (go_big_quiet_step (first | (go_at_call 153; with_reducible exact Calls.class_of HCl.out (HG.out _))))
  refine wpQuiet_nil ?_
  intro y
  have HL := hid (HK2.out.below (HTT.out y))
  generalize W y = wl at HL ⊢
  clear y0 y1 HG HH0 HTT HCl hne HK2
  obtain ⟨b8, hb8⟩ : ∃ b8 : UInt8, ((48 + v3 : Nat) : Int) = (b8.toNat : Int) := ⟨UInt8.ofNat (48 + v3), by rw [UInt8.toNat_ofNat']; omega⟩
  have ev : 48 + (v3 : Int) = (b8.toNat : Int) := by omega
  have Hb8 : Hid (b8 = lgB (abE S) (o.k + 1) j) := hid (by
    have hb : b8.toNat = 48 + v3 := by omega
    have hG : (abE S).G (o.k + 1 + j) = !(v3 == 0) := by rw [← Hv3.out]; rfl
    unfold lgB
    rw [hG]
    apply UInt8.toNat_inj.1
    have : v3 = 0 ∨ v3 = 1 := by omega
    rcases this with h | h
    · rw [hb, h]; rfl
    · rw [hb, h]; rfl)
  have hb256 : (b8.toNat : Int) < 256 := by omega
  go_wp2_with (at_builtin; refine stopHere ?_)
  intro _
  obtain ⟨ds, hde, hd1, hd2⟩ := HL.out.row
  have Hde := hid hde
  clear hde
  obtain ⟨k8, hk8⟩ : ∃ k, wl.heap.size = k := ⟨_, rfl⟩
  obtain ⟨wf, hwf⟩ : ∃ wf, wl.alloc (.cells #[.int .u8 (b8.toNat : Int)] 5) = wf := ⟨_, rfl⟩
  have HJf : Hid (DSX l S w q (obL l o) (269 + j) (DD ++ bmF (lgB (abE S) (o.k + 1)) j) a m c wf ∧ OwR rtB w.heap.size wf (.slice a m c) ([] ++ ds)) := hid (by rw [← hwf]; exact ⟨HL.out.below (nbel _ _), hd2.below (nbel _ _)⟩)
  have HNw : Hid (∀ ad, some (⟨k8, 0, none⟩ : Addr) = some ad → ∀ j u, ([b8].flatMap rtB.f)[j]? = some u → wf.cell? (ad.add j) = some u) := hid (by rw [← hwf]; exact newX rtB _ b8 _ hk8.symm)
  (try simp only [hwf, hk8])
  clear hwf hk8
  refine wpList_app_l okB rfl _ _ HJf.out.2 rfl [b8] rfl (some ⟨k8, 0, none⟩) 1 1 rfl rfl (fun h => by cases h) HNw.out (by
    show (([] ++ ds).length + 1) * 1 ≤ _
    have e : ([] ++ ds).length = ds.length := rfl
    omega) HJf.out.1.ap.bel.size ?_
  intro v9_ w9_ hr9_ hk9_ _
  obtain ⟨a_Hf, m_Hf, c_Hf, hv_, hs_⟩ := HJf.out.1.kep Hde.out hk9_.out hr9_.out 1 (Nat.le_refl 1)
  subst hv_
  rw [Hb8.out, List.append_assoc] at hs_
  have Hf := hid hs_
  clear hs_ hr9_ hk9_ hd2 hd1 Hde HJf HNw HL
  go_wp2
  exact ⟨⟨j + 1, _, _, _, by go_num, rfl, by omega, by omega, Hf⟩, by simp [intOf]; omega⟩
end
end Go.Proofs.Qxb6500887aGreat
