/- Small readers of an object; Error, Describe (written by tools/mk_azyh.py). -/
import Derived.Test.Qxb6500887aGreatAzYg
namespace Go.Proofs.Qxb6500887aGreat
open Go.RowKit
set_option linter.unusedSimpArgs false
set_option linter.unusedVariables false

section
variable {w w' w0 w1 : World} {n0 : Nat} {v v' : Value} {bs : List UInt8} {l : AL} {S : AS} {o : Ob}
set_option maxRecDepth 100000 in
theorem obSizeZ (ho : ObOk o) (w : World) : Calls Tryz.prog 38 #[.agg #[.pointer (some ⟨l.a, 0, none⟩), .int .i64 (o.k : Int), .int .u64 (o.raw : Int), .int .i64 (o.sz : Int), .int .i64 (o.rf : Int)]] w fun e w' => e = .returned (.int .i64 (o.sz : Int)) ∧ Below w.heap.size w w' := by
  have h1 := ho.k
  have h2 := ho.rf
  clear ho
  go_enter Tryz.func38, Tryz.ntmps38
  go_wp2
  go_ret
  exact ⟨rfl, nbel w _⟩
set_option maxRecDepth 100000 in
theorem obRefsZ (ho : ObOk o) (w : World) : Calls Tryz.prog 39 #[.agg #[.pointer (some ⟨l.a, 0, none⟩), .int .i64 (o.k : Int), .int .u64 (o.raw : Int), .int .i64 (o.sz : Int), .int .i64 (o.rf : Int)]] w fun e w' => e = .returned (.int .i64 (o.rf : Int)) ∧ Below w.heap.size w w' := by
  have h1 := ho.k
  have h2 := ho.rf
  clear ho
  go_enter Tryz.func39, Tryz.ntmps39
  go_wp2
  go_ret
  exact ⟨rfl, nbel w _⟩
set_option maxRecDepth 100000 in
theorem obAddrZ (ho : ObOk o) (w : World) : Calls Tryz.prog 24 #[.agg #[.pointer (some ⟨l.a, 0, none⟩), .int .i64 (o.k : Int), .int .u64 (o.raw : Int), .int .i64 (o.sz : Int), .int .i64 (o.rf : Int)]] w fun e w' => e = .returned (.int .u64 (65536 + (o.k : Int))) ∧ Below w.heap.size w w' := by
  have h1 := ho.k
  have h2 := ho.rf
  clear ho
  go_enter Tryz.func24, Tryz.ntmps24
  go_wp2
  go_ret
  exact ⟨rfl, nbel w _⟩
set_option maxRecDepth 100000 in
theorem errorZ (c : Int) (w : World) : Calls Tryz.prog 251 #[.int .u8 c] w fun e w' => ∃ s : ByteArray, e = .returned (.string s) ∧ s.size ≤ 32 ∧ w' = w := by
  by_cases h0 : c = 0
  · subst h0
    go_enter Tryz.func251, Tryz.ntmps251
    go_wp2
    go_ret
    exact ⟨_, rfl, by decide, rfl⟩
  have d0 : (c == 0) = false := by simpa using h0
  by_cases h1 : c = 1
  · subst h1
    go_enter Tryz.func251, Tryz.ntmps251
    go_wp2
    go_ret
    exact ⟨_, rfl, by decide, rfl⟩
  have d1 : (c == 1) = false := by simpa using h1
  by_cases h2 : c = 2
  · subst h2
    go_enter Tryz.func251, Tryz.ntmps251
    go_wp2
    go_ret
    exact ⟨_, rfl, by decide, rfl⟩
  have d2 : (c == 2) = false := by simpa using h2
  by_cases h3 : c = 3
  · subst h3
    go_enter Tryz.func251, Tryz.ntmps251
    go_wp2
    go_ret
    exact ⟨_, rfl, by decide, rfl⟩
  have d3 : (c == 3) = false := by simpa using h3
  by_cases h4 : c = 4
  · subst h4
    go_enter Tryz.func251, Tryz.ntmps251
    go_wp2
    go_ret
    exact ⟨_, rfl, by decide, rfl⟩
  have d4 : (c == 4) = false := by simpa using h4
  by_cases h5 : c = 5
  · subst h5
    go_enter Tryz.func251, Tryz.ntmps251
    go_wp2
    go_ret
    exact ⟨_, rfl, by decide, rfl⟩
  have d5 : (c == 5) = false := by simpa using h5
  by_cases h6 : c = 6
  · subst h6
    go_enter Tryz.func251, Tryz.ntmps251
    go_wp2
    go_ret
    exact ⟨_, rfl, by decide, rfl⟩
  have d6 : (c == 6) = false := by simpa using h6
  by_cases h7 : c = 7
  · subst h7
    go_enter Tryz.func251, Tryz.ntmps251
    go_wp2
    go_ret
    exact ⟨_, rfl, by decide, rfl⟩
  have d7 : (c == 7) = false := by simpa using h7
  by_cases h8 : c = 8
  · subst h8
    go_enter Tryz.func251, Tryz.ntmps251
    go_wp2
    go_ret
    exact ⟨_, rfl, by decide, rfl⟩
  have d8 : (c == 8) = false := by simpa using h8
  by_cases h9 : c = 9
  · subst h9
    go_enter Tryz.func251, Tryz.ntmps251
    go_wp2
    go_ret
    exact ⟨_, rfl, by decide, rfl⟩
  have d9 : (c == 9) = false := by simpa using h9
  by_cases h10 : c = 10
  · subst h10
    go_enter Tryz.func251, Tryz.ntmps251
    go_wp2
    go_ret
    exact ⟨_, rfl, by decide, rfl⟩
  have d10 : (c == 10) = false := by simpa using h10
  by_cases h11 : c = 11
  · subst h11
    go_enter Tryz.func251, Tryz.ntmps251
    go_wp2
    go_ret
    exact ⟨_, rfl, by decide, rfl⟩
  have d11 : (c == 11) = false := by simpa using h11
  clear h0 h1 h2 h3 h4 h5 h6 h7 h8 h9 h10 h11
  go_enter Tryz.func251, Tryz.ntmps251
  go_wp2
  go_ret
  exact ⟨_, rfl, by decide, rfl⟩
theorem ApB.updG {k g : Nat} {t : TypeId} {cs : List Value} (h : ApB n0 w bs k w' v') {w'' : World} (h0 : n0 ≤ w.heap.size) (hg : w.heap.size ≤ g) (hb : Blk w' g t cs) (ht : t ≠ 5) (hu : Upd g w' w'') : ApB n0 w bs k w'' v' := by
  obtain ⟨ds, h1, h2⟩ := h.row
  exact ⟨⟨ds, h1, h2.upd hu (h2.ne hb ht)⟩, h.bel.trans (hu.below (Nat.le_trans h0 hg) (Nat.le_trans h0 h.bel.size)), fun g' t' cs' hg' ht' => (h.kt g' t' cs' hg' ht').upd hu (by have := hg'.lt; omega)⟩
/-- Describe under way. -/
structure DS (l : AL) (S : AS) (w0 : World) (q : Nat) (cs : List Value) (k : Nat) (a : Option Addr) (m c : Nat) (w : World) : Prop where
  am0 : AM l S w0
  ap : ApB w0.heap.size w0 [] k w (.slice a m c)
  bk : Blk w q 61 cs
theorem DS.am {q k m c : Nat} {cs : List Value} {a : Option Addr} (h : DS l S w0 q cs k a m c w) : AM l S w := h.am0.below h.ap.bel
theorem DS.below {q k m c : Nat} {cs : List Value} {a : Option Addr} (h : DS l S w0 q cs k a m c w) (hb : Below w.heap.size w w') : DS l S w0 q cs k a m c w' := ⟨h.am0, h.ap.below (Nat.le_refl _) hb, h.bk.below hb⟩
theorem DS.label {q k m c : Nat} {cs : List Value} {a : Option Addr} (h : DS l S w0 q cs k a m c w) (s : ByteArray) (hs : s.size ≤ 16) (n : Nat) (hn : n ≤ 9223372036854775807) (hk : k ≤ 800000) : Calls Tryz.prog 270 #[.slice a m c, .string s, .int .i64 (n : Int)] w fun e w' => ∃ (a' : Option Addr) (m' c' : Nat), e = .returned (.slice a' m' c') ∧ Hid (DS l S w0 q cs (k + 36) a' m' c' w') :=
  (h.ap.labelK (Nat.le_refl _) h.bk (by decide) s hs n hn (by show 0 + k ≤ _; omega)).mono (by
    rintro e w9 ⟨a9, m9, q9, rfl, H9⟩
    exact ⟨a9, m9, q9, rfl, hid ⟨h.am0, H9.out.1, H9.out.2⟩⟩)
theorem DS.str {q k m c : Nat} {cs : List Value} {a : Option Addr} (h : DS l S w0 q cs k a m c w) : ∃ s : ByteArray, (convert 252 9 (.slice a m c)).run Tryz.prog w = .ok (.string s) w := by
  obtain ⟨ds, _, h2⟩ := h.ap.row
  exact ⟨_, h2.str⟩
theorem DS.kep {q k m c : Nat} {cs : List Value} {a : Option Addr} {ds es : List UInt8} {w'' : World} {v'' : Value} (h : DS l S w0 q cs k a m c w) (hd : ds.length ≤ k) (hr : OwR rtB w0.heap.size w (.slice a m c) ([] ++ ds)) (hk : Kep w (.slice a m c) w'') (hr2 : OwR rtB w0.heap.size w'' v'' ([] ++ ds ++ es)) (n : Nat) (hn : es.length ≤ n) : ∃ a' m' c', v'' = .slice a' m' c' ∧ DS l S w0 q cs (k + n) a' m' c' w'' := by
  obtain ⟨a', c', rfl⟩ := hr2.shape
  exact ⟨a', _, c', rfl, ⟨h.am0, (h.ap.kep (Nat.le_refl _) hr hd hk hr2).mono (by omega), hk.keep h.bk (hr.ne h.bk (by decide))⟩⟩
set_option maxRecDepth 100000 in
set_option maxHeartbeats 8000000 in
theorem describeZ (h : AM l S w) (x : Int) (hx : U64 x) : Calls Tryz.prog 245 #[.pointer (some ⟨l.a, 0, none⟩), .int .u64 x] w fun e w' => ∃ s : ByteArray, e = .returned (.string s) ∧ Hid (Below w.heap.size w w') := by
  have I0 := hid info_ob
  have HA := hid h
  have HAd := hid (appendAddrZ (OwR.nil rtB w.heap.size w) (Nat.le_refl _) x hx (by decide))
  have HO := hid (fun wz (hz : AM l S wz) => openZ hz x)
  have Hlen := hid (onL_len l S x)
  have Hone := hid (onL_one l S x)
  have HOk := hid (fun (hc : onC S x = 0) => onC_ok h hc)
  clear h
  go_enter Tryz.func245, Tryz.ntmps245
  go_wp2_with fail
  refine HAd.out.mono ?_
  rintro e w1 ⟨a1, m1, q1, rfl, H1⟩
  clear HAd
  go_wp2_with fail
  refine (HO.out _ (HA.out.below H1.out.bel)).mono ?_
  rintro e w2 ⟨rfl, hb2⟩
  have H2 := hid (H1.out.below (Nat.le_refl _) hb2)
  clear hb2 H1 HO
  obtain ⟨q, hq⟩ : ∃ q, w2.heap.size = q := ⟨_, rfl⟩
  have HN : Hid (Blk (w2.alloc (.cells #[.pointer none, .int .i64 0, .int .u64 0, .int .i64 0, .int .i64 0] 61)) q 61 ob0 ∧ ApB w.heap.size w [] 120 (w2.alloc (.cells #[.pointer none, .int .i64 0, .int .u64 0, .int .i64 0, .int .i64 0] 61)) (.slice a1 m1 q1) ∧ w.heap.size ≤ q) := hid (by
    have kk := Blk.new w2 ob0 61
    rw [hq] at kk
    have := H2.out.bel.size
    exact ⟨kk, H2.out.below (Nat.le_refl _) (nbel w2 _), by omega⟩)
  (try simp only [hq])
  go_upto_region 3 with (refine wpList_store_blk rfl 61 _ _ rfl q rfl (onL l S x) rfl HN.out.1 (by rw [Hlen.out]; rfl) (by rw [Hlen.out]; exact I0.out) Hone.out ?_; intro w4 HB4 HU4)
  have H4 : Hid (DS l S w q (onL l S x) 120 a1 m1 q1 w4) := hid ⟨HA.out, HN.out.2.1.updG (Nat.le_refl _) HN.out.2.2 HN.out.1 (by decide) HU4.out, HB4.out⟩
  clear HB4 HU4 HN hq H2
  by_cases hc : onC S x = 0
  rotate_left
  · as_aux_lemma =>
    have dc : (onC S x == 0) = false := by simpa using hc
    have dc2 : (onC S x != 0) = true := by simp [bne, dc]
    generalize onC S x = c at *
    clear hc
    have HEr := hid (fun wz => errorZ c wz)
    go_wp2_with (at_builtin; refine stopHere ?_)
    intro _
    obtain ⟨ds, hd1, hd2⟩ := H4.out.ap.row
    refine wpList_app_s rfl _ _ hd2 rfl rfl { data := #[58, 32] } rfl (by show _ + 2 ≤ _; have e : ([] ++ ds).length = ds.length := rfl; omega) H4.out.ap.bel.size ?_
    intro v2_ w2_ hr2_ hk2_
    obtain ⟨a_H5, m_H5, c_H5, hv_, hs_⟩ := H4.out.kep hd1 hd2 hk2_.out hr2_.out 2 (by decide)
    subst hv_
    have H5 := hid hs_
    clear hs_ hr2_ hk2_ hd2 hd1 H4
    go_wp2_with fail
    refine (HEr.out _).mono ?_
    rintro e w6 ⟨s, rfl, hsz0, hw6⟩
    have hw6' := hw6.symm
    clear hw6
    subst hw6'
    have hsz : s.data.toList.length ≤ 32 := by
      have : s.data.toList.length = s.size := by rw [Array.length_toList]; rfl
      omega
    have hsz1 : s.size ≤ 32 := hsz0
    go_wp2_with (at_builtin; refine stopHere ?_)
    intro _
    obtain ⟨ds, hd1, hd2⟩ := H5.out.ap.row
    refine wpList_app_s rfl _ _ hd2 rfl rfl s rfl (by have := hsz1; have e : ([] ++ ds).length = ds.length := rfl; omega) H5.out.ap.bel.size ?_
    intro v2_ w2_ hr2_ hk2_
    obtain ⟨a_H6, m_H6, c_H6, hv_, hs_⟩ := H5.out.kep hd1 hd2 hk2_.out hr2_.out 32 (by exact hsz)
    subst hv_
    have H6 := hid hs_
    clear hs_ hr2_ hk2_ hd2 hd1 H5
    obtain ⟨ss, hcv⟩ := H6.out.str
    have HB := hid H6.out.ap.bel
    go_wp2
    go_ret
    exact ⟨ss, rfl, HB⟩
  as_aux_lemma =>
  obtain ⟨hwo, hgx, e1, hob⟩ := HOk.out hc
  rw [e1] at H4
  rw [hc]
  have HSz := hid (fun wz => obSizeZ (l := l) hob wz)
  have HRf := hid (fun wz => obRefsZ (l := l) hob wz)
  have o1 := hob.k
  have o2 := hob.rf
  have o3 := hob.ev
  clear hc HOk Hlen Hone hwo hgx e1 hob
  generalize hoo : opO S (gIx x) = o at *
  clear hoo
  have q0 := H4.out.bk.cell 0
  have q1_ := H4.out.bk.cell 1
  have q2 := H4.out.bk.cell 2
  have q3 := H4.out.bk.cell 3
  have q4 := H4.out.bk.cell 4
  simp only [obL, List.getElem?_cons_zero, List.getElem?_cons_succ] at q0 q1_ q2 q3 q4
  have k1 := H4.out.am.cells.2.1
  have HG : Hid (Calls Tryz.prog 153 #[.pointer (some ⟨l.tc, 0, none⟩), .int .i64 ((o.k : Int) / 2)] w4 fun e w' => e = .returned (.tuple #[.int .u64 ((eN 2 32 S.C (o.k / 2) : Nat) : Int), .bool true]) ∧ Drew w4 w') := hid (by
    have := H4.out.am.tc.get (o.k / 2) (by omega)
    rw [show ((o.k / 2 : Nat) : Int) = (o.k : Int) / 2 by omega] at this
    exact this)
  have hv1 : eN 2 32 S.C (o.k / 2) < 4 := eN_lt 2 32 S.C (o.k / 2)
  generalize eN 2 32 S.C (o.k / 2) = v1 at *
  go_wp2_with fail
  refine HG.out.mono ?_
  rintro e w5 ⟨rfl, hd5⟩
  have H5 := hid (H4.out.below (hd5.below _))
  clear hd5 H4 HG k1 q0 q1_ q2 q3 q4
  have k2 := H5.out.am.cells.2.2.1
  have HG : Hid (Calls Tryz.prog 153 #[.pointer (some ⟨l.tm, 0, none⟩), .int .i64 ((o.k : Int) / 2)] w5 fun e w' => e = .returned (.tuple #[.int .u64 ((eN 1 64 S.M (o.k / 2) : Nat) : Int), .bool true]) ∧ Drew w5 w') := hid (by
    have := H5.out.am.tm.get (o.k / 2) (by omega)
    rw [show ((o.k / 2 : Nat) : Int) = (o.k : Int) / 2 by omega] at this
    exact this)
  have hv2 : eN 1 64 S.M (o.k / 2) < 2 := eN_lt 1 64 S.M (o.k / 2)
  generalize eN 1 64 S.M (o.k / 2) = v2 at *
  go_wp2_with fail
  refine HG.out.mono ?_
  rintro e w6 ⟨rfl, hd6⟩
  have H6 := hid (H5.out.below (hd6.below _))
  clear hd6 H5 HG k2
  have q0 := H6.out.bk.cell 0
  have qq1 := H6.out.bk.cell 1
  have q2 := H6.out.bk.cell 2
  have q3 := H6.out.bk.cell 3
  have q4 := H6.out.bk.cell 4
  simp only [obL, List.getElem?_cons_zero, List.getElem?_cons_succ] at q0 qq1 q2 q3 q4
  go_wp2_with fail
  refine (HSz.out _).mono ?_
  rintro e w7 ⟨rfl, hb_⟩
  have H7 := hid (H6.out.below hb_)
  clear hb_ H6
  clear q0 qq1 q2 q3 q4
  have HL := hid (H7.out.label { data := #[32, 115, 105, 122, 101, 61] } (by decide) o.sz (by omega) (by omega))
  go_wp2_with fail
  refine HL.out.mono ?_
  rintro e w8 ⟨a_H8, m_H8, c_H8, rfl, H8⟩
  clear HL H7
  have q0 := H8.out.bk.cell 0
  have qq1 := H8.out.bk.cell 1
  have q2 := H8.out.bk.cell 2
  have q3 := H8.out.bk.cell 3
  have q4 := H8.out.bk.cell 4
  simp only [obL, List.getElem?_cons_zero, List.getElem?_cons_succ] at q0 qq1 q2 q3 q4
  go_wp2_with fail
  refine (HRf.out _).mono ?_
  rintro e w9 ⟨rfl, hb_⟩
  have H9 := hid (H8.out.below hb_)
  clear hb_ H8
  clear q0 qq1 q2 q3 q4
  have HL := hid (H9.out.label { data := #[32, 114, 101, 102, 115, 61] } (by decide) o.rf (by omega) (by omega))
  go_wp2_with fail
  refine HL.out.mono ?_
  rintro e wa ⟨a_Ha, m_Ha, c_Ha, rfl, Ha⟩
  clear HL H9
  have HL := hid (Ha.out.label { data := #[32, 99, 111, 117, 110, 116, 61] } (by decide) v1 (by omega) (by omega))
  go_wp2_with fail
  refine HL.out.mono ?_
  rintro e wb ⟨a_Hb, m_Hb, c_Hb, rfl, Hb⟩
  clear HL Ha
  have HL := hid (Hb.out.label { data := #[32, 109, 97, 114, 107, 61] } (by decide) v2 (by omega) (by omega))
  go_wp2_with fail
  refine HL.out.mono ?_
  rintro e wc ⟨a_Hc, m_Hc, c_Hc, rfl, Hc⟩
  clear HL Hb
  go_wp2_with (at_builtin; refine stopHere ?_)
  intro _
  obtain ⟨ds, hd1, hd2⟩ := Hc.out.ap.row
  refine wpList_app_s rfl _ _ hd2 rfl rfl { data := #[32, 108, 111, 103, 61] } rfl (by show _ + 5 ≤ _; have e : ([] ++ ds).length = ds.length := rfl; omega) Hc.out.ap.bel.size ?_
  intro v2_ w2_ hr2_ hk2_
  obtain ⟨a_Hd, m_Hd, c_Hd, hv_, hs_⟩ := Hc.out.kep hd1 hd2 hk2_.out hr2_.out 5 (by decide)
  subst hv_
  have Hd := hid hs_
  clear hs_ hr2_ hk2_ hd2 hd1 Hc
  have q0 := Hd.out.bk.cell 0
  have qq1 := Hd.out.bk.cell 1
  have q2 := Hd.out.bk.cell 2
  have q3 := Hd.out.bk.cell 3
  have q4 := Hd.out.bk.cell 4
  simp only [obL, List.getElem?_cons_zero, List.getElem?_cons_succ] at q0 qq1 q2 q3 q4
  go_wp2_with fail
  refine (HRf.out _).mono ?_
  rintro e we ⟨rfl, hb_⟩
  have He := hid (Hd.out.below hb_)
  clear hb_ Hd
  clear q0 qq1 q2 q3 q4
  by_cases hr0 : o.rf = 0
  · as_aux_lemma =>
    have dr : ((o.rf : Int) == 0) = true := by simp [hr0]
    go_wp2_with (at_builtin; refine stopHere ?_)
    intro _
    obtain ⟨ds, hd1, hd2⟩ := He.out.ap.row
    obtain ⟨k8, hk8⟩ : ∃ k, we.heap.size = k := ⟨_, rfl⟩
    obtain ⟨wf, hwf⟩ : ∃ wf, we.alloc (.cells #[.int .u8 45] 5) = wf := ⟨_, rfl⟩
    have HJf : Hid (DS l S w q (obL l o) (120 + 36 + 36 + 36 + 36 + 5) a_Hd m_Hd c_Hd wf ∧ OwR rtB w.heap.size wf (.slice a_Hd m_Hd c_Hd) ([] ++ ds)) := hid (by rw [← hwf]; exact ⟨He.out.below (nbel _ _), hd2.below (nbel _ _)⟩)
    have HNw : Hid (∀ ad, some (⟨k8, 0, none⟩ : Addr) = some ad → ∀ j u, ([45].flatMap rtB.f)[j]? = some u → wf.cell? (ad.add j) = some u) := hid (by rw [← hwf]; exact newX rtB _ 45 _ hk8.symm)
    (try simp only [hwf, hk8])
    clear hwf hk8
    refine wpList_app_l okB rfl _ _ HJf.out.2 rfl [45] rfl (some ⟨k8, 0, none⟩) 1 1 rfl rfl (fun h => by cases h) HNw.out (by
      show (([] ++ ds).length + 1) * 1 ≤ _
      have e : ([] ++ ds).length = ds.length := rfl
      omega) HJf.out.1.ap.bel.size ?_
    intro v9_ w9_ hr9_ hk9_ _
    obtain ⟨a_Hf, m_Hf, c_Hf, hv_, hs_⟩ := HJf.out.1.kep hd1 HJf.out.2 hk9_.out hr9_.out 1 (Nat.le_refl 1)
    subst hv_
    have Hf := hid hs_
    clear hs_ hr9_ hk9_ hd2 hd1 HJf HNw He
    obtain ⟨ss, hcv⟩ := Hf.out.str
    have HB := hid Hf.out.ap.bel
    go_wp2
    go_ret
    exact ⟨ss, rfl, HB⟩
  as_aux_lemma =>
  have dr : ((o.rf : Int) == 0) = false := by simp; omega
  go_upto_region 17 with fail
  go_loopw [5, 13] (fun t u wr => ∃ (j : Nat) (a : Option Addr) (m c : Nat), u = .int .i64 (j : Int) ∧ t = .slice a m c ∧ j ≤ o.rf ∧ j ≤ 32 ∧ Hid (DS l S w q (obL l o) (269 + j) a m c wr)) (fun _ u _ => 33 - (intOf u).toNat)
  case atStart => exact ⟨0, _, _, _, rfl, rfl, by omega, by omega, He⟩
  case round =>
  clear He
  obtain ⟨j, a, m, c, rfl, rfl, hj1, hj2, HK⟩ := hrel
  have q0 := HK.out.bk.cell 0
  have qq1 := HK.out.bk.cell 1
  have q2 := HK.out.bk.cell 2
  have q3 := HK.out.bk.cell 3
  have q4 := HK.out.bk.cell 4
  simp only [obL, List.getElem?_cons_zero, List.getElem?_cons_succ] at q0 qq1 q2 q3 q4
  go_wp2_with fail
  refine (HRf.out _).mono ?_
  rintro e wk ⟨rfl, hb_⟩
  have HK2 := hid (HK.out.below hb_)
  clear hb_ HK
  clear q0 qq1 q2 q3 q4
  by_cases hjn : j < o.rf
  rotate_left
  · as_aux_lemma =>
    have dq : decide ((j : Int) < (o.rf : Int)) = false := decide_eq_false (by omega)
    have dq' : decide (j < o.rf) = false := decide_eq_false (by omega)
    obtain ⟨ss, hcv⟩ := HK2.out.str
    have HB := hid HK2.out.ap.bel
    go_wp2
    go_ret
    exact ⟨ss, rfl, HB⟩
  have dq : decide ((j : Int) < (o.rf : Int)) = true := decide_eq_true (by omega)
  have dq' : decide (j < o.rf) = true := decide_eq_true (by omega)
  by_cases hj3 : j = 32
  · as_aux_lemma =>
    have d3 : ((j : Int) == 32) = true := by simp [hj3]
    go_wp2_with (at_builtin; refine stopHere ?_)
    intro _
    obtain ⟨ds, hd1, hd2⟩ := HK2.out.ap.row
    obtain ⟨k8, hk8⟩ : ∃ k, wk.heap.size = k := ⟨_, rfl⟩
    obtain ⟨wf, hwf⟩ : ∃ wf, wk.alloc (.cells #[.int .u8 43] 5) = wf := ⟨_, rfl⟩
    have HJf : Hid (DS l S w q (obL l o) (269 + j) a m c wf ∧ OwR rtB w.heap.size wf (.slice a m c) ([] ++ ds)) := hid (by rw [← hwf]; exact ⟨HK2.out.below (nbel _ _), hd2.below (nbel _ _)⟩)
    have HNw : Hid (∀ ad, some (⟨k8, 0, none⟩ : Addr) = some ad → ∀ j u, ([43].flatMap rtB.f)[j]? = some u → wf.cell? (ad.add j) = some u) := hid (by rw [← hwf]; exact newX rtB _ 43 _ hk8.symm)
    (try simp only [hwf, hk8])
    clear hwf hk8
    refine wpList_app_l okB rfl _ _ HJf.out.2 rfl [43] rfl (some ⟨k8, 0, none⟩) 1 1 rfl rfl (fun h => by cases h) HNw.out (by
      show (([] ++ ds).length + 1) * 1 ≤ _
      have e : ([] ++ ds).length = ds.length := rfl
      omega) HJf.out.1.ap.bel.size ?_
    intro v9_ w9_ hr9_ hk9_ _
    obtain ⟨a_Hf, m_Hf, c_Hf, hv_, hs_⟩ := HJf.out.1.kep hd1 HJf.out.2 hk9_.out hr9_.out 1 (Nat.le_refl 1)
    subst hv_
    have Hf := hid hs_
    clear hs_ hr9_ hk9_ hd2 hd1 HJf HNw HK2
    obtain ⟨ss, hcv⟩ := Hf.out.str
    have HB := hid Hf.out.ap.bel
    go_wp2
    go_ret
    exact ⟨ss, rfl, HB⟩
  as_aux_lemma =>
  have d3 : ((j : Int) == 32) = false := by simp; omega
  go_upto_region 21 with fail
  obtain ⟨X, W, HTT, HH0, hne, HCl⟩ := class_below wk
  have y0 : ∀ y, (W y).cell? ⟨l.a, 3, none⟩ = some (.pointer (some ⟨l.tl, 0, none⟩)) := fun y => (HK2.out.below (HTT.out y)).am.cells.2.2.2.1
  have y1 : ∀ y, (W y).cell? ⟨q, 1, none⟩ = some (.int .i64 (o.k : Int)) := fun y => (HK2.out.below (HTT.out y)).bk.cell 1
  have HG : Hid (∀ y, Calls Tryz.prog 153 #[.pointer (some ⟨l.tl, 0, none⟩), .int .i64 ((o.k : Int) + 1 + (j : Int))] (W y) fun e w' => e = .returned (.tuple #[.int .u64 ((eN 1 64 S.L (o.k + 1 + j) : Nat) : Int), .bool true]) ∧ Below (W y).heap.size (W y) w') := hid (fun y => by
    have := (HK2.out.below (HTT.out y)).am.tl.get (o.k + 1 + j) (by omega)
    rw [show ((o.k + 1 + j : Nat) : Int) = (o.k : Int) + 1 + (j : Int) by omega] at this
    exact this.mono (by rintro e w1 ⟨rfl, hd⟩; exact ⟨rfl, hd.below _⟩))
  have hv3 : eN 1 64 S.L (o.k + 1 + j) < 2 := eN_lt 1 64 S.L (o.k + 1 + j)
  generalize eN 1 64 S.L (o.k + 1 + j) = v3 at *
  refine wp_region_class W (by kernel_rfl) (by kernel_rfl) HH0.out ?_
  repeat (go_big_quiet_step (first | (go_at_call 153; with_reducible exact Calls.class_of HCl.out (HG.out _))))
  refine wpQuiet_nil ?_
  intro y
  have HL := hid (HK2.out.below (HTT.out y))
  generalize W y = wl at HL ⊢
  clear y0 y1 HG HH0 HTT HCl hne HK2
  obtain ⟨b8, hb8⟩ : ∃ b8 : UInt8, ((48 + v3 : Nat) : Int) = (b8.toNat : Int) := ⟨UInt8.ofNat (48 + v3), by rw [UInt8.toNat_ofNat']; omega⟩
  have ev : 48 + (v3 : Int) = (b8.toNat : Int) := by omega
  have hb256 : (b8.toNat : Int) < 256 := by omega
  go_wp2_with (at_builtin; refine stopHere ?_)
  intro _
  obtain ⟨ds, hd1, hd2⟩ := HL.out.ap.row
  obtain ⟨k8, hk8⟩ : ∃ k, wl.heap.size = k := ⟨_, rfl⟩
  obtain ⟨wf, hwf⟩ : ∃ wf, wl.alloc (.cells #[.int .u8 (b8.toNat : Int)] 5) = wf := ⟨_, rfl⟩
  have HJf : Hid (DS l S w q (obL l o) (269 + j) a m c wf ∧ OwR rtB w.heap.size wf (.slice a m c) ([] ++ ds)) := hid (by rw [← hwf]; exact ⟨HL.out.below (nbel _ _), hd2.below (nbel _ _)⟩)
  have HNw : Hid (∀ ad, some (⟨k8, 0, none⟩ : Addr) = some ad → ∀ j u, ([b8].flatMap rtB.f)[j]? = some u → wf.cell? (ad.add j) = some u) := hid (by rw [← hwf]; exact newX rtB _ b8 _ hk8.symm)
  (try simp only [hwf, hk8])
  clear hwf hk8
  refine wpList_app_l okB rfl _ _ HJf.out.2 rfl [b8] rfl (some ⟨k8, 0, none⟩) 1 1 rfl rfl (fun h => by cases h) HNw.out (by
    show (([] ++ ds).length + 1) * 1 ≤ _
    have e : ([] ++ ds).length = ds.length := rfl
    omega) HJf.out.1.ap.bel.size ?_
  intro v9_ w9_ hr9_ hk9_ _
  obtain ⟨a_Hf, m_Hf, c_Hf, hv_, hs_⟩ := HJf.out.1.kep hd1 HJf.out.2 hk9_.out hr9_.out 1 (Nat.le_refl 1)
  subst hv_
  have Hf := hid hs_
  clear hs_ hr9_ hk9_ hd2 hd1 HJf HNw HL
  go_wp2
  exact ⟨⟨j + 1, _, _, _, by go_num, rfl, by omega, by omega, Hf⟩, by simp [intOf]; omega⟩
end
end Go.Proofs.Qxb6500887aGreat
