/- openGranule, Open, Header. -/
import Derived.Test.Qxb6500887aGreatAzE
namespace Go.Proofs.Qxb6500887aGreat
open Go.RowKit
set_option linter.unusedSimpArgs false
set_option linter.unusedVariables false

instance (x : Int) : Decidable (isHdr x) := by unfold isHdr; exact inferInstance
/-- The code with which a granule opens. -/
def opC (S : AS) (g : Nat) : Int := if isHdr (S.W (2 * g)) then lenOut ((2 * g : Nat) : Int) (1 + decSize (S.W (2 * g))) else 6
def opO (S : AS) (g : Nat) : Ob := ⟨2 * g, S.W (2 * g), (decSize (S.W (2 * g))).toNat, (decRefs (S.W (2 * g))).toNat⟩
def opL (l : AL) (S : AS) (g : Nat) : List Value := if opC S g = 0 then obL l (opO S g) else ob0
theorem opC_ok {S : AS} {g : Nat} (hg : g < 16384) (hw : S.W (2 * g) < 18446744073709551616) (h : opC S g = 0) : isHdr (S.W (2 * g)) ∧ ObOk (opO S g) ∧ ((opO S g).sz : Int) = decSize (S.W (2 * g)) ∧ ((opO S g).rf : Int) = decRefs (S.W (2 * g)) := by
  unfold opC at h
  by_cases hh : isHdr (S.W (2 * g))
  · rw [if_pos hh] at h
    obtain ⟨d1, d2, d3, d4, _⟩ := dec_enc _ (by omega) (by omega) hh
    have h1 : ¬ (1 + decSize (S.W (2 * g)) < 1) := by omega
    unfold lenOut at h
    rw [if_neg h1] at h
    by_cases h2 : 32768 - ((2 * g : Nat) : Int) < 1 + decSize (S.W (2 * g))
    · rw [if_pos h2] at h; omega
    · refine ⟨hh, ⟨?_, ?_, ?_, ?_, ?_, hw⟩, ?_, ?_⟩ <;> simp only [opO] <;> omega
  · rw [if_neg hh] at h; omega
theorem opC_cases (S : AS) (g : Nat) (hw : S.W (2 * g) < 18446744073709551616) : opC S g = 0 ∨ opC S g = 6 ∨ opC S g = 7 := by
  unfold opC
  by_cases hh : isHdr (S.W (2 * g))
  · rw [if_pos hh]
    obtain ⟨d1, d2, d3, d4, _⟩ := dec_enc _ (by omega) (by omega) hh
    unfold lenOut
    rw [if_neg (by omega)]
    split <;> simp
  · rw [if_neg hh]; simp
section
variable {l : AL} {S : AS} {w w' w0 : World} {p : Nat} {cs : List Value} {o : Ob}
/-- Behind the reading of a header. -/
structure OH (w0 : World) (l : AL) (S : AS) (p q : Nat) (sz rf : Int) (w : World) : Prop where
  ox : OX w0 l S p ob0 w
  hb : Blk w q 59 [.int .i64 sz, .int .i64 rf]
theorem OH.below {q : Nat} {sz rf : Int} (h : OH w0 l S p q sz rf w) (hb : Below w.heap.size w w') : OH w0 l S p q sz rf w' := ⟨h.ox.below hb, h.hb.below hb⟩
theorem OX.hdr {q : Nat} {sz rf : Int} (h : OX w0 l S p ob0 w) (hq : w.heap.size = q) : OH w0 l S p q sz rf (w.alloc (.cells #[.int .i64 sz, .int .i64 rf] 59)) := by
  have k := Blk.new w [.int .i64 sz, .int .i64 rf] 59
  rw [hq] at k
  exact ⟨h.below (nbel w _), k⟩
set_option maxRecDepth 100000 in
set_option maxHeartbeats 2000000 in
theorem openGranuleZ (h : AM l S w) (g : Nat) (hg : g < 16384) : Calls Tryz.prog 140 #[.pointer (some ⟨l.a, 0, none⟩), .int .i64 (g : Int)] w fun e w' => e = .returned (.tuple #[.agg (opL l S g).toArray, .int .u8 (opC S g)]) ∧ Below w.heap.size w w' := by
  obtain ⟨p, hp⟩ : ∃ p, w.heap.size = p := ⟨_, rfl⟩
  have HX := hid (OX.new (cs := ob0) h (Below.refl _ w) hp)
  have I0 := hid info_ob
  have hx := h.wl (2 * g)
  have hO := @opC_ok S g hg hx
  have HO := hid hO
  have Hcs := hid (opC_cases S g hx)
  obtain ⟨c, hc⟩ : ∃ c, opC S g = c := ⟨_, rfl⟩
  obtain ⟨r, hr⟩ : ∃ r, opL l S g = r := ⟨_, rfl⟩
  rw [hc, hr]
  have HC : Hid ((if isHdr (S.W (2 * g)) then lenOut ((2 * g : Nat) : Int) (1 + decSize (S.W (2 * g))) else 6) = c) := hid hc
  have HR : Hid ((if c = 0 then obL l (opO S g) else ob0) = r) := hid (by rw [← hr, ← hc]; rfl)
  rw [hc] at HO Hcs
  clear hc hr hO h
  have HD : Hid (∀ wz, Calls Tryz.prog 65 #[.int .u64 ((S.W (2 * g) : Nat) : Int)] wz fun e w' => e = .returned (.tuple #[.agg (if isHdr (S.W (2 * g)) then #[.int .i64 (decSize (S.W (2 * g))), .int .i64 (decRefs (S.W (2 * g)))] else #[.int .i64 0, .int .i64 0]), .int .u8 (if isHdr (S.W (2 * g)) then 0 else 6)]) ∧ Below wz.heap.size wz w') := hid (fun wz => by
    by_cases hh : isHdr (S.W (2 * g))
    · rw [if_pos hh, if_pos hh]; exact decode_good _ wz (by omega) (by omega) hh
    · rw [if_neg hh, if_neg hh]; exact decode_bad _ wz (by omega) (by omega) hh)
  have e2 : (g : Int) * 2 = ((2 * g : Nat) : Int) := by omega
  have HE2 := hid e2
  have i2 : (((2 * g : Nat)) : Int) < 32768 := by omega
  have h2g : 2 * g < 32768 := by omega
  dsimp only [ob0] at HX
  obtain ⟨k, hk⟩ : ∃ k, 2 * g = k := ⟨_, rfl⟩
  have HOk : Hid (opO S g = ⟨k, S.W k, (decSize (S.W k)).toNat, (decRefs (S.W k)).toNat⟩) := hid (by unfold opO; rw [hk])
  rw [hk] at HC HD HO HE2 i2 h2g e2 hx
  have cw0 := hid (fun wz (hz : AM l S wz) => hz.word (i := k) h2g)
  clear hk
  go_enter Tryz.func140, Tryz.ntmps140
  go_upto_region 2 with fail
  (try simp only [hp])
  generalize hw1 : w.alloc _ = w1 at HX ⊢
  clear hw1 hp
  have c0 := HX.out.am.cells.1
  have cw := cw0.out _ HX.out.am
  obtain ⟨x, hxx⟩ : ∃ x, S.W k = x := ⟨_, rfl⟩
  rw [hxx] at cw HD HC hx
  have Hxx := hid hxx
  by_cases hh : isHdr (x : Int)
  · as_aux_lemma =>
    rw [if_pos hh, if_pos hh] at HD
    rw [if_pos hh] at HC
    obtain ⟨d1, d2, d3, d4, d5⟩ := dec_enc _ (by omega) (by omega) hh
    clear d5
    have HHW : Hid (∀ wz, Calls Tryz.prog 42 #[.agg #[.int .i64 (decSize (x : Int)), .int .i64 (decRefs (x : Int))]] wz fun e w' => e = .returned (.int .i64 (1 + decSize (x : Int))) ∧ Below wz.heap.size wz w') := hid (fun wz => by
      have := hdWordsZ (decSize (x : Int)).toNat (decRefs (x : Int)).toNat (by omega) wz
      rw [show (((decSize (x : Int)).toNat : Nat) : Int) = decSize (x : Int) by omega, show (((decRefs (x : Int)).toNat : Nat) : Int) = decRefs (x : Int) by omega, show ((1 + (decSize (x : Int)).toNat : Nat) : Int) = 1 + decSize (x : Int) by omega] at this
      exact this)
    have HL := hid (fun wz => checkLength_walk (k : Int) (1 + decSize (x : Int)) (by omega) (by omega) wz)
    rw [HC.out] at HL
    have HRo : Hid (c = 0 → r = [.pointer (some ⟨l.a, 0, none⟩), .int .i64 (k : Int), .int .u64 (x : Int), .int .i64 (decSize (x : Int)), .int .i64 (decRefs (x : Int))]) := hid (fun h0 => by
      rw [← HR.out, if_pos h0, HOk.out, Hxx.out]
      unfold obL
      simp only
      rw [show (((decSize (x : Int)).toNat : Nat) : Int) = decSize (x : Int) by omega, show (((decRefs (x : Int)).toNat : Nat) : Int) = decRefs (x : Int) by omega])
    have HRn : Hid (c ≠ 0 → r = ob0) := hid (fun h0 => by rw [← HR.out, if_neg h0])
    clear HR HOk HO hh
    generalize decSize (x : Int) = sz at *
    generalize decRefs (x : Int) = rf at *
    go_wp2_with fail
    refine (HD.out _).mono ?_
    rintro e w2 ⟨rfl, hb2⟩
    have HX2 := hid (HX.out.below hb2)
    clear hb2 HX c0 cw HD
    obtain ⟨q, hq⟩ : ∃ q, w2.heap.size = q := ⟨_, rfl⟩
    have HH := hid (HX2.out.hdr (sz := sz) (rf := rf) hq)
    go_upto_region 5 with fail
    (try simp only [hq])
    generalize hw3 : w2.alloc _ = w3 at HH ⊢
    clear hw3 hq HX2
    have q0 := HH.out.hb.cell 0
    have q1 := HH.out.hb.cell 1
    simp only [List.getElem?_cons_zero, List.getElem?_cons_succ] at q0 q1
    go_wp2_with fail
    refine (HHW.out _).mono ?_
    rintro e w4 ⟨rfl, hb4⟩
    have HH4 := hid (HH.out.below hb4)
    clear hb4 HH q0 q1 HHW
    (go_wp2_with fail; refine ((HL.out w4)).mono ?_; rintro e_ w_ ⟨he_, hw_⟩; subst he_; have hs_ := hw_.symm; clear hw_; subst hs_)
    clear HL
    by_cases hc0 : c = 0
    · as_aux_lemma =>
      have hr := HRo.out hc0
      subst hc0
      subst hr
      clear HRo HRn Hcs HC d1 d2 d3 d4 hxx e2 hx
      generalize 1 + sz = m9
      go_upto_region 8 with fail
      refine wp_region_heavy (fun wz => OH w l S p q sz rf wz) 11 [0, 1, 2, 3, 4, 5, 6, 7, 8, 9, 10] [] rfl (by kernel_rfl) (by kernel_rfl) (fun d _ _ _ _ h => by cases d <;> exact h) (HH4.out.below (Drew.below ⟨1, rfl⟩ _)) ?_
      apply Exists.intro
      refine ⟨?_, ?_⟩
      · intro W hW
        have a0 : ∀ u, (W u).cell? ⟨l.a, 0, none⟩ = some (.slice (some ⟨l.w, 0, none⟩) 32768 32768) := fun u => (hW u).ox.am.cells.1
        have x0 : ∀ u, (W u).cell? ⟨l.w, k, none⟩ = some (.int .u64 (x : Int)) := fun u => by have := cw0.out _ (hW u).ox.am; rw [Hxx.out] at this; exact this
        have q0 : ∀ u, (W u).cell? ⟨q, 0, none⟩ = some (.int .i64 sz) := fun u => (hW u).hb.cell 0
        have q1 : ∀ u, (W u).cell? ⟨q, 1, none⟩ = some (.int .i64 rf) := fun u => (hW u).hb.cell 1
        clear hW
        simp only [List.take, opsAt, List.drop, List.cons_append, List.nil_append]
        repeat (go_big_quiet_step (fail))
        exact rfl
      simp only [List.take, List.drop, opsAt, List.cons_append, List.nil_append, wpHv, QN]
      have HRd : Hid (OH w l S p q sz rf w4.drew) := hid (HH4.out.below (Drew.below ⟨1, rfl⟩ _))
      generalize w4.drew = w5 at HRd ⊢
      clear HH4
      have one : ∀ u ∈ ([.pointer (some ⟨l.a, 0, none⟩), .int .i64 (k : Int), .int .u64 (x : Int), .int .i64 sz, .int .i64 rf] : List Value), u.oneCell' = true := by
        intro u hu
        simp only [List.mem_cons, List.not_mem_nil, or_false] at hu
        rcases hu with rfl | rfl | rfl | rfl | rfl <;> rfl
      refine wpList_store_blk rfl 61 _ _ rfl p rfl [.pointer (some ⟨l.a, 0, none⟩), .int .i64 (k : Int), .int .u64 (x : Int), .int .i64 sz, .int .i64 rf] rfl HRd.out.ox.bk rfl I0.out one ?_
      intro w9 HB9 HU9
      go_wp2
      refine bodyPost_ret (results_cell_tmp (cs := [.pointer (some ⟨l.a, 0, none⟩), .int .i64 (k : Int), .int .u64 (x : Int), .int .i64 sz, .int .i64 rf]) Tryz.results140 rfl agg_ob HB9.out) rfl ?_
      exact ⟨rfl, HRd.out.ox.bel.trans (HU9.out.below HRd.out.ox.lo HRd.out.ox.bel.size)⟩
    · as_aux_lemma =>
      have hr := HRn.out hc0
      subst hr
      have dc : (c == 0) = false := by simpa using hc0
      clear HRo HRn Hcs HC hc0 d1 d2 d3 d4 hxx e2 hx
      have d9 : (c != 0) = true := by simp [bne, dc]
      generalize 1 + sz = m9
      go_wp2_with (refine wpList_store_blk rfl 61 _ _ rfl p rfl ob0 rfl HH4.out.ox.bk rfl I0.out ob0_one ?_; intro w9 HB9 HU9)
      refine bodyPost_ret (results_cell_tmp (cs := ob0) Tryz.results140 rfl agg_ob HB9.out) rfl ?_
      exact ⟨rfl, HH4.out.ox.bel.trans (HU9.out.below HH4.out.ox.lo HH4.out.ox.bel.size)⟩
  · as_aux_lemma =>
    rw [if_neg hh, if_neg hh] at HD
    rw [if_neg hh] at HC
    have hc6 := HC.out
    subst hc6
    have hr := HR.out
    rw [if_neg (by decide)] at hr
    subst hr
    clear HR HC HO HOk hh
    go_wp2_with fail
    refine (HD.out _).mono ?_
    rintro e w2 ⟨rfl, hb2⟩
    have HX2 := hid (HX.out.below hb2)
    clear hb2 HX c0 cw HD
    obtain ⟨q, hq⟩ : ∃ q, w2.heap.size = q := ⟨_, rfl⟩
    have HH := hid (HX2.out.hdr (sz := 0) (rf := 0) hq)
    go_upto_region 4 with fail
    (try simp only [hq])
    generalize hw3 : w2.alloc _ = w3 at HH ⊢
    clear hw3 hq HX2
    go_wp2_with (refine wpList_store_blk rfl 61 _ _ rfl p rfl ob0 rfl HH.out.ox.bk rfl I0.out ob0_one ?_; intro w9 HB9 HU9)
    refine bodyPost_ret (results_cell_tmp (cs := ob0) Tryz.results140 rfl agg_ob HB9.out) rfl ?_
    exact ⟨rfl, HH.out.ox.bel.trans (HU9.out.below HH.out.ox.lo HH.out.ox.bel.size)⟩
end
end Go.Proofs.Qxb6500887aGreat
