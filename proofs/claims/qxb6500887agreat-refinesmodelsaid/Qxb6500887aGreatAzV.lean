/- OwnerOf (written by tools/mk_azv.py). -/
import Derived.Test.Qxb6500887aGreatAzU
namespace Go.Proofs.Qxb6500887aGreat
open Go.RowKit
set_option linter.unusedSimpArgs false
set_option linter.unusedVariables false

/-- What OwnerOf answers. -/
def OwP (l : AL) (S : AS) (x : Int) (rs : List Value) (c : Int) : Prop := (¬ InH x ∧ c = 1 ∧ rs = ob0) ∨ (InH x ∧ ∃ r : Int, Pv (nzP 2 32 S.C) 0 (wIx x / 2 + 1) r ∧ ((r = -1 ∧ c = 8 ∧ rs = ob0) ∨ ∃ g : Nat, r = (g : Int) ∧ g < 16384 ∧ ((opC S g ≠ 0 ∧ c = opC S g ∧ rs = ob0) ∨ (opC S g = 0 ∧ ¬ wIx x < 2 * g + 1 + (opO S g).sz ∧ c = 8 ∧ rs = ob0) ∨ (opC S g = 0 ∧ wIx x < 2 * g + 1 + (opO S g).sz ∧ c = 0 ∧ ObOk (opO S g) ∧ rs = obL l (opO S g)))))
section
variable {l : AL} {S : AS} {w w' w0 : World} {p q : Nat} {cs : List Value} {o : Ob}
set_option maxRecDepth 100000 in
set_option maxHeartbeats 4000000 in
theorem ownerOfZ (h : AM l S w) (x : Int) : Calls Tryz.prog 177 #[.pointer (some ⟨l.a, 0, none⟩), .int .u64 x] w fun e w' => ∃ (rs : List Value) (c : Int), e = .returned (.tuple #[.agg rs.toArray, .int .u8 c]) ∧ Hid (OwP l S x rs c ∧ Below w.heap.size w w') := by
  obtain ⟨p, hp⟩ : ∃ p, w.heap.size = p := ⟨_, rfl⟩
  have HX0 := hid (OX.new (cs := ob0) h (Below.refl _ w) hp)
  have I0 := hid info_ob
  have HX : Hid (OX w l S p ob0 (w.alloc (.cells #[.pointer none, .int .i64 0, .int .u64 0, .int .i64 0, .int .i64 0] 61))) := HX0
  clear HX0
  by_cases hi : InH x
  rotate_left
  · as_aux_lemma =>
    have HW := hid (fun wz => wordIndex_out x hi wz)
    have HF : Hid (OwP l S x ob0 1) := hid (.inl ⟨hi, rfl, rfl⟩)
    clear h hi
    go_enter Tryz.func177, Tryz.ntmps177
    go_upto_region 1 with fail
    (try simp only [hp])
    generalize hw1 : w.alloc _ = w1 at HX ⊢
    clear hw1 hp
    (go_wp2_with fail; refine (HW.out w1).mono ?_; rintro e_ w_ ⟨he_, hw_⟩; subst he_; have hs_ := hw_.symm; clear hw_; subst hs_)
    go_wp2_with (refine wpList_store_blk rfl 61 _ _ rfl p rfl ob0 rfl HX.out.bk rfl I0.out ob0_one ?_; intro w9 HB9 HU9)
    refine bodyPost_ret (results_cell_tmp (cs := ob0) Tryz.results177 rfl agg_ob HB9.out) rfl ?_
    exact ⟨ob0, _, rfl, hid ⟨HF.out, HX.out.bel.trans (HU9.out.below HX.out.lo HX.out.bel.size)⟩⟩
  as_aux_lemma =>
  have HW := hid (fun wz => word_g hi wz)
  have hwi := (wIx_of hi).2
  have HP : Hid (∀ wz, AM l S wz → Calls Tryz.prog 223 #[.pointer (some ⟨l.tc, 0, none⟩), .int .i64 0, .int .i64 (((wIx x : Nat) : Int) / 2 + 1)] wz fun e w' => ∃ r : Int, e = .returned (.tuple #[.int .i64 r, .bool true]) ∧ Hid (Pv (nzP 2 32 S.C) 0 (wIx x / 2 + 1) r ∧ Below wz.heap.size wz w')) := hid (fun wz hz => by
    have := hz.tc.prevNonzero 0 (wIx x / 2 + 1) (by omega) (by omega)
    rw [show ((wIx x / 2 + 1 : Nat) : Int) = ((wIx x : Nat) : Int) / 2 + 1 by omega] at this
    exact this)
  have HO : Hid (∀ (rs : List Value) (c r : Int), Pv (nzP 2 32 S.C) 0 (wIx x / 2 + 1) r → ((r = -1 ∧ c = 8 ∧ rs = ob0) ∨ ∃ g : Nat, r = (g : Int) ∧ g < 16384 ∧ ((opC S g ≠ 0 ∧ c = opC S g ∧ rs = ob0) ∨ (opC S g = 0 ∧ ¬ wIx x < 2 * g + 1 + (opO S g).sz ∧ c = 8 ∧ rs = ob0) ∨ (opC S g = 0 ∧ wIx x < 2 * g + 1 + (opO S g).sz ∧ c = 0 ∧ ObOk (opO S g) ∧ rs = obL l (opO S g)))) → OwP l S x rs c) := hid (fun rs c r h1 h2 => .inr ⟨hi, r, h1, h2⟩)
  have HA := hid h
  have HOk := hid (fun (g : Nat) (hg : g < 16384) (hc : opC S g = 0) => (opC_ok hg (h.wl _) hc).2.1)
  clear h hi
  obtain ⟨k, hk⟩ : ∃ k, wIx x = k := ⟨_, rfl⟩
  rw [hk] at HP HO HW hwi
  clear hk
  go_enter Tryz.func177, Tryz.ntmps177
  go_upto_region 1 with fail
  (try simp only [hp])
  generalize hw1 : w.alloc _ = w1 at HX ⊢
  clear hw1 hp
  (go_wp2_with fail; refine (HW.out w1).mono ?_; rintro e_ w_ ⟨he_, hw_⟩; subst he_; have hs_ := hw_.symm; clear hw_; subst hs_)
  have k1 := HX.out.am.cells.2.1
  go_wp2_with fail
  refine (HP.out _ HX.out.am).mono ?_
  rintro e w2 ⟨r, rfl, HB⟩
  have HX2 := hid (HX.out.below HB.out.2)
  have HPv := hid HB.out.1
  clear HX k1 HW HP
  rcases HB.out.1 with ⟨rfl, _⟩ | ⟨g, rfl, _, hg2, hg3, _⟩
  · as_aux_lemma =>
    have HF : Hid (OwP l S x ob0 8) := hid (HO.out _ _ _ HPv.out (.inl ⟨rfl, rfl, rfl⟩))
    clear HB
    go_wp2_with (refine wpList_store_blk rfl 61 _ _ rfl p rfl ob0 rfl HX2.out.bk rfl I0.out ob0_one ?_; intro w9 HB9 HU9)
    refine bodyPost_ret (results_cell_tmp (cs := ob0) Tryz.results177 rfl agg_ob HB9.out) rfl ?_
    exact ⟨ob0, _, rfl, hid ⟨HF.out, HX2.out.bel.trans (HU9.out.below HX2.out.lo HX2.out.bel.size)⟩⟩
  as_aux_lemma =>
  clear HB hg3
  have hg : g < 16384 := by omega
  have hgk : 2 * g ≤ k := by omega
  have d0 : decide ((g : Int) < 0) = false := decide_eq_false (by omega)
  have HG := hid (fun wz (hz : AM l S wz) => openGranuleZ hz g hg)
  have HF1 : Hid (∀ (rs : List Value) (c : Int), ((opC S g ≠ 0 ∧ c = opC S g ∧ rs = ob0) ∨ (opC S g = 0 ∧ ¬ k < 2 * g + 1 + (opO S g).sz ∧ c = 8 ∧ rs = ob0) ∨ (opC S g = 0 ∧ k < 2 * g + 1 + (opO S g).sz ∧ c = 0 ∧ ObOk (opO S g) ∧ rs = obL l (opO S g))) → OwP l S x rs c) := hid (fun rs c h1 => HO.out _ _ _ HPv.out (.inr ⟨g, rfl, hg, h1⟩))
  clear HO HPv
  have Hlen := hid (opL_len l S g)
  have Hone := hid (opL_one l S g)
  go_wp2_with fail
  refine (HG.out _ HX2.out.am).mono ?_
  rintro e w3 ⟨rfl, hb3⟩
  have HX3 := hid (HX2.out.below hb3)
  clear hb3 HX2 HG
  obtain ⟨q, hq⟩ : ∃ q, w3.heap.size = q := ⟨_, rfl⟩
  have HQ : Hid (OX w l S p ob0 (w3.alloc (.cells #[.pointer none, .int .i64 0, .int .u64 0, .int .i64 0, .int .i64 0] 61)) ∧ Blk (w3.alloc (.cells #[.pointer none, .int .i64 0, .int .u64 0, .int .i64 0, .int .i64 0] 61)) q 61 ob0 ∧ p < q ∧ w.heap.size ≤ q) := hid (by
    have kk := Blk.new w3 ob0 61
    rw [hq] at kk
    have h1 := HX3.out.bk.lt
    have h2 := HX3.out.bel.size
    exact ⟨HX3.out.below (nbel w3 _), kk, by omega, by omega⟩)
  clear HX3
  (try simp only [hq])
  go_upto_region 8 with (refine wpList_store_blk rfl 61 _ _ rfl q rfl (opL l S g) rfl HQ.out.2.1 (by rw [Hlen.out]; rfl) (by rw [Hlen.out]; exact I0.out) Hone.out ?_; intro w4 HB4 HU4)
  have HX4 : Hid (OX w l S p ob0 w4) := hid (by
    have hb := HQ.out.1.bel.trans (HU4.out.below HQ.out.2.2.2 HQ.out.1.bel.size)
    exact ⟨HA.out.below hb, hb, HQ.out.1.bk.upd HU4.out (by have := HQ.out.2.2.1; omega), HQ.out.1.lo⟩)
  clear HQ HU4 hq
  by_cases hc : opC S g = 0
  rotate_left
  · as_aux_lemma =>
    have HF : Hid (OwP l S x ob0 (opC S g)) := hid (HF1.out _ _ (.inl ⟨hc, rfl, rfl⟩))
    have dc : (opC S g == 0) = false := by simpa using hc
    have dc2 : (opC S g != 0) = true := by simp [bne, dc]
    clear HF1 HB4 Hlen Hone HOk
    generalize opC S g = c at *
    clear hc
    go_wp2_with (refine wpList_store_blk rfl 61 _ _ rfl p rfl ob0 rfl HX4.out.bk rfl I0.out ob0_one ?_; intro w9 HB9 HU9)
    refine bodyPost_ret (results_cell_tmp (cs := ob0) Tryz.results177 rfl agg_ob HB9.out) rfl ?_
    exact ⟨ob0, _, rfl, hid ⟨HF.out, HX4.out.bel.trans (HU9.out.below HX4.out.lo HX4.out.bel.size)⟩⟩
  as_aux_lemma =>
  have hob := HOk.out g hg hc
  have e1 : opL l S g = obL l (opO S g) := by unfold opL; rw [if_pos hc]
  rw [e1] at HB4
  rw [hc]
  have HEx := hid (fun wz (hz : AM l S wz) => obExtentZ hz hob)
  have hE : EOk (opO S g).k (1 + (opO S g).sz) := ⟨by omega, by have := hob.k; omega, hob.ev⟩
  have HCn := hid (fun wz => extContains_walk ((opO S g).k : Int) ((1 + (opO S g).sz : Nat) : Int) (k : Int) hE.ext wz)
  have Hob := hid hob
  have Hc := hid hc
  have HK2 : Hid ((opO S g).k = 2 * g) := hid rfl
  have HF2 : Hid (∀ (rs : List Value) (c : Int), ((¬ k < 2 * g + 1 + (opO S g).sz ∧ c = 8 ∧ rs = ob0) ∨ (k < 2 * g + 1 + (opO S g).sz ∧ c = 0 ∧ rs = obL l (opO S g))) → OwP l S x rs c) := hid (fun rs c h1 => HF1.out rs c (by
    rcases h1 with ⟨a1, a2, a3⟩ | ⟨a1, a2, a3⟩
    · exact .inr (.inl ⟨hc, a1, a2, a3⟩)
    · exact .inr (.inr ⟨hc, a1, a2, hob, a3⟩)))
  clear HF1 hob hc e1 Hlen Hone HOk Hc hE
  generalize opO S g = o at *
  have q0 := HB4.out.cell 0
  have q1 := HB4.out.cell 1
  have q2 := HB4.out.cell 2
  have q3 := HB4.out.cell 3
  have q4 := HB4.out.cell 4
  simp only [obL, List.getElem?_cons_zero, List.getElem?_cons_succ] at q0 q1 q2 q3 q4
  go_wp2_with fail
  refine (HEx.out _ HX4.out.am).mono ?_
  rintro e w5 ⟨rfl, hb5⟩
  have HX5 := hid (HX4.out.below hb5)
  have HB5 := hid (HB4.out.below hb5)
  clear hb5 HX4 HB4 HEx q0 q1 q2 q3 q4
  have HCn' : Hid (∀ wz, Calls Tryz.prog 224 #[.agg #[.int .i64 (o.k : Int), .int .i64 ((1 + o.sz : Nat) : Int)], .int .i64 (k : Int)] wz fun e w' => e = .returned (.bool (decide ((o.k : Int) ≤ (k : Int) ∧ (k : Int) < (o.k : Int) + ((1 + o.sz : Nat) : Int)))) ∧ Below wz.heap.size wz w') := HCn
  clear HCn
  by_cases hin : k < 2 * g + 1 + o.sz
  · as_aux_lemma =>
    rw [decide_eq_true (show (o.k : Int) ≤ (k : Int) ∧ (k : Int) < (o.k : Int) + ((1 + o.sz : Nat) : Int) by have := HK2.out; omega)] at HCn'
    have HF : Hid (OwP l S x (obL l o) 0) := hid (HF2.out _ _ (.inr ⟨hin, rfl, rfl⟩))
    clear HF2 hin
    generalize ((1 + o.sz : Nat) : Int) = nn at *
    go_wp2_with fail
    refine (HCn'.out _).mono ?_
    rintro e w6 ⟨rfl, hb6⟩
    have HX6 := hid (HX5.out.below hb6)
    have HB6 := hid (HB5.out.below hb6)
    clear hb6 HX5 HB5 HCn'
    have q0 := HB6.out.cell 0
    have q1 := HB6.out.cell 1
    have q2 := HB6.out.cell 2
    have q3 := HB6.out.cell 3
    have q4 := HB6.out.cell 4
    simp only [obL, List.getElem?_cons_zero, List.getElem?_cons_succ] at q0 q1 q2 q3 q4
    go_wp2_with (refine wpList_store_blk rfl 61 _ _ rfl p rfl (obL l o) rfl HX6.out.bk rfl I0.out (obL_one l o) ?_; intro w9 HB9 HU9)
    refine bodyPost_ret (results_cell_tmp (cs := obL l o) Tryz.results177 rfl agg_ob HB9.out) rfl ?_
    exact ⟨obL l o, _, rfl, hid ⟨HF.out, HX6.out.bel.trans (HU9.out.below HX6.out.lo HX6.out.bel.size)⟩⟩
  · as_aux_lemma =>
    rw [decide_eq_false (show ¬ ((o.k : Int) ≤ (k : Int) ∧ (k : Int) < (o.k : Int) + ((1 + o.sz : Nat) : Int)) by have := HK2.out; omega)] at HCn'
    have HF : Hid (OwP l S x ob0 8) := hid (HF2.out _ _ (.inl ⟨hin, rfl, rfl⟩))
    clear HF2 hin
    generalize ((1 + o.sz : Nat) : Int) = nn at *
    go_wp2_with fail
    refine (HCn'.out _).mono ?_
    rintro e w6 ⟨rfl, hb6⟩
    have HX6 := hid (HX5.out.below hb6)
    clear hb6 HX5 HB5 HCn'
    go_wp2_with (refine wpList_store_blk rfl 61 _ _ rfl p rfl ob0 rfl HX6.out.bk rfl I0.out ob0_one ?_; intro w9 HB9 HU9)
    refine bodyPost_ret (results_cell_tmp (cs := ob0) Tryz.results177 rfl agg_ob HB9.out) rfl ?_
    exact ⟨ob0, _, rfl, hid ⟨HF.out, HX6.out.bel.trans (HU9.out.below HX6.out.lo HX6.out.bel.size)⟩⟩
end
end Go.Proofs.Qxb6500887aGreat
