/- ExtentOf, Occupy, Vacate. -/
import Derived.Test.Qxb6500887aGreatAzL
namespace Go.Proofs.Qxb6500887aGreat
open Go.RowKit
set_option linter.unusedSimpArgs false
set_option linter.unusedVariables false

def exC (x n : Int) : Int := if wantO x = 0 then lenOut ((2 * gIx x : Nat) : Int) n else wantO x
def exL (x n : Int) : List Value := if exC x n = 0 then [.int .i64 ((2 * gIx x : Nat) : Int), .int .i64 n] else [.int .i64 0, .int .i64 0]
theorem exC_ok {x n : Int} (h : exC x n = 0) : wantO x = 0 ∧ gIx x < 16384 ∧ 1 ≤ n ∧ ((2 * gIx x : Nat) : Int) + n ≤ 32768 := by
  unfold exC at h
  by_cases h1 : wantO x = 0
  · rw [if_pos h1] at h
    have hg := (gIx_of h1).2.1
    unfold lenOut at h
    split at h
    · omega
    · split at h
      · omega
      · exact ⟨h1, hg, by omega, by omega⟩
  · rw [if_neg h1] at h; exact absurd h h1
section
variable {l : AL} {S : AS} {w w' w0 : World} {p q : Nat} {cs : List Value} {o : Ob}
theorem two_one (a b : Int) : ∀ u ∈ ([.int .i64 a, .int .i64 b] : List Value), u.oneCell' = true := by
  intro u hu
  simp only [List.mem_cons, List.not_mem_nil, or_false] at hu
  rcases hu with rfl | rfl <;> rfl
set_option maxRecDepth 100000 in
set_option maxHeartbeats 1000000 in
theorem extentOfZ (x n : Int) (w : World) : Calls Tryz.prog 257 #[.int .u64 x, .int .i64 n] w fun e w' => e = .returned (.tuple #[.agg (exL x n).toArray, .int .u8 (exC x n)]) ∧ Below w.heap.size w w' := by
  obtain ⟨p, hp⟩ : ∃ p, w.heap.size = p := ⟨_, rfl⟩
  have I0 := hid info_ex
  have HB : Hid (Below w.heap.size w (w.alloc (.cells #[.int .i64 0, .int .i64 0] 84)) ∧ Blk (w.alloc (.cells #[.int .i64 0, .int .i64 0] 84)) p 84 [.int .i64 0, .int .i64 0] ∧ w.heap.size ≤ p) := hid (by
    have k := Blk.new w [.int .i64 0, .int .i64 0] 84
    rw [hp] at k
    exact ⟨nbel w _, k, by omega⟩)
  by_cases hc : wantO x = 0
  · have HG := hid (fun wz => granule_g hc wz)
    have hg := (gIx_of hc).2.1
    have hC : exC x n = lenOut ((2 * gIx x : Nat) : Int) n := by unfold exC; rw [if_pos hc]
    unfold exL
    rw [hC]
    generalize gIx x = g at *
    have e2 : (g : Int) * 2 = ((2 * g : Nat) : Int) := by omega
    have hk : 2 * g < 32768 := by omega
    have HL := hid (fun wz => checkLength_walk ((2 * g : Nat) : Int) n (by omega) (by omega) wz)
    generalize 2 * g = k at *
    clear hC hc
    by_cases hl : lenOut (k : Int) n = 0
    · as_aux_lemma =>
      rw [if_pos hl, hl]
      rw [hl] at HL
      clear hl
      go_enter Tryz.func257, Tryz.ntmps257
      go_upto_region 1 with fail
      (try simp only [hp])
      generalize hw1 : w.alloc _ = w1 at HB ⊢
      clear hw1 hp
      (go_wp2_with fail; refine ((HG.out w1)).mono ?_; rintro e_ w_ ⟨he_, hw_⟩; subst he_; have hs_ := hw_.symm; clear hw_; subst hs_)
      (go_wp2_with fail; refine ((HL.out w1)).mono ?_; rintro e_ w_ ⟨he_, hw_⟩; subst he_; have hs_ := hw_.symm; clear hw_; subst hs_)
      go_wp2_with (refine wpList_store_blk rfl 84 _ _ rfl p rfl [.int .i64 (k : Int), .int .i64 n] rfl HB.out.2.1 rfl I0.out (two_one _ _) ?_; intro w9 HB9 HU9)
      refine bodyPost_ret (results_cell_tmp (cs := [.int .i64 (k : Int), .int .i64 n]) Tryz.results257 rfl agg_ex HB9.out) rfl ?_
      exact ⟨rfl, HB.out.1.trans (HU9.out.below HB.out.2.2 HB.out.1.size)⟩
    · as_aux_lemma =>
      rw [if_neg hl]
      have dc : (lenOut (k : Int) n == 0) = false := by simpa using hl
      have dc2 : (lenOut (k : Int) n != 0) = true := by simp [bne, dc]
      generalize lenOut (k : Int) n = c at *
      clear hl
      go_enter Tryz.func257, Tryz.ntmps257
      go_upto_region 1 with fail
      (try simp only [hp])
      generalize hw1 : w.alloc _ = w1 at HB ⊢
      clear hw1 hp
      (go_wp2_with fail; refine ((HG.out w1)).mono ?_; rintro e_ w_ ⟨he_, hw_⟩; subst he_; have hs_ := hw_.symm; clear hw_; subst hs_)
      (go_wp2_with fail; refine ((HL.out w1)).mono ?_; rintro e_ w_ ⟨he_, hw_⟩; subst he_; have hs_ := hw_.symm; clear hw_; subst hs_)
      go_wp2_with (refine wpList_store_blk rfl 84 _ _ rfl p rfl [.int .i64 0, .int .i64 0] rfl HB.out.2.1 rfl I0.out (two_one _ _) ?_; intro w9 HB9 HU9)
      refine bodyPost_ret (results_cell_tmp (cs := [.int .i64 0, .int .i64 0]) Tryz.results257 rfl agg_ex HB9.out) rfl ?_
      exact ⟨rfl, HB.out.1.trans (HU9.out.below HB.out.2.2 HB.out.1.size)⟩
  · have hC : exC x n = wantO x := by unfold exC; rw [if_neg hc]
    have hL : exL x n = [.int .i64 0, .int .i64 0] := by unfold exL; rw [hC, if_neg hc]
    rw [hC, hL]
    have HG := hid (fun wz => granule_bad x hc wz)
    have dc : (wantO x == 0) = false := by simpa using hc
    have dc2 : (wantO x != 0) = true := by simp [bne, dc]
    generalize wantO x = c at *
    clear hc hC hL
    go_enter Tryz.func257, Tryz.ntmps257
    go_upto_region 1 with fail
    (try simp only [hp])
    generalize hw1 : w.alloc _ = w1 at HB ⊢
    clear hw1 hp
    (go_wp2_with fail; refine ((HG.out w1)).mono ?_; rintro e_ w_ ⟨he_, hw_⟩; subst he_; have hs_ := hw_.symm; clear hw_; subst hs_)
    go_wp2_with (refine wpList_store_blk rfl 84 _ _ rfl p rfl [.int .i64 0, .int .i64 0] rfl HB.out.2.1 rfl I0.out (two_one _ _) ?_; intro w9 HB9 HU9)
    refine bodyPost_ret (results_cell_tmp (cs := [.int .i64 0, .int .i64 0]) Tryz.results257 rfl agg_ex HB9.out) rfl ?_
    exact ⟨rfl, HB.out.1.trans (HU9.out.below HB.out.2.2 HB.out.1.size)⟩
/-- One of the tallies of a stretch of lines is v. -/
def anyP (S : AS) (lo hi v : Nat) : Prop := ∃ i, lo ≤ i ∧ i < hi ∧ eN 4 16 S.T i = v
open Classical in
noncomputable def occA (S : AS) (x n : Int) : Int × AS := if exC x n = 0 then (if anyP S (loL (2 * gIx x)) (hiL (2 * gIx x) n.toNat + 1) 15 then (10, S) else (0, AS.tch { S with T := incX (loL (2 * gIx x)) (hiL (2 * gIx x) n.toNat + 1) S.T })) else (exC x n, S)
open Classical in
noncomputable def vacA (S : AS) (x n : Int) : Int × AS := if exC x n = 0 then (if anyP S (loL (2 * gIx x)) (hiL (2 * gIx x) n.toNat + 1) 0 then (10, S) else (0, AS.tch { S with T := decX (loL (2 * gIx x)) (hiL (2 * gIx x) n.toNat + 1) S.T })) else (exC x n, S)
set_option maxRecDepth 100000 in
set_option maxHeartbeats 2000000 in
theorem occZ (h : AM l S w) (x n : Int) : Calls Tryz.prog 233 #[.pointer (some ⟨l.a, 0, none⟩), .int .u64 x, .int .i64 n] w fun e w' => e = .returned (.int .u8 (occA S x n).1) ∧ Hid (AU l w (occA S x n).2 w') := by
  unfold occA
  have HA := hid h
  have HX := hid (extentOfZ x n w)
  by_cases hc : exC x n = 0
  · rw [if_pos hc]
    obtain ⟨_, hg, hn1, hn2⟩ := exC_ok hc
    unfold exL at HX
    rw [if_pos hc, hc] at HX
    obtain ⟨nn, rfl⟩ : ∃ nn : Nat, n = (nn : Int) := ⟨n.toNat, by omega⟩
    rw [Int.toNat_natCast]
    have hE : EOk (2 * gIx x) nn := ⟨by omega, by omega, by omega⟩
    generalize 2 * gIx x = k at *
    have HFl := hid (fun wz => extFirst_nat hE wz)
    have HLl := hid (fun wz => extLast_nat hE wz)
    obtain ⟨hl1, hl2⟩ := hE.lo
    have HIn : Hid (∀ wz, AM l S wz → Calls Tryz.prog 258 #[.pointer (some ⟨l.tt, 0, none⟩), .int .i64 ((loL k : Nat) : Int), .int .i64 (((hiL k nn : Nat) : Int) + 1)] wz fun e w' => ∃ ok : Bool, e = .returned (.bool ok) ∧ Hid ((ok = false ∧ anyP S (loL k) (hiL k nn + 1) 15 ∧ Below wz.heap.size wz w') ∨ (ok = true ∧ ¬ anyP S (loL k) (hiL k nn + 1) 15 ∧ TB l.tt l.bt 2048 4 16 128 (incX (loL k) (hiL k nn + 1) S.T) w' ∧ Upd l.bt wz w'))) := hid (fun wz hz => by
      have := hz.tt.incRange (loL k) (hiL k nn + 1) (by omega) (by omega)
      rw [show ((hiL k nn + 1 : Nat) : Int) = ((hiL k nn : Nat) : Int) + 1 by omega] at this
      refine this.mono ?_
      rintro e w1 ⟨ok, rfl, H⟩
      refine ⟨ok, rfl, hid ?_⟩
      rcases H.out with ⟨a1, a2, a3⟩ | ⟨a1, a2, a3, a4⟩
      · exact .inl ⟨a1, a2, a3⟩
      · exact .inr ⟨a1, fun ⟨i, b1, b2, b3⟩ => a2 i b1 b2 b3, a3, a4⟩)
    have hkb := hE.kn
    clear h hc hE hn1 hn2
    generalize loL k = lo at *
    generalize hiL k nn = la at *
    have HX' : Hid (Calls Tryz.prog 257 #[.int .u64 x, .int .i64 (nn : Int)] w fun e w' => e = .returned (.tuple #[.agg #[.int .i64 (k : Int), .int .i64 (nn : Int)], .int .u8 0]) ∧ Below w.heap.size w w') := HX
    clear HX
    obtain ⟨R, hR⟩ : ∃ R, (@ite (Int × AS) (anyP S lo (la + 1) 15) (Classical.propDecidable _) (10, S) (0, AS.tch { S with T := incX lo (la + 1) S.T })) = R := ⟨_, rfl⟩
    rw [hR]
    have HR1 : Hid ((anyP S lo (la + 1) 15 → R = (10, S)) ∧ (¬ anyP S lo (la + 1) 15 → R = (0, AS.tch { S with T := incX lo (la + 1) S.T }))) := hid ⟨fun q => by rw [← hR, if_pos q], fun q => by rw [← hR, if_neg q]⟩
    clear hR
    go_enter Tryz.func233, Tryz.ntmps233
    go_wp2_with fail
    refine HX'.out.mono ?_
    rintro e w1 ⟨rfl, hb1⟩
    have HA1 := hid ((AU.start HA.out).below hb1)
    clear hb1 HX' HA
    obtain ⟨q, hq⟩ : ∃ q, w1.heap.size = q := ⟨_, rfl⟩
    have HQ : Hid (OE w l S q k nn (w1.alloc (.cells #[.int .i64 (k : Int), .int .i64 (nn : Int)] 84))) := hid (by
      have kk := Blk.new w1 [.int .i64 (k : Int), .int .i64 (nn : Int)] 84
      rw [hq] at kk
      exact ⟨HA1.out.below (nbel w1 _), kk⟩)
    go_upto_region 4 with fail
    (try simp only [hq])
    generalize hw2 : w1.alloc _ = w2 at HQ ⊢
    clear hw2 hq HA1
    refine wp_region_heavy (fun wz => wz.cell? ⟨l.a, 4, none⟩ = some (.pointer (some ⟨l.tt, 0, none⟩)) ∧ Blk wz q 84 [.int .i64 (k : Int), .int .i64 (nn : Int)]) 11 [0, 1, 2, 3, 4, 6] [5, 7, 8, 9, 10] rfl (by kernel_rfl) (by kernel_rfl) (fun d _ _ _ _ h => by cases d <;> exact h) ⟨(HQ.out.au.m.drew ⟨1, rfl⟩).cells.2.2.2.2.1, HQ.out.bk.below (Drew.below ⟨1, rfl⟩ _)⟩ ?_
    apply Exists.intro
    refine ⟨?_, ?_⟩
    · intro W hW
      have a4 : ∀ u, (W u).cell? ⟨l.a, 4, none⟩ = some (.pointer (some ⟨l.tt, 0, none⟩)) := fun u => (hW u).1
      have p0 : ∀ u, (W u).cell? ⟨q, 0, none⟩ = some (.int .i64 (k : Int)) := fun u => (hW u).2.cell 0
      have p1 : ∀ u, (W u).cell? ⟨q, 1, none⟩ = some (.int .i64 (nn : Int)) := fun u => (hW u).2.cell 1
      clear hW
      simp only [List.take, opsAt, List.drop, List.cons_append, List.nil_append]
      repeat (go_big_quiet_step (fail))
      exact rfl
    simp only [List.take, List.drop, opsAt, List.cons_append, List.nil_append, wpHv]
    have H3 : Hid (OE w l S q k nn w2.drew) := hid (HQ.out.below (Drew.below ⟨1, rfl⟩ _))
    generalize w2.drew = w3 at H3 ⊢
    clear HQ
    go_wp2_with fail
    refine (HFl.out w3).mono ?_
    rintro e w4 ⟨rfl, hb4⟩
    have H4 := hid (H3.out.below hb4)
    clear hb4 H3 HFl
    go_wp2_with fail
    refine ⟨⟨H4.out.au.m.cells.2.2.2.2.1, H4.out.bk⟩, ?_⟩
    go_wp2_with fail
    refine (HLl.out w4).mono ?_
    rintro e w5 ⟨rfl, hb5⟩
    have H5 := hid (H4.out.below hb5)
    clear hb5 H4 HLl
    go_wp2_with fail
    refine ⟨⟨H5.out.au.m.cells.2.2.2.2.1, H5.out.bk⟩, ?_⟩
    go_wp2_with fail
    refine ⟨⟨H5.out.au.m.cells.2.2.2.2.1, H5.out.bk⟩, ?_⟩
    go_wp2_with fail
    refine (HIn.out w5 H5.out.au.m).mono ?_
    rintro e w6 ⟨ok, rfl, HK⟩
    clear HIn
    have HR6 : Hid ((ok = false ∧ R = (10, S) ∧ OE w l S q k nn w6) ∨ (ok = true ∧ R = (0, AS.tch { S with T := incX lo (la + 1) S.T }) ∧ OE w l { S with T := incX lo (la + 1) S.T } q k nn w6)) := hid (by
      rcases HK.out with ⟨a1, a2, a3⟩ | ⟨a1, a2, a3, a4⟩
      · exact .inl ⟨a1, HR1.out.1 a2, H5.out.below a3⟩
      · exact .inr ⟨a1, HR1.out.2 a2, H5.out.step ((AU.start H5.out.au.m).setT a3 a4)⟩)
    have HS6 : Hid (w6.cell? ⟨l.a, 4, none⟩ = some (.pointer (some ⟨l.tt, 0, none⟩)) ∧ Blk w6 q 84 [.int .i64 (k : Int), .int .i64 (nn : Int)]) := hid (by
      rcases HR6.out with ⟨_, _, q3⟩ | ⟨_, _, q3⟩
      · exact ⟨q3.au.m.cells.2.2.2.2.1, q3.bk⟩
      · exact ⟨q3.au.m.cells.2.2.2.2.1, q3.bk⟩)
    clear HK H5 HR1
    go_wp2_with fail
    refine ⟨HS6.out, ?_⟩
    go_wp2_with fail
    refine ⟨HS6.out, ?_⟩
    simp only [QN]
    clear HS6
    cases ok with
    | false =>
      as_aux_lemma =>
      have HF : Hid (R = (10, S) ∧ OE w l S q k nn w6) := hid (by
        rcases HR6.out with ⟨_, b1, b2⟩ | ⟨q, _⟩
        · exact ⟨b1, b2⟩
        · cases q)
      clear HR6
      go_wp2
      go_ret
      exact ⟨by rw [HF.out.1]; rfl, by rw [HF.out.1]; exact hid HF.out.2.au⟩
    | true =>
      as_aux_lemma =>
      have HF : Hid (R = (0, AS.tch { S with T := incX lo (la + 1) S.T }) ∧ OE w l { S with T := incX lo (la + 1) S.T } q k nn w6) := hid (by
        rcases HR6.out with ⟨q, _⟩ | ⟨_, b1, b2⟩
        · cases q
        · exact ⟨b1, b2⟩)
      clear HR6
      go_wp2_with fail
      refine HF.out.2.au.touch.mono ?_
      rintro e w7 ⟨rfl, HU7⟩
      have HR7 := hid HF.out.1
      clear HF
      go_wp2
      go_ret
      exact ⟨by rw [HR7.out]; rfl, by rw [HR7.out]; exact HU7⟩
  · rw [if_neg hc]
    unfold exL at HX
    rw [if_neg hc] at HX
    have dc : (exC x n == 0) = false := by simpa using hc
    have dc2 : (exC x n != 0) = true := by simp [bne, dc]
    have HX' : Hid (Calls Tryz.prog 257 #[.int .u64 x, .int .i64 n] w fun e w' => e = .returned (.tuple #[.agg #[.int .i64 0, .int .i64 0], .int .u8 (exC x n)]) ∧ Below w.heap.size w w') := HX
    generalize exC x n = c at *
    clear h hc HX
    go_enter Tryz.func233, Tryz.ntmps233
    go_wp2_with fail
    refine HX'.out.mono ?_
    rintro e w1 ⟨rfl, hb1⟩
    have HA1 := hid (((AU.start HA.out).below hb1).below (nbel w1 (.cells #[.int .i64 0, .int .i64 0] 84)))
    clear hb1 HX' HA
    go_upto_region 3 with fail
    generalize hw2 : w1.alloc _ = w2 at HA1 ⊢
    clear hw2
    go_wp2
    go_ret
    exact ⟨rfl, HA1⟩
set_option maxRecDepth 100000 in
set_option maxHeartbeats 2000000 in
theorem vacZ (h : AM l S w) (x n : Int) : Calls Tryz.prog 234 #[.pointer (some ⟨l.a, 0, none⟩), .int .u64 x, .int .i64 n] w fun e w' => e = .returned (.int .u8 (vacA S x n).1) ∧ Hid (AU l w (vacA S x n).2 w') := by
  unfold vacA
  have HA := hid h
  have HX := hid (extentOfZ x n w)
  by_cases hc : exC x n = 0
  · rw [if_pos hc]
    obtain ⟨_, hg, hn1, hn2⟩ := exC_ok hc
    unfold exL at HX
    rw [if_pos hc, hc] at HX
    obtain ⟨nn, rfl⟩ : ∃ nn : Nat, n = (nn : Int) := ⟨n.toNat, by omega⟩
    rw [Int.toNat_natCast]
    have hE : EOk (2 * gIx x) nn := ⟨by omega, by omega, by omega⟩
    generalize 2 * gIx x = k at *
    have HFl := hid (fun wz => extFirst_nat hE wz)
    have HLl := hid (fun wz => extLast_nat hE wz)
    obtain ⟨hl1, hl2⟩ := hE.lo
    have HIn : Hid (∀ wz, AM l S wz → Calls Tryz.prog 259 #[.pointer (some ⟨l.tt, 0, none⟩), .int .i64 ((loL k : Nat) : Int), .int .i64 (((hiL k nn : Nat) : Int) + 1)] wz fun e w' => ∃ ok : Bool, e = .returned (.bool ok) ∧ Hid ((ok = false ∧ anyP S (loL k) (hiL k nn + 1) 0 ∧ Below wz.heap.size wz w') ∨ (ok = true ∧ ¬ anyP S (loL k) (hiL k nn + 1) 0 ∧ TB l.tt l.bt 2048 4 16 128 (decX (loL k) (hiL k nn + 1) S.T) w' ∧ Upd l.bt wz w'))) := hid (fun wz hz => by
      have := hz.tt.decRange (loL k) (hiL k nn + 1) (by omega) (by omega)
      rw [show ((hiL k nn + 1 : Nat) : Int) = ((hiL k nn : Nat) : Int) + 1 by omega] at this
      refine this.mono ?_
      rintro e w1 ⟨ok, rfl, H⟩
      refine ⟨ok, rfl, hid ?_⟩
      rcases H.out with ⟨a1, a2, a3⟩ | ⟨a1, a2, a3, a4⟩
      · exact .inl ⟨a1, a2, a3⟩
      · exact .inr ⟨a1, fun ⟨i, b1, b2, b3⟩ => a2 i b1 b2 b3, a3, a4⟩)
    have hkb := hE.kn
    clear h hc hE hn1 hn2
    generalize loL k = lo at *
    generalize hiL k nn = la at *
    have HX' : Hid (Calls Tryz.prog 257 #[.int .u64 x, .int .i64 (nn : Int)] w fun e w' => e = .returned (.tuple #[.agg #[.int .i64 (k : Int), .int .i64 (nn : Int)], .int .u8 0]) ∧ Below w.heap.size w w') := HX
    clear HX
    obtain ⟨R, hR⟩ : ∃ R, (@ite (Int × AS) (anyP S lo (la + 1) 0) (Classical.propDecidable _) (10, S) (0, AS.tch { S with T := decX lo (la + 1) S.T })) = R := ⟨_, rfl⟩
    rw [hR]
    have HR1 : Hid ((anyP S lo (la + 1) 0 → R = (10, S)) ∧ (¬ anyP S lo (la + 1) 0 → R = (0, AS.tch { S with T := decX lo (la + 1) S.T }))) := hid ⟨fun q => by rw [← hR, if_pos q], fun q => by rw [← hR, if_neg q]⟩
    clear hR
    go_enter Tryz.func234, Tryz.ntmps234
    go_wp2_with fail
    refine HX'.out.mono ?_
    rintro e w1 ⟨rfl, hb1⟩
    have HA1 := hid ((AU.start HA.out).below hb1)
    clear hb1 HX' HA
    obtain ⟨q, hq⟩ : ∃ q, w1.heap.size = q := ⟨_, rfl⟩
    have HQ : Hid (OE w l S q k nn (w1.alloc (.cells #[.int .i64 (k : Int), .int .i64 (nn : Int)] 84))) := hid (by
      have kk := Blk.new w1 [.int .i64 (k : Int), .int .i64 (nn : Int)] 84
      rw [hq] at kk
      exact ⟨HA1.out.below (nbel w1 _), kk⟩)
    go_upto_region 4 with fail
    (try simp only [hq])
    generalize hw2 : w1.alloc _ = w2 at HQ ⊢
    clear hw2 hq HA1
    refine wp_region_heavy (fun wz => wz.cell? ⟨l.a, 4, none⟩ = some (.pointer (some ⟨l.tt, 0, none⟩)) ∧ Blk wz q 84 [.int .i64 (k : Int), .int .i64 (nn : Int)]) 11 [0, 1, 2, 3, 4, 6] [5, 7, 8, 9, 10] rfl (by kernel_rfl) (by kernel_rfl) (fun d _ _ _ _ h => by cases d <;> exact h) ⟨(HQ.out.au.m.drew ⟨1, rfl⟩).cells.2.2.2.2.1, HQ.out.bk.below (Drew.below ⟨1, rfl⟩ _)⟩ ?_
    apply Exists.intro
    refine ⟨?_, ?_⟩
    · intro W hW
      have a4 : ∀ u, (W u).cell? ⟨l.a, 4, none⟩ = some (.pointer (some ⟨l.tt, 0, none⟩)) := fun u => (hW u).1
      have p0 : ∀ u, (W u).cell? ⟨q, 0, none⟩ = some (.int .i64 (k : Int)) := fun u => (hW u).2.cell 0
      have p1 : ∀ u, (W u).cell? ⟨q, 1, none⟩ = some (.int .i64 (nn : Int)) := fun u => (hW u).2.cell 1
      clear hW
      simp only [List.take, opsAt, List.drop, List.cons_append, List.nil_append]
      repeat (go_big_quiet_step (fail))
      exact rfl
    simp only [List.take, List.drop, opsAt, List.cons_append, List.nil_append, wpHv]
    have H3 : Hid (OE w l S q k nn w2.drew) := hid (HQ.out.below (Drew.below ⟨1, rfl⟩ _))
    generalize w2.drew = w3 at H3 ⊢
    clear HQ
    go_wp2_with fail
    refine (HFl.out w3).mono ?_
    rintro e w4 ⟨rfl, hb4⟩
    have H4 := hid (H3.out.below hb4)
    clear hb4 H3 HFl
    go_wp2_with fail
    refine ⟨⟨H4.out.au.m.cells.2.2.2.2.1, H4.out.bk⟩, ?_⟩
    go_wp2_with fail
    refine (HLl.out w4).mono ?_
    rintro e w5 ⟨rfl, hb5⟩
    have H5 := hid (H4.out.below hb5)
    clear hb5 H4 HLl
    go_wp2_with fail
    refine ⟨⟨H5.out.au.m.cells.2.2.2.2.1, H5.out.bk⟩, ?_⟩
    go_wp2_with fail
    refine ⟨⟨H5.out.au.m.cells.2.2.2.2.1, H5.out.bk⟩, ?_⟩
    go_wp2_with fail
    refine (HIn.out w5 H5.out.au.m).mono ?_
    rintro e w6 ⟨ok, rfl, HK⟩
    clear HIn
    have HR6 : Hid ((ok = false ∧ R = (10, S) ∧ OE w l S q k nn w6) ∨ (ok = true ∧ R = (0, AS.tch { S with T := decX lo (la + 1) S.T }) ∧ OE w l { S with T := decX lo (la + 1) S.T } q k nn w6)) := hid (by
      rcases HK.out with ⟨a1, a2, a3⟩ | ⟨a1, a2, a3, a4⟩
      · exact .inl ⟨a1, HR1.out.1 a2, H5.out.below a3⟩
      · exact .inr ⟨a1, HR1.out.2 a2, H5.out.step ((AU.start H5.out.au.m).setT a3 a4)⟩)
    have HS6 : Hid (w6.cell? ⟨l.a, 4, none⟩ = some (.pointer (some ⟨l.tt, 0, none⟩)) ∧ Blk w6 q 84 [.int .i64 (k : Int), .int .i64 (nn : Int)]) := hid (by
      rcases HR6.out with ⟨_, _, q3⟩ | ⟨_, _, q3⟩
      · exact ⟨q3.au.m.cells.2.2.2.2.1, q3.bk⟩
      · exact ⟨q3.au.m.cells.2.2.2.2.1, q3.bk⟩)
    clear HK H5 HR1
    go_wp2_with fail
    refine ⟨HS6.out, ?_⟩
    go_wp2_with fail
    refine ⟨HS6.out, ?_⟩
    simp only [QN]
    clear HS6
    cases ok with
    | false =>
      as_aux_lemma =>
      have HF : Hid (R = (10, S) ∧ OE w l S q k nn w6) := hid (by
        rcases HR6.out with ⟨_, b1, b2⟩ | ⟨q, _⟩
        · exact ⟨b1, b2⟩
        · cases q)
      clear HR6
      go_wp2
      go_ret
      exact ⟨by rw [HF.out.1]; rfl, by rw [HF.out.1]; exact hid HF.out.2.au⟩
    | true =>
      as_aux_lemma =>
      have HF : Hid (R = (0, AS.tch { S with T := decX lo (la + 1) S.T }) ∧ OE w l { S with T := decX lo (la + 1) S.T } q k nn w6) := hid (by
        rcases HR6.out with ⟨q, _⟩ | ⟨_, b1, b2⟩
        · cases q
        · exact ⟨b1, b2⟩)
      clear HR6
      go_wp2_with fail
      refine HF.out.2.au.touch.mono ?_
      rintro e w7 ⟨rfl, HU7⟩
      have HR7 := hid HF.out.1
      clear HF
      go_wp2
      go_ret
      exact ⟨by rw [HR7.out]; rfl, by rw [HR7.out]; exact HU7⟩
  · rw [if_neg hc]
    unfold exL at HX
    rw [if_neg hc] at HX
    have dc : (exC x n == 0) = false := by simpa using hc
    have dc2 : (exC x n != 0) = true := by simp [bne, dc]
    have HX' : Hid (Calls Tryz.prog 257 #[.int .u64 x, .int .i64 n] w fun e w' => e = .returned (.tuple #[.agg #[.int .i64 0, .int .i64 0], .int .u8 (exC x n)]) ∧ Below w.heap.size w w') := HX
    generalize exC x n = c at *
    clear h hc HX
    go_enter Tryz.func234, Tryz.ntmps234
    go_wp2_with fail
    refine HX'.out.mono ?_
    rintro e w1 ⟨rfl, hb1⟩
    have HA1 := hid (((AU.start HA.out).below hb1).below (nbel w1 (.cells #[.int .i64 0, .int .i64 0] 84)))
    clear hb1 HX' HA
    go_upto_region 3 with fail
    generalize hw2 : w1.alloc _ = w2 at HA1 ⊢
    clear hw2
    go_wp2
    go_ret
    exact ⟨rfl, HA1⟩
end
end Go.Proofs.Qxb6500887aGreat
