/- (*machine).step: the walk. -/
import Derived.Test.Qxb6500884aClStp
import Derived.Deep.CutBlock
namespace Go.Proofs.Qxb6500884a
open Go.RowKit
set_option linter.unusedSimpArgs false
set_option linter.unusedVariables false

theorem make_ptr0 (n : Nat) (hn : n ≤ 1000000) (w : World) : ∃ Z : List Value, Z.length = n ∧ (Instr.makeSlice 44 (.int .i64 0) (.int .i64 (n : Int))).run Try.prog w = .ok (.slice (some ⟨w.heap.size, 0, none⟩) 0 n) (w.alloc (.cells Z.toArray 38)) := by
  obtain ⟨i0, hi, hz0, hz1, hz2⟩ := info_ptr
  have := run_make (P := Try.prog) w 44 38 i0 _ Try.underlying44 hi hz0 .i64 .i64 0 (n : Int) (by omega) (by omega) (by rw [hz2]; omega) (by omega)
  rw [hz1, show (Value.pointer none).cells = #[.pointer none] from rfl] at this
  refine ⟨List.replicate n (Value.pointer none), by simp, ?_⟩
  simpa [made_ptr] using this
/-- The state behind the switch: what is to be pushed. -/
structure SwP (mb : Nat) (a : Option Addr) (S : List (Nat × List (Int × Int))) (o : COp) (w : World) (r : Nat) (oa : Option Addr) (on oc : Nat) (w' : World) : Prop where
  bel : Below w.heap.size w w'
  res : Blk w' r 51 (resC 0 false 0)
  out : ∃ T Ls, Fl w' 30 oa on oc (T.map clV) ∧ ClsOk w' T Ls ∧ on ≤ 196608 ∧ StepS o (S.map (·.2)) Ls (resC (on : Int) false 0)
theorem num_one (v : Int) (ok : Bool) : ∀ u ∈ numR v ok, u.oneCell' = true := by
  cases ok <;> exact res_one _ _ _
theorem SwP.one {mb : Nat} {a : Option Addr} {S : List (Nat × List (Int × Int))} {o : COp} {w w2 w6 w7 : World} {r : Nat} {ca : Option Addr} {cn cc : Nat} {cl : List (Int × Int)} {f : Int → Bool} {a7 : Option Addr} {c7 : Nat} (hb : Below w.heap.size w w2) (hr : Blk w2 r 51 (resC 0 false 0)) (hrow : IvRow w2 ca cn cc cl) (hN : Nrm cl) (hty : Ty67 w2 ca cn) (hm : ∀ x, 0 ≤ x → x ≤ 196607 → memB cl x = f x)
    (h6 : Below w2.heap.size w2 w6) (hu : UpdO (blkO none) w6 w7) (hf : Fl w7 30 a7 1 c7 ([] ++ [.slice ca cn cc])) (hk : kindF o (S.map (·.2)) = some f) (hne : needB o.kind = true → S.map (·.2) ≠ []) : SwP mb a S o w r a7 1 c7 w7 := by
  have h7 : Below w2.heap.size w2 w7 := h6.trans (hu.below h6.size (fun k hk => by cases hk))
  refine ⟨hb.trans (h7.mono hb.size), hr.below h7, [(ca, cn, cc)], [cl], hf, ⟨rfl, fun i t l h1 h2 => ?_⟩, by omega, .one f hk hne cl rfl hN hm⟩
  cases i with
  | zero =>
    simp at h1 h2
    subst h1
    subst h2
    exact ⟨hrow.below h7, hN, hty.below h7⟩
  | succ i => simp at h1
set_option maxRecDepth 100000 in
set_option maxHeartbeats 8000000 in
theorem step_walk (mb : Nat) (a : Option Addr) (S : List (Nat × List (Int × Int))) (o : COp) (w : World) (h : Mach mb a S w) (ho : OpOk w o) (hi : o.inn ≤ 65536) (hr : o.rn ≤ 65536) :
    Calls Try.prog 22 #[.pointer (some ⟨mb, 0, none⟩), .agg #[.int .i64 o.kind, .int .i64 o.a, .int .i64 o.b, .slice o.ia o.inn o.ic, .slice o.ra o.rn o.rc]] w fun e w' => StepP mb a S o w e w' := by
  have HM := hid h
  have HO := hid ho
  obtain ⟨kind, oA, oB, ia, inn, ic, iv, ra, rn, rc, rg⟩ := o
  obtain ⟨c, hmb, hfl⟩ := h.out
  have hlen := h.len
  obtain ⟨n, hn⟩ : ∃ n, S.length = n := ⟨_, rfl⟩
  have Hn := hid hn
  rw [hn] at hmb hlen
  obtain ⟨q, hq⟩ : ∃ q, w.heap.size = q := ⟨_, rfl⟩
  obtain ⟨r, hrr⟩ : ∃ r, q + 1 = r := ⟨_, rfl⟩
  have hb1 := (Blk.new w [.int .i64 kind, .int .i64 oA, .int .i64 oB, .slice ia inn ic, .slice ra rn rc] 28).alloc (.cells (resC 0 false 0).toArray 51)
  have hb2 := Blk.new (w.alloc (.cells [Value.int .i64 kind, .int .i64 oA, .int .i64 oB, .slice ia inn ic, .slice ra rn rc].toArray 28)) (resC 0 false 0) 51
  rw [hq] at hb1
  rw [show (w.alloc (.cells [Value.int .i64 kind, .int .i64 oA, .int .i64 oB, .slice ia inn ic, .slice ra rn rc].toArray 28)).heap.size = r by rw [← hrr, ← hq]; simp] at hb2
  have hbe : Below w.heap.size w ((w.alloc (.cells [Value.int .i64 kind, .int .i64 oA, .int .i64 oB, .slice ia inn ic, .slice ra rn rc].toArray 28)).alloc (.cells (resC 0 false 0).toArray 51)) := (nbel w _).alloc (by simp) _
  have HB1 : Hid (Blk ((w.alloc (.cells #[Value.int .i64 kind, .int .i64 oA, .int .i64 oB, .slice ia inn ic, .slice ra rn rc] 28)).alloc (.cells #[.int .i64 0, .bool false, .int .i64 0] 51)) q 28 [.int .i64 kind, .int .i64 oA, .int .i64 oB, .slice ia inn ic, .slice ra rn rc]) := hid hb1
  have HB2 : Hid (Blk ((w.alloc (.cells #[Value.int .i64 kind, .int .i64 oA, .int .i64 oB, .slice ia inn ic, .slice ra rn rc] 28)).alloc (.cells #[.int .i64 0, .bool false, .int .i64 0] 51)) r 51 (resC 0 false 0)) := hid hb2
  have HBe : Hid (Below w.heap.size w ((w.alloc (.cells #[Value.int .i64 kind, .int .i64 oA, .int .i64 oB, .slice ia inn ic, .slice ra rn rc] 28)).alloc (.cells #[.int .i64 0, .bool false, .int .i64 0] 51))) := hid hbe
  have Hrr := hid hrr
  have HNd := hid (fun w => needs_walk kind w)
  clear hb1 hb2 hbe h ho hfl hn hmb
  go_enter Try.func22, Try.ntmps22
  go_upto_region 1 with fail
  generalize (w.alloc (.cells #[Value.int .i64 kind, .int .i64 oA, .int .i64 oB, .slice ia inn ic, .slice ra rn rc] 28)).alloc (.cells #[.int .i64 0, .bool false, .int .i64 0] 51) = w1 at HB1 HB2 HBe ⊢
  clear hrr
  have HM1 := hid (HM.out.below HBe.out)
  have HO1 := hid (HO.out.below HBe.out)
  have ck : w1.cell? ⟨q, 0, none⟩ = some (.int .i64 kind) := HB1.out.cell 0
  have hrw : w.heap.size ≤ r := by have := Hrr.out; omega
  have Hq := hid hq
  clear hq
  obtain ⟨c1, hmb1, _⟩ := HM1.out.out
  rw [Hn.out] at hmb1
  have cm : w1.cell? ⟨mb, 0, none⟩ = some (.slice a n c1) := hmb1.cell 0
  have HMb := hid hmb1
  clear hmb1
  obtain ⟨BZ, hBZ⟩ : ∃ BZ, (needB kind && decide (n = 0)) = BZ := ⟨_, rfl⟩
  have HBZ := hid hBZ
  clear hBZ
  go_cut [20] from 10 to 20 (fun v20 wc => v20 = .bool BZ ∧ wc = w1)
  case first =>
    as_aux_lemma =>
    go_wp2_with fail
    refine (HNd.out w1).mono ?_
    rintro e w1' ⟨rfl, rfl⟩
    have hBZ := HBZ.out
    cases hB : needB kind with
    | false =>
      rw [hB] at hBZ
      have hb : BZ = false := hBZ.symm
      subst hb
      go_wp2_with fail
      go_meet
      case rel => exact ⟨rfl, rfl⟩
    | true =>
      rw [hB] at hBZ
      by_cases hn0 : n = 0
      · have hb : BZ = true := by rw [← hBZ, decide_eq_true hn0]; rfl
        have d0 : ((n : Int) == 0) = true := by rw [hn0]; rfl
        have d0' : (n == 0) = true := by rw [hn0]; rfl
        subst hb
        go_wp2_with fail
        go_meet
        case rel => exact ⟨rfl, rfl⟩
      · have hb : BZ = false := by rw [← hBZ, decide_eq_false hn0]; rfl
        have d0 : ((n : Int) == 0) = false := by simp; omega
        have d0' : (n == 0) = false := by simp; omega
        subst hb
        go_wp2_with fail
        go_meet
        case rel => exact ⟨rfl, rfl⟩
  case rest =>
  obtain ⟨rfl, hwc⟩ := hcut
  have hwc' := hwc.symm
  subst hwc'
  clear HNd
  cases BZ with
  | true =>
    as_aux_lemma =>
    have hz := HBZ.out
    simp at hz
    have I0 : Hid ((Try.prog.info? 51).map (·.size) = some (resC 0 false 0).length) := hid info_res
    go_wp2_with (refine wpList_store_blk rfl 51 _ _ rfl r rfl (resC 0 false 0) rfl HB2.out rfl I0.out (res_one _ _ _) ?_; intro w9 HB9 HU9)
    have hS : S = [] := List.eq_nil_of_length_eq_zero (by rw [Hn.out]; exact hz.2)
    have hu9 : Below w.heap.size w w9 := HBe.out.trans (HU9.out.below hrw HBe.out.size)
    exact bodyPost_ret (results_cell_tmp Try.results22 rfl (show AggOf Try.prog 51 (List.length (resC 0 false 0)) from aggRes) HB9.out) rfl
      ⟨⟨resC 0 false 0, none, 0, 0, [], a, rfl, Fl.nil _ _, (fun p hp => by simp at hp), HM.out.below hu9, .none hz.1 (by rw [hS]; rfl) rfl, (fun p hp => by simp at hp), List.Pairwise.nil, .inl rfl, (fun g hg => by cases hg), (by simp)⟩, UpdM.ofBelow hu9⟩
  | false =>
  have HNe : Hid (needB kind = true → 0 < n) := hid (fun hk => by have h := HBZ.out; rw [hk] at h; simp at h; omega)
  clear HBZ cm
  go_upto_block 0 with fail
  go_cut [6] from 24 to 322 (fun v6 wc => ∃ oa on oc, v6 = .slice oa on oc ∧ Hid (SwP mb a S ⟨kind, oA, oB, ia, inn, ic, iv, ra, rn, rc, rg⟩ w r oa on oc wc))
  case first =>
    have HNe2 : Hid (needB kind = true → S.map (·.2) ≠ []) := hid (fun hk e => by have h1 := HNe.out hk; have h2 : S.length = 0 := (by have := congrArg List.length e; simpa using this); rw [Hn.out] at h2; omega)
    obtain ⟨j0, hj, hy0, hy1, hy2⟩ := info_cls
    have HJ := hid (And.intro hj (And.intro hy0 (And.intro hy1 hy2)))
    clear hj hy0 hy1 hy2
    have hks : kind = 0 ∨ kind = 1 ∨ kind = 2 ∨ kind = 3 ∨ kind = 4 ∨ kind = 5 ∨ kind = 6 ∨ kind = 7 ∨ kind = 8 ∨ kind = 9 ∨ kind = 10 ∨ kind = 11 ∨ kind = 12 ∨ kind = 13 ∨ kind = 14 ∨ kind = 15 ∨ kind = 16 ∨ kind = 17 ∨ kind = 18 ∨ kind = 19 ∨ kind = 20 ∨ kind = 21 ∨ kind = 22 ∨ ¬ (0 ≤ kind ∧ kind ≤ 22) := by omega
    rcases hks with rfl | rfl | rfl | rfl | rfl | rfl | rfl | rfl | rfl | rfl | rfl | rfl | rfl | rfl | rfl | rfl | rfl | rfl | rfl | rfl | rfl | rfl | rfl | hk
    · as_aux_lemma =>
      have ci : w1.cell? ⟨q, 3, none⟩ = some (.slice ia inn ic) := HB1.out.cell 3
      have HW := hid (from_walk ia inn ic iv w1 HO1.out.iv (by simp at hi; omega))
      go_upto_region 7 with fail
      go_wp2_with fail
      refine HW.out.mono ?_
      rintro e w2 hcp
      obtain ⟨⟨ca, cn, cc, cl, rfl, hrow, hN, hm, hty⟩, hb⟩ := hcp.cp
      have HRow := hid hrow
      have HTy := hid hty
      have Hm := hid hm
      have HBc : Hid (Below w.heap.size w w2) := hid (HBe.out.trans (hb.mono HBe.out.size))
      have HRs := hid (HB2.out.below hb)
      skip
      clear hrow hty hm hb
      obtain ⟨q5, hq5⟩ : ∃ q5, w2.heap.size = q5 := ⟨_, rfl⟩
      have hbq := Blk.new w2 [.slice ca cn cc] 30
      rw [hq5] at hbq
      obtain ⟨w6, hw6⟩ : ∃ w6, w2.alloc (.cells #[.slice ca cn cc] 30) = w6 := ⟨_, rfl⟩
      have hw6' : w2.alloc (.cells [Value.slice ca cn cc].toArray 30) = w6 := hw6
      rw [hw6'] at hbq
      have HBe6 : Hid (Below w2.heap.size w2 w6) := hid (by rw [← hw6]; exact nbel w2 _)
      have Hcq : Hid (w6.cell? ⟨q5, 0, none⟩ = some (.slice ca cn cc)) := hid (hbq.cell 0)
      have HF6 : Hid (Fl w6 30 none 0 0 []) := hid (Fl.nil _ _)
      clear hbq hw6'
      go_wp2_with (at_builtin; (try simp only [hw6]); refine wpList_append_file rfl (.tmp 27) (.tmp 31) 77 rfl 30 j0 (.agg #[.slice none 0 0]) 24 Try.underlying77 HJ.out.1 HJ.out.2.1 HJ.out.2.2.1 HJ.out.2.2.2 rfl none 0 0 [] rfl HF6.out q5 1 (.slice ca cn cc) rfl Hcq.out rfl (by decide) (by decide) ?_; intro a7 c7 w7 hf7 hu7 hb7 hn7; have HF7 := hid hf7; have HU7 := hid hu7; clear hf7 hu7 hb7 hn7)
      go_meet
      case rel => exact ⟨a7, 1, c7, rfl, hid (SwP.one HBc.out HRs.out HRow.out hN HTy.out Hm.out HBe6.out HU7.out HF7.out rfl HNe2.out)⟩
    · as_aux_lemma =>
      have ca1 : w1.cell? ⟨q, 1, none⟩ = some (.int .i64 oA) := HB1.out.cell 1
      have cb1 : w1.cell? ⟨q, 2, none⟩ = some (.int .i64 oB) := HB1.out.cell 2
      have HW := hid (range_walk oA oB w1)
      go_upto_region 9 with fail
      go_wp2_with fail
      refine HW.out.mono ?_
      rintro e w2 hcp
      obtain ⟨⟨ca, cn, cc, cl, rfl, hrow, hN, hm, hty⟩, hb⟩ := hcp
      have HRow := hid hrow
      have HTy := hid hty
      have Hm := hid hm
      have HBc : Hid (Below w.heap.size w w2) := hid (HBe.out.trans (hb.mono HBe.out.size))
      have HRs := hid (HB2.out.below hb)
      skip
      clear hrow hty hm hb
      obtain ⟨q5, hq5⟩ : ∃ q5, w2.heap.size = q5 := ⟨_, rfl⟩
      have hbq := Blk.new w2 [.slice ca cn cc] 30
      rw [hq5] at hbq
      obtain ⟨w6, hw6⟩ : ∃ w6, w2.alloc (.cells #[.slice ca cn cc] 30) = w6 := ⟨_, rfl⟩
      have hw6' : w2.alloc (.cells [Value.slice ca cn cc].toArray 30) = w6 := hw6
      rw [hw6'] at hbq
      have HBe6 : Hid (Below w2.heap.size w2 w6) := hid (by rw [← hw6]; exact nbel w2 _)
      have Hcq : Hid (w6.cell? ⟨q5, 0, none⟩ = some (.slice ca cn cc)) := hid (hbq.cell 0)
      have HF6 : Hid (Fl w6 30 none 0 0 []) := hid (Fl.nil _ _)
      clear hbq hw6'
      go_wp2_with (at_builtin; (try simp only [hw6]); refine wpList_append_file rfl (.tmp 35) (.tmp 41) 77 rfl 30 j0 (.agg #[.slice none 0 0]) 24 Try.underlying77 HJ.out.1 HJ.out.2.1 HJ.out.2.2.1 HJ.out.2.2.2 rfl none 0 0 [] rfl HF6.out q5 1 (.slice ca cn cc) rfl Hcq.out rfl (by decide) (by decide) ?_; intro a7 c7 w7 hf7 hu7 hb7 hn7; have HF7 := hid hf7; have HU7 := hid hu7; clear hf7 hu7 hb7 hn7)
      go_meet
      case rel => exact ⟨a7, 1, c7, rfl, hid (SwP.one HBc.out HRs.out HRow.out hN HTy.out Hm.out HBe6.out HU7.out HF7.out rfl HNe2.out)⟩
    · as_aux_lemma =>
      have ca1 : w1.cell? ⟨q, 1, none⟩ = some (.int .i64 oA) := HB1.out.cell 1
      have HW := hid (single_walk oA w1)
      go_upto_region 11 with fail
      go_wp2_with fail
      refine HW.out.mono ?_
      rintro e w2 hcp
      obtain ⟨⟨ca, cn, cc, cl, rfl, hrow, hN, hm, hty⟩, hb⟩ := hcp
      have HRow := hid hrow
      have HTy := hid hty
      have Hm := hid hm
      have HBc : Hid (Below w.heap.size w w2) := hid (HBe.out.trans (hb.mono HBe.out.size))
      have HRs := hid (HB2.out.below hb)
      skip
      clear hrow hty hm hb
      obtain ⟨q5, hq5⟩ : ∃ q5, w2.heap.size = q5 := ⟨_, rfl⟩
      have hbq := Blk.new w2 [.slice ca cn cc] 30
      rw [hq5] at hbq
      obtain ⟨w6, hw6⟩ : ∃ w6, w2.alloc (.cells #[.slice ca cn cc] 30) = w6 := ⟨_, rfl⟩
      have hw6' : w2.alloc (.cells [Value.slice ca cn cc].toArray 30) = w6 := hw6
      rw [hw6'] at hbq
      have HBe6 : Hid (Below w2.heap.size w2 w6) := hid (by rw [← hw6]; exact nbel w2 _)
      have Hcq : Hid (w6.cell? ⟨q5, 0, none⟩ = some (.slice ca cn cc)) := hid (hbq.cell 0)
      have HF6 : Hid (Fl w6 30 none 0 0 []) := hid (Fl.nil _ _)
      clear hbq hw6'
      go_wp2_with (at_builtin; (try simp only [hw6]); refine wpList_append_file rfl (.tmp 45) (.tmp 49) 77 rfl 30 j0 (.agg #[.slice none 0 0]) 24 Try.underlying77 HJ.out.1 HJ.out.2.1 HJ.out.2.2.1 HJ.out.2.2.2 rfl none 0 0 [] rfl HF6.out q5 1 (.slice ca cn cc) rfl Hcq.out rfl (by decide) (by decide) ?_; intro a7 c7 w7 hf7 hu7 hb7 hn7; have HF7 := hid hf7; have HU7 := hid hu7; clear hf7 hu7 hb7 hn7)
      go_meet
      case rel => exact ⟨a7, 1, c7, rfl, hid (SwP.one HBc.out HRs.out HRow.out hN HTy.out Hm.out HBe6.out HU7.out HF7.out rfl HNe2.out)⟩
    · as_aux_lemma =>
      have HW := hid (empty_walk w1)
      go_upto_region 13 with fail
      go_wp2_with fail
      refine HW.out.mono ?_
      rintro e w2 hcp
      obtain ⟨⟨ca, cn, cc, cl, rfl, hrow, hN, hm, hty⟩, hb⟩ := hcp
      have HRow := hid hrow
      have HTy := hid hty
      have Hm := hid hm
      have HBc : Hid (Below w.heap.size w w2) := hid (HBe.out.trans (hb.mono HBe.out.size))
      have HRs := hid (HB2.out.below hb)
      skip
      clear hrow hty hm hb
      obtain ⟨q5, hq5⟩ : ∃ q5, w2.heap.size = q5 := ⟨_, rfl⟩
      have hbq := Blk.new w2 [.slice ca cn cc] 30
      rw [hq5] at hbq
      obtain ⟨w6, hw6⟩ : ∃ w6, w2.alloc (.cells #[.slice ca cn cc] 30) = w6 := ⟨_, rfl⟩
      have hw6' : w2.alloc (.cells [Value.slice ca cn cc].toArray 30) = w6 := hw6
      rw [hw6'] at hbq
      have HBe6 : Hid (Below w2.heap.size w2 w6) := hid (by rw [← hw6]; exact nbel w2 _)
      have Hcq : Hid (w6.cell? ⟨q5, 0, none⟩ = some (.slice ca cn cc)) := hid (hbq.cell 0)
      have HF6 : Hid (Fl w6 30 none 0 0 []) := hid (Fl.nil _ _)
      clear hbq hw6'
      go_wp2_with (at_builtin; (try simp only [hw6]); refine wpList_append_file rfl (.tmp 53) (.tmp 55) 77 rfl 30 j0 (.agg #[.slice none 0 0]) 24 Try.underlying77 HJ.out.1 HJ.out.2.1 HJ.out.2.2.1 HJ.out.2.2.2 rfl none 0 0 [] rfl HF6.out q5 1 (.slice ca cn cc) rfl Hcq.out rfl (by decide) (by decide) ?_; intro a7 c7 w7 hf7 hu7 hb7 hn7; have HF7 := hid hf7; have HU7 := hid hu7; clear hf7 hu7 hb7 hn7)
      go_meet
      case rel => exact ⟨a7, 1, c7, rfl, hid (SwP.one HBc.out HRs.out HRow.out hN HTy.out Hm.out HBe6.out HU7.out HF7.out rfl HNe2.out)⟩
    · as_aux_lemma =>
      have HW := hid (all_walk w1)
      go_upto_region 15 with fail
      go_wp2_with fail
      refine HW.out.mono ?_
      rintro e w2 hcp
      obtain ⟨⟨ca, cn, cc, cl, rfl, hrow, hN, hm, hty⟩, hb⟩ := hcp
      have HRow := hid hrow
      have HTy := hid hty
      have Hm := hid hm
      have HBc : Hid (Below w.heap.size w w2) := hid (HBe.out.trans (hb.mono HBe.out.size))
      have HRs := hid (HB2.out.below hb)
      skip
      clear hrow hty hm hb
      obtain ⟨q5, hq5⟩ : ∃ q5, w2.heap.size = q5 := ⟨_, rfl⟩
      have hbq := Blk.new w2 [.slice ca cn cc] 30
      rw [hq5] at hbq
      obtain ⟨w6, hw6⟩ : ∃ w6, w2.alloc (.cells #[.slice ca cn cc] 30) = w6 := ⟨_, rfl⟩
      have hw6' : w2.alloc (.cells [Value.slice ca cn cc].toArray 30) = w6 := hw6
      rw [hw6'] at hbq
      have HBe6 : Hid (Below w2.heap.size w2 w6) := hid (by rw [← hw6]; exact nbel w2 _)
      have Hcq : Hid (w6.cell? ⟨q5, 0, none⟩ = some (.slice ca cn cc)) := hid (hbq.cell 0)
      have HF6 : Hid (Fl w6 30 none 0 0 []) := hid (Fl.nil _ _)
      clear hbq hw6'
      go_wp2_with (at_builtin; (try simp only [hw6]); refine wpList_append_file rfl (.tmp 59) (.tmp 61) 77 rfl 30 j0 (.agg #[.slice none 0 0]) 24 Try.underlying77 HJ.out.1 HJ.out.2.1 HJ.out.2.2.1 HJ.out.2.2.2 rfl none 0 0 [] rfl HF6.out q5 1 (.slice ca cn cc) rfl Hcq.out rfl (by decide) (by decide) ?_; intro a7 c7 w7 hf7 hu7 hb7 hn7; have HF7 := hid hf7; have HU7 := hid hu7; clear hf7 hu7 hb7 hn7)
      go_meet
      case rel => exact ⟨a7, 1, c7, rfl, hid (SwP.one HBc.out HRs.out HRow.out hN HTy.out Hm.out HBe6.out HU7.out HF7.out rfl HNe2.out)⟩
    · as_aux_lemma =>
      have h0 : 0 < n := HNe.out rfl
      have h0s : 0 < S.length := by rw [Hn.out]; exact h0
      obtain ⟨p1, hp1⟩ : ∃ p, S.getD (regIx S.length oA) (0, []) = p := ⟨_, rfl⟩
      have hs1 : S[regIx S.length oA]? = some p1 := by rw [← hp1]; exact regAt h0s oA
      have HL1 : Hid (regL (S.map (·.2)) oA = p1.2) := hid (by rw [regL_map, hp1])
      have HRk1 := hid (HM.out.regs p1 (List.mem_of_getElem? hs1))
      obtain ⟨xa1, xn1, xc1, tb1, hx1, hxr1, hxt1, _⟩ := HRk1.out.out
      have HX1 := hid hx1
      have HXr1 := hid hxr1
      have HXt1 := hid hxt1
      have HN1 := hid HRk1.out.nrm
      have HRg1 : Hid (∀ w' : World, Below w.heap.size w w' → Calls Try.prog 20 #[.pointer (some ⟨mb, 0, none⟩), .int .i64 oA] w' fun e w'' => e = .returned (.pointer (some ⟨p1.1, 0, none⟩)) ∧ w'' = w') := hid (fun w' hb => reg_walk mb a S oA p1 w' (HM.out.below hb) HO.out.fa h0s hs1)
      clear hx1 hxr1 hxt1 hs1
      obtain ⟨p2, hp2⟩ : ∃ p, S.getD (regIx S.length oB) (0, []) = p := ⟨_, rfl⟩
      have hs2 : S[regIx S.length oB]? = some p2 := by rw [← hp2]; exact regAt h0s oB
      have HL2 : Hid (regL (S.map (·.2)) oB = p2.2) := hid (by rw [regL_map, hp2])
      have HRk2 := hid (HM.out.regs p2 (List.mem_of_getElem? hs2))
      obtain ⟨xa2, xn2, xc2, tb2, hx2, hxr2, hxt2, _⟩ := HRk2.out.out
      have HX2 := hid hx2
      have HXr2 := hid hxr2
      have HXt2 := hid hxt2
      have HN2 := hid HRk2.out.nrm
      have HRg2 : Hid (∀ w' : World, Below w.heap.size w w' → Calls Try.prog 20 #[.pointer (some ⟨mb, 0, none⟩), .int .i64 oB] w' fun e w'' => e = .returned (.pointer (some ⟨p2.1, 0, none⟩)) ∧ w'' = w') := hid (fun w' hb => reg_walk mb a S oB p2 w' (HM.out.below hb) HO.out.fb h0s hs2)
      clear hx2 hxr2 hxt2 hs2
      have HBe1d : Hid (Below w.heap.size w w1.drew) := hid (HBe.out.trans ((Drew.below ⟨1, rfl⟩ _ : Below w1.heap.size w1 w1.drew).mono HBe.out.size))
      have HB1d : Hid (Blk w1.drew q 28 [.int .i64 5, .int .i64 oA, .int .i64 oB, .slice ia inn ic, .slice ra rn rc]) := hid HB1.out
      have HB2d : Hid (Blk w1.drew r 51 (resC 0 false 0)) := hid HB2.out
      have HQ : Hid (∀ w' : World, Below w.heap.size w w' → Below w1.heap.size w1 w' → True) := hid (fun _ _ _ => trivial)
      have Hqw : Hid (∀ w' : World, (w'.cell? ⟨q, 1, none⟩ = some (.int .i64 oA) ∧ w'.cell? ⟨q, 2, none⟩ = some (.int .i64 oB)) → Below w.heap.size w w' → w'.cell? ⟨q, 1, none⟩ = some (.int .i64 oA) ∧ w'.cell? ⟨q, 2, none⟩ = some (.int .i64 oB) ∧ Below w.heap.size w w' ∧ w'.cell? ⟨p1.1, 0, none⟩ = some (.slice xa1 xn1 xc1) ∧ w'.cell? ⟨p2.1, 0, none⟩ = some (.slice xa2 xn2 xc2)) := hid (fun w' hc hb => ⟨hc.1, hc.2, hb, by rw [hb.cell HX1.out.lt]; exact HX1.out.cell 0, by rw [hb.cell HX2.out.lt]; exact HX2.out.cell 0⟩)
      have hqc : w1.drew.cell? ⟨q, 1, none⟩ = some (.int .i64 oA) ∧ w1.drew.cell? ⟨q, 2, none⟩ = some (.int .i64 oB) := ⟨HB1d.out.cell 1, HB1d.out.cell 2⟩
      have Hqc := hid hqc
      clear hqc
      go_upto_region 19 with fail
      refine wp_region_heavy (fun w' => w'.cell? ⟨q, 1, none⟩ = some (.int .i64 oA) ∧ w'.cell? ⟨q, 2, none⟩ = some (.int .i64 oB) ∧ Below w.heap.size w w' ∧ w'.cell? ⟨p1.1, 0, none⟩ = some (.slice xa1 xn1 xc1) ∧ w'.cell? ⟨p2.1, 0, none⟩ = some (.slice xa2 xn2 xc2)) 18 [0, 1, 2, 3, 4, 5, 6, 7, 8, 9, 10, 11, 12, 13, 14] [15, 16, 17] rfl (by kernel_rfl) (by kernel_rfl) (fun d _ _ _ _ h => by cases d <;> exact h) (Hqw.out _ Hqc.out HBe1d.out) ?_
      apply Exists.intro
      refine ⟨?_, ?_⟩
      · intro W hW
        have d0 : ∀ x, (W x).cell? ⟨q, 1, none⟩ = some (.int .i64 oA) := fun x => (hW x).1
        have d1 : ∀ x, (W x).cell? ⟨q, 2, none⟩ = some (.int .i64 oB) := fun x => (hW x).2.1
        have HR1 : Hid (∀ x, Calls Try.prog 20 #[.pointer (some ⟨mb, 0, none⟩), .int .i64 oA] (W x) fun e w'' => e = .returned (.pointer (some ⟨p1.1, 0, none⟩)) ∧ w'' = W x) := hid (fun x => HRg1.out _ (hW x).2.2.1)
        have d3 : ∀ x, (W x).cell? ⟨p1.1, 0, none⟩ = some (.slice xa1 xn1 xc1) := fun x => (hW x).2.2.2.1
        have d4 : ∀ x, (W x).cell? ⟨p2.1, 0, none⟩ = some (.slice xa2 xn2 xc2) := fun x => (hW x).2.2.2.2
        have HR2 : Hid (∀ x, Calls Try.prog 20 #[.pointer (some ⟨mb, 0, none⟩), .int .i64 oB] (W x) fun e w'' => e = .returned (.pointer (some ⟨p2.1, 0, none⟩)) ∧ w'' = W x) := hid (fun x => HRg2.out _ (hW x).2.2.1)
        clear hW
        simp only [List.take, opsAt, List.drop, List.cons_append, List.nil_append]
        repeat (go_big_quiet_step ((go_at_call 20; first | (with_reducible exact Calls.class_same (HR1.out _)) | (with_reducible exact Calls.class_same (HR2.out _)))))
        exact rfl
      simp only [List.take, List.drop, opsAt, List.cons_append, List.nil_append, wpHv]
      generalize w1.drew = w1d at HBe1d HB1d HB2d Hqc ⊢
      have HSs : Hid (∀ w' : World, Below w1d.heap.size w1d w' → w'.cell? ⟨q, 1, none⟩ = some (.int .i64 oA) ∧ w'.cell? ⟨q, 2, none⟩ = some (.int .i64 oB) ∧ Below w.heap.size w w' ∧ w'.cell? ⟨p1.1, 0, none⟩ = some (.slice xa1 xn1 xc1) ∧ w'.cell? ⟨p2.1, 0, none⟩ = some (.slice xa2 xn2 xc2)) := hid (fun w' hb => Hqw.out w' ⟨by rw [hb.cell HB1d.out.lt]; exact Hqc.out.1, by rw [hb.cell HB1d.out.lt]; exact Hqc.out.2⟩ (HBe1d.out.trans (hb.mono HBe1d.out.size)))
      go_wp2_with fail
      refine (union_walk xa1 xn1 xc1 p1.2 xa2 xn2 xc2 p2.2 w1d (HXr1.out.below HBe1d.out) (HXr2.out.below HBe1d.out) HN1.out HN2.out (HXt1.out.below HBe1d.out) (HXt2.out.below HBe1d.out)).mono ?_
      rintro e w2 hcp
      obtain ⟨⟨ca, cn, cc, cl, rfl, hrow, hN, hm, hty⟩, hb⟩ := hcp
      have HRow := hid hrow
      have HTy := hid hty
      have Hm := hid hm
      have HB12 := hid hb
      have HBc : Hid (Below w.heap.size w w2) := hid (HBe1d.out.trans (hb.mono HBe1d.out.size))
      have HRs := hid (HB2d.out.below hb)
      clear hrow hty hm hb
      go_wp2_with fail
      refine ⟨HSs.out w2 HB12.out, ?_⟩
      obtain ⟨q5, hq5⟩ : ∃ q5, w2.heap.size = q5 := ⟨_, rfl⟩
      have hbq := Blk.new w2 [.slice ca cn cc] 30
      rw [hq5] at hbq
      obtain ⟨w6, hw6⟩ : ∃ w6, w2.alloc (.cells #[.slice ca cn cc] 30) = w6 := ⟨_, rfl⟩
      have hw6' : w2.alloc (.cells [Value.slice ca cn cc].toArray 30) = w6 := hw6
      rw [hw6'] at hbq
      have HBe6 : Hid (Below w2.heap.size w2 w6) := hid (by rw [← hw6]; exact nbel w2 _)
      have Hcq : Hid (w6.cell? ⟨q5, 0, none⟩ = some (.slice ca cn cc)) := hid (hbq.cell 0)
      have HF6 : Hid (Fl w6 30 none 0 0 []) := hid (Fl.nil _ _)
      clear hbq hw6'
      go_wp2_with fail
      try simp only [hw6]
      clear hw6
      refine ⟨HSs.out w6 (HB12.out.trans (HBe6.out.mono HB12.out.size)), ?_⟩
      go_wp2_with (at_builtin; refine wpList_append_file rfl (.tmp 73) (.tmp 89) 77 rfl 30 j0 (.agg #[.slice none 0 0]) 24 Try.underlying77 HJ.out.1 HJ.out.2.1 HJ.out.2.2.1 HJ.out.2.2.2 rfl none 0 0 [] rfl HF6.out q5 1 (.slice ca cn cc) rfl Hcq.out rfl (by decide) (by decide) ?_; intro a7 c7 w7 hf7 hu7 hb7 hn7; have HF7 := hid hf7; have HU7 := hid hu7; clear hf7 hu7 hb7 hn7)
      refine ⟨HSs.out w7 (HB12.out.trans ((HBe6.out.trans (HU7.out.below HBe6.out.size (fun k hk => by cases hk))).mono HB12.out.size)), ?_⟩
      simp only [QN]
      go_wp2_with fail
      go_meet
      case rel => exact ⟨a7, 1, c7, rfl, hid (SwP.one HBc.out HRs.out HRow.out hN HTy.out (f := _) (fun x h0 h1 => Hm.out x h0 h1) HBe6.out HU7.out HF7.out (by simp only [kindF]; simp; rw [HL1.out, HL2.out]) HNe2.out)⟩
    · as_aux_lemma =>
      have h0 : 0 < n := HNe.out rfl
      have h0s : 0 < S.length := by rw [Hn.out]; exact h0
      obtain ⟨p1, hp1⟩ : ∃ p, S.getD (regIx S.length oA) (0, []) = p := ⟨_, rfl⟩
      have hs1 : S[regIx S.length oA]? = some p1 := by rw [← hp1]; exact regAt h0s oA
      have HL1 : Hid (regL (S.map (·.2)) oA = p1.2) := hid (by rw [regL_map, hp1])
      have HRk1 := hid (HM.out.regs p1 (List.mem_of_getElem? hs1))
      obtain ⟨xa1, xn1, xc1, tb1, hx1, hxr1, hxt1, _⟩ := HRk1.out.out
      have HX1 := hid hx1
      have HXr1 := hid hxr1
      have HXt1 := hid hxt1
      have HN1 := hid HRk1.out.nrm
      have HRg1 : Hid (∀ w' : World, Below w.heap.size w w' → Calls Try.prog 20 #[.pointer (some ⟨mb, 0, none⟩), .int .i64 oA] w' fun e w'' => e = .returned (.pointer (some ⟨p1.1, 0, none⟩)) ∧ w'' = w') := hid (fun w' hb => reg_walk mb a S oA p1 w' (HM.out.below hb) HO.out.fa h0s hs1)
      clear hx1 hxr1 hxt1 hs1
      obtain ⟨p2, hp2⟩ : ∃ p, S.getD (regIx S.length oB) (0, []) = p := ⟨_, rfl⟩
      have hs2 : S[regIx S.length oB]? = some p2 := by rw [← hp2]; exact regAt h0s oB
      have HL2 : Hid (regL (S.map (·.2)) oB = p2.2) := hid (by rw [regL_map, hp2])
      have HRk2 := hid (HM.out.regs p2 (List.mem_of_getElem? hs2))
      obtain ⟨xa2, xn2, xc2, tb2, hx2, hxr2, hxt2, _⟩ := HRk2.out.out
      have HX2 := hid hx2
      have HXr2 := hid hxr2
      have HXt2 := hid hxt2
      have HN2 := hid HRk2.out.nrm
      have HRg2 : Hid (∀ w' : World, Below w.heap.size w w' → Calls Try.prog 20 #[.pointer (some ⟨mb, 0, none⟩), .int .i64 oB] w' fun e w'' => e = .returned (.pointer (some ⟨p2.1, 0, none⟩)) ∧ w'' = w') := hid (fun w' hb => reg_walk mb a S oB p2 w' (HM.out.below hb) HO.out.fb h0s hs2)
      clear hx2 hxr2 hxt2 hs2
      have HBe1d : Hid (Below w.heap.size w w1.drew) := hid (HBe.out.trans ((Drew.below ⟨1, rfl⟩ _ : Below w1.heap.size w1 w1.drew).mono HBe.out.size))
      have HB1d : Hid (Blk w1.drew q 28 [.int .i64 6, .int .i64 oA, .int .i64 oB, .slice ia inn ic, .slice ra rn rc]) := hid HB1.out
      have HB2d : Hid (Blk w1.drew r 51 (resC 0 false 0)) := hid HB2.out
      have HQ : Hid (∀ w' : World, Below w.heap.size w w' → Below w1.heap.size w1 w' → True) := hid (fun _ _ _ => trivial)
      have Hqw : Hid (∀ w' : World, (w'.cell? ⟨q, 1, none⟩ = some (.int .i64 oA) ∧ w'.cell? ⟨q, 2, none⟩ = some (.int .i64 oB)) → Below w.heap.size w w' → w'.cell? ⟨q, 1, none⟩ = some (.int .i64 oA) ∧ w'.cell? ⟨q, 2, none⟩ = some (.int .i64 oB) ∧ Below w.heap.size w w' ∧ w'.cell? ⟨p1.1, 0, none⟩ = some (.slice xa1 xn1 xc1) ∧ w'.cell? ⟨p2.1, 0, none⟩ = some (.slice xa2 xn2 xc2)) := hid (fun w' hc hb => ⟨hc.1, hc.2, hb, by rw [hb.cell HX1.out.lt]; exact HX1.out.cell 0, by rw [hb.cell HX2.out.lt]; exact HX2.out.cell 0⟩)
      have hqc : w1.drew.cell? ⟨q, 1, none⟩ = some (.int .i64 oA) ∧ w1.drew.cell? ⟨q, 2, none⟩ = some (.int .i64 oB) := ⟨HB1d.out.cell 1, HB1d.out.cell 2⟩
      have Hqc := hid hqc
      clear hqc
      go_upto_region 21 with fail
      refine wp_region_heavy (fun w' => w'.cell? ⟨q, 1, none⟩ = some (.int .i64 oA) ∧ w'.cell? ⟨q, 2, none⟩ = some (.int .i64 oB) ∧ Below w.heap.size w w' ∧ w'.cell? ⟨p1.1, 0, none⟩ = some (.slice xa1 xn1 xc1) ∧ w'.cell? ⟨p2.1, 0, none⟩ = some (.slice xa2 xn2 xc2)) 18 [0, 1, 2, 3, 4, 5, 6, 7, 8, 9, 10, 11, 12, 13, 14] [15, 16, 17] rfl (by kernel_rfl) (by kernel_rfl) (fun d _ _ _ _ h => by cases d <;> exact h) (Hqw.out _ Hqc.out HBe1d.out) ?_
      apply Exists.intro
      refine ⟨?_, ?_⟩
      · intro W hW
        have d0 : ∀ x, (W x).cell? ⟨q, 1, none⟩ = some (.int .i64 oA) := fun x => (hW x).1
        have d1 : ∀ x, (W x).cell? ⟨q, 2, none⟩ = some (.int .i64 oB) := fun x => (hW x).2.1
        have HR1 : Hid (∀ x, Calls Try.prog 20 #[.pointer (some ⟨mb, 0, none⟩), .int .i64 oA] (W x) fun e w'' => e = .returned (.pointer (some ⟨p1.1, 0, none⟩)) ∧ w'' = W x) := hid (fun x => HRg1.out _ (hW x).2.2.1)
        have d3 : ∀ x, (W x).cell? ⟨p1.1, 0, none⟩ = some (.slice xa1 xn1 xc1) := fun x => (hW x).2.2.2.1
        have d4 : ∀ x, (W x).cell? ⟨p2.1, 0, none⟩ = some (.slice xa2 xn2 xc2) := fun x => (hW x).2.2.2.2
        have HR2 : Hid (∀ x, Calls Try.prog 20 #[.pointer (some ⟨mb, 0, none⟩), .int .i64 oB] (W x) fun e w'' => e = .returned (.pointer (some ⟨p2.1, 0, none⟩)) ∧ w'' = W x) := hid (fun x => HRg2.out _ (hW x).2.2.1)
        clear hW
        simp only [List.take, opsAt, List.drop, List.cons_append, List.nil_append]
        repeat (go_big_quiet_step ((go_at_call 20; first | (with_reducible exact Calls.class_same (HR1.out _)) | (with_reducible exact Calls.class_same (HR2.out _)))))
        exact rfl
      simp only [List.take, List.drop, opsAt, List.cons_append, List.nil_append, wpHv]
      generalize w1.drew = w1d at HBe1d HB1d HB2d Hqc ⊢
      have HSs : Hid (∀ w' : World, Below w1d.heap.size w1d w' → w'.cell? ⟨q, 1, none⟩ = some (.int .i64 oA) ∧ w'.cell? ⟨q, 2, none⟩ = some (.int .i64 oB) ∧ Below w.heap.size w w' ∧ w'.cell? ⟨p1.1, 0, none⟩ = some (.slice xa1 xn1 xc1) ∧ w'.cell? ⟨p2.1, 0, none⟩ = some (.slice xa2 xn2 xc2)) := hid (fun w' hb => Hqw.out w' ⟨by rw [hb.cell HB1d.out.lt]; exact Hqc.out.1, by rw [hb.cell HB1d.out.lt]; exact Hqc.out.2⟩ (HBe1d.out.trans (hb.mono HBe1d.out.size)))
      go_wp2_with fail
      refine (inter_walk xa1 xn1 xc1 p1.2 xa2 xn2 xc2 p2.2 w1d (HXr1.out.below HBe1d.out) (HXr2.out.below HBe1d.out) HN1.out HN2.out).mono ?_
      rintro e w2 hcp
      obtain ⟨⟨ca, cn, cc, cl, rfl, hrow, hN, hm, hty⟩, hb⟩ := hcp
      have HRow := hid hrow
      have HTy := hid hty
      have Hm := hid hm
      have HB12 := hid hb
      have HBc : Hid (Below w.heap.size w w2) := hid (HBe1d.out.trans (hb.mono HBe1d.out.size))
      have HRs := hid (HB2d.out.below hb)
      clear hrow hty hm hb
      go_wp2_with fail
      refine ⟨HSs.out w2 HB12.out, ?_⟩
      obtain ⟨q5, hq5⟩ : ∃ q5, w2.heap.size = q5 := ⟨_, rfl⟩
      have hbq := Blk.new w2 [.slice ca cn cc] 30
      rw [hq5] at hbq
      obtain ⟨w6, hw6⟩ : ∃ w6, w2.alloc (.cells #[.slice ca cn cc] 30) = w6 := ⟨_, rfl⟩
      have hw6' : w2.alloc (.cells [Value.slice ca cn cc].toArray 30) = w6 := hw6
      rw [hw6'] at hbq
      have HBe6 : Hid (Below w2.heap.size w2 w6) := hid (by rw [← hw6]; exact nbel w2 _)
      have Hcq : Hid (w6.cell? ⟨q5, 0, none⟩ = some (.slice ca cn cc)) := hid (hbq.cell 0)
      have HF6 : Hid (Fl w6 30 none 0 0 []) := hid (Fl.nil _ _)
      clear hbq hw6'
      go_wp2_with fail
      try simp only [hw6]
      clear hw6
      refine ⟨HSs.out w6 (HB12.out.trans (HBe6.out.mono HB12.out.size)), ?_⟩
      go_wp2_with (at_builtin; refine wpList_append_file rfl (.tmp 93) (.tmp 109) 77 rfl 30 j0 (.agg #[.slice none 0 0]) 24 Try.underlying77 HJ.out.1 HJ.out.2.1 HJ.out.2.2.1 HJ.out.2.2.2 rfl none 0 0 [] rfl HF6.out q5 1 (.slice ca cn cc) rfl Hcq.out rfl (by decide) (by decide) ?_; intro a7 c7 w7 hf7 hu7 hb7 hn7; have HF7 := hid hf7; have HU7 := hid hu7; clear hf7 hu7 hb7 hn7)
      refine ⟨HSs.out w7 (HB12.out.trans ((HBe6.out.trans (HU7.out.below HBe6.out.size (fun k hk => by cases hk))).mono HB12.out.size)), ?_⟩
      simp only [QN]
      go_wp2_with fail
      go_meet
      case rel => exact ⟨a7, 1, c7, rfl, hid (SwP.one HBc.out HRs.out HRow.out hN HTy.out (f := _) (fun x h0 h1 => Hm.out x h0 h1) HBe6.out HU7.out HF7.out (by simp only [kindF]; simp; rw [HL1.out, HL2.out]) HNe2.out)⟩
    · as_aux_lemma =>
      have h0 : 0 < n := HNe.out rfl
      have h0s : 0 < S.length := by rw [Hn.out]; exact h0
      obtain ⟨p1, hp1⟩ : ∃ p, S.getD (regIx S.length oA) (0, []) = p := ⟨_, rfl⟩
      have hs1 : S[regIx S.length oA]? = some p1 := by rw [← hp1]; exact regAt h0s oA
      have HL1 : Hid (regL (S.map (·.2)) oA = p1.2) := hid (by rw [regL_map, hp1])
      have HRk1 := hid (HM.out.regs p1 (List.mem_of_getElem? hs1))
      obtain ⟨xa1, xn1, xc1, tb1, hx1, hxr1, hxt1, _⟩ := HRk1.out.out
      have HX1 := hid hx1
      have HXr1 := hid hxr1
      have HXt1 := hid hxt1
      have HN1 := hid HRk1.out.nrm
      have HRg1 : Hid (∀ w' : World, Below w.heap.size w w' → Calls Try.prog 20 #[.pointer (some ⟨mb, 0, none⟩), .int .i64 oA] w' fun e w'' => e = .returned (.pointer (some ⟨p1.1, 0, none⟩)) ∧ w'' = w') := hid (fun w' hb => reg_walk mb a S oA p1 w' (HM.out.below hb) HO.out.fa h0s hs1)
      clear hx1 hxr1 hxt1 hs1
      obtain ⟨p2, hp2⟩ : ∃ p, S.getD (regIx S.length oB) (0, []) = p := ⟨_, rfl⟩
      have hs2 : S[regIx S.length oB]? = some p2 := by rw [← hp2]; exact regAt h0s oB
      have HL2 : Hid (regL (S.map (·.2)) oB = p2.2) := hid (by rw [regL_map, hp2])
      have HRk2 := hid (HM.out.regs p2 (List.mem_of_getElem? hs2))
      obtain ⟨xa2, xn2, xc2, tb2, hx2, hxr2, hxt2, _⟩ := HRk2.out.out
      have HX2 := hid hx2
      have HXr2 := hid hxr2
      have HXt2 := hid hxt2
      have HN2 := hid HRk2.out.nrm
      have HRg2 : Hid (∀ w' : World, Below w.heap.size w w' → Calls Try.prog 20 #[.pointer (some ⟨mb, 0, none⟩), .int .i64 oB] w' fun e w'' => e = .returned (.pointer (some ⟨p2.1, 0, none⟩)) ∧ w'' = w') := hid (fun w' hb => reg_walk mb a S oB p2 w' (HM.out.below hb) HO.out.fb h0s hs2)
      clear hx2 hxr2 hxt2 hs2
      have HBe1d : Hid (Below w.heap.size w w1.drew) := hid (HBe.out.trans ((Drew.below ⟨1, rfl⟩ _ : Below w1.heap.size w1 w1.drew).mono HBe.out.size))
      have HB1d : Hid (Blk w1.drew q 28 [.int .i64 7, .int .i64 oA, .int .i64 oB, .slice ia inn ic, .slice ra rn rc]) := hid HB1.out
      have HB2d : Hid (Blk w1.drew r 51 (resC 0 false 0)) := hid HB2.out
      have HQ : Hid (∀ w' : World, Below w.heap.size w w' → Below w1.heap.size w1 w' → True) := hid (fun _ _ _ => trivial)
      have Hqw : Hid (∀ w' : World, (w'.cell? ⟨q, 1, none⟩ = some (.int .i64 oA) ∧ w'.cell? ⟨q, 2, none⟩ = some (.int .i64 oB)) → Below w.heap.size w w' → w'.cell? ⟨q, 1, none⟩ = some (.int .i64 oA) ∧ w'.cell? ⟨q, 2, none⟩ = some (.int .i64 oB) ∧ Below w.heap.size w w' ∧ w'.cell? ⟨p1.1, 0, none⟩ = some (.slice xa1 xn1 xc1) ∧ w'.cell? ⟨p2.1, 0, none⟩ = some (.slice xa2 xn2 xc2)) := hid (fun w' hc hb => ⟨hc.1, hc.2, hb, by rw [hb.cell HX1.out.lt]; exact HX1.out.cell 0, by rw [hb.cell HX2.out.lt]; exact HX2.out.cell 0⟩)
      have hqc : w1.drew.cell? ⟨q, 1, none⟩ = some (.int .i64 oA) ∧ w1.drew.cell? ⟨q, 2, none⟩ = some (.int .i64 oB) := ⟨HB1d.out.cell 1, HB1d.out.cell 2⟩
      have Hqc := hid hqc
      clear hqc
      go_upto_region 23 with fail
      refine wp_region_heavy (fun w' => w'.cell? ⟨q, 1, none⟩ = some (.int .i64 oA) ∧ w'.cell? ⟨q, 2, none⟩ = some (.int .i64 oB) ∧ Below w.heap.size w w' ∧ w'.cell? ⟨p1.1, 0, none⟩ = some (.slice xa1 xn1 xc1) ∧ w'.cell? ⟨p2.1, 0, none⟩ = some (.slice xa2 xn2 xc2)) 18 [0, 1, 2, 3, 4, 5, 6, 7, 8, 9, 10, 11, 12, 13, 14] [15, 16, 17] rfl (by kernel_rfl) (by kernel_rfl) (fun d _ _ _ _ h => by cases d <;> exact h) (Hqw.out _ Hqc.out HBe1d.out) ?_
      apply Exists.intro
      refine ⟨?_, ?_⟩
      · intro W hW
        have d0 : ∀ x, (W x).cell? ⟨q, 1, none⟩ = some (.int .i64 oA) := fun x => (hW x).1
        have d1 : ∀ x, (W x).cell? ⟨q, 2, none⟩ = some (.int .i64 oB) := fun x => (hW x).2.1
        have HR1 : Hid (∀ x, Calls Try.prog 20 #[.pointer (some ⟨mb, 0, none⟩), .int .i64 oA] (W x) fun e w'' => e = .returned (.pointer (some ⟨p1.1, 0, none⟩)) ∧ w'' = W x) := hid (fun x => HRg1.out _ (hW x).2.2.1)
        have d3 : ∀ x, (W x).cell? ⟨p1.1, 0, none⟩ = some (.slice xa1 xn1 xc1) := fun x => (hW x).2.2.2.1
        have d4 : ∀ x, (W x).cell? ⟨p2.1, 0, none⟩ = some (.slice xa2 xn2 xc2) := fun x => (hW x).2.2.2.2
        have HR2 : Hid (∀ x, Calls Try.prog 20 #[.pointer (some ⟨mb, 0, none⟩), .int .i64 oB] (W x) fun e w'' => e = .returned (.pointer (some ⟨p2.1, 0, none⟩)) ∧ w'' = W x) := hid (fun x => HRg2.out _ (hW x).2.2.1)
        clear hW
        simp only [List.take, opsAt, List.drop, List.cons_append, List.nil_append]
        repeat (go_big_quiet_step ((go_at_call 20; first | (with_reducible exact Calls.class_same (HR1.out _)) | (with_reducible exact Calls.class_same (HR2.out _)))))
        exact rfl
      simp only [List.take, List.drop, opsAt, List.cons_append, List.nil_append, wpHv]
      generalize w1.drew = w1d at HBe1d HB1d HB2d Hqc ⊢
      have HSs : Hid (∀ w' : World, Below w1d.heap.size w1d w' → w'.cell? ⟨q, 1, none⟩ = some (.int .i64 oA) ∧ w'.cell? ⟨q, 2, none⟩ = some (.int .i64 oB) ∧ Below w.heap.size w w' ∧ w'.cell? ⟨p1.1, 0, none⟩ = some (.slice xa1 xn1 xc1) ∧ w'.cell? ⟨p2.1, 0, none⟩ = some (.slice xa2 xn2 xc2)) := hid (fun w' hb => Hqw.out w' ⟨by rw [hb.cell HB1d.out.lt]; exact Hqc.out.1, by rw [hb.cell HB1d.out.lt]; exact Hqc.out.2⟩ (HBe1d.out.trans (hb.mono HBe1d.out.size)))
      go_wp2_with fail
      refine (diff_walk xa1 xn1 xc1 p1.2 xa2 xn2 xc2 p2.2 w1d (HXr1.out.below HBe1d.out) (HXr2.out.below HBe1d.out) HN1.out HN2.out (HXt1.out.below HBe1d.out)).mono ?_
      rintro e w2 hcp
      obtain ⟨⟨ca, cn, cc, cl, rfl, hrow, hN, hm, hty⟩, hb⟩ := hcp
      have HRow := hid hrow
      have HTy := hid hty
      have Hm := hid hm
      have HB12 := hid hb
      have HBc : Hid (Below w.heap.size w w2) := hid (HBe1d.out.trans (hb.mono HBe1d.out.size))
      have HRs := hid (HB2d.out.below hb)
      clear hrow hty hm hb
      go_wp2_with fail
      refine ⟨HSs.out w2 HB12.out, ?_⟩
      obtain ⟨q5, hq5⟩ : ∃ q5, w2.heap.size = q5 := ⟨_, rfl⟩
      have hbq := Blk.new w2 [.slice ca cn cc] 30
      rw [hq5] at hbq
      obtain ⟨w6, hw6⟩ : ∃ w6, w2.alloc (.cells #[.slice ca cn cc] 30) = w6 := ⟨_, rfl⟩
      have hw6' : w2.alloc (.cells [Value.slice ca cn cc].toArray 30) = w6 := hw6
      rw [hw6'] at hbq
      have HBe6 : Hid (Below w2.heap.size w2 w6) := hid (by rw [← hw6]; exact nbel w2 _)
      have Hcq : Hid (w6.cell? ⟨q5, 0, none⟩ = some (.slice ca cn cc)) := hid (hbq.cell 0)
      have HF6 : Hid (Fl w6 30 none 0 0 []) := hid (Fl.nil _ _)
      clear hbq hw6'
      go_wp2_with fail
      try simp only [hw6]
      clear hw6
      refine ⟨HSs.out w6 (HB12.out.trans (HBe6.out.mono HB12.out.size)), ?_⟩
      go_wp2_with (at_builtin; refine wpList_append_file rfl (.tmp 113) (.tmp 129) 77 rfl 30 j0 (.agg #[.slice none 0 0]) 24 Try.underlying77 HJ.out.1 HJ.out.2.1 HJ.out.2.2.1 HJ.out.2.2.2 rfl none 0 0 [] rfl HF6.out q5 1 (.slice ca cn cc) rfl Hcq.out rfl (by decide) (by decide) ?_; intro a7 c7 w7 hf7 hu7 hb7 hn7; have HF7 := hid hf7; have HU7 := hid hu7; clear hf7 hu7 hb7 hn7)
      refine ⟨HSs.out w7 (HB12.out.trans ((HBe6.out.trans (HU7.out.below HBe6.out.size (fun k hk => by cases hk))).mono HB12.out.size)), ?_⟩
      simp only [QN]
      go_wp2_with fail
      go_meet
      case rel => exact ⟨a7, 1, c7, rfl, hid (SwP.one HBc.out HRs.out HRow.out hN HTy.out (f := _) (fun x h0 h1 => Hm.out x h0 h1) HBe6.out HU7.out HF7.out (by simp only [kindF]; simp; rw [HL1.out, HL2.out]) HNe2.out)⟩
    · as_aux_lemma =>
      have h0 : 0 < n := HNe.out rfl
      have h0s : 0 < S.length := by rw [Hn.out]; exact h0
      obtain ⟨p1, hp1⟩ : ∃ p, S.getD (regIx S.length oA) (0, []) = p := ⟨_, rfl⟩
      have hs1 : S[regIx S.length oA]? = some p1 := by rw [← hp1]; exact regAt h0s oA
      have HL1 : Hid (regL (S.map (·.2)) oA = p1.2) := hid (by rw [regL_map, hp1])
      have HRk1 := hid (HM.out.regs p1 (List.mem_of_getElem? hs1))
      obtain ⟨xa1, xn1, xc1, tb1, hx1, hxr1, hxt1, _⟩ := HRk1.out.out
      have HX1 := hid hx1
      have HXr1 := hid hxr1
      have HXt1 := hid hxt1
      have HN1 := hid HRk1.out.nrm
      have HRg1 : Hid (∀ w' : World, Below w.heap.size w w' → Calls Try.prog 20 #[.pointer (some ⟨mb, 0, none⟩), .int .i64 oA] w' fun e w'' => e = .returned (.pointer (some ⟨p1.1, 0, none⟩)) ∧ w'' = w') := hid (fun w' hb => reg_walk mb a S oA p1 w' (HM.out.below hb) HO.out.fa h0s hs1)
      clear hx1 hxr1 hxt1 hs1
      obtain ⟨p2, hp2⟩ : ∃ p, S.getD (regIx S.length oB) (0, []) = p := ⟨_, rfl⟩
      have hs2 : S[regIx S.length oB]? = some p2 := by rw [← hp2]; exact regAt h0s oB
      have HL2 : Hid (regL (S.map (·.2)) oB = p2.2) := hid (by rw [regL_map, hp2])
      have HRk2 := hid (HM.out.regs p2 (List.mem_of_getElem? hs2))
      obtain ⟨xa2, xn2, xc2, tb2, hx2, hxr2, hxt2, _⟩ := HRk2.out.out
      have HX2 := hid hx2
      have HXr2 := hid hxr2
      have HXt2 := hid hxt2
      have HN2 := hid HRk2.out.nrm
      have HRg2 : Hid (∀ w' : World, Below w.heap.size w w' → Calls Try.prog 20 #[.pointer (some ⟨mb, 0, none⟩), .int .i64 oB] w' fun e w'' => e = .returned (.pointer (some ⟨p2.1, 0, none⟩)) ∧ w'' = w') := hid (fun w' hb => reg_walk mb a S oB p2 w' (HM.out.below hb) HO.out.fb h0s hs2)
      clear hx2 hxr2 hxt2 hs2
      have HBe1d : Hid (Below w.heap.size w w1.drew) := hid (HBe.out.trans ((Drew.below ⟨1, rfl⟩ _ : Below w1.heap.size w1 w1.drew).mono HBe.out.size))
      have HB1d : Hid (Blk w1.drew q 28 [.int .i64 8, .int .i64 oA, .int .i64 oB, .slice ia inn ic, .slice ra rn rc]) := hid HB1.out
      have HB2d : Hid (Blk w1.drew r 51 (resC 0 false 0)) := hid HB2.out
      have HQ : Hid (∀ w' : World, Below w.heap.size w w' → Below w1.heap.size w1 w' → True) := hid (fun _ _ _ => trivial)
      have Hqw : Hid (∀ w' : World, (w'.cell? ⟨q, 1, none⟩ = some (.int .i64 oA) ∧ w'.cell? ⟨q, 2, none⟩ = some (.int .i64 oB)) → Below w.heap.size w w' → w'.cell? ⟨q, 1, none⟩ = some (.int .i64 oA) ∧ w'.cell? ⟨q, 2, none⟩ = some (.int .i64 oB) ∧ Below w.heap.size w w' ∧ w'.cell? ⟨p1.1, 0, none⟩ = some (.slice xa1 xn1 xc1) ∧ w'.cell? ⟨p2.1, 0, none⟩ = some (.slice xa2 xn2 xc2)) := hid (fun w' hc hb => ⟨hc.1, hc.2, hb, by rw [hb.cell HX1.out.lt]; exact HX1.out.cell 0, by rw [hb.cell HX2.out.lt]; exact HX2.out.cell 0⟩)
      have hqc : w1.drew.cell? ⟨q, 1, none⟩ = some (.int .i64 oA) ∧ w1.drew.cell? ⟨q, 2, none⟩ = some (.int .i64 oB) := ⟨HB1d.out.cell 1, HB1d.out.cell 2⟩
      have Hqc := hid hqc
      clear hqc
      go_upto_region 25 with fail
      refine wp_region_heavy (fun w' => w'.cell? ⟨q, 1, none⟩ = some (.int .i64 oA) ∧ w'.cell? ⟨q, 2, none⟩ = some (.int .i64 oB) ∧ Below w.heap.size w w' ∧ w'.cell? ⟨p1.1, 0, none⟩ = some (.slice xa1 xn1 xc1) ∧ w'.cell? ⟨p2.1, 0, none⟩ = some (.slice xa2 xn2 xc2)) 18 [0, 1, 2, 3, 4, 5, 6, 7, 8, 9, 10, 11, 12, 13, 14] [15, 16, 17] rfl (by kernel_rfl) (by kernel_rfl) (fun d _ _ _ _ h => by cases d <;> exact h) (Hqw.out _ Hqc.out HBe1d.out) ?_
      apply Exists.intro
      refine ⟨?_, ?_⟩
      · intro W hW
        have d0 : ∀ x, (W x).cell? ⟨q, 1, none⟩ = some (.int .i64 oA) := fun x => (hW x).1
        have d1 : ∀ x, (W x).cell? ⟨q, 2, none⟩ = some (.int .i64 oB) := fun x => (hW x).2.1
        have HR1 : Hid (∀ x, Calls Try.prog 20 #[.pointer (some ⟨mb, 0, none⟩), .int .i64 oA] (W x) fun e w'' => e = .returned (.pointer (some ⟨p1.1, 0, none⟩)) ∧ w'' = W x) := hid (fun x => HRg1.out _ (hW x).2.2.1)
        have d3 : ∀ x, (W x).cell? ⟨p1.1, 0, none⟩ = some (.slice xa1 xn1 xc1) := fun x => (hW x).2.2.2.1
        have d4 : ∀ x, (W x).cell? ⟨p2.1, 0, none⟩ = some (.slice xa2 xn2 xc2) := fun x => (hW x).2.2.2.2
        have HR2 : Hid (∀ x, Calls Try.prog 20 #[.pointer (some ⟨mb, 0, none⟩), .int .i64 oB] (W x) fun e w'' => e = .returned (.pointer (some ⟨p2.1, 0, none⟩)) ∧ w'' = W x) := hid (fun x => HRg2.out _ (hW x).2.2.1)
        clear hW
        simp only [List.take, opsAt, List.drop, List.cons_append, List.nil_append]
        repeat (go_big_quiet_step ((go_at_call 20; first | (with_reducible exact Calls.class_same (HR1.out _)) | (with_reducible exact Calls.class_same (HR2.out _)))))
        exact rfl
      simp only [List.take, List.drop, opsAt, List.cons_append, List.nil_append, wpHv]
      generalize w1.drew = w1d at HBe1d HB1d HB2d Hqc ⊢
      have HSs : Hid (∀ w' : World, Below w1d.heap.size w1d w' → w'.cell? ⟨q, 1, none⟩ = some (.int .i64 oA) ∧ w'.cell? ⟨q, 2, none⟩ = some (.int .i64 oB) ∧ Below w.heap.size w w' ∧ w'.cell? ⟨p1.1, 0, none⟩ = some (.slice xa1 xn1 xc1) ∧ w'.cell? ⟨p2.1, 0, none⟩ = some (.slice xa2 xn2 xc2)) := hid (fun w' hb => Hqw.out w' ⟨by rw [hb.cell HB1d.out.lt]; exact Hqc.out.1, by rw [hb.cell HB1d.out.lt]; exact Hqc.out.2⟩ (HBe1d.out.trans (hb.mono HBe1d.out.size)))
      go_wp2_with fail
      refine (xor_walk xa1 xn1 xc1 p1.2 xa2 xn2 xc2 p2.2 w1d (HXr1.out.below HBe1d.out) (HXr2.out.below HBe1d.out) HN1.out HN2.out (HXt1.out.below HBe1d.out) (HXt2.out.below HBe1d.out)).mono ?_
      rintro e w2 hcp
      obtain ⟨⟨ca, cn, cc, cl, rfl, hrow, hN, hm, hty⟩, hb⟩ := hcp
      have HRow := hid hrow
      have HTy := hid hty
      have Hm := hid hm
      have HB12 := hid hb
      have HBc : Hid (Below w.heap.size w w2) := hid (HBe1d.out.trans (hb.mono HBe1d.out.size))
      have HRs := hid (HB2d.out.below hb)
      clear hrow hty hm hb
      go_wp2_with fail
      refine ⟨HSs.out w2 HB12.out, ?_⟩
      obtain ⟨q5, hq5⟩ : ∃ q5, w2.heap.size = q5 := ⟨_, rfl⟩
      have hbq := Blk.new w2 [.slice ca cn cc] 30
      rw [hq5] at hbq
      obtain ⟨w6, hw6⟩ : ∃ w6, w2.alloc (.cells #[.slice ca cn cc] 30) = w6 := ⟨_, rfl⟩
      have hw6' : w2.alloc (.cells [Value.slice ca cn cc].toArray 30) = w6 := hw6
      rw [hw6'] at hbq
      have HBe6 : Hid (Below w2.heap.size w2 w6) := hid (by rw [← hw6]; exact nbel w2 _)
      have Hcq : Hid (w6.cell? ⟨q5, 0, none⟩ = some (.slice ca cn cc)) := hid (hbq.cell 0)
      have HF6 : Hid (Fl w6 30 none 0 0 []) := hid (Fl.nil _ _)
      clear hbq hw6'
      go_wp2_with fail
      try simp only [hw6]
      clear hw6
      refine ⟨HSs.out w6 (HB12.out.trans (HBe6.out.mono HB12.out.size)), ?_⟩
      go_wp2_with (at_builtin; refine wpList_append_file rfl (.tmp 133) (.tmp 149) 77 rfl 30 j0 (.agg #[.slice none 0 0]) 24 Try.underlying77 HJ.out.1 HJ.out.2.1 HJ.out.2.2.1 HJ.out.2.2.2 rfl none 0 0 [] rfl HF6.out q5 1 (.slice ca cn cc) rfl Hcq.out rfl (by decide) (by decide) ?_; intro a7 c7 w7 hf7 hu7 hb7 hn7; have HF7 := hid hf7; have HU7 := hid hu7; clear hf7 hu7 hb7 hn7)
      refine ⟨HSs.out w7 (HB12.out.trans ((HBe6.out.trans (HU7.out.below HBe6.out.size (fun k hk => by cases hk))).mono HB12.out.size)), ?_⟩
      simp only [QN]
      go_wp2_with fail
      go_meet
      case rel => exact ⟨a7, 1, c7, rfl, hid (SwP.one HBc.out HRs.out HRow.out hN HTy.out (f := _) (fun x h0 h1 => Hm.out x h0 h1) HBe6.out HU7.out HF7.out (by simp only [kindF]; simp; rw [HL1.out, HL2.out]) HNe2.out)⟩
    · as_aux_lemma =>
      have h0 : 0 < n := HNe.out rfl
      have h0s : 0 < S.length := by rw [Hn.out]; exact h0
      obtain ⟨p1, hp1⟩ : ∃ p, S.getD (regIx S.length oA) (0, []) = p := ⟨_, rfl⟩
      have hs1 : S[regIx S.length oA]? = some p1 := by rw [← hp1]; exact regAt h0s oA
      have HL1 : Hid (regL (S.map (·.2)) oA = p1.2) := hid (by rw [regL_map, hp1])
      have HRk1 := hid (HM.out.regs p1 (List.mem_of_getElem? hs1))
      obtain ⟨xa1, xn1, xc1, tb1, hx1, hxr1, hxt1, _⟩ := HRk1.out.out
      have HX1 := hid hx1
      have HXr1 := hid hxr1
      have HXt1 := hid hxt1
      have HN1 := hid HRk1.out.nrm
      have HRg1 : Hid (∀ w' : World, Below w.heap.size w w' → Calls Try.prog 20 #[.pointer (some ⟨mb, 0, none⟩), .int .i64 oA] w' fun e w'' => e = .returned (.pointer (some ⟨p1.1, 0, none⟩)) ∧ w'' = w') := hid (fun w' hb => reg_walk mb a S oA p1 w' (HM.out.below hb) HO.out.fa h0s hs1)
      clear hx1 hxr1 hxt1 hs1
      have ca1 : w1.cell? ⟨q, 1, none⟩ = some (.int .i64 oA) := HB1.out.cell 1
      have cx1 : w1.cell? ⟨p1.1, 0, none⟩ = some (.slice xa1 xn1 xc1) := by rw [HBe.out.cell HX1.out.lt]; exact HX1.out.cell 0
      have HW := hid (compl_walk xa1 xn1 xc1 p1.2 w1 (HXr1.out.below HBe.out) HN1.out)
      have HRw := hid (HRg1.out w1 HBe.out)
      go_upto_region 27 with fail
      go_wp2_with fail
      refine HRw.out.mono ?_
      rintro e w1' ⟨rfl, rfl⟩
      go_wp2_with fail
      refine HW.out.mono ?_
      rintro e w2 hcp
      obtain ⟨⟨ca, cn, cc, cl, rfl, hrow, hN, hm, hty⟩, hb⟩ := hcp
      have HRow := hid hrow
      have HTy := hid hty
      have Hm := hid hm
      have HBc : Hid (Below w.heap.size w w2) := hid (HBe.out.trans (hb.mono HBe.out.size))
      have HRs := hid (HB2.out.below hb)
      skip
      clear hrow hty hm hb
      obtain ⟨q5, hq5⟩ : ∃ q5, w2.heap.size = q5 := ⟨_, rfl⟩
      have hbq := Blk.new w2 [.slice ca cn cc] 30
      rw [hq5] at hbq
      obtain ⟨w6, hw6⟩ : ∃ w6, w2.alloc (.cells #[.slice ca cn cc] 30) = w6 := ⟨_, rfl⟩
      have hw6' : w2.alloc (.cells [Value.slice ca cn cc].toArray 30) = w6 := hw6
      rw [hw6'] at hbq
      have HBe6 : Hid (Below w2.heap.size w2 w6) := hid (by rw [← hw6]; exact nbel w2 _)
      have Hcq : Hid (w6.cell? ⟨q5, 0, none⟩ = some (.slice ca cn cc)) := hid (hbq.cell 0)
      have HF6 : Hid (Fl w6 30 none 0 0 []) := hid (Fl.nil _ _)
      clear hbq hw6'
      go_wp2_with (at_builtin; (try simp only [hw6]); refine wpList_append_file rfl (.tmp 153) (.tmp 162) 77 rfl 30 j0 (.agg #[.slice none 0 0]) 24 Try.underlying77 HJ.out.1 HJ.out.2.1 HJ.out.2.2.1 HJ.out.2.2.2 rfl none 0 0 [] rfl HF6.out q5 1 (.slice ca cn cc) rfl Hcq.out rfl (by decide) (by decide) ?_; intro a7 c7 w7 hf7 hu7 hb7 hn7; have HF7 := hid hf7; have HU7 := hid hu7; clear hf7 hu7 hb7 hn7)
      go_meet
      case rel => exact ⟨a7, 1, c7, rfl, hid (SwP.one HBc.out HRs.out HRow.out hN HTy.out (f := _) (fun x h0 h1 => Hm.out x h0 h1) HBe6.out HU7.out HF7.out (by simp only [kindF]; simp; rw [HL1.out]) HNe2.out)⟩
    · as_aux_lemma =>
      have h0 : 0 < n := HNe.out rfl
      have h0s : 0 < S.length := by rw [Hn.out]; exact h0
      have hr5 : rn ≤ 65536 := hr
      have cg : w1.cell? ⟨q, 4, none⟩ = some (.slice ra rn rc) := HB1.out.cell 4
      have HFm := hid (family_walk mb a S ra rn rc rg w1 HM1.out h0s HO1.out.rg hr5)
      go_upto_region 29 with fail
      go_wp2_with fail
      refine HFm.out.mono ?_
      rintro e wf ⟨gf, rfl, hgf, hbf, hbe2⟩
      have hlf : ((famL S rg).map ptV).length = rn := by rw [List.length_map, famL_len]; exact HO1.out.rg.1.1
      have HRf : Hid (∀ p ∈ famL S rg, RegOk wf p.1 p.2) := hid (fun p hp => (HM1.out.regs p (famL_mem h0s hp)).below hbe2)
      have HFc := hid (classes_walk (some ⟨gf, 0, none⟩) rn rn (famL S rg) wf (Fl.made hbf hlf (by unfold maxLen; omega)) HRf.out hr5)
      have HBf : Hid (Below w.heap.size w wf) := hid (HBe.out.trans (hbe2.mono HBe.out.size))
      have HBf2 := hid (HB2.out.below hbe2)
      clear hbf hbe2
      go_wp2_with fail
      refine HFc.out.mono ?_
      rintro e wg ⟨gc, T, rfl, hgc, hbc, hclc, hbe3⟩
      have HCc := hid hclc
      have HBg : Hid (Below w.heap.size w wg) := hid (HBf.out.trans (hbe3.mono HBf.out.size))
      have HBg2 := hid (HBf2.out.below hbe3)
      have hlT : (T.map clV).length = rn := by rw [List.length_map, hclc.len, List.length_map, famL_len]; exact HO1.out.rg.1.1
      have HFg := hid (Fl.made hbc hlT (by unfold maxLen; omega))
      clear hbc hclc hbe3 HFc HBf2
      go_wp2_with fail
      refine (unionAll_walk (some ⟨gc, 0, none⟩) rn rn T _ wg HFg.out HCc.out hr5).mono ?_
      rintro e w2 hcp
      obtain ⟨⟨ca, cn, cc, cl, rfl, hrow, hN, hm, hty⟩, hb⟩ := hcp
      have HRow := hid hrow
      have HTy := hid hty
      have Hm := hid hm
      have HBc : Hid (Below w.heap.size w w2) := hid (HBg.out.trans (hb.mono HBg.out.size))
      have HRs := hid (HBg2.out.below hb)
      clear hrow hty hm hb
      obtain ⟨q5, hq5⟩ : ∃ q5, w2.heap.size = q5 := ⟨_, rfl⟩
      have hbq := Blk.new w2 [.slice ca cn cc] 30
      rw [hq5] at hbq
      obtain ⟨w6, hw6⟩ : ∃ w6, w2.alloc (.cells #[.slice ca cn cc] 30) = w6 := ⟨_, rfl⟩
      have hw6' : w2.alloc (.cells [Value.slice ca cn cc].toArray 30) = w6 := hw6
      rw [hw6'] at hbq
      have HBe6 : Hid (Below w2.heap.size w2 w6) := hid (by rw [← hw6]; exact nbel w2 _)
      have Hcq : Hid (w6.cell? ⟨q5, 0, none⟩ = some (.slice ca cn cc)) := hid (hbq.cell 0)
      have HF6 : Hid (Fl w6 30 none 0 0 []) := hid (Fl.nil _ _)
      clear hbq hw6'
      go_wp2_with (at_builtin; (try simp only [hw6]); refine wpList_append_file rfl (.tmp 166) (.tmp 173) 77 rfl 30 j0 (.agg #[.slice none 0 0]) 24 Try.underlying77 HJ.out.1 HJ.out.2.1 HJ.out.2.2.1 HJ.out.2.2.2 rfl none 0 0 [] rfl HF6.out q5 1 (.slice ca cn cc) rfl Hcq.out rfl (by decide) (by decide) ?_; intro a7 c7 w7 hf7 hu7 hb7 hn7; have HF7 := hid hf7; have HU7 := hid hu7; clear hf7 hu7 hb7 hn7)
      go_meet
      case rel => exact ⟨a7, 1, c7, rfl, hid (SwP.one HBc.out HRs.out HRow.out hN HTy.out (f := _) (fun x h0 h1 => Hm.out x h0 h1) HBe6.out HU7.out HF7.out (by rw [← famLs_map]; rfl) HNe2.out)⟩
    · as_aux_lemma =>
      have cg : w1.cell? ⟨q, 4, none⟩ = some (.slice ra rn rc) := HB1.out.cell 4
      have HW := hid (of_walk ra rn rc rg w1 HO1.out.rg (by simp at hr; omega))
      go_upto_region 17 with fail
      go_wp2_with fail
      refine HW.out.mono ?_
      rintro e w2 hcp
      obtain ⟨⟨ca, cn, cc, cl, rfl, hrow, hN, hm, hty⟩, hb⟩ := hcp
      have HRow := hid hrow
      have HTy := hid hty
      have Hm := hid hm
      have HBc : Hid (Below w.heap.size w w2) := hid (HBe.out.trans (hb.mono HBe.out.size))
      have HRs := hid (HB2.out.below hb)
      skip
      clear hrow hty hm hb
      obtain ⟨q5, hq5⟩ : ∃ q5, w2.heap.size = q5 := ⟨_, rfl⟩
      have hbq := Blk.new w2 [.slice ca cn cc] 30
      rw [hq5] at hbq
      obtain ⟨w6, hw6⟩ : ∃ w6, w2.alloc (.cells #[.slice ca cn cc] 30) = w6 := ⟨_, rfl⟩
      have hw6' : w2.alloc (.cells [Value.slice ca cn cc].toArray 30) = w6 := hw6
      rw [hw6'] at hbq
      have HBe6 : Hid (Below w2.heap.size w2 w6) := hid (by rw [← hw6]; exact nbel w2 _)
      have Hcq : Hid (w6.cell? ⟨q5, 0, none⟩ = some (.slice ca cn cc)) := hid (hbq.cell 0)
      have HF6 : Hid (Fl w6 30 none 0 0 []) := hid (Fl.nil _ _)
      clear hbq hw6'
      go_wp2_with (at_builtin; (try simp only [hw6]); refine wpList_append_file rfl (.tmp 65) (.tmp 69) 77 rfl 30 j0 (.agg #[.slice none 0 0]) 24 Try.underlying77 HJ.out.1 HJ.out.2.1 HJ.out.2.2.1 HJ.out.2.2.2 rfl none 0 0 [] rfl HF6.out q5 1 (.slice ca cn cc) rfl Hcq.out rfl (by decide) (by decide) ?_; intro a7 c7 w7 hf7 hu7 hb7 hn7; have HF7 := hid hf7; have HU7 := hid hu7; clear hf7 hu7 hb7 hn7)
      go_meet
      case rel => exact ⟨a7, 1, c7, rfl, hid (SwP.one HBc.out HRs.out HRow.out hN HTy.out Hm.out HBe6.out HU7.out HF7.out rfl HNe2.out)⟩
    · as_aux_lemma =>
      have h0 : 0 < n := HNe.out rfl
      have h0s : 0 < S.length := by rw [Hn.out]; exact h0
      have hr5 : rn ≤ 65536 := hr
      have cg : w1.cell? ⟨q, 4, none⟩ = some (.slice ra rn rc) := HB1.out.cell 4
      have HFm := hid (family_walk mb a S ra rn rc rg w1 HM1.out h0s HO1.out.rg hr5)
      go_upto_region 31 with fail
      go_wp2_with fail
      refine HFm.out.mono ?_
      rintro e wf ⟨gf, rfl, hgf, hbf, hbe2⟩
      have hlf : ((famL S rg).map ptV).length = rn := by rw [List.length_map, famL_len]; exact HO1.out.rg.1.1
      have HRf : Hid (∀ p ∈ famL S rg, RegOk wf p.1 p.2) := hid (fun p hp => (HM1.out.regs p (famL_mem h0s hp)).below hbe2)
      have HFc := hid (classes_walk (some ⟨gf, 0, none⟩) rn rn (famL S rg) wf (Fl.made hbf hlf (by unfold maxLen; omega)) HRf.out hr5)
      have HBf : Hid (Below w.heap.size w wf) := hid (HBe.out.trans (hbe2.mono HBe.out.size))
      have HBf2 := hid (HB2.out.below hbe2)
      clear hbf hbe2
      go_wp2_with fail
      refine HFc.out.mono ?_
      rintro e wg ⟨gc, T, rfl, hgc, hbc, hclc, hbe3⟩
      have HCc := hid hclc
      have HBg : Hid (Below w.heap.size w wg) := hid (HBf.out.trans (hbe3.mono HBf.out.size))
      have HBg2 := hid (HBf2.out.below hbe3)
      have hlT : (T.map clV).length = rn := by rw [List.length_map, hclc.len, List.length_map, famL_len]; exact HO1.out.rg.1.1
      have HFg := hid (Fl.made hbc hlT (by unfold maxLen; omega))
      clear hbc hclc hbe3 HFc HBf2
      go_wp2_with fail
      refine (minterms_walk (some ⟨gc, 0, none⟩) rn rn T _ wg HFg.out HCc.out hr5).mono ?_
      rintro e w2 ⟨⟨a7, c7, T7, P7, pt7, rfl, hf7, hc7, hpi7, hsem7⟩, hb⟩
      have HSw7 : Hid (SwP mb a S ⟨12, oA, oB, ia, inn, ic, iv, ra, rn, rc, rg⟩ w r a7 P7.lists.length c7 w2) := hid ⟨HBg.out.trans (hb.mono HBg.out.size), HBg2.out.below hb, T7, P7.lists, hf7, hc7, (hpi7.bounds (by omega)).1, .many rfl (HNe2.out rfl) P7 pt7 ⟨hpi7, by rw [famLs_map]; exact hsem7⟩ rfl⟩
      clear hf7 hc7 hpi7 hsem7 hb
      go_wp2_with fail
      go_meet
      case rel => exact ⟨a7, P7.lists.length, c7, rfl, HSw7⟩
    · as_aux_lemma =>
      have h0 : 0 < n := HNe.out rfl
      have h0s : 0 < S.length := by rw [Hn.out]; exact h0
      obtain ⟨p1, hp1⟩ : ∃ p, S.getD (regIx S.length oA) (0, []) = p := ⟨_, rfl⟩
      have hs1 : S[regIx S.length oA]? = some p1 := by rw [← hp1]; exact regAt h0s oA
      have HL1 : Hid (regL (S.map (·.2)) oA = p1.2) := hid (by rw [regL_map, hp1])
      have HRk1 := hid (HM.out.regs p1 (List.mem_of_getElem? hs1))
      obtain ⟨xa1, xn1, xc1, tb1, hx1, hxr1, hxt1, _⟩ := HRk1.out.out
      have HX1 := hid hx1
      have HXr1 := hid hxr1
      have HXt1 := hid hxt1
      have HN1 := hid HRk1.out.nrm
      have HRg1 : Hid (∀ w' : World, Below w.heap.size w w' → Calls Try.prog 20 #[.pointer (some ⟨mb, 0, none⟩), .int .i64 oA] w' fun e w'' => e = .returned (.pointer (some ⟨p1.1, 0, none⟩)) ∧ w'' = w') := hid (fun w' hb => reg_walk mb a S oA p1 w' (HM.out.below hb) HO.out.fa h0s hs1)
      clear hx1 hxr1 hxt1 hs1
      have HBe1d : Hid (Below w.heap.size w w1.drew) := hid (HBe.out.trans ((Drew.below ⟨1, rfl⟩ _ : Below w1.heap.size w1 w1.drew).mono HBe.out.size))
      have HB1d : Hid (Blk w1.drew q 28 [.int .i64 13, .int .i64 oA, .int .i64 oB, .slice ia inn ic, .slice ra rn rc]) := hid HB1.out
      have HB2d : Hid (Blk w1.drew r 51 (resC 0 false 0)) := hid HB2.out
      have HQ : Hid (∀ w' : World, Below w.heap.size w w' → Below w1.heap.size w1 w' → True) := hid (fun _ _ _ => trivial)
      have Hqw : Hid (∀ w' : World, (w'.cell? ⟨q, 1, none⟩ = some (.int .i64 oA) ∧ w'.cell? ⟨q, 2, none⟩ = some (.int .i64 oB)) → Below w.heap.size w w' → w'.cell? ⟨q, 1, none⟩ = some (.int .i64 oA) ∧ w'.cell? ⟨q, 2, none⟩ = some (.int .i64 oB) ∧ Below w.heap.size w w' ∧ w'.cell? ⟨p1.1, 0, none⟩ = some (.slice xa1 xn1 xc1)) := hid (fun w' hc hb => ⟨hc.1, hc.2, hb, by rw [hb.cell HX1.out.lt]; exact HX1.out.cell 0⟩)
      have hqc : w1.drew.cell? ⟨q, 1, none⟩ = some (.int .i64 oA) ∧ w1.drew.cell? ⟨q, 2, none⟩ = some (.int .i64 oB) := ⟨HB1d.out.cell 1, HB1d.out.cell 2⟩
      have Hqc := hid hqc
      clear hqc
      go_upto_region 33 with fail
      refine wp_region_heavy (fun w' => w'.cell? ⟨q, 1, none⟩ = some (.int .i64 oA) ∧ w'.cell? ⟨q, 2, none⟩ = some (.int .i64 oB) ∧ Below w.heap.size w w' ∧ w'.cell? ⟨p1.1, 0, none⟩ = some (.slice xa1 xn1 xc1)) 11 [0, 1, 2, 3, 4, 5, 6, 7, 8] [9, 10] rfl (by kernel_rfl) (by kernel_rfl) (fun d _ _ _ _ h => by cases d <;> exact h) (Hqw.out _ Hqc.out HBe1d.out) ?_
      apply Exists.intro
      refine ⟨?_, ?_⟩
      · intro W hW
        have d0 : ∀ x, (W x).cell? ⟨q, 1, none⟩ = some (.int .i64 oA) := fun x => (hW x).1
        have d1 : ∀ x, (W x).cell? ⟨q, 2, none⟩ = some (.int .i64 oB) := fun x => (hW x).2.1
        have HR1 : Hid (∀ x, Calls Try.prog 20 #[.pointer (some ⟨mb, 0, none⟩), .int .i64 oA] (W x) fun e w'' => e = .returned (.pointer (some ⟨p1.1, 0, none⟩)) ∧ w'' = W x) := hid (fun x => HRg1.out _ (hW x).2.2.1)
        have d3 : ∀ x, (W x).cell? ⟨p1.1, 0, none⟩ = some (.slice xa1 xn1 xc1) := fun x => (hW x).2.2.2
        clear hW
        simp only [List.take, opsAt, List.drop, List.cons_append, List.nil_append]
        repeat (go_big_quiet_step ((go_at_call 20; with_reducible exact Calls.class_same (HR1.out _))))
        exact rfl
      simp only [List.take, List.drop, opsAt, List.cons_append, List.nil_append, wpHv]
      generalize w1.drew = w1d at HBe1d HB1d HB2d Hqc ⊢
      have HSs : Hid (∀ w' : World, Below w1d.heap.size w1d w' → w'.cell? ⟨q, 1, none⟩ = some (.int .i64 oA) ∧ w'.cell? ⟨q, 2, none⟩ = some (.int .i64 oB) ∧ Below w.heap.size w w' ∧ w'.cell? ⟨p1.1, 0, none⟩ = some (.slice xa1 xn1 xc1)) := hid (fun w' hb => Hqw.out w' ⟨by rw [hb.cell HB1d.out.lt]; exact Hqc.out.1, by rw [hb.cell HB1d.out.lt]; exact Hqc.out.2⟩ (HBe1d.out.trans (hb.mono HBe1d.out.size)))
      go_wp2_with fail
      refine (contains_walk xa1 xn1 xc1 p1.2 oB w1d (HXr1.out.below HBe1d.out) HN1.out).mono ?_
      rintro e w2 ⟨rfl, hb⟩
      have HB12 := hid hb
      clear hb
      go_wp2_with fail
      refine ⟨HSs.out w2 HB12.out, ?_⟩
      go_wp2_with fail
      refine (truth_walk _ w2).mono ?_
      rintro e w3 ⟨rfl, hb3⟩
      have HB13 := hid (HB12.out.trans (hb3.mono HB12.out.size))
      have HBc : Hid (Below w.heap.size w w3) := hid (HBe1d.out.trans (HB13.out.mono HBe1d.out.size))
      have HRs := hid (HB2d.out.below HB13.out)
      clear hb3
      go_wp2_with fail
      refine ⟨HSs.out w3 HB13.out, ?_⟩
      simp only [QN]
      have I0 : Hid ((Try.prog.info? 51).map (·.size) = some (resC 0 true (bitI (memB p1.2 oB))).length) := hid info_res
      go_wp2_with (refine wpList_store_blk rfl 51 _ _ rfl r rfl (resC 0 true (bitI (memB p1.2 oB))) rfl HRs.out rfl I0.out (res_one _ _ _) ?_; intro w9 HB9 HU9)
      have hu9 : Below w.heap.size w w9 := HBc.out.trans (HU9.out.below hrw HBc.out.size)
      exact bodyPost_ret (results_cell_tmp Try.results22 rfl (show AggOf Try.prog 51 (List.length (resC 0 true (bitI (memB p1.2 oB)))) from aggRes) HB9.out) rfl
        ⟨⟨resC 0 true (bitI (memB p1.2 oB)), none, 0, 0, [], a, rfl, Fl.nil _ _, (fun p hp => by simp at hp), HM.out.below hu9, (.ask (HNe2.out rfl) _ (by simp only [askR]; simp; rw [HL1.out]) rfl), (fun p hp => by simp at hp), List.Pairwise.nil, .inl rfl, (fun g hg => by cases hg), (by simp)⟩, UpdM.ofBelow hu9⟩
    · as_aux_lemma =>
      have h0 : 0 < n := HNe.out rfl
      have h0s : 0 < S.length := by rw [Hn.out]; exact h0
      obtain ⟨p1, hp1⟩ : ∃ p, S.getD (regIx S.length oA) (0, []) = p := ⟨_, rfl⟩
      have hs1 : S[regIx S.length oA]? = some p1 := by rw [← hp1]; exact regAt h0s oA
      have HL1 : Hid (regL (S.map (·.2)) oA = p1.2) := hid (by rw [regL_map, hp1])
      have HRk1 := hid (HM.out.regs p1 (List.mem_of_getElem? hs1))
      obtain ⟨xa1, xn1, xc1, tb1, hx1, hxr1, hxt1, _⟩ := HRk1.out.out
      have HX1 := hid hx1
      have HXr1 := hid hxr1
      have HXt1 := hid hxt1
      have HN1 := hid HRk1.out.nrm
      have HRg1 : Hid (∀ w' : World, Below w.heap.size w w' → Calls Try.prog 20 #[.pointer (some ⟨mb, 0, none⟩), .int .i64 oA] w' fun e w'' => e = .returned (.pointer (some ⟨p1.1, 0, none⟩)) ∧ w'' = w') := hid (fun w' hb => reg_walk mb a S oA p1 w' (HM.out.below hb) HO.out.fa h0s hs1)
      clear hx1 hxr1 hxt1 hs1
      have ca1 : w1.cell? ⟨q, 1, none⟩ = some (.int .i64 oA) := HB1.out.cell 1
      have cx1 : w1.cell? ⟨p1.1, 0, none⟩ = some (.slice xa1 xn1 xc1) := by rw [HBe.out.cell HX1.out.lt]; exact HX1.out.cell 0
      have HW := hid (isEmpty_walk xa1 xn1 xc1 p1.2 w1 (HXr1.out.below HBe.out))
      have HRw := hid (HRg1.out w1 HBe.out)
      go_upto_region 35 with fail
      go_wp2_with fail
      refine HRw.out.mono ?_
      rintro e w1' ⟨rfl, rfl⟩
      go_wp2_with fail
      refine HW.out.mono ?_
      rintro e w2 ⟨rfl, hb⟩
      have HB12 := hid hb
      clear hb
      go_wp2_with fail
      refine (truth_walk _ w2).mono ?_
      rintro e w3 ⟨rfl, hb3⟩
      have HBc : Hid (Below w.heap.size w w3) := hid (HBe.out.trans ((HB12.out.trans (hb3.mono HB12.out.size)).mono HBe.out.size))
      have HRs := hid ((HB2.out.below HB12.out).below hb3)
      clear hb3
      have I0 : Hid ((Try.prog.info? 51).map (·.size) = some (resC 0 true (bitI p1.2.isEmpty)).length) := hid info_res
      go_wp2_with (refine wpList_store_blk rfl 51 _ _ rfl r rfl (resC 0 true (bitI p1.2.isEmpty)) rfl HRs.out rfl I0.out (res_one _ _ _) ?_; intro w9 HB9 HU9)
      have hu9 : Below w.heap.size w w9 := HBc.out.trans (HU9.out.below hrw HBc.out.size)
      exact bodyPost_ret (results_cell_tmp Try.results22 rfl (show AggOf Try.prog 51 (List.length (resC 0 true (bitI p1.2.isEmpty))) from aggRes) HB9.out) rfl
        ⟨⟨resC 0 true (bitI p1.2.isEmpty), none, 0, 0, [], a, rfl, Fl.nil _ _, (fun p hp => by simp at hp), HM.out.below hu9, (.ask (HNe2.out rfl) _ (by simp only [askR]; simp; rw [HL1.out]) rfl), (fun p hp => by simp at hp), List.Pairwise.nil, .inl rfl, (fun g hg => by cases hg), (by simp)⟩, UpdM.ofBelow hu9⟩
    · as_aux_lemma =>
      have h0 : 0 < n := HNe.out rfl
      have h0s : 0 < S.length := by rw [Hn.out]; exact h0
      obtain ⟨p1, hp1⟩ : ∃ p, S.getD (regIx S.length oA) (0, []) = p := ⟨_, rfl⟩
      have hs1 : S[regIx S.length oA]? = some p1 := by rw [← hp1]; exact regAt h0s oA
      have HL1 : Hid (regL (S.map (·.2)) oA = p1.2) := hid (by rw [regL_map, hp1])
      have HRk1 := hid (HM.out.regs p1 (List.mem_of_getElem? hs1))
      obtain ⟨xa1, xn1, xc1, tb1, hx1, hxr1, hxt1, _⟩ := HRk1.out.out
      have HX1 := hid hx1
      have HXr1 := hid hxr1
      have HXt1 := hid hxt1
      have HN1 := hid HRk1.out.nrm
      have HRg1 : Hid (∀ w' : World, Below w.heap.size w w' → Calls Try.prog 20 #[.pointer (some ⟨mb, 0, none⟩), .int .i64 oA] w' fun e w'' => e = .returned (.pointer (some ⟨p1.1, 0, none⟩)) ∧ w'' = w') := hid (fun w' hb => reg_walk mb a S oA p1 w' (HM.out.below hb) HO.out.fa h0s hs1)
      clear hx1 hxr1 hxt1 hs1
      have ca1 : w1.cell? ⟨q, 1, none⟩ = some (.int .i64 oA) := HB1.out.cell 1
      have cx1 : w1.cell? ⟨p1.1, 0, none⟩ = some (.slice xa1 xn1 xc1) := by rw [HBe.out.cell HX1.out.lt]; exact HX1.out.cell 0
      have HW := hid (isAll_walk xa1 xn1 xc1 p1.2 w1 (HXr1.out.below HBe.out))
      have HRw := hid (HRg1.out w1 HBe.out)
      go_upto_region 37 with fail
      go_wp2_with fail
      refine HRw.out.mono ?_
      rintro e w1' ⟨rfl, rfl⟩
      go_wp2_with fail
      refine HW.out.mono ?_
      rintro e w2 ⟨rfl, hb⟩
      have HB12 := hid hb
      clear hb
      go_wp2_with fail
      refine (truth_walk _ w2).mono ?_
      rintro e w3 ⟨rfl, hb3⟩
      have HBc : Hid (Below w.heap.size w w3) := hid (HBe.out.trans ((HB12.out.trans (hb3.mono HB12.out.size)).mono HBe.out.size))
      have HRs := hid ((HB2.out.below HB12.out).below hb3)
      clear hb3
      have I0 : Hid ((Try.prog.info? 51).map (·.size) = some (resC 0 true (bitI (allB p1.2))).length) := hid info_res
      go_wp2_with (refine wpList_store_blk rfl 51 _ _ rfl r rfl (resC 0 true (bitI (allB p1.2))) rfl HRs.out rfl I0.out (res_one _ _ _) ?_; intro w9 HB9 HU9)
      have hu9 : Below w.heap.size w w9 := HBc.out.trans (HU9.out.below hrw HBc.out.size)
      exact bodyPost_ret (results_cell_tmp Try.results22 rfl (show AggOf Try.prog 51 (List.length (resC 0 true (bitI (allB p1.2)))) from aggRes) HB9.out) rfl
        ⟨⟨resC 0 true (bitI (allB p1.2)), none, 0, 0, [], a, rfl, Fl.nil _ _, (fun p hp => by simp at hp), HM.out.below hu9, (.ask (HNe2.out rfl) _ (by simp only [askR]; simp; rw [HL1.out]) rfl), (fun p hp => by simp at hp), List.Pairwise.nil, .inl rfl, (fun g hg => by cases hg), (by simp)⟩, UpdM.ofBelow hu9⟩
    · as_aux_lemma =>
      have h0 : 0 < n := HNe.out rfl
      have h0s : 0 < S.length := by rw [Hn.out]; exact h0
      obtain ⟨p1, hp1⟩ : ∃ p, S.getD (regIx S.length oA) (0, []) = p := ⟨_, rfl⟩
      have hs1 : S[regIx S.length oA]? = some p1 := by rw [← hp1]; exact regAt h0s oA
      have HL1 : Hid (regL (S.map (·.2)) oA = p1.2) := hid (by rw [regL_map, hp1])
      have HRk1 := hid (HM.out.regs p1 (List.mem_of_getElem? hs1))
      obtain ⟨xa1, xn1, xc1, tb1, hx1, hxr1, hxt1, _⟩ := HRk1.out.out
      have HX1 := hid hx1
      have HXr1 := hid hxr1
      have HXt1 := hid hxt1
      have HN1 := hid HRk1.out.nrm
      have HRg1 : Hid (∀ w' : World, Below w.heap.size w w' → Calls Try.prog 20 #[.pointer (some ⟨mb, 0, none⟩), .int .i64 oA] w' fun e w'' => e = .returned (.pointer (some ⟨p1.1, 0, none⟩)) ∧ w'' = w') := hid (fun w' hb => reg_walk mb a S oA p1 w' (HM.out.below hb) HO.out.fa h0s hs1)
      clear hx1 hxr1 hxt1 hs1
      have ca1 : w1.cell? ⟨q, 1, none⟩ = some (.int .i64 oA) := HB1.out.cell 1
      have cx1 : w1.cell? ⟨p1.1, 0, none⟩ = some (.slice xa1 xn1 xc1) := by rw [HBe.out.cell HX1.out.lt]; exact HX1.out.cell 0
      have HW := hid (min_walk xa1 xn1 xc1 p1.2 w1 (HXr1.out.below HBe.out))
      have HRw := hid (HRg1.out w1 HBe.out)
      go_upto_region 39 with fail
      go_wp2_with fail
      refine HRw.out.mono ?_
      rintro e w1' ⟨rfl, rfl⟩
      go_wp2_with fail
      refine HW.out.mono ?_
      rintro e w2 ⟨rfl, hb⟩
      have HB12 := hid hb
      clear hb
      go_wp2_with fail
      refine (number_walk _ _ w2).mono ?_
      rintro e w3 ⟨rfl, hb3⟩
      have HBc : Hid (Below w.heap.size w w3) := hid (HBe.out.trans ((HB12.out.trans (hb3.mono HB12.out.size)).mono HBe.out.size))
      have HRs := hid ((HB2.out.below HB12.out).below hb3)
      clear hb3
      have I0 : Hid ((Try.prog.info? 51).map (·.size) = some (numR (minL p1.2) (!p1.2.isEmpty)).length) := hid (by cases h : (!p1.2.isEmpty) <;> exact info_res)
      go_wp2_with (refine wpList_store_blk rfl 51 _ _ rfl r rfl (numR (minL p1.2) (!p1.2.isEmpty)) rfl HRs.out (by cases h : (!p1.2.isEmpty) <;> rfl) I0.out (num_one _ _) ?_; intro w9 HB9 HU9)
      have hu9 : Below w.heap.size w w9 := HBc.out.trans (HU9.out.below hrw HBc.out.size)
      exact bodyPost_ret (results_cell_tmp Try.results22 rfl (show AggOf Try.prog 51 (List.length (numR (minL p1.2) (!p1.2.isEmpty))) from (by cases h : (!p1.2.isEmpty) <;> exact aggRes)) HB9.out) rfl
        ⟨⟨numR (minL p1.2) (!p1.2.isEmpty), none, 0, 0, [], a, rfl, Fl.nil _ _, (fun p hp => by simp at hp), HM.out.below hu9, (.ask (HNe2.out rfl) _ (by simp only [askR]; simp; rw [HL1.out]) rfl), (fun p hp => by simp at hp), List.Pairwise.nil, .inl rfl, (fun g hg => by cases hg), (by simp)⟩, UpdM.ofBelow hu9⟩
    · as_aux_lemma =>
      have h0 : 0 < n := HNe.out rfl
      have h0s : 0 < S.length := by rw [Hn.out]; exact h0
      obtain ⟨p1, hp1⟩ : ∃ p, S.getD (regIx S.length oA) (0, []) = p := ⟨_, rfl⟩
      have hs1 : S[regIx S.length oA]? = some p1 := by rw [← hp1]; exact regAt h0s oA
      have HL1 : Hid (regL (S.map (·.2)) oA = p1.2) := hid (by rw [regL_map, hp1])
      have HRk1 := hid (HM.out.regs p1 (List.mem_of_getElem? hs1))
      obtain ⟨xa1, xn1, xc1, tb1, hx1, hxr1, hxt1, _⟩ := HRk1.out.out
      have HX1 := hid hx1
      have HXr1 := hid hxr1
      have HXt1 := hid hxt1
      have HN1 := hid HRk1.out.nrm
      have HRg1 : Hid (∀ w' : World, Below w.heap.size w w' → Calls Try.prog 20 #[.pointer (some ⟨mb, 0, none⟩), .int .i64 oA] w' fun e w'' => e = .returned (.pointer (some ⟨p1.1, 0, none⟩)) ∧ w'' = w') := hid (fun w' hb => reg_walk mb a S oA p1 w' (HM.out.below hb) HO.out.fa h0s hs1)
      clear hx1 hxr1 hxt1 hs1
      have ca1 : w1.cell? ⟨q, 1, none⟩ = some (.int .i64 oA) := HB1.out.cell 1
      have cx1 : w1.cell? ⟨p1.1, 0, none⟩ = some (.slice xa1 xn1 xc1) := by rw [HBe.out.cell HX1.out.lt]; exact HX1.out.cell 0
      have HW := hid (max_walk xa1 xn1 xc1 p1.2 w1 (HXr1.out.below HBe.out))
      have HRw := hid (HRg1.out w1 HBe.out)
      go_upto_region 41 with fail
      go_wp2_with fail
      refine HRw.out.mono ?_
      rintro e w1' ⟨rfl, rfl⟩
      go_wp2_with fail
      refine HW.out.mono ?_
      rintro e w2 ⟨rfl, hb⟩
      have HB12 := hid hb
      clear hb
      go_wp2_with fail
      refine (number_walk _ _ w2).mono ?_
      rintro e w3 ⟨rfl, hb3⟩
      have HBc : Hid (Below w.heap.size w w3) := hid (HBe.out.trans ((HB12.out.trans (hb3.mono HB12.out.size)).mono HBe.out.size))
      have HRs := hid ((HB2.out.below HB12.out).below hb3)
      clear hb3
      have I0 : Hid ((Try.prog.info? 51).map (·.size) = some (numR (maxL p1.2) (!p1.2.isEmpty)).length) := hid (by cases h : (!p1.2.isEmpty) <;> exact info_res)
      go_wp2_with (refine wpList_store_blk rfl 51 _ _ rfl r rfl (numR (maxL p1.2) (!p1.2.isEmpty)) rfl HRs.out (by cases h : (!p1.2.isEmpty) <;> rfl) I0.out (num_one _ _) ?_; intro w9 HB9 HU9)
      have hu9 : Below w.heap.size w w9 := HBc.out.trans (HU9.out.below hrw HBc.out.size)
      exact bodyPost_ret (results_cell_tmp Try.results22 rfl (show AggOf Try.prog 51 (List.length (numR (maxL p1.2) (!p1.2.isEmpty))) from (by cases h : (!p1.2.isEmpty) <;> exact aggRes)) HB9.out) rfl
        ⟨⟨numR (maxL p1.2) (!p1.2.isEmpty), none, 0, 0, [], a, rfl, Fl.nil _ _, (fun p hp => by simp at hp), HM.out.below hu9, (.ask (HNe2.out rfl) _ (by simp only [askR]; simp; rw [HL1.out]) rfl), (fun p hp => by simp at hp), List.Pairwise.nil, .inl rfl, (fun g hg => by cases hg), (by simp)⟩, UpdM.ofBelow hu9⟩
    · as_aux_lemma =>
      have h0 : 0 < n := HNe.out rfl
      have h0s : 0 < S.length := by rw [Hn.out]; exact h0
      obtain ⟨p1, hp1⟩ : ∃ p, S.getD (regIx S.length oA) (0, []) = p := ⟨_, rfl⟩
      have hs1 : S[regIx S.length oA]? = some p1 := by rw [← hp1]; exact regAt h0s oA
      have HL1 : Hid (regL (S.map (·.2)) oA = p1.2) := hid (by rw [regL_map, hp1])
      have HRk1 := hid (HM.out.regs p1 (List.mem_of_getElem? hs1))
      obtain ⟨xa1, xn1, xc1, tb1, hx1, hxr1, hxt1, _⟩ := HRk1.out.out
      have HX1 := hid hx1
      have HXr1 := hid hxr1
      have HXt1 := hid hxt1
      have HN1 := hid HRk1.out.nrm
      have HRg1 : Hid (∀ w' : World, Below w.heap.size w w' → Calls Try.prog 20 #[.pointer (some ⟨mb, 0, none⟩), .int .i64 oA] w' fun e w'' => e = .returned (.pointer (some ⟨p1.1, 0, none⟩)) ∧ w'' = w') := hid (fun w' hb => reg_walk mb a S oA p1 w' (HM.out.below hb) HO.out.fa h0s hs1)
      clear hx1 hxr1 hxt1 hs1
      have ca1 : w1.cell? ⟨q, 1, none⟩ = some (.int .i64 oA) := HB1.out.cell 1
      have cx1 : w1.cell? ⟨p1.1, 0, none⟩ = some (.slice xa1 xn1 xc1) := by rw [HBe.out.cell HX1.out.lt]; exact HX1.out.cell 0
      have HW := hid (count_walk xa1 xn1 xc1 p1.2 w1 (HXr1.out.below HBe.out) HN1.out)
      have HRw := hid (HRg1.out w1 HBe.out)
      go_upto_region 43 with fail
      go_wp2_with fail
      refine HRw.out.mono ?_
      rintro e w1' ⟨rfl, rfl⟩
      go_wp2_with fail
      refine HW.out.mono ?_
      rintro e w2 ⟨rfl, hb⟩
      have HB12 := hid hb
      clear hb
      go_wp2_with fail
      refine (number_walk (countL p1.2) true w2).mono ?_
      rintro e w3 ⟨rfl, hb3⟩
      have HBc : Hid (Below w.heap.size w w3) := hid (HBe.out.trans ((HB12.out.trans (hb3.mono HB12.out.size)).mono HBe.out.size))
      have HRs := hid ((HB2.out.below HB12.out).below hb3)
      clear hb3
      have I0 : Hid ((Try.prog.info? 51).map (·.size) = some (resC 0 true (countL p1.2)).length) := hid info_res
      go_wp2_with (refine wpList_store_blk rfl 51 _ _ rfl r rfl (resC 0 true (countL p1.2)) rfl HRs.out rfl I0.out (res_one _ _ _) ?_; intro w9 HB9 HU9)
      have hu9 : Below w.heap.size w w9 := HBc.out.trans (HU9.out.below hrw HBc.out.size)
      exact bodyPost_ret (results_cell_tmp Try.results22 rfl (show AggOf Try.prog 51 (List.length (resC 0 true (countL p1.2))) from aggRes) HB9.out) rfl
        ⟨⟨resC 0 true (countL p1.2), none, 0, 0, [], a, rfl, Fl.nil _ _, (fun p hp => by simp at hp), HM.out.below hu9, (.ask (HNe2.out rfl) _ (by simp only [askR]; simp; rw [HL1.out]) rfl), (fun p hp => by simp at hp), List.Pairwise.nil, .inl rfl, (fun g hg => by cases hg), (by simp)⟩, UpdM.ofBelow hu9⟩
    · as_aux_lemma =>
      have h0 : 0 < n := HNe.out rfl
      have h0s : 0 < S.length := by rw [Hn.out]; exact h0
      obtain ⟨p1, hp1⟩ : ∃ p, S.getD (regIx S.length oA) (0, []) = p := ⟨_, rfl⟩
      have hs1 : S[regIx S.length oA]? = some p1 := by rw [← hp1]; exact regAt h0s oA
      have HL1 : Hid (regL (S.map (·.2)) oA = p1.2) := hid (by rw [regL_map, hp1])
      have HRk1 := hid (HM.out.regs p1 (List.mem_of_getElem? hs1))
      obtain ⟨xa1, xn1, xc1, tb1, hx1, hxr1, hxt1, _⟩ := HRk1.out.out
      have HX1 := hid hx1
      have HXr1 := hid hxr1
      have HXt1 := hid hxt1
      have HN1 := hid HRk1.out.nrm
      have HRg1 : Hid (∀ w' : World, Below w.heap.size w w' → Calls Try.prog 20 #[.pointer (some ⟨mb, 0, none⟩), .int .i64 oA] w' fun e w'' => e = .returned (.pointer (some ⟨p1.1, 0, none⟩)) ∧ w'' = w') := hid (fun w' hb => reg_walk mb a S oA p1 w' (HM.out.below hb) HO.out.fa h0s hs1)
      clear hx1 hxr1 hxt1 hs1
      obtain ⟨p2, hp2⟩ : ∃ p, S.getD (regIx S.length oB) (0, []) = p := ⟨_, rfl⟩
      have hs2 : S[regIx S.length oB]? = some p2 := by rw [← hp2]; exact regAt h0s oB
      have HL2 : Hid (regL (S.map (·.2)) oB = p2.2) := hid (by rw [regL_map, hp2])
      have HRk2 := hid (HM.out.regs p2 (List.mem_of_getElem? hs2))
      obtain ⟨xa2, xn2, xc2, tb2, hx2, hxr2, hxt2, _⟩ := HRk2.out.out
      have HX2 := hid hx2
      have HXr2 := hid hxr2
      have HXt2 := hid hxt2
      have HN2 := hid HRk2.out.nrm
      have HRg2 : Hid (∀ w' : World, Below w.heap.size w w' → Calls Try.prog 20 #[.pointer (some ⟨mb, 0, none⟩), .int .i64 oB] w' fun e w'' => e = .returned (.pointer (some ⟨p2.1, 0, none⟩)) ∧ w'' = w') := hid (fun w' hb => reg_walk mb a S oB p2 w' (HM.out.below hb) HO.out.fb h0s hs2)
      clear hx2 hxr2 hxt2 hs2
      have HBe1d : Hid (Below w.heap.size w w1.drew) := hid (HBe.out.trans ((Drew.below ⟨1, rfl⟩ _ : Below w1.heap.size w1 w1.drew).mono HBe.out.size))
      have HB1d : Hid (Blk w1.drew q 28 [.int .i64 19, .int .i64 oA, .int .i64 oB, .slice ia inn ic, .slice ra rn rc]) := hid HB1.out
      have HB2d : Hid (Blk w1.drew r 51 (resC 0 false 0)) := hid HB2.out
      have HQ : Hid (∀ w' : World, Below w.heap.size w w' → Below w1.heap.size w1 w' → True) := hid (fun _ _ _ => trivial)
      have Hqw : Hid (∀ w' : World, (w'.cell? ⟨q, 1, none⟩ = some (.int .i64 oA) ∧ w'.cell? ⟨q, 2, none⟩ = some (.int .i64 oB)) → Below w.heap.size w w' → w'.cell? ⟨q, 1, none⟩ = some (.int .i64 oA) ∧ w'.cell? ⟨q, 2, none⟩ = some (.int .i64 oB) ∧ Below w.heap.size w w' ∧ w'.cell? ⟨p1.1, 0, none⟩ = some (.slice xa1 xn1 xc1) ∧ w'.cell? ⟨p2.1, 0, none⟩ = some (.slice xa2 xn2 xc2)) := hid (fun w' hc hb => ⟨hc.1, hc.2, hb, by rw [hb.cell HX1.out.lt]; exact HX1.out.cell 0, by rw [hb.cell HX2.out.lt]; exact HX2.out.cell 0⟩)
      have hqc : w1.drew.cell? ⟨q, 1, none⟩ = some (.int .i64 oA) ∧ w1.drew.cell? ⟨q, 2, none⟩ = some (.int .i64 oB) := ⟨HB1d.out.cell 1, HB1d.out.cell 2⟩
      have Hqc := hid hqc
      clear hqc
      go_upto_region 45 with fail
      refine wp_region_heavy (fun w' => w'.cell? ⟨q, 1, none⟩ = some (.int .i64 oA) ∧ w'.cell? ⟨q, 2, none⟩ = some (.int .i64 oB) ∧ Below w.heap.size w w' ∧ w'.cell? ⟨p1.1, 0, none⟩ = some (.slice xa1 xn1 xc1) ∧ w'.cell? ⟨p2.1, 0, none⟩ = some (.slice xa2 xn2 xc2)) 16 [0, 1, 2, 3, 4, 5, 6, 7, 8, 9, 10, 11, 12, 13] [14, 15] rfl (by kernel_rfl) (by kernel_rfl) (fun d _ _ _ _ h => by cases d <;> exact h) (Hqw.out _ Hqc.out HBe1d.out) ?_
      apply Exists.intro
      refine ⟨?_, ?_⟩
      · intro W hW
        have d0 : ∀ x, (W x).cell? ⟨q, 1, none⟩ = some (.int .i64 oA) := fun x => (hW x).1
        have d1 : ∀ x, (W x).cell? ⟨q, 2, none⟩ = some (.int .i64 oB) := fun x => (hW x).2.1
        have HR1 : Hid (∀ x, Calls Try.prog 20 #[.pointer (some ⟨mb, 0, none⟩), .int .i64 oA] (W x) fun e w'' => e = .returned (.pointer (some ⟨p1.1, 0, none⟩)) ∧ w'' = W x) := hid (fun x => HRg1.out _ (hW x).2.2.1)
        have d3 : ∀ x, (W x).cell? ⟨p1.1, 0, none⟩ = some (.slice xa1 xn1 xc1) := fun x => (hW x).2.2.2.1
        have d4 : ∀ x, (W x).cell? ⟨p2.1, 0, none⟩ = some (.slice xa2 xn2 xc2) := fun x => (hW x).2.2.2.2
        have HR2 : Hid (∀ x, Calls Try.prog 20 #[.pointer (some ⟨mb, 0, none⟩), .int .i64 oB] (W x) fun e w'' => e = .returned (.pointer (some ⟨p2.1, 0, none⟩)) ∧ w'' = W x) := hid (fun x => HRg2.out _ (hW x).2.2.1)
        clear hW
        simp only [List.take, opsAt, List.drop, List.cons_append, List.nil_append]
        repeat (go_big_quiet_step ((go_at_call 20; first | (with_reducible exact Calls.class_same (HR1.out _)) | (with_reducible exact Calls.class_same (HR2.out _)))))
        exact rfl
      simp only [List.take, List.drop, opsAt, List.cons_append, List.nil_append, wpHv]
      generalize w1.drew = w1d at HBe1d HB1d HB2d Hqc ⊢
      have HSs : Hid (∀ w' : World, Below w1d.heap.size w1d w' → w'.cell? ⟨q, 1, none⟩ = some (.int .i64 oA) ∧ w'.cell? ⟨q, 2, none⟩ = some (.int .i64 oB) ∧ Below w.heap.size w w' ∧ w'.cell? ⟨p1.1, 0, none⟩ = some (.slice xa1 xn1 xc1) ∧ w'.cell? ⟨p2.1, 0, none⟩ = some (.slice xa2 xn2 xc2)) := hid (fun w' hb => Hqw.out w' ⟨by rw [hb.cell HB1d.out.lt]; exact Hqc.out.1, by rw [hb.cell HB1d.out.lt]; exact Hqc.out.2⟩ (HBe1d.out.trans (hb.mono HBe1d.out.size)))
      go_wp2_with fail
      refine (equal_walk xa1 xn1 xc1 p1.2 xa2 xn2 xc2 p2.2 w1d (HXr1.out.below HBe1d.out) (HXr2.out.below HBe1d.out)).mono ?_
      rintro e w2 ⟨rfl, hb⟩
      have HB12 := hid hb
      clear hb
      go_wp2_with fail
      refine ⟨HSs.out w2 HB12.out, ?_⟩
      go_wp2_with fail
      refine (truth_walk _ w2).mono ?_
      rintro e w3 ⟨rfl, hb3⟩
      have HB13 := hid (HB12.out.trans (hb3.mono HB12.out.size))
      have HBc : Hid (Below w.heap.size w w3) := hid (HBe1d.out.trans (HB13.out.mono HBe1d.out.size))
      have HRs := hid (HB2d.out.below HB13.out)
      clear hb3
      go_wp2_with fail
      refine ⟨HSs.out w3 HB13.out, ?_⟩
      simp only [QN]
      have I0 : Hid ((Try.prog.info? 51).map (·.size) = some (resC 0 true (bitI (decide (p1.2 = p2.2)))).length) := hid info_res
      go_wp2_with (refine wpList_store_blk rfl 51 _ _ rfl r rfl (resC 0 true (bitI (decide (p1.2 = p2.2)))) rfl HRs.out rfl I0.out (res_one _ _ _) ?_; intro w9 HB9 HU9)
      have hu9 : Below w.heap.size w w9 := HBc.out.trans (HU9.out.below hrw HBc.out.size)
      exact bodyPost_ret (results_cell_tmp Try.results22 rfl (show AggOf Try.prog 51 (List.length (resC 0 true (bitI (decide (p1.2 = p2.2))))) from aggRes) HB9.out) rfl
        ⟨⟨resC 0 true (bitI (decide (p1.2 = p2.2))), none, 0, 0, [], a, rfl, Fl.nil _ _, (fun p hp => by simp at hp), HM.out.below hu9, (.ask (HNe2.out rfl) _ (by simp only [askR]; simp; rw [HL1.out, HL2.out]) rfl), (fun p hp => by simp at hp), List.Pairwise.nil, .inl rfl, (fun g hg => by cases hg), (by simp)⟩, UpdM.ofBelow hu9⟩
    · as_aux_lemma =>
      have h0 : 0 < n := HNe.out rfl
      have h0s : 0 < S.length := by rw [Hn.out]; exact h0
      obtain ⟨p1, hp1⟩ : ∃ p, S.getD (regIx S.length oA) (0, []) = p := ⟨_, rfl⟩
      have hs1 : S[regIx S.length oA]? = some p1 := by rw [← hp1]; exact regAt h0s oA
      have HL1 : Hid (regL (S.map (·.2)) oA = p1.2) := hid (by rw [regL_map, hp1])
      have HRk1 := hid (HM.out.regs p1 (List.mem_of_getElem? hs1))
      obtain ⟨xa1, xn1, xc1, tb1, hx1, hxr1, hxt1, _⟩ := HRk1.out.out
      have HX1 := hid hx1
      have HXr1 := hid hxr1
      have HXt1 := hid hxt1
      have HN1 := hid HRk1.out.nrm
      have HRg1 : Hid (∀ w' : World, Below w.heap.size w w' → Calls Try.prog 20 #[.pointer (some ⟨mb, 0, none⟩), .int .i64 oA] w' fun e w'' => e = .returned (.pointer (some ⟨p1.1, 0, none⟩)) ∧ w'' = w') := hid (fun w' hb => reg_walk mb a S oA p1 w' (HM.out.below hb) HO.out.fa h0s hs1)
      clear hx1 hxr1 hxt1 hs1
      obtain ⟨p2, hp2⟩ : ∃ p, S.getD (regIx S.length oB) (0, []) = p := ⟨_, rfl⟩
      have hs2 : S[regIx S.length oB]? = some p2 := by rw [← hp2]; exact regAt h0s oB
      have HL2 : Hid (regL (S.map (·.2)) oB = p2.2) := hid (by rw [regL_map, hp2])
      have HRk2 := hid (HM.out.regs p2 (List.mem_of_getElem? hs2))
      obtain ⟨xa2, xn2, xc2, tb2, hx2, hxr2, hxt2, _⟩ := HRk2.out.out
      have HX2 := hid hx2
      have HXr2 := hid hxr2
      have HXt2 := hid hxt2
      have HN2 := hid HRk2.out.nrm
      have HRg2 : Hid (∀ w' : World, Below w.heap.size w w' → Calls Try.prog 20 #[.pointer (some ⟨mb, 0, none⟩), .int .i64 oB] w' fun e w'' => e = .returned (.pointer (some ⟨p2.1, 0, none⟩)) ∧ w'' = w') := hid (fun w' hb => reg_walk mb a S oB p2 w' (HM.out.below hb) HO.out.fb h0s hs2)
      clear hx2 hxr2 hxt2 hs2
      have HBe1d : Hid (Below w.heap.size w w1.drew) := hid (HBe.out.trans ((Drew.below ⟨1, rfl⟩ _ : Below w1.heap.size w1 w1.drew).mono HBe.out.size))
      have HB1d : Hid (Blk w1.drew q 28 [.int .i64 20, .int .i64 oA, .int .i64 oB, .slice ia inn ic, .slice ra rn rc]) := hid HB1.out
      have HB2d : Hid (Blk w1.drew r 51 (resC 0 false 0)) := hid HB2.out
      have HQ : Hid (∀ w' : World, Below w.heap.size w w' → Below w1.heap.size w1 w' → True) := hid (fun _ _ _ => trivial)
      have Hqw : Hid (∀ w' : World, (w'.cell? ⟨q, 1, none⟩ = some (.int .i64 oA) ∧ w'.cell? ⟨q, 2, none⟩ = some (.int .i64 oB)) → Below w.heap.size w w' → w'.cell? ⟨q, 1, none⟩ = some (.int .i64 oA) ∧ w'.cell? ⟨q, 2, none⟩ = some (.int .i64 oB) ∧ Below w.heap.size w w' ∧ w'.cell? ⟨p1.1, 0, none⟩ = some (.slice xa1 xn1 xc1) ∧ w'.cell? ⟨p2.1, 0, none⟩ = some (.slice xa2 xn2 xc2)) := hid (fun w' hc hb => ⟨hc.1, hc.2, hb, by rw [hb.cell HX1.out.lt]; exact HX1.out.cell 0, by rw [hb.cell HX2.out.lt]; exact HX2.out.cell 0⟩)
      have hqc : w1.drew.cell? ⟨q, 1, none⟩ = some (.int .i64 oA) ∧ w1.drew.cell? ⟨q, 2, none⟩ = some (.int .i64 oB) := ⟨HB1d.out.cell 1, HB1d.out.cell 2⟩
      have Hqc := hid hqc
      clear hqc
      go_upto_region 47 with fail
      refine wp_region_heavy (fun w' => w'.cell? ⟨q, 1, none⟩ = some (.int .i64 oA) ∧ w'.cell? ⟨q, 2, none⟩ = some (.int .i64 oB) ∧ Below w.heap.size w w' ∧ w'.cell? ⟨p1.1, 0, none⟩ = some (.slice xa1 xn1 xc1) ∧ w'.cell? ⟨p2.1, 0, none⟩ = some (.slice xa2 xn2 xc2)) 16 [0, 1, 2, 3, 4, 5, 6, 7, 8, 9, 10, 11, 12, 13] [14, 15] rfl (by kernel_rfl) (by kernel_rfl) (fun d _ _ _ _ h => by cases d <;> exact h) (Hqw.out _ Hqc.out HBe1d.out) ?_
      apply Exists.intro
      refine ⟨?_, ?_⟩
      · intro W hW
        have d0 : ∀ x, (W x).cell? ⟨q, 1, none⟩ = some (.int .i64 oA) := fun x => (hW x).1
        have d1 : ∀ x, (W x).cell? ⟨q, 2, none⟩ = some (.int .i64 oB) := fun x => (hW x).2.1
        have HR1 : Hid (∀ x, Calls Try.prog 20 #[.pointer (some ⟨mb, 0, none⟩), .int .i64 oA] (W x) fun e w'' => e = .returned (.pointer (some ⟨p1.1, 0, none⟩)) ∧ w'' = W x) := hid (fun x => HRg1.out _ (hW x).2.2.1)
        have d3 : ∀ x, (W x).cell? ⟨p1.1, 0, none⟩ = some (.slice xa1 xn1 xc1) := fun x => (hW x).2.2.2.1
        have d4 : ∀ x, (W x).cell? ⟨p2.1, 0, none⟩ = some (.slice xa2 xn2 xc2) := fun x => (hW x).2.2.2.2
        have HR2 : Hid (∀ x, Calls Try.prog 20 #[.pointer (some ⟨mb, 0, none⟩), .int .i64 oB] (W x) fun e w'' => e = .returned (.pointer (some ⟨p2.1, 0, none⟩)) ∧ w'' = W x) := hid (fun x => HRg2.out _ (hW x).2.2.1)
        clear hW
        simp only [List.take, opsAt, List.drop, List.cons_append, List.nil_append]
        repeat (go_big_quiet_step ((go_at_call 20; first | (with_reducible exact Calls.class_same (HR1.out _)) | (with_reducible exact Calls.class_same (HR2.out _)))))
        exact rfl
      simp only [List.take, List.drop, opsAt, List.cons_append, List.nil_append, wpHv]
      generalize w1.drew = w1d at HBe1d HB1d HB2d Hqc ⊢
      have HSs : Hid (∀ w' : World, Below w1d.heap.size w1d w' → w'.cell? ⟨q, 1, none⟩ = some (.int .i64 oA) ∧ w'.cell? ⟨q, 2, none⟩ = some (.int .i64 oB) ∧ Below w.heap.size w w' ∧ w'.cell? ⟨p1.1, 0, none⟩ = some (.slice xa1 xn1 xc1) ∧ w'.cell? ⟨p2.1, 0, none⟩ = some (.slice xa2 xn2 xc2)) := hid (fun w' hb => Hqw.out w' ⟨by rw [hb.cell HB1d.out.lt]; exact Hqc.out.1, by rw [hb.cell HB1d.out.lt]; exact Hqc.out.2⟩ (HBe1d.out.trans (hb.mono HBe1d.out.size)))
      go_wp2_with fail
      refine (subset_walk xa1 xn1 xc1 p1.2 xa2 xn2 xc2 p2.2 w1d (HXr1.out.below HBe1d.out) (HXr2.out.below HBe1d.out) HN1.out HN2.out).mono ?_
      rintro e w2 ⟨rfl, hb⟩
      have HB12 := hid hb
      clear hb
      go_wp2_with fail
      refine ⟨HSs.out w2 HB12.out, ?_⟩
      go_wp2_with fail
      refine (truth_walk _ w2).mono ?_
      rintro e w3 ⟨rfl, hb3⟩
      have HB13 := hid (HB12.out.trans (hb3.mono HB12.out.size))
      have HBc : Hid (Below w.heap.size w w3) := hid (HBe1d.out.trans (HB13.out.mono HBe1d.out.size))
      have HRs := hid (HB2d.out.below HB13.out)
      clear hb3
      go_wp2_with fail
      refine ⟨HSs.out w3 HB13.out, ?_⟩
      simp only [QN]
      have I0 : Hid ((Try.prog.info? 51).map (·.size) = some (resC 0 true (bitI (subB p1.2 p2.2))).length) := hid info_res
      go_wp2_with (refine wpList_store_blk rfl 51 _ _ rfl r rfl (resC 0 true (bitI (subB p1.2 p2.2))) rfl HRs.out rfl I0.out (res_one _ _ _) ?_; intro w9 HB9 HU9)
      have hu9 : Below w.heap.size w w9 := HBc.out.trans (HU9.out.below hrw HBc.out.size)
      exact bodyPost_ret (results_cell_tmp Try.results22 rfl (show AggOf Try.prog 51 (List.length (resC 0 true (bitI (subB p1.2 p2.2)))) from aggRes) HB9.out) rfl
        ⟨⟨resC 0 true (bitI (subB p1.2 p2.2)), none, 0, 0, [], a, rfl, Fl.nil _ _, (fun p hp => by simp at hp), HM.out.below hu9, (.ask (HNe2.out rfl) _ (by simp only [askR]; simp; rw [HL1.out, HL2.out]) rfl), (fun p hp => by simp at hp), List.Pairwise.nil, .inl rfl, (fun g hg => by cases hg), (by simp)⟩, UpdM.ofBelow hu9⟩
    · as_aux_lemma =>
      have h0 : 0 < n := HNe.out rfl
      have h0s : 0 < S.length := by rw [Hn.out]; exact h0
      obtain ⟨p1, hp1⟩ : ∃ p, S.getD (regIx S.length oA) (0, []) = p := ⟨_, rfl⟩
      have hs1 : S[regIx S.length oA]? = some p1 := by rw [← hp1]; exact regAt h0s oA
      have HL1 : Hid (regL (S.map (·.2)) oA = p1.2) := hid (by rw [regL_map, hp1])
      have HRk1 := hid (HM.out.regs p1 (List.mem_of_getElem? hs1))
      obtain ⟨xa1, xn1, xc1, tb1, hx1, hxr1, hxt1, _⟩ := HRk1.out.out
      have HX1 := hid hx1
      have HXr1 := hid hxr1
      have HXt1 := hid hxt1
      have HN1 := hid HRk1.out.nrm
      have HRg1 : Hid (∀ w' : World, Below w.heap.size w w' → Calls Try.prog 20 #[.pointer (some ⟨mb, 0, none⟩), .int .i64 oA] w' fun e w'' => e = .returned (.pointer (some ⟨p1.1, 0, none⟩)) ∧ w'' = w') := hid (fun w' hb => reg_walk mb a S oA p1 w' (HM.out.below hb) HO.out.fa h0s hs1)
      clear hx1 hxr1 hxt1 hs1
      obtain ⟨p2, hp2⟩ : ∃ p, S.getD (regIx S.length oB) (0, []) = p := ⟨_, rfl⟩
      have hs2 : S[regIx S.length oB]? = some p2 := by rw [← hp2]; exact regAt h0s oB
      have HL2 : Hid (regL (S.map (·.2)) oB = p2.2) := hid (by rw [regL_map, hp2])
      have HRk2 := hid (HM.out.regs p2 (List.mem_of_getElem? hs2))
      obtain ⟨xa2, xn2, xc2, tb2, hx2, hxr2, hxt2, _⟩ := HRk2.out.out
      have HX2 := hid hx2
      have HXr2 := hid hxr2
      have HXt2 := hid hxt2
      have HN2 := hid HRk2.out.nrm
      have HRg2 : Hid (∀ w' : World, Below w.heap.size w w' → Calls Try.prog 20 #[.pointer (some ⟨mb, 0, none⟩), .int .i64 oB] w' fun e w'' => e = .returned (.pointer (some ⟨p2.1, 0, none⟩)) ∧ w'' = w') := hid (fun w' hb => reg_walk mb a S oB p2 w' (HM.out.below hb) HO.out.fb h0s hs2)
      clear hx2 hxr2 hxt2 hs2
      have HBe1d : Hid (Below w.heap.size w w1.drew) := hid (HBe.out.trans ((Drew.below ⟨1, rfl⟩ _ : Below w1.heap.size w1 w1.drew).mono HBe.out.size))
      have HB1d : Hid (Blk w1.drew q 28 [.int .i64 21, .int .i64 oA, .int .i64 oB, .slice ia inn ic, .slice ra rn rc]) := hid HB1.out
      have HB2d : Hid (Blk w1.drew r 51 (resC 0 false 0)) := hid HB2.out
      have HQ : Hid (∀ w' : World, Below w.heap.size w w' → Below w1.heap.size w1 w' → True) := hid (fun _ _ _ => trivial)
      have Hqw : Hid (∀ w' : World, (w'.cell? ⟨q, 1, none⟩ = some (.int .i64 oA) ∧ w'.cell? ⟨q, 2, none⟩ = some (.int .i64 oB)) → Below w.heap.size w w' → w'.cell? ⟨q, 1, none⟩ = some (.int .i64 oA) ∧ w'.cell? ⟨q, 2, none⟩ = some (.int .i64 oB) ∧ Below w.heap.size w w' ∧ w'.cell? ⟨p1.1, 0, none⟩ = some (.slice xa1 xn1 xc1) ∧ w'.cell? ⟨p2.1, 0, none⟩ = some (.slice xa2 xn2 xc2)) := hid (fun w' hc hb => ⟨hc.1, hc.2, hb, by rw [hb.cell HX1.out.lt]; exact HX1.out.cell 0, by rw [hb.cell HX2.out.lt]; exact HX2.out.cell 0⟩)
      have hqc : w1.drew.cell? ⟨q, 1, none⟩ = some (.int .i64 oA) ∧ w1.drew.cell? ⟨q, 2, none⟩ = some (.int .i64 oB) := ⟨HB1d.out.cell 1, HB1d.out.cell 2⟩
      have Hqc := hid hqc
      clear hqc
      go_upto_region 49 with fail
      refine wp_region_heavy (fun w' => w'.cell? ⟨q, 1, none⟩ = some (.int .i64 oA) ∧ w'.cell? ⟨q, 2, none⟩ = some (.int .i64 oB) ∧ Below w.heap.size w w' ∧ w'.cell? ⟨p1.1, 0, none⟩ = some (.slice xa1 xn1 xc1) ∧ w'.cell? ⟨p2.1, 0, none⟩ = some (.slice xa2 xn2 xc2)) 16 [0, 1, 2, 3, 4, 5, 6, 7, 8, 9, 10, 11, 12, 13] [14, 15] rfl (by kernel_rfl) (by kernel_rfl) (fun d _ _ _ _ h => by cases d <;> exact h) (Hqw.out _ Hqc.out HBe1d.out) ?_
      apply Exists.intro
      refine ⟨?_, ?_⟩
      · intro W hW
        have d0 : ∀ x, (W x).cell? ⟨q, 1, none⟩ = some (.int .i64 oA) := fun x => (hW x).1
        have d1 : ∀ x, (W x).cell? ⟨q, 2, none⟩ = some (.int .i64 oB) := fun x => (hW x).2.1
        have HR1 : Hid (∀ x, Calls Try.prog 20 #[.pointer (some ⟨mb, 0, none⟩), .int .i64 oA] (W x) fun e w'' => e = .returned (.pointer (some ⟨p1.1, 0, none⟩)) ∧ w'' = W x) := hid (fun x => HRg1.out _ (hW x).2.2.1)
        have d3 : ∀ x, (W x).cell? ⟨p1.1, 0, none⟩ = some (.slice xa1 xn1 xc1) := fun x => (hW x).2.2.2.1
        have d4 : ∀ x, (W x).cell? ⟨p2.1, 0, none⟩ = some (.slice xa2 xn2 xc2) := fun x => (hW x).2.2.2.2
        have HR2 : Hid (∀ x, Calls Try.prog 20 #[.pointer (some ⟨mb, 0, none⟩), .int .i64 oB] (W x) fun e w'' => e = .returned (.pointer (some ⟨p2.1, 0, none⟩)) ∧ w'' = W x) := hid (fun x => HRg2.out _ (hW x).2.2.1)
        clear hW
        simp only [List.take, opsAt, List.drop, List.cons_append, List.nil_append]
        repeat (go_big_quiet_step ((go_at_call 20; first | (with_reducible exact Calls.class_same (HR1.out _)) | (with_reducible exact Calls.class_same (HR2.out _)))))
        exact rfl
      simp only [List.take, List.drop, opsAt, List.cons_append, List.nil_append, wpHv]
      generalize w1.drew = w1d at HBe1d HB1d HB2d Hqc ⊢
      have HSs : Hid (∀ w' : World, Below w1d.heap.size w1d w' → w'.cell? ⟨q, 1, none⟩ = some (.int .i64 oA) ∧ w'.cell? ⟨q, 2, none⟩ = some (.int .i64 oB) ∧ Below w.heap.size w w' ∧ w'.cell? ⟨p1.1, 0, none⟩ = some (.slice xa1 xn1 xc1) ∧ w'.cell? ⟨p2.1, 0, none⟩ = some (.slice xa2 xn2 xc2)) := hid (fun w' hb => Hqw.out w' ⟨by rw [hb.cell HB1d.out.lt]; exact Hqc.out.1, by rw [hb.cell HB1d.out.lt]; exact Hqc.out.2⟩ (HBe1d.out.trans (hb.mono HBe1d.out.size)))
      go_wp2_with fail
      refine (overlaps_walk xa1 xn1 xc1 p1.2 xa2 xn2 xc2 p2.2 w1d (HXr1.out.below HBe1d.out) (HXr2.out.below HBe1d.out) HN1.out HN2.out).mono ?_
      rintro e w2 ⟨rfl, hb⟩
      have HB12 := hid hb
      clear hb
      go_wp2_with fail
      refine ⟨HSs.out w2 HB12.out, ?_⟩
      go_wp2_with fail
      refine (truth_walk _ w2).mono ?_
      rintro e w3 ⟨rfl, hb3⟩
      have HB13 := hid (HB12.out.trans (hb3.mono HB12.out.size))
      have HBc : Hid (Below w.heap.size w w3) := hid (HBe1d.out.trans (HB13.out.mono HBe1d.out.size))
      have HRs := hid (HB2d.out.below HB13.out)
      clear hb3
      go_wp2_with fail
      refine ⟨HSs.out w3 HB13.out, ?_⟩
      simp only [QN]
      have I0 : Hid ((Try.prog.info? 51).map (·.size) = some (resC 0 true (bitI (ovB p1.2 p2.2))).length) := hid info_res
      go_wp2_with (refine wpList_store_blk rfl 51 _ _ rfl r rfl (resC 0 true (bitI (ovB p1.2 p2.2))) rfl HRs.out rfl I0.out (res_one _ _ _) ?_; intro w9 HB9 HU9)
      have hu9 : Below w.heap.size w w9 := HBc.out.trans (HU9.out.below hrw HBc.out.size)
      exact bodyPost_ret (results_cell_tmp Try.results22 rfl (show AggOf Try.prog 51 (List.length (resC 0 true (bitI (ovB p1.2 p2.2)))) from aggRes) HB9.out) rfl
        ⟨⟨resC 0 true (bitI (ovB p1.2 p2.2)), none, 0, 0, [], a, rfl, Fl.nil _ _, (fun p hp => by simp at hp), HM.out.below hu9, (.ask (HNe2.out rfl) _ (by simp only [askR]; simp; rw [HL1.out, HL2.out]) rfl), (fun p hp => by simp at hp), List.Pairwise.nil, .inl rfl, (fun g hg => by cases hg), (by simp)⟩, UpdM.ofBelow hu9⟩
    · as_aux_lemma =>
      have h0 : 0 < n := HNe.out rfl
      have h0s : 0 < S.length := by rw [Hn.out]; exact h0
      have hr5 : rn ≤ 65536 := hr
      have HBe1d : Hid (Below w.heap.size w w1.drew) := hid (HBe.out.trans ((Drew.below ⟨1, rfl⟩ _ : Below w1.heap.size w1 w1.drew).mono HBe.out.size))
      have HB1d : Hid (Blk w1.drew q 28 [.int .i64 22, .int .i64 oA, .int .i64 oB, .slice ia inn ic, .slice ra rn rc]) := hid HB1.out
      have HB2d : Hid (Blk w1.drew r 51 (resC 0 false 0)) := hid HB2.out
      have HS0 : Hid (w1.drew.cell? ⟨q, 4, none⟩ = some (.slice ra rn rc) ∧ w1.drew.cell? ⟨q, 2, none⟩ = some (.int .i64 oB)) := hid ⟨HB1d.out.cell 4, HB1d.out.cell 2⟩
      go_upto_region 51 with fail
      refine wp_region_hlh (fun w' => w'.cell? ⟨q, 4, none⟩ = some (.slice ra rn rc) ∧ w'.cell? ⟨q, 2, none⟩ = some (.int .i64 oB)) 12 [0, 1, 2, 6, 7] [3, 4, 5, 8] [9, 10] [11] rfl (by kernel_rfl) (by kernel_rfl) (fun d _ _ _ _ h => by cases d <;> exact h) HS0.out ?_
      apply Exists.intro
      refine ⟨?_, ?_⟩
      · intro W hW
        have d0 : ∀ x, (W x).cell? ⟨q, 4, none⟩ = some (.slice ra rn rc) := fun x => (hW x).1
        have d1 : ∀ x, (W x).cell? ⟨q, 2, none⟩ = some (.int .i64 oB) := fun x => (hW x).2
        clear hW
        simp only [List.take, opsAt, List.drop, List.cons_append, List.nil_append]
        repeat (go_big_quiet_step (fail))
        exact rfl
      simp only [List.take, List.drop, opsAt, List.cons_append, List.nil_append, wpHvK]
      generalize w1.drew = w1d at HBe1d HB1d HB2d HS0 ⊢
      have HSs : Hid (∀ w' : World, Below w1d.heap.size w1d w' → w'.cell? ⟨q, 4, none⟩ = some (.slice ra rn rc) ∧ w'.cell? ⟨q, 2, none⟩ = some (.int .i64 oB)) := hid (fun w' hb => ⟨by rw [hb.cell HB1d.out.lt]; exact HS0.out.1, by rw [hb.cell HB1d.out.lt]; exact HS0.out.2⟩)
      have HMd := hid (HM.out.below HBe1d.out)
      have HOd := hid (HO.out.below HBe1d.out)
      have HFm := hid (family_walk mb a S ra rn rc rg w1d HMd.out h0s HOd.out.rg hr5)
      go_wp2_with fail
      refine HFm.out.mono ?_
      rintro e wf ⟨gf, rfl, hgf, hbf, hbe2⟩
      have hlf : ((famL S rg).map ptV).length = rn := by rw [List.length_map, famL_len]; exact HOd.out.rg.1.1
      have HRf : Hid (∀ p ∈ famL S rg, RegOk wf p.1 p.2) := hid (fun p hp => (HMd.out.regs p (famL_mem h0s hp)).below hbe2)
      have HFc := hid (classes_walk (some ⟨gf, 0, none⟩) rn rn (famL S rg) wf (Fl.made hbf hlf (by unfold maxLen; omega)) HRf.out hr5)
      have HBf := hid hbe2
      clear hbf hbe2 HFm
      go_wp2_with fail
      refine ⟨HSs.out wf HBf.out, ?_⟩
      go_wp2_with fail
      refine HFc.out.mono ?_
      rintro e wg ⟨gc, T, rfl, hgc, hbc, hclc, hbe3⟩
      have HCc := hid hclc
      have HBg := hid (HBf.out.trans (hbe3.mono HBf.out.size))
      have hlT : (T.map clV).length = rn := by rw [List.length_map, hclc.len, List.length_map, famL_len]; exact HOd.out.rg.1.1
      have HFg := hid (Fl.made hbc hlT (by unfold maxLen; omega))
      clear hbc hclc hbe3 HFc HBf
      go_wp2_with fail
      refine ⟨HSs.out wg HBg.out, ?_⟩
      go_wp2_with fail
      refine (newPart_walk (some ⟨gc, 0, none⟩) rn rn T _ wg HFg.out HCc.out hr5).mono ?_
      rintro e wh hp
      obtain ⟨pb, g, T1, P, pt, sa, sc, oa, oc, rfl, hv⟩ := hp.v
      have HV := hid hv
      have HBh := hid (HBg.out.trans (hp.bel.mono HBg.out.size))
      clear hp hv HFg HCc
      go_wp2_with fail
      refine ⟨HSs.out wh HBh.out, ?_⟩
      go_wp2_with fail
      refine (index_walk _ pb g T1 P pt sa sc oa oc oB wh HV.out).mono ?_
      rintro e wi ⟨⟨vi, oki, rfl, hix⟩, hbi⟩
      have HBi := hid (HBh.out.trans (hbi.mono HBh.out.size))
      have HIx := hid hix
      have HSem : Hid (SemP (famLs (S.map (·.2)) rg) P pt) := hid ⟨HV.out.pi, by rw [famLs_map]; exact HV.out.sem⟩
      clear hbi hix HBh HV
      go_wp2_with fail
      refine ⟨HSs.out wi HBi.out, ?_⟩
      apply Exists.intro
      refine ⟨?_, ?_⟩
      · intro W hW
        clear hW
        repeat (go_big_quiet_step (fail))
        exact rfl
      simp only [wpHv]
      go_wp2_with fail
      refine (number_walk vi oki wi).mono ?_
      rintro e wj ⟨rfl, hbj⟩
      have HBj := hid (HBi.out.trans (hbj.mono HBi.out.size))
      clear hbj
      go_wp2_with fail
      refine ⟨HSs.out wj HBj.out, ?_⟩
      simp only [QN]
      have HRs := hid (HB2d.out.below HBj.out)
      have HBc : Hid (Below w.heap.size w wj) := hid (HBe1d.out.trans (HBj.out.mono HBe1d.out.size))
      have I0 : Hid ((Try.prog.info? 51).map (·.size) = some (numR vi oki).length) := hid (by cases oki <;> exact info_res)
      go_wp2_with (refine wpList_store_blk rfl 51 _ _ rfl r rfl (numR vi oki) rfl HRs.out (by cases oki <;> rfl) I0.out (num_one _ _) ?_; intro w9 HB9 HU9)
      have hu9 : Below w.heap.size w w9 := HBc.out.trans (HU9.out.below hrw HBc.out.size)
      exact bodyPost_ret (results_cell_tmp Try.results22 rfl (show AggOf Try.prog 51 (List.length (numR vi oki)) from (by cases oki <;> exact aggRes)) HB9.out) rfl
        ⟨⟨numR vi oki, none, 0, 0, [], a, rfl, Fl.nil _ _, (fun p hp => by simp at hp), HM.out.below hu9, (.idx rfl (HNe2.out rfl) P pt HSem.out vi oki HIx.out rfl), (fun p hp => by simp at hp), List.Pairwise.nil, .inl rfl, (fun g hg => by cases hg), (by simp)⟩, UpdM.ofBelow hu9⟩
    · as_aux_lemma =>
      have HRs := HB2
      have HBc := HBe
      have k0 : (kind == 0) = false := by simp; omega
      have k1 : (kind == 1) = false := by simp; omega
      have k2 : (kind == 2) = false := by simp; omega
      have k3 : (kind == 3) = false := by simp; omega
      have k4 : (kind == 4) = false := by simp; omega
      have k5 : (kind == 5) = false := by simp; omega
      have k6 : (kind == 6) = false := by simp; omega
      have k7 : (kind == 7) = false := by simp; omega
      have k8 : (kind == 8) = false := by simp; omega
      have k9 : (kind == 9) = false := by simp; omega
      have k10 : (kind == 10) = false := by simp; omega
      have k11 : (kind == 11) = false := by simp; omega
      have k12 : (kind == 12) = false := by simp; omega
      have k13 : (kind == 13) = false := by simp; omega
      have k14 : (kind == 14) = false := by simp; omega
      have k15 : (kind == 15) = false := by simp; omega
      have k16 : (kind == 16) = false := by simp; omega
      have k17 : (kind == 17) = false := by simp; omega
      have k18 : (kind == 18) = false := by simp; omega
      have k19 : (kind == 19) = false := by simp; omega
      have k20 : (kind == 20) = false := by simp; omega
      have k21 : (kind == 21) = false := by simp; omega
      have k22 : (kind == 22) = false := by simp; omega
      have I0 : Hid ((Try.prog.info? 51).map (·.size) = some (resC 0 false 0).length) := hid info_res
      go_wp2_with (refine wpList_store_blk rfl 51 _ _ rfl r rfl (resC 0 false 0) rfl HRs.out rfl I0.out (res_one _ _ _) ?_; intro w9 HB9 HU9)
      have hu9 : Below w.heap.size w w9 := HBc.out.trans (HU9.out.below hrw HBc.out.size)
      exact bodyPost_ret (results_cell_tmp Try.results22 rfl (show AggOf Try.prog 51 (List.length (resC 0 false 0)) from aggRes) HB9.out) rfl
        ⟨⟨resC 0 false 0, none, 0, 0, [], a, rfl, Fl.nil _ _, (fun p hp => by simp at hp), HM.out.below hu9, (.other hk (HNe2.out (by unfold needB; rw [decide_eq_false (show ¬ kind = 0 by omega), decide_eq_false (show ¬ kind = 1 by omega), decide_eq_false (show ¬ kind = 2 by omega), decide_eq_false (show ¬ kind = 3 by omega), decide_eq_false (show ¬ kind = 4 by omega), decide_eq_false (show ¬ kind = 11 by omega)]; rfl)) rfl), (fun p hp => by simp at hp), List.Pairwise.nil, .inl rfl, (fun g hg => by cases hg), (by simp)⟩, UpdM.ofBelow hu9⟩
  case rest =>
  obtain ⟨oa, on, oc, rfl, HSw⟩ := hcut
  clear ck HB1 HB2 HBe HM1 HO1 HMb HNe
  obtain ⟨T, Ls, hfo, hcl, hon, hst⟩ := HSw.out.out
  have HSt := hid hst
  have hTl : T.length = on := by have := hfo.len; simpa using this
  have hLl : Ls.length = on := by rw [← hcl.len]; exact hTl
  obtain ⟨Z, hZl, hmk⟩ := make_ptr0 on (by omega) wc
  obtain ⟨gp, hgp⟩ : ∃ gp, wc.heap.size = gp := ⟨_, rfl⟩
  have HPL0 : Hid (PL mb a S w r oa on oc T Ls 0 [] a (some ⟨gp, 0, none⟩) on (wc.alloc (.cells Z.toArray 38))) := hid (by
    have hbz := Blk.new wc Z 38
    rw [hgp] at hbz
    have hbl := nbel wc (.cells Z.toArray 38)
    have hM := (HM.out.below HSw.out.bel)
    exact { done := rfl, len := rfl, upd := UpdM.ofBelow (HSw.out.bel.trans (hbl.mono HSw.out.bel.size)), mach := hM.below hbl, reg := fun p hp => by simp at hp
            fr := fun p hp => by simp at hp
            pw := List.Pairwise.nil, top := fun p hp => by simp at hp
            fl := Fl.room hbz hZl (by unfold maxLen; omega)
            sep := fun g hg => by
              have hg' : gp = g := by simpa [blkO] using hg
              subst hg'
              refine ⟨fun e => ?_, by have := HSw.out.bel.size; omega⟩
              obtain ⟨c, _, m2⟩ := hM.out
              obtain ⟨cs, hcs⟩ := m2.ty _ e
              have := hcs.lt
              omega
            ab := .inl rfl, out := hfo.below hbl, cls := hcl.below hbl, res := HSw.out.res.below hbl })
  clear hfo hcl hst
  go_upto_region 53 with fail
  generalize wc.alloc (.cells Z.toArray 38) = w2 at HPL0 ⊢
  clear hmk hZl HSw hTl
  go_upto_region 54 with fail
  go_loopw [7, 328] (fun v7 i wr => ∃ (k : Nat) (ps : List (Nat × List (Int × Int))) (a' pa : Option Addr) (pc : Nat), k ≤ on ∧ v7 = .slice pa k pc ∧ i = .int .i64 k ∧ Hid (PL mb a S w r oa on oc T Ls k ps a' pa pc wr)) (fun _ i _ => on - (intOf i).toNat)
  case atStart => exact ⟨0, [], a, some ⟨gp, 0, none⟩, on, Nat.zero_le _, rfl, rfl, HPL0⟩
  case round =>
    clear HPL0
    obtain ⟨k, ps, a', pa, pc, hk, rfl, rfl, HPL⟩ := hrel
    by_cases hlt : k < on
    rotate_left
    · as_aux_lemma =>
      have dk : decide ((k : Int) < (on : Int)) = false := decide_eq_false (by omega)
      obtain rfl : k = on := by omega
      have I0 : Hid ((Try.prog.info? 51).map (·.size) = some (resC (k : Int) false 0).length) := hid info_res
      have HPr := hid HPL.out.res
      go_wp2_with (refine wpList_store_blk rfl 51 _ _ rfl r rfl (resC (k : Int) false 0) rfl HPr.out rfl I0.out (res_one _ _ _) ?_; intro w9 HB9 HU9)
      have hu : UT (ofT 51) wr w9 := UT.upd HU9.out HPr.out
      have hk9 : KeepT wr w9 := KeepT.upd HPr.out (by decide) HU9.out
      obtain ⟨c9, m1, m2⟩ := HPL.out.mach.out
      have hdone : ps.map (·.2) = Ls := by rw [HPL.out.done, List.take_of_length_le (by omega)]
      exact bodyPost_ret (results_cell_tmp Try.results22 rfl (show AggOf Try.prog 51 (List.length (resC (k : Int) false 0)) from aggRes) HB9.out) rfl
        ⟨⟨resC (k : Int) false 0, pa, k, pc, ps, a', rfl, HPL.out.fl.ut hu (fun _ => notT (by decide)), (fun p hp => (HPL.out.reg p hp).keep hk9), ⟨HPL.out.mach.len, ⟨c9, m1.ut hu (notT (by decide)), m2.ut hu (fun _ => notT (by decide))⟩, fun p hp => (HPL.out.mach.regs p hp).keep hk9⟩, (by rw [hdone]; exact HSt.out), HPL.out.fr, HPL.out.pw, HPL.out.ab, (fun g hg => (HPL.out.sep g hg).2), (by rw [HPL.out.len]; exact hon)⟩, HPL.out.upd.trans (o' := some r) (UpdO.ofUpd HU9.out).updM (fun x hx => by cases hx; exact .inr hrw)⟩
    have dk : decide ((k : Int) < (on : Int)) = true := decide_eq_true (by omega)
    have i1 : (k : Int) < (on : Int) := by omega
    obtain ⟨t, l, ht, hl, hrow, hN, hty⟩ := HPL.out.cls.at (i := k) (by omega)
    obtain ⟨ta, tn, tc⟩ := t
    obtain ⟨b, off, rfl, e1⟩ := HPL.out.out.cell hlt
    rw [List.getElem?_map, ht] at e1
    have e1' : wr.cell? ⟨b, off + k, none⟩ = some (.slice ta tn tc) := e1
    obtain ⟨p0, hp0⟩ : ∃ p0, wr.heap.size = p0 := ⟨_, rfl⟩
    have HP2 : Hid (PL mb a S w r (some ⟨b, off, none⟩) on oc T Ls k ps a' pa pc (wr.alloc (.cells #[.slice ta tn tc] 30)) ∧ Blk (wr.alloc (.cells #[.slice ta tn tc] 30)) p0 30 [.slice ta tn tc] ∧ IvRow (wr.alloc (.cells #[.slice ta tn tc] 30)) ta tn tc l ∧ Ty67 (wr.alloc (.cells #[.slice ta tn tc] 30)) ta tn) := hid ⟨HPL.out.below (nbel wr _), by
      have := Blk.new wr [.slice ta tn tc] 30
      rw [hp0] at this
      exact this, hrow.below (nbel wr _), hty.below (nbel wr _)⟩
    have Hl := hid hl
    clear e1 ht hl hrow hty
    go_upto_region 56 with fail
    generalize wr.alloc (.cells #[.slice ta tn tc] 30) = w3 at HP2 ⊢
    clear e1' HPL
    have c3 : w3.cell? ⟨p0, 0, none⟩ = some (.slice ta tn tc) := HP2.out.2.1.cell 0
    have HPu := hid (push_walk mb a' (ps.foldl push12 S) ta tn tc l w3 HP2.out.1.mach HP2.out.2.2.1 hN HP2.out.2.2.2)
    go_wp2_with fail
    refine HPu.out.mono ?_
    rintro e w4 hpp
    obtain ⟨a2, rg2, hm2, hrg2, hnx, hfl2, hs2⟩ := HP2.out.1.push Hl.out hpp
    obtain rfl := hpp.ret
    have HM2 := hid hm2
    have Hnx := hid hnx
    have HF2 := hid hfl2
    have Hs2 := hid hs2
    obtain ⟨hl0, hlast⟩ := push12_last (ps.foldl push12 S) (rg2, l) HP2.out.1.mach.len
    obtain ⟨S2, hS2⟩ : ∃ S2, push12 (ps.foldl push12 S) (rg2, l) = S2 := ⟨_, rfl⟩
    rw [hS2] at hl0 hlast HM2
    clear hpp hm2 hnx hfl2 hs2 HPu HP2 c3 hS2
    obtain ⟨m, hm⟩ : ∃ m, S2.length = m + 1 := ⟨S2.length - 1, by omega⟩
    obtain ⟨pz, cz, gz, oz, hpz, _, hz2, hz3, hz4⟩ := HM2.out.at (k := m) (by omega)
    rw [show S2.length - 1 = m by omega, hpz] at hlast
    cases hlast
    subst hz2
    rw [hm] at hz3
    have hml := HM2.out.len
    have HSs : Hid (∀ w' : World, Below w4.heap.size w4 w' → w'.cell? ⟨mb, 0, none⟩ = some (.slice (some ⟨gz, oz, none⟩) (m + 1) cz) ∧ w'.cell? ⟨gz, oz + m, none⟩ = some (.pointer (some ⟨rg2, 0, none⟩))) := hid (fun w' hb => ⟨by rw [hb.cell (block_lt_of_cell hz3)]; exact hz3, by rw [hb.cell (block_lt_of_cell hz4)]; exact hz4⟩)
    clear hpz hz3 hz4
    go_upto_region 57 with fail
    refine wp_region_heavy (fun w' => w'.cell? ⟨mb, 0, none⟩ = some (.slice (some ⟨gz, oz, none⟩) (m + 1) cz) ∧ w'.cell? ⟨gz, oz + m, none⟩ = some (.pointer (some ⟨rg2, 0, none⟩))) 15 [0, 1, 2, 3, 4, 5, 6, 7, 8, 9, 10, 11, 12] [13, 14] rfl (by kernel_rfl) (by kernel_rfl) (fun d _ _ _ _ h => by cases d <;> exact h) (HSs.out _ (Drew.below ⟨1, rfl⟩ _)) ?_
    apply Exists.intro
    refine ⟨?_, ?_⟩
    · intro W hW
      have d0 : ∀ x, (W x).cell? ⟨mb, 0, none⟩ = some (.slice (some ⟨gz, oz, none⟩) (m + 1) cz) := fun x => (hW x).1
      have d1 : ∀ x, (W x).cell? ⟨gz, oz + m, none⟩ = some (.pointer (some ⟨rg2, 0, none⟩)) := fun x => (hW x).2
      clear hW
      simp only [List.take, opsAt, List.drop, List.cons_append, List.nil_append]
      repeat (go_big_quiet_step (fail))
      exact rfl
    simp only [List.take, List.drop, opsAt, List.cons_append, List.nil_append, wpHv]
    have HBd : Hid (Below w4.heap.size w4 w4.drew) := hid (Drew.below ⟨1, rfl⟩ _)
    generalize w4.drew = w5 at HBd ⊢
    obtain ⟨q5, hq5⟩ : ∃ q5, w5.heap.size = q5 := ⟨_, rfl⟩
    have hbq := Blk.new w5 [.pointer (some ⟨rg2, 0, none⟩)] 38
    rw [hq5] at hbq
    obtain ⟨w6, hw6⟩ : ∃ w6, w5.alloc (.cells #[.pointer (some ⟨rg2, 0, none⟩)] 38) = w6 := ⟨_, rfl⟩
    have hw6' : w5.alloc (.cells [Value.pointer (some ⟨rg2, 0, none⟩)].toArray 38) = w6 := hw6
    rw [hw6'] at hbq
    have HBe6 : Hid (Below w4.heap.size w4 w6) := hid (by rw [← hw6]; exact HBd.out.trans ((nbel w5 _).mono HBd.out.size))
    have Hcq : Hid (w6.cell? ⟨q5, 0, none⟩ = some (.pointer (some ⟨rg2, 0, none⟩))) := hid (hbq.cell 0)
    clear hbq hw6'
    go_wp2_with fail
    try simp only [hw6]
    clear hw6 HBd hq5
    refine ⟨HSs.out _ HBe6.out, ?_⟩
    have hby : (k + 1) * 8 ≤ 140737488355328 := by omega
    have HF6 := hid (HF2.out.below HBe6.out)
    obtain ⟨i0, hi0, hz0, hz1, hz2⟩ := info_ptr
    have HI := hid (And.intro hi0 (And.intro hz0 (And.intro hz1 hz2)))
    clear hi0 hz0 hz1 hz2
    go_wp2_with (at_builtin; refine wpList_append_file rfl (.tmp 335) (.tmp 348) 44 rfl 38 i0 (.pointer none) 8 Try.underlying44 HI.out.1 HI.out.2.1 HI.out.2.2.1 HI.out.2.2.2 rfl pa k pc _ rfl HF6.out q5 1 (.pointer (some ⟨rg2, 0, none⟩)) rfl Hcq.out rfl hby (by decide) ?_; intro a7 c7 w7 hf7 hu7 hb7 hn7; have HF7 := hid hf7; have HU7 := hid hu7; have Hb7 := hid hb7; clear hf7 hu7 hb7 hn7)
    have HP8 := hid (Hnx.out w7 a7 c7 ((UpdO.ofBelow HBe6.out).trans HU7.out) (by rw [List.map_append]; exact HF7.out) (by
      rcases Hb7.out with h | h
      · exact .inl h
      · exact .inr ⟨_, h, HBe6.out.size⟩))
    obtain ⟨c8, m8, f8⟩ := HM2.out.out
    have hs7 : w7.cell? ⟨mb, 0, none⟩ = some (.slice (some ⟨gz, oz, none⟩) (m + 1) cz) ∧ w7.cell? ⟨gz, oz + m, none⟩ = some (.pointer (some ⟨rg2, 0, none⟩)) := by
      obtain ⟨h1, h2⟩ := HSs.out _ HBe6.out
      refine ⟨?_, ?_⟩
      · rw [← h1]
        exact World.cell?_of_block (HU7.out.block mb (by have := m8.lt; have := HBe6.out.size; omega) (fun e => (Hs2.out mb e).2 rfl))
      · rw [← h2]
        exact World.cell?_of_block (HU7.out.block gz (block_lt_of_cell h2) (fun e => (Hs2.out gz e).1 rfl))
    refine ⟨hs7, ?_⟩
    clear hs7 m8 f8
    simp only [QN]
    go_wp2
    exact ⟨⟨k + 1, _, _, _, _, by omega, rfl, by go_num, HP8⟩, by simp [intOf]; omega⟩
end Go.Proofs.Qxb6500884a
