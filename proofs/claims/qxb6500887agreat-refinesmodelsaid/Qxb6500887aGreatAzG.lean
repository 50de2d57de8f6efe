/- Open, Header; the small readers of an object. -/
import Derived.Test.Qxb6500887aGreatAzF
namespace Go.Proofs.Qxb6500887aGreat
open Go.RowKit
set_option linter.unusedSimpArgs false
set_option linter.unusedVariables false

theorem opL_len (l : AL) (S : AS) (g : Nat) : (opL l S g).length = 5 := by unfold opL; split <;> rfl
theorem opL_one (l : AL) (S : AS) (g : Nat) : ∀ u ∈ opL l S g, u.oneCell' = true := by
  unfold opL; split
  · exact obL_one _ _
  · exact ob0_one
/-- Open: the code, the object. -/
def onC (S : AS) (x : Int) : Int := if wantO x = 0 then opC S (gIx x) else wantO x
def onL (l : AL) (S : AS) (x : Int) : List Value := if wantO x = 0 then opL l S (gIx x) else ob0
theorem onL_len (l : AL) (S : AS) (x : Int) : (onL l S x).length = 5 := by
  unfold onL; split
  · exact opL_len _ _ _
  · rfl
theorem onL_one (l : AL) (S : AS) (x : Int) : ∀ u ∈ onL l S x, u.oneCell' = true := by
  unfold onL; split
  · exact opL_one _ _ _
  · exact ob0_one
theorem onC_ok {l : AL} {S : AS} {x : Int} {w : World} (h : AM l S w) (hc : onC S x = 0) : wantO x = 0 ∧ gIx x < 16384 ∧ onL l S x = obL l (opO S (gIx x)) ∧ ObOk (opO S (gIx x)) := by
  unfold onC at hc
  by_cases hw : wantO x = 0
  · rw [if_pos hw] at hc
    have hg := (gIx_of hw).2.1
    refine ⟨hw, hg, ?_, (opC_ok hg (h.wl _) hc).2.1⟩
    unfold onL opL
    rw [if_pos hw, if_pos hc]
  · rw [if_neg hw] at hc
    exact absurd hc hw
theorem onC_no {l : AL} {S : AS} {x : Int} (hc : onC S x ≠ 0) : onL l S x = ob0 := by
  unfold onC at hc
  unfold onL
  by_cases hw : wantO x = 0
  · rw [if_pos hw] at hc ⊢
    unfold opL
    rw [if_neg hc]
  · rw [if_neg hw]
section
variable {l : AL} {S : AS} {w w' w0 : World} {p : Nat} {cs : List Value} {o : Ob}
set_option maxRecDepth 100000 in
set_option maxHeartbeats 1000000 in
theorem openZ (h : AM l S w) (x : Int) : Calls Tryz.prog 22 #[.pointer (some ⟨l.a, 0, none⟩), .int .u64 x] w fun e w' => e = .returned (.tuple #[.agg (onL l S x).toArray, .int .u8 (onC S x)]) ∧ Below w.heap.size w w' := by
  obtain ⟨p, hp⟩ : ∃ p, w.heap.size = p := ⟨_, rfl⟩
  have HX := hid (OX.new (cs := ob0) h (Below.refl _ w) hp)
  have I0 := hid info_ob
  clear h
  have HX' : Hid (OX w l S p ob0 (w.alloc (.cells #[.pointer none, .int .i64 0, .int .u64 0, .int .i64 0, .int .i64 0] 61))) := HX
  clear HX
  by_cases hc : wantO x = 0
  · have e1 : onL l S x = opL l S (gIx x) := by unfold onL; rw [if_pos hc]
    have e2 : onC S x = opC S (gIx x) := by unfold onC; rw [if_pos hc]
    rw [e1, e2]
    have HG := hid (fun wz => granule_g hc wz)
    have hg := (gIx_of hc).2.1
    have HO := hid (fun wz (hz : AM l S wz) => openGranuleZ hz (gIx x) hg)
    have Hlen := hid (opL_len l S (gIx x))
    have Hone := hid (opL_one l S (gIx x))
    generalize opL l S (gIx x) = r at *
    generalize opC S (gIx x) = c at *
    generalize gIx x = g at *
    clear e1 e2 hc
    go_enter Tryz.func22, Tryz.ntmps22
    go_upto_region 1 with fail
    (try simp only [hp])
    generalize hw1 : w.alloc _ = w1 at HX' ⊢
    clear hw1 hp
    (go_wp2_with fail; refine ((HG.out w1)).mono ?_; rintro e_ w_ ⟨he_, hw_⟩; subst he_; have hs_ := hw_.symm; clear hw_; subst hs_)
    go_wp2_with fail
    refine (HO.out _ HX'.out.am).mono ?_
    rintro e w2 ⟨rfl, hb2⟩
    have HX2 := hid (HX'.out.below hb2)
    clear hb2 HX' HO HG
    go_wp2_with (refine wpList_store_blk rfl 61 _ _ rfl p rfl r rfl HX2.out.bk (by rw [Hlen.out]; rfl) (by rw [Hlen.out]; exact I0.out) Hone.out ?_; intro w9 HB9 HU9)
    refine bodyPost_ret (results_cell_tmp (cs := r) Tryz.results22 rfl (by rw [Hlen.out]; exact agg_ob) HB9.out) rfl ?_
    exact ⟨rfl, HX2.out.bel.trans (HU9.out.below HX2.out.lo HX2.out.bel.size)⟩
  · have e1 : onL l S x = ob0 := by unfold onL; rw [if_neg hc]
    have e2 : onC S x = wantO x := by unfold onC; rw [if_neg hc]
    rw [e1, e2]
    have HG := hid (fun wz => granule_bad x hc wz)
    have dc : (wantO x == 0) = false := by simpa using hc
    have dc2 : (wantO x != 0) = true := by simp [bne, dc]
    generalize wantO x = c at *
    clear e1 e2 hc
    go_enter Tryz.func22, Tryz.ntmps22
    go_upto_region 1 with fail
    (try simp only [hp])
    generalize hw1 : w.alloc _ = w1 at HX' ⊢
    clear hw1 hp
    (go_wp2_with fail; refine ((HG.out w1)).mono ?_; rintro e_ w_ ⟨he_, hw_⟩; subst he_; have hs_ := hw_.symm; clear hw_; subst hs_)
    go_wp2_with (refine wpList_store_blk rfl 61 _ _ rfl p rfl ob0 rfl HX'.out.bk rfl I0.out ob0_one ?_; intro w9 HB9 HU9)
    refine bodyPost_ret (results_cell_tmp (cs := ob0) Tryz.results22 rfl agg_ob HB9.out) rfl ?_
    exact ⟨rfl, HX'.out.bel.trans (HU9.out.below HX'.out.lo HX'.out.bel.size)⟩
end
end Go.Proofs.Qxb6500887aGreat
