/- The law's small functions. -/
import Derived.Test.Qxb6500887aGreatAzN
import Derived.Test.Qxb6500887aGreatMid
namespace Go.Proofs.Qxb6500887aGreat
open Go.RowKit
set_option linter.unusedSimpArgs false
set_option linter.unusedVariables false
/-- An answer of a step. -/
def rsT : List Value := [.string { data := #[] }, .int .i64 0, .int .i64 0, .int .i64 0, .int .i64 0, .int .i64 0, .int .i64 0, .int .i64 0, .int .i64 0, .int .i64 0, .int .i64 0, .int .i64 0, .int .i64 0, .int .i64 0, .int .i64 0, .int .i64 0, .int .i64 0, .int .u8 0, .int .i64 0, .int .i64 0, .int .i64 0, .int .i64 0, .int .i64 0, .int .i64 0, .int .i64 0, .int .i64 0, .int .i64 0, .int .i64 0, .int .i64 0, .int .i64 0, .int .i64 0, .int .i64 0]
def rsC (c v w : Int) : List Value := .int .u8 c :: .int .u64 v :: .int .u64 w :: rsT
theorem rsC_one (c v w : Int) : ∀ u ∈ rsC c v w, u.oneCell' = true := by
  intro u hu
  simp only [rsC, rsT, List.mem_cons, List.not_mem_nil, or_false] at hu
  rcases hu with rfl | rfl | rfl | rfl | rfl | rfl | rfl | rfl | rfl | rfl | rfl | rfl | rfl | rfl | rfl | rfl | rfl | rfl | rfl | rfl | rfl | rfl | rfl | rfl | rfl | rfl | rfl | rfl | rfl | rfl | rfl | rfl | rfl | rfl | rfl <;> rfl
theorem info_rs : (Tryz.prog.info? 46).map (·.size) = some 35 := by kernel_rfl
theorem agg_rs : AggOf Tryz.prog 46 35 := AggOf.struct Tryz.underlying46 (by kernel_rfl)
set_option maxRecDepth 100000 in
theorem refuse_walk (c : Int) (w : World) : Calls Tryz.prog 57 #[.int .u8 c] w fun e w' => e = .returned (.agg (rsC c 0 0).toArray) ∧ Below w.heap.size w w' := by
  have I0 := hid info_rs
  obtain ⟨p, hp⟩ : ∃ p, w.heap.size = p := ⟨_, rfl⟩
  have HB : Hid (Below w.heap.size w (w.alloc (.cells (rsC 0 0 0).toArray 46)) ∧ Blk (w.alloc (.cells (rsC 0 0 0).toArray 46)) p 46 (rsC 0 0 0) ∧ w.heap.size ≤ p) := hid (by
    have k := Blk.new w (rsC 0 0 0) 46
    rw [hp] at k
    exact ⟨nbel w _, k, by omega⟩)
  dsimp only [rsC, rsT] at HB
  go_enter Tryz.func57, Tryz.ntmps57
  go_upto_region 1 with fail
  (try simp only [hp])
  generalize hw2 : w.alloc _ = w2 at HB ⊢
  clear hw2 hp
  go_wp2_with (refine wpList_store_blk rfl 46 _ _ rfl p rfl (rsC c 0 0) rfl HB.out.2.1 rfl I0.out (rsC_one _ _ _) ?_; intro w9 HB9 HU9)
  refine bodyPost_ret (results_blk (cs := rsC c 0 0) Tryz.results57 rfl agg_rs HB9.out) rfl ?_
  exact ⟨rfl, HB.out.1.trans (HU9.out.below HB.out.2.2 HB.out.1.size)⟩
set_option maxRecDepth 100000 in
theorem give_walk (v u c : Int) (w : World) : Calls Tryz.prog 56 #[.int .u64 v, .int .u64 u, .int .u8 c] w fun e w' => e = .returned (.agg (if c = 0 then rsC 0 v u else rsC c 0 0).toArray) ∧ Below w.heap.size w w' := by
  have I0 := hid info_rs
  obtain ⟨r, hr⟩ : ∃ r, (if c = 0 then rsC 0 v u else rsC c 0 0) = r := ⟨_, rfl⟩
  have Hr := hid hr
  rw [hr]
  clear hr
  have HRf := hid (fun wz => refuse_walk c wz)
  obtain ⟨p, hp⟩ : ∃ p, w.heap.size = p := ⟨_, rfl⟩
  have HB : Hid (Below w.heap.size w (w.alloc (.cells (rsC 0 0 0).toArray 46)) ∧ Blk (w.alloc (.cells (rsC 0 0 0).toArray 46)) p 46 (rsC 0 0 0) ∧ w.heap.size ≤ p) := hid (by
    have k := Blk.new w (rsC 0 0 0) 46
    rw [hp] at k
    exact ⟨nbel w _, k, by omega⟩)
  dsimp only [rsC, rsT] at HB
  go_enter Tryz.func56, Tryz.ntmps56
  go_upto_region 1 with fail
  (try simp only [hp])
  generalize hw2 : w.alloc _ = w2 at HB ⊢
  clear hw2 hp
  by_cases hc : c = 0
  · as_aux_lemma =>
    subst hc
    have HE : Hid (rsC 0 v u = r) := hid (by rw [← Hr.out, if_pos rfl])
    go_wp2_with (refine wpList_store_blk rfl 46 _ _ rfl p rfl (rsC 0 v u) rfl HB.out.2.1 rfl I0.out (rsC_one _ _ _) ?_; intro w9 HB9 HU9)
    refine bodyPost_ret (results_blk (cs := rsC 0 v u) Tryz.results56 rfl agg_rs HB9.out) rfl ?_
    exact ⟨by rw [HE.out], HB.out.1.trans (HU9.out.below HB.out.2.2 HB.out.1.size)⟩
  · as_aux_lemma =>
    have HE : Hid (rsC c 0 0 = r) := hid (by rw [← Hr.out, if_neg hc])
    have dc : (c == 0) = false := by simpa using hc
    go_wp2_with fail
    refine (HRf.out w2).mono ?_
    rintro e w3 ⟨rfl, hb3⟩
    have HB3 : Hid (Below w.heap.size w w3 ∧ Blk w3 p 46 (rsC 0 0 0) ∧ w.heap.size ≤ p) := hid ⟨HB.out.1.trans (hb3.mono HB.out.1.size), HB.out.2.1.below hb3, HB.out.2.2⟩
    clear hb3 HB HRf
    go_wp2_with (refine wpList_store_blk rfl 46 _ _ rfl p rfl (rsC c 0 0) rfl HB3.out.2.1 rfl I0.out (rsC_one _ _ _) ?_; intro w9 HB9 HU9)
    refine bodyPost_ret (results_blk (cs := rsC c 0 0) Tryz.results56 rfl agg_rs HB9.out) rfl ?_
    exact ⟨by rw [HE.out], HB3.out.1.trans (HU9.out.below HB3.out.2.2 HB3.out.1.size)⟩
set_option maxRecDepth 100000 in
theorem flag_walk (b : Bool) (w : World) : Calls Tryz.prog 61 #[.bool b] w fun e w' => e = .returned (.int .u64 (((if b then 1 else 0 : Nat)) : Int)) ∧ w' = w := by
  cases b
  · go_enter Tryz.func61, Tryz.ntmps61
    go_wp2
    go_ret
    exact ⟨rfl, rfl⟩
  · go_enter Tryz.func61, Tryz.ntmps61
    go_wp2
    go_ret
    exact ⟨rfl, rfl⟩
end Go.Proofs.Qxb6500887aGreat
