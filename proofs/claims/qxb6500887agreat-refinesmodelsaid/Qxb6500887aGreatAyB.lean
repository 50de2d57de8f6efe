/- The model's small functions. -/
import Derived.Test.Qxb6500887aGreatAyA
import Derived.Deep.DeepCutAuto
namespace Go.Proofs.Qxb6500887aGreat
open Go.RowKit
set_option linter.unusedSimpArgs false
set_option linter.unusedVariables false
set_option maxRecDepth 100000 in
theorem refM (c : Int) (w : World) : Calls Tryz.prog 88 #[.int .u8 c] w fun e w' => e = .returned (.agg (rsC c 0 0).toArray) ∧ Below w.heap.size w w' := by
  have I0 := hid info_rs
  obtain ⟨p, hp⟩ : ∃ p, w.heap.size = p := ⟨_, rfl⟩
  have HB : Hid (Below w.heap.size w (w.alloc (.cells (rsC 0 0 0).toArray 46)) ∧ Blk (w.alloc (.cells (rsC 0 0 0).toArray 46)) p 46 (rsC 0 0 0) ∧ w.heap.size ≤ p) := hid (by
    have k := Blk.new w (rsC 0 0 0) 46
    rw [hp] at k
    exact ⟨nbel w _, k, by omega⟩)
  dsimp only [rsC, rsT] at HB
  go_enter Tryz.func88, Tryz.ntmps88
  go_upto_region 1 with fail
  (try simp only [hp])
  generalize hw2 : w.alloc _ = w2 at HB ⊢
  clear hw2 hp
  go_wp2_with (refine wpList_store_blk rfl 46 _ _ rfl p rfl (rsC c 0 0) rfl HB.out.2.1 rfl I0.out (rsC_one _ _ _) ?_; intro w9 HB9 HU9)
  refine bodyPost_ret (results_blk (cs := rsC c 0 0) Tryz.results88 rfl agg_rs HB9.out) rfl ?_
  exact ⟨rfl, HB.out.1.trans (HU9.out.below HB.out.2.2 HB.out.1.size)⟩
set_option maxRecDepth 100000 in
theorem ansM (v u : Int) (w : World) : Calls Tryz.prog 89 #[.int .u64 v, .int .u64 u] w fun e w' => e = .returned (.agg (rsC 0 v u).toArray) ∧ Below w.heap.size w w' := by
  have I0 := hid info_rs
  obtain ⟨p, hp⟩ : ∃ p, w.heap.size = p := ⟨_, rfl⟩
  have HB : Hid (Below w.heap.size w (w.alloc (.cells (rsC 0 0 0).toArray 46)) ∧ Blk (w.alloc (.cells (rsC 0 0 0).toArray 46)) p 46 (rsC 0 0 0) ∧ w.heap.size ≤ p) := hid (by
    have k := Blk.new w (rsC 0 0 0) 46
    rw [hp] at k
    exact ⟨nbel w _, k, by omega⟩)
  dsimp only [rsC, rsT] at HB
  go_enter Tryz.func89, Tryz.ntmps89
  go_upto_region 1 with fail
  (try simp only [hp])
  generalize hw2 : w.alloc _ = w2 at HB ⊢
  clear hw2 hp
  go_wp2_with (refine wpList_store_blk rfl 46 _ _ rfl p rfl (rsC 0 v u) rfl HB.out.2.1 rfl I0.out (rsC_one _ _ _) ?_; intro w9 HB9 HU9)
  refine bodyPost_ret (results_blk (cs := rsC 0 v u) Tryz.results89 rfl agg_rs HB9.out) rfl ?_
  exact ⟨rfl, HB.out.1.trans (HU9.out.below HB.out.2.2 HB.out.1.size)⟩
set_option maxRecDepth 100000 in
theorem truM (b : Bool) (w : World) : Calls Tryz.prog 106 #[.bool b] w fun e w' => e = .returned (.agg (rsC 0 ((bitN b : Nat) : Int) 0).toArray) ∧ Below w.heap.size w w' := by
  have I0 := hid info_rs
  have HA1 := hid (fun wz => ansM 1 0 wz)
  have HA0 := hid (fun wz => ansM 0 0 wz)
  obtain ⟨p, hp⟩ : ∃ p, w.heap.size = p := ⟨_, rfl⟩
  have HB : Hid (Below w.heap.size w (w.alloc (.cells (rsC 0 0 0).toArray 46)) ∧ Blk (w.alloc (.cells (rsC 0 0 0).toArray 46)) p 46 (rsC 0 0 0) ∧ w.heap.size ≤ p) := hid (by
    have k := Blk.new w (rsC 0 0 0) 46
    rw [hp] at k
    exact ⟨nbel w _, k, by omega⟩)
  dsimp only [rsC, rsT] at HB
  go_enter Tryz.func106, Tryz.ntmps106
  go_upto_region 1 with fail
  (try simp only [hp])
  generalize hw2 : w.alloc _ = w2 at HB ⊢
  clear hw2 hp
  cases b with
  | true =>
    as_aux_lemma =>
    go_wp2_with fail
    refine (HA1.out w2).mono ?_
    rintro e w3 ⟨rfl, hb3⟩
    have HB3 : Hid (Below w.heap.size w w3 ∧ Blk w3 p 46 (rsC 0 0 0) ∧ w.heap.size ≤ p) := hid ⟨HB.out.1.trans (hb3.mono HB.out.1.size), HB.out.2.1.below hb3, HB.out.2.2⟩
    clear hb3 HB HA1 HA0
    go_wp2_with (refine wpList_store_blk rfl 46 _ _ rfl p rfl (rsC 0 1 0) rfl HB3.out.2.1 rfl I0.out (rsC_one _ _ _) ?_; intro w9 HB9 HU9)
    refine bodyPost_ret (results_blk (cs := rsC 0 1 0) Tryz.results106 rfl agg_rs HB9.out) rfl ?_
    exact ⟨rfl, HB3.out.1.trans (HU9.out.below HB3.out.2.2 HB3.out.1.size)⟩
  | false =>
    as_aux_lemma =>
    go_wp2_with fail
    refine (HA0.out w2).mono ?_
    rintro e w3 ⟨rfl, hb3⟩
    have HB3 : Hid (Below w.heap.size w w3 ∧ Blk w3 p 46 (rsC 0 0 0) ∧ w.heap.size ≤ p) := hid ⟨HB.out.1.trans (hb3.mono HB.out.1.size), HB.out.2.1.below hb3, HB.out.2.2⟩
    clear hb3 HB HA1 HA0
    go_wp2_with (refine wpList_store_blk rfl 46 _ _ rfl p rfl (rsC 0 0 0) rfl HB3.out.2.1 rfl I0.out (rsC_one _ _ _) ?_; intro w9 HB9 HU9)
    refine bodyPost_ret (results_blk (cs := rsC 0 0 0) Tryz.results106 rfl agg_rs HB9.out) rfl ?_
    exact ⟨rfl, HB3.out.1.trans (HU9.out.below HB3.out.2.2 HB3.out.1.size)⟩
theorem numM (x : Int) (hx : U64 x) (w : World) : Calls Tryz.prog 92 #[.int .u64 x] w fun e w' => e = .returned (.int .i64 (nbI x)) ∧ w' = w := by
  unfold U64 at hx
  unfold nbI
  go_enter Tryz.func92, Tryz.ntmps92
  go_wp2
  go_ret
  exact ⟨by first | rfl | simp, rfl⟩
theorem adrM (i : Nat) (hi : i ≤ 40000) (w : World) : Calls Tryz.prog 193 #[.int .i64 (i : Int)] w fun e w' => e = .returned (.int .u64 ((65536 + i : Nat) : Int)) ∧ w' = w := by
  have e1 : (65536 : Int) + (i : Int) = ((65536 + i : Nat) : Int) := by omega
  generalize 65536 + i = y at e1
  have hy : y ≤ 200000 := by omega
  go_enter Tryz.func193, Tryz.ntmps193
  go_wp2
  go_ret
  exact ⟨by first | rfl | simp, rfl⟩
theorem ckwM (x : Int) (w : World) : Calls Tryz.prog 87 #[.int .u64 x] w fun e w' => e = .returned (.int .u8 (wantW x)) ∧ w' = w := by
  unfold wantW
  by_cases h1 : x < 65536
  · have d1 : decide (x < 65536) = true := decide_eq_true h1
    rw [if_neg (by unfold InH; omega)]
    go_enter Tryz.func87, Tryz.ntmps87
    go_wp2
    go_ret
    exact ⟨rfl, rfl⟩
  · have d1 : decide (x < 65536) = false := decide_eq_false h1
    by_cases h2 : x ≥ 98304
    · have d2 : decide (x ≥ 98304) = true := decide_eq_true h2
      have d2' : decide (98304 ≤ x) = true := decide_eq_true h2
      rw [if_neg (by unfold InH; omega)]
      go_enter Tryz.func87, Tryz.ntmps87
      go_wp2
      go_ret
      exact ⟨rfl, rfl⟩
    · have d2 : decide (x ≥ 98304) = false := decide_eq_false h2
      have d2' : decide (98304 ≤ x) = false := decide_eq_false h2
      rw [if_pos (by unfold InH; omega)]
      go_enter Tryz.func87, Tryz.ntmps87
      go_wp2
      go_ret
      exact ⟨rfl, rfl⟩
theorem wofM (i : Nat) (hi : i ≤ 32768) (w : World) : Calls Tryz.prog 90 #[.int .u64 ((65536 + i : Nat) : Int)] w fun e w' => e = .returned (.int .i64 (i : Int)) ∧ w' = w := by
  obtain ⟨y, hy⟩ : ∃ y, 65536 + i = y := ⟨_, rfl⟩
  have e1 : ((y : Nat) : Int) - 65536 = (i : Int) := by omega
  have hy2 : y ≤ 200000 := by omega
  rw [hy]
  go_enter Tryz.func90, Tryz.ntmps90
  go_wp2
  go_ret
  exact ⟨by first | rfl | simp, rfl⟩
end Go.Proofs.Qxb6500887aGreat
