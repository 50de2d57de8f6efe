/- Scripts as bytes: tidied (written by tools/mk_e8.py). -/
import Derived.Test.Qxb6500889aDoorMuE7
namespace Go.Proofs.Qxb6500889aDoor
open Go.RowKit
set_option linter.unusedSimpArgs false
set_option linter.unusedVariables false
/-- New blocks beside what stood. -/
structure XBs (w0 w : World) (xs : List XBk) : Prop where
  bel : Below w0.heap.size w0 w
  bl : ∀ x ∈ xs, Blk w x.1 x.2.1 x.2.2 ∧ w0.heap.size ≤ x.1
  nd : (xs.map (·.1)).Nodup
section
variable {w0 w w' : World} {xs : List XBk}
theorem XBs.zero (w : World) : XBs w w [] := ⟨Below.refl _ _, fun x hx => (by cases hx), List.nodup_nil⟩
theorem XBs.own (h : XBs w0 w xs) (hb : Below w.heap.size w w') {g : Nat} {t : TypeId} {cs : List Value} (hk : Blk w' g t cs) (hg : w.heap.size ≤ g) : XBs w0 w' ((g, t, cs) :: xs) := by
  refine ⟨h.bel.trans (hb.mono h.bel.size), fun x hx => ?_, ?_⟩
  · rcases List.mem_cons.1 hx with rfl | hx
    · exact ⟨hk, Nat.le_trans h.bel.size hg⟩
    · exact ⟨(h.bl x hx).1.below hb, (h.bl x hx).2⟩
  · rw [List.map_cons, List.nodup_cons]
    refine ⟨fun hm => ?_, h.nd⟩
    obtain ⟨x, hx, he⟩ := List.mem_map.1 hm
    have := (h.bl x hx).1.lt
    omega
theorem XBs.alloc (h : XBs w0 w xs) (cs : List Value) (t : TypeId) : XBs w0 (w.alloc (.cells cs.toArray t)) ((w.heap.size, t, cs) :: xs) :=
  h.own (nbel w _) (Blk.new w cs t) (Nat.le_refl _)
theorem XBs.below (h : XBs w0 w xs) (hb : Below w.heap.size w w') : XBs w0 w' xs := ⟨h.bel.trans (hb.mono h.bel.size), fun x hx => ⟨(h.bl x hx).1.below hb, (h.bl x hx).2⟩, h.nd⟩
theorem XBs.set (h : XBs w0 w xs) {i g : Nat} {t : TypeId} {cs cs' : List Value} (hi : xs[i]? = some (g, t, cs)) (hb : Blk w' g t cs') (hu : Upd g w w') : XBs w0 w' (xs.set i (g, t, cs')) := by
  obtain ⟨hm1, hm2⟩ := set_spec h.nd (cs' := cs') hi
  have hmem := List.mem_of_getElem? hi
  obtain ⟨b1, b4⟩ := h.bl _ hmem
  refine ⟨h.bel.trans (hu.below b4 h.bel.size), fun x hx => ?_, by rw [hm2]; exact h.nd⟩
  rcases hm1 x hx with rfl | ⟨hx, hne⟩
  · exact ⟨hb, b4⟩
  · exact ⟨(h.bl x hx).1.upd hu hne, (h.bl x hx).2⟩
end
section
variable {w : World} {mg : Nat} {o : OpP}
set_option maxRecDepth 1000000 in
set_option maxHeartbeats 4000000 in
theorem tdH {ac : Nat} (hac : o.ac % 7 = ac) (hok : OpB o) (h4 : ¬ ac < 4) : Calls Tryd.prog 17 #[.agg (opC o).toArray] w fun e w' => e = .returned (.agg (opC ⟨ac, 0, 0, 0, 0⟩).toArray) ∧ Below w.heap.size w w' := by
  show Calls _ _ #[.agg #[.int .u8 (o.ac : Int), .int .u8 (o.k : Int), .int .u64 (o.a : Int), .int .u64 (o.b : Int), .int .u64 (o.c : Int)]] _ _
  have Io : Hid ((Tryd.prog.info? 31).map (·.size) = some 5) := hid info_op
  have ta : (o.ac : Int).tmod 7 = (ac : Int) := by rw [Int.tmod_eq_emod_of_nonneg (by omega), ← hac]; omega
  have iac : (ac : Int) < 7 := by omega
  obtain ⟨pB, hpB⟩ : ∃ x, w.heap.size = x := ⟨_, rfl⟩
  obtain ⟨w1, hw1⟩ : ∃ x, w.alloc (.cells #[.int .u8 (o.ac : Int), .int .u8 (o.k : Int), .int .u64 (o.a : Int), .int .u64 (o.b : Int), .int .u64 (o.c : Int)] 31) = x := ⟨_, rfl⟩
  have HX1 : Hid (XBs w w1 [(pB, 31, opC o)]) := hid (by have := (XBs.zero w).alloc (opC o) 31; rw [hpB, show w.alloc (.cells (opC o).toArray 31) = w1 from hw1] at this; exact this)
  obtain ⟨rb, hrb⟩ : ∃ x, w1.heap.size = x := ⟨_, rfl⟩
  obtain ⟨w2, hw2⟩ : ∃ x, w1.alloc (.cells #[.int .u8 0, .int .u8 0, .int .u64 0, .int .u64 0, .int .u64 0] 31) = x := ⟨_, rfl⟩
  have HX2 : Hid (XBs w w2 [(rb, 31, opC ⟨0, 0, 0, 0, 0⟩), (pB, 31, opC o)]) := hid (by have := HX1.out.alloc (opC ⟨0, 0, 0, 0, 0⟩) 31; rw [hrb, show w1.alloc (.cells (opC ⟨0, 0, 0, 0, 0⟩).toArray 31) = w2 from hw2] at this; exact this)
  obtain ⟨xB, hxB⟩ : ∃ x, w2.heap.size = x := ⟨_, rfl⟩
  obtain ⟨w3, hw3⟩ : ∃ x, w2.alloc (.cells #[.int .u8 0, .int .u8 0, .int .u64 0, .int .u64 0, .int .u64 0] 31) = x := ⟨_, rfl⟩
  have HX3 : Hid (XBs w w3 [(xB, 31, opC ⟨0, 0, 0, 0, 0⟩), (rb, 31, opC ⟨0, 0, 0, 0, 0⟩), (pB, 31, opC o)]) := hid (by have := HX2.out.alloc (opC ⟨0, 0, 0, 0, 0⟩) 31; rw [hxB, show w2.alloc (.cells (opC ⟨0, 0, 0, 0, 0⟩).toArray 31) = w3 from hw3] at this; exact this)
  have c0 : w2.cell? ⟨pB, 0, none⟩ = some (.int .u8 (o.ac : Int)) := (HX2.out.bl (pB, 31, opC o) (by simp)).1.cell 0
  clear HX1 HX2
  go_enter Tryd.func17, Tryd.ntmps17
  go_upto_region 2 with (refine wpList_store_blk rfl 31 _ _ rfl xB rfl (opC ⟨ac, 0, 0, 0, 0⟩) rfl (HX3.out.bl (xB, 31, opC ⟨0, 0, 0, 0, 0⟩) (by simp)).1 rfl Io.out (op_one _) ?_; intro w4 HBs HUs)
  have HX4 : Hid (XBs w w4 [(xB, 31, opC ⟨ac, 0, 0, 0, 0⟩), (rb, 31, opC ⟨0, 0, 0, 0, 0⟩), (pB, 31, opC o)]) := hid (HX3.out.set (i := 0) rfl HBs.out HUs.out)
  clear HX3 HBs HUs hw1 hw2 hw3 hxB hrb c0 ta
  go_frame
  have q0 : w4.cell? ⟨xB, 0, none⟩ = some (.int .u8 (ac : Int)) := (HX4.out.bl (xB, 31, opC ⟨ac, 0, 0, 0, 0⟩) (by simp)).1.cell 0
  have d4 : decide (4 ≤ (ac : Int)) = true := decide_eq_true (by omega)
  have z0 : w4.cell? ⟨xB, 0, none⟩ = some (.int .u8 (ac : Int)) := (HX4.out.bl (xB, 31, opC ⟨ac, 0, 0, 0, 0⟩) (by simp)).1.cell 0
  have z1 : w4.cell? ⟨xB, 1, none⟩ = some (.int .u8 0) := (HX4.out.bl (xB, 31, opC ⟨ac, 0, 0, 0, 0⟩) (by simp)).1.cell 1
  have z2 : w4.cell? ⟨xB, 2, none⟩ = some (.int .u64 0) := (HX4.out.bl (xB, 31, opC ⟨ac, 0, 0, 0, 0⟩) (by simp)).1.cell 2
  have z3 : w4.cell? ⟨xB, 3, none⟩ = some (.int .u64 0) := (HX4.out.bl (xB, 31, opC ⟨ac, 0, 0, 0, 0⟩) (by simp)).1.cell 3
  have z4 : w4.cell? ⟨xB, 4, none⟩ = some (.int .u64 0) := (HX4.out.bl (xB, 31, opC ⟨ac, 0, 0, 0, 0⟩) (by simp)).1.cell 4
  go_wp2_with (refine wpList_store_blk rfl 31 _ _ rfl rb rfl (opC ⟨ac, 0, 0, 0, 0⟩) rfl (HX4.out.bl (rb, 31, opC ⟨0, 0, 0, 0, 0⟩) (by simp)).1 rfl Io.out (op_one _) ?_; intro w9 HB9 HU9)
  have HX9 := hid ((HX4.out.set (i := 1) rfl HB9.out HU9.out).bel)
  exact bodyPost_ret (results_blk Tryd.results17 rfl (show AggOf Tryd.prog 31 (opC ⟨ac, 0, 0, 0, 0⟩).length from AggOf.struct Tryd.underlying31 info_op) HB9.out) rfl ⟨rfl, by rw [← hpB]; exact HX9.out⟩
set_option maxRecDepth 1000000 in
set_option maxHeartbeats 4000000 in
theorem tdL0 {ac kd : Nat} (hac : o.ac % 7 = ac) (hkd : o.k % 9 = kd) (hok : OpB o) (h4 : ac < 4) (hai : ari kd = 0) (hg : AgG w mg) : Calls Tryd.prog 17 #[.agg (opC o).toArray] w fun e w' => e = .returned (.agg (opC ⟨ac, kd, 0, 0, 0⟩).toArray) ∧ Below w.heap.size w w' := by
  show Calls _ _ #[.agg #[.int .u8 (o.ac : Int), .int .u8 (o.k : Int), .int .u64 (o.a : Int), .int .u64 (o.b : Int), .int .u64 (o.c : Int)]] _ _
  have Io : Hid ((Tryd.prog.info? 31).map (·.size) = some 5) := hid info_op
  have ta : (o.ac : Int).tmod 7 = (ac : Int) := by rw [Int.tmod_eq_emod_of_nonneg (by omega), ← hac]; omega
  have iac : (ac : Int) < 7 := by omega
  have tk : (o.k : Int).tmod 9 = (kd : Int) := by rw [Int.tmod_eq_emod_of_nonneg (by omega), ← hkd]; omega
  have hk9 : kd < 9 := by omega
  have ik9 : (kd : Int) < 9 := by omega
  have HG := hid hg
  obtain ⟨pB, hpB⟩ : ∃ x, w.heap.size = x := ⟨_, rfl⟩
  obtain ⟨w1, hw1⟩ : ∃ x, w.alloc (.cells #[.int .u8 (o.ac : Int), .int .u8 (o.k : Int), .int .u64 (o.a : Int), .int .u64 (o.b : Int), .int .u64 (o.c : Int)] 31) = x := ⟨_, rfl⟩
  have HX1 : Hid (XBs w w1 [(pB, 31, opC o)]) := hid (by have := (XBs.zero w).alloc (opC o) 31; rw [hpB, show w.alloc (.cells (opC o).toArray 31) = w1 from hw1] at this; exact this)
  obtain ⟨rb, hrb⟩ : ∃ x, w1.heap.size = x := ⟨_, rfl⟩
  obtain ⟨w2, hw2⟩ : ∃ x, w1.alloc (.cells #[.int .u8 0, .int .u8 0, .int .u64 0, .int .u64 0, .int .u64 0] 31) = x := ⟨_, rfl⟩
  have HX2 : Hid (XBs w w2 [(rb, 31, opC ⟨0, 0, 0, 0, 0⟩), (pB, 31, opC o)]) := hid (by have := HX1.out.alloc (opC ⟨0, 0, 0, 0, 0⟩) 31; rw [hrb, show w1.alloc (.cells (opC ⟨0, 0, 0, 0, 0⟩).toArray 31) = w2 from hw2] at this; exact this)
  obtain ⟨xB, hxB⟩ : ∃ x, w2.heap.size = x := ⟨_, rfl⟩
  obtain ⟨w3, hw3⟩ : ∃ x, w2.alloc (.cells #[.int .u8 0, .int .u8 0, .int .u64 0, .int .u64 0, .int .u64 0] 31) = x := ⟨_, rfl⟩
  have HX3 : Hid (XBs w w3 [(xB, 31, opC ⟨0, 0, 0, 0, 0⟩), (rb, 31, opC ⟨0, 0, 0, 0, 0⟩), (pB, 31, opC o)]) := hid (by have := HX2.out.alloc (opC ⟨0, 0, 0, 0, 0⟩) 31; rw [hxB, show w2.alloc (.cells (opC ⟨0, 0, 0, 0, 0⟩).toArray 31) = w3 from hw3] at this; exact this)
  have c0 : w2.cell? ⟨pB, 0, none⟩ = some (.int .u8 (o.ac : Int)) := (HX2.out.bl (pB, 31, opC o) (by simp)).1.cell 0
  clear HX1 HX2 hg
  go_enter Tryd.func17, Tryd.ntmps17
  go_upto_region 2 with (refine wpList_store_blk rfl 31 _ _ rfl xB rfl (opC ⟨ac, 0, 0, 0, 0⟩) rfl (HX3.out.bl (xB, 31, opC ⟨0, 0, 0, 0, 0⟩) (by simp)).1 rfl Io.out (op_one _) ?_; intro w4 HBs HUs)
  have HX4 : Hid (XBs w w4 [(xB, 31, opC ⟨ac, 0, 0, 0, 0⟩), (rb, 31, opC ⟨0, 0, 0, 0, 0⟩), (pB, 31, opC o)]) := hid (HX3.out.set (i := 0) rfl HBs.out HUs.out)
  clear HX3 HBs HUs hw1 hw2 hw3 hxB hrb c0 ta
  go_frame
  have q0 : w4.cell? ⟨xB, 0, none⟩ = some (.int .u8 (ac : Int)) := (HX4.out.bl (xB, 31, opC ⟨ac, 0, 0, 0, 0⟩) (by simp)).1.cell 0
  have d4 : decide (4 ≤ (ac : Int)) = false := decide_eq_false (by omega)
  have c1 : w4.cell? ⟨pB, 1, none⟩ = some (.int .u8 (o.k : Int)) := (HX4.out.bl (pB, 31, opC o) (by simp)).1.cell 1
  have q1 : w4.cell? ⟨xB, 1, none⟩ = some (.int .u8 0) := (HX4.out.bl (xB, 31, opC ⟨ac, 0, 0, 0, 0⟩) (by simp)).1.cell 1
  have f1 : w4.frozen? ⟨xB, 1, none⟩ = false := (HX4.out.bl (xB, 31, opC ⟨ac, 0, 0, 0, 0⟩) (by simp)).1.frozen 1
  go_upto_region 5 with fail
  obtain ⟨w5, hw5⟩ : ∃ x, w4.setCell ⟨xB, 1, none⟩ (.int .u8 (kd : Int)) = x := ⟨_, rfl⟩
  have HX5 : Hid (XBs w w5 [(xB, 31, opC ⟨ac, kd, 0, 0, 0⟩), (rb, 31, opC ⟨0, 0, 0, 0, 0⟩), (pB, 31, opC o)]) := hid (by
    rw [← hw5]
    exact HX4.out.set (i := 0) rfl ((HX4.out.bl (xB, 31, opC ⟨ac, 0, 0, 0, 0⟩) (by simp)).1.set 1 _) ((Upd.refl xB w4).setCell rfl _))
  simp only [hw5]
  clear hw5 HX4 q0 c1 q1 f1 tk
  have cg := (HG.out.below HX5.out.bel).c
  have hlk := HG.out.lk w5 (HX5.out.bel.block mg HG.out.lm) kd hk9
  rw [hai] at hlk
  have q1 : w5.cell? ⟨xB, 1, none⟩ = some (.int .u8 (kd : Int)) := (HX5.out.bl (xB, 31, opC ⟨ac, kd, 0, 0, 0⟩) (by simp)).1.cell 1
  have z0 : w5.cell? ⟨xB, 0, none⟩ = some (.int .u8 (ac : Int)) := (HX5.out.bl (xB, 31, opC ⟨ac, kd, 0, 0, 0⟩) (by simp)).1.cell 0
  have z1 : w5.cell? ⟨xB, 1, none⟩ = some (.int .u8 (kd : Int)) := (HX5.out.bl (xB, 31, opC ⟨ac, kd, 0, 0, 0⟩) (by simp)).1.cell 1
  have z2 : w5.cell? ⟨xB, 2, none⟩ = some (.int .u64 0) := (HX5.out.bl (xB, 31, opC ⟨ac, kd, 0, 0, 0⟩) (by simp)).1.cell 2
  have z3 : w5.cell? ⟨xB, 3, none⟩ = some (.int .u64 0) := (HX5.out.bl (xB, 31, opC ⟨ac, kd, 0, 0, 0⟩) (by simp)).1.cell 3
  have z4 : w5.cell? ⟨xB, 4, none⟩ = some (.int .u64 0) := (HX5.out.bl (xB, 31, opC ⟨ac, kd, 0, 0, 0⟩) (by simp)).1.cell 4
  go_wp2_with (refine wpList_store_blk rfl 31 _ _ rfl rb rfl (opC ⟨ac, kd, 0, 0, 0⟩) rfl (HX5.out.bl (rb, 31, opC ⟨0, 0, 0, 0, 0⟩) (by simp)).1 rfl Io.out (op_one _) ?_; intro w9 HB9 HU9)
  have HX9 := hid ((HX5.out.set (i := 1) rfl HB9.out HU9.out).bel)
  exact bodyPost_ret (results_blk Tryd.results17 rfl (show AggOf Tryd.prog 31 (opC ⟨ac, kd, 0, 0, 0⟩).length from AggOf.struct Tryd.underlying31 info_op) HB9.out) rfl ⟨rfl, by rw [← hpB]; exact HX9.out⟩
set_option maxRecDepth 1000000 in
set_option maxHeartbeats 4000000 in
theorem tdL1 {ac kd : Nat} (hac : o.ac % 7 = ac) (hkd : o.k % 9 = kd) (hok : OpB o) (h4 : ac < 4) (hai : ari kd = 1) (hg : AgG w mg) : Calls Tryd.prog 17 #[.agg (opC o).toArray] w fun e w' => e = .returned (.agg (opC ⟨ac, kd, o.a, 0, 0⟩).toArray) ∧ Below w.heap.size w w' := by
  show Calls _ _ #[.agg #[.int .u8 (o.ac : Int), .int .u8 (o.k : Int), .int .u64 (o.a : Int), .int .u64 (o.b : Int), .int .u64 (o.c : Int)]] _ _
  have Io : Hid ((Tryd.prog.info? 31).map (·.size) = some 5) := hid info_op
  have ta : (o.ac : Int).tmod 7 = (ac : Int) := by rw [Int.tmod_eq_emod_of_nonneg (by omega), ← hac]; omega
  have iac : (ac : Int) < 7 := by omega
  have tk : (o.k : Int).tmod 9 = (kd : Int) := by rw [Int.tmod_eq_emod_of_nonneg (by omega), ← hkd]; omega
  have hk9 : kd < 9 := by omega
  have ik9 : (kd : Int) < 9 := by omega
  have HG := hid hg
  obtain ⟨pB, hpB⟩ : ∃ x, w.heap.size = x := ⟨_, rfl⟩
  obtain ⟨w1, hw1⟩ : ∃ x, w.alloc (.cells #[.int .u8 (o.ac : Int), .int .u8 (o.k : Int), .int .u64 (o.a : Int), .int .u64 (o.b : Int), .int .u64 (o.c : Int)] 31) = x := ⟨_, rfl⟩
  have HX1 : Hid (XBs w w1 [(pB, 31, opC o)]) := hid (by have := (XBs.zero w).alloc (opC o) 31; rw [hpB, show w.alloc (.cells (opC o).toArray 31) = w1 from hw1] at this; exact this)
  obtain ⟨rb, hrb⟩ : ∃ x, w1.heap.size = x := ⟨_, rfl⟩
  obtain ⟨w2, hw2⟩ : ∃ x, w1.alloc (.cells #[.int .u8 0, .int .u8 0, .int .u64 0, .int .u64 0, .int .u64 0] 31) = x := ⟨_, rfl⟩
  have HX2 : Hid (XBs w w2 [(rb, 31, opC ⟨0, 0, 0, 0, 0⟩), (pB, 31, opC o)]) := hid (by have := HX1.out.alloc (opC ⟨0, 0, 0, 0, 0⟩) 31; rw [hrb, show w1.alloc (.cells (opC ⟨0, 0, 0, 0, 0⟩).toArray 31) = w2 from hw2] at this; exact this)
  obtain ⟨xB, hxB⟩ : ∃ x, w2.heap.size = x := ⟨_, rfl⟩
  obtain ⟨w3, hw3⟩ : ∃ x, w2.alloc (.cells #[.int .u8 0, .int .u8 0, .int .u64 0, .int .u64 0, .int .u64 0] 31) = x := ⟨_, rfl⟩
  have HX3 : Hid (XBs w w3 [(xB, 31, opC ⟨0, 0, 0, 0, 0⟩), (rb, 31, opC ⟨0, 0, 0, 0, 0⟩), (pB, 31, opC o)]) := hid (by have := HX2.out.alloc (opC ⟨0, 0, 0, 0, 0⟩) 31; rw [hxB, show w2.alloc (.cells (opC ⟨0, 0, 0, 0, 0⟩).toArray 31) = w3 from hw3] at this; exact this)
  have c0 : w2.cell? ⟨pB, 0, none⟩ = some (.int .u8 (o.ac : Int)) := (HX2.out.bl (pB, 31, opC o) (by simp)).1.cell 0
  clear HX1 HX2 hg
  go_enter Tryd.func17, Tryd.ntmps17
  go_upto_region 2 with (refine wpList_store_blk rfl 31 _ _ rfl xB rfl (opC ⟨ac, 0, 0, 0, 0⟩) rfl (HX3.out.bl (xB, 31, opC ⟨0, 0, 0, 0, 0⟩) (by simp)).1 rfl Io.out (op_one _) ?_; intro w4 HBs HUs)
  have HX4 : Hid (XBs w w4 [(xB, 31, opC ⟨ac, 0, 0, 0, 0⟩), (rb, 31, opC ⟨0, 0, 0, 0, 0⟩), (pB, 31, opC o)]) := hid (HX3.out.set (i := 0) rfl HBs.out HUs.out)
  clear HX3 HBs HUs hw1 hw2 hw3 hxB hrb c0 ta
  go_frame
  have q0 : w4.cell? ⟨xB, 0, none⟩ = some (.int .u8 (ac : Int)) := (HX4.out.bl (xB, 31, opC ⟨ac, 0, 0, 0, 0⟩) (by simp)).1.cell 0
  have d4 : decide (4 ≤ (ac : Int)) = false := decide_eq_false (by omega)
  have c1 : w4.cell? ⟨pB, 1, none⟩ = some (.int .u8 (o.k : Int)) := (HX4.out.bl (pB, 31, opC o) (by simp)).1.cell 1
  have q1 : w4.cell? ⟨xB, 1, none⟩ = some (.int .u8 0) := (HX4.out.bl (xB, 31, opC ⟨ac, 0, 0, 0, 0⟩) (by simp)).1.cell 1
  have f1 : w4.frozen? ⟨xB, 1, none⟩ = false := (HX4.out.bl (xB, 31, opC ⟨ac, 0, 0, 0, 0⟩) (by simp)).1.frozen 1
  go_upto_region 5 with fail
  obtain ⟨w5, hw5⟩ : ∃ x, w4.setCell ⟨xB, 1, none⟩ (.int .u8 (kd : Int)) = x := ⟨_, rfl⟩
  have HX5 : Hid (XBs w w5 [(xB, 31, opC ⟨ac, kd, 0, 0, 0⟩), (rb, 31, opC ⟨0, 0, 0, 0, 0⟩), (pB, 31, opC o)]) := hid (by
    rw [← hw5]
    exact HX4.out.set (i := 0) rfl ((HX4.out.bl (xB, 31, opC ⟨ac, 0, 0, 0, 0⟩) (by simp)).1.set 1 _) ((Upd.refl xB w4).setCell rfl _))
  simp only [hw5]
  clear hw5 HX4 q0 c1 q1 f1 tk
  have cg := (HG.out.below HX5.out.bel).c
  have hlk := HG.out.lk w5 (HX5.out.bel.block mg HG.out.lm) kd hk9
  rw [hai] at hlk
  have q1 : w5.cell? ⟨xB, 1, none⟩ = some (.int .u8 (kd : Int)) := (HX5.out.bl (xB, 31, opC ⟨ac, kd, 0, 0, 0⟩) (by simp)).1.cell 1
  have p0 : w5.cell? ⟨pB, 2, none⟩ = some (.int .u64 (o.a : Int)) := (HX5.out.bl (pB, 31, opC o) (by simp)).1.cell 2
  have r0 : w5.cell? ⟨xB, 2, none⟩ = some (.int .u64 0) := (HX5.out.bl (xB, 31, opC ⟨ac, kd, 0, 0, 0⟩) (by simp)).1.cell 2
  have f0 : w5.frozen? ⟨xB, 2, none⟩ = false := (HX5.out.bl (xB, 31, opC ⟨ac, kd, 0, 0, 0⟩) (by simp)).1.frozen 2
  go_upto_region 8 with fail
  obtain ⟨w6, hw6⟩ : ∃ x, w5.setCell ⟨xB, 2, none⟩ (.int .u64 (o.a : Int)) = x := ⟨_, rfl⟩
  have HX6 : Hid (XBs w w6 [(xB, 31, opC ⟨ac, kd, o.a, 0, 0⟩), (rb, 31, opC ⟨0, 0, 0, 0, 0⟩), (pB, 31, opC o)]) := hid (by
    rw [← hw6]
    exact HX5.out.set (i := 0) rfl ((HX5.out.bl (xB, 31, opC ⟨ac, kd, 0, 0, 0⟩) (by simp)).1.set 2 _) ((Upd.refl xB w5).setCell rfl _))
  simp only [hw6]
  clear hw6 HX5 p0 r0 f0
  have z0 : w6.cell? ⟨xB, 0, none⟩ = some (.int .u8 (ac : Int)) := (HX6.out.bl (xB, 31, opC ⟨ac, kd, o.a, 0, 0⟩) (by simp)).1.cell 0
  have z1 : w6.cell? ⟨xB, 1, none⟩ = some (.int .u8 (kd : Int)) := (HX6.out.bl (xB, 31, opC ⟨ac, kd, o.a, 0, 0⟩) (by simp)).1.cell 1
  have z2 : w6.cell? ⟨xB, 2, none⟩ = some (.int .u64 (o.a : Int)) := (HX6.out.bl (xB, 31, opC ⟨ac, kd, o.a, 0, 0⟩) (by simp)).1.cell 2
  have z3 : w6.cell? ⟨xB, 3, none⟩ = some (.int .u64 0) := (HX6.out.bl (xB, 31, opC ⟨ac, kd, o.a, 0, 0⟩) (by simp)).1.cell 3
  have z4 : w6.cell? ⟨xB, 4, none⟩ = some (.int .u64 0) := (HX6.out.bl (xB, 31, opC ⟨ac, kd, o.a, 0, 0⟩) (by simp)).1.cell 4
  go_wp2_with (refine wpList_store_blk rfl 31 _ _ rfl rb rfl (opC ⟨ac, kd, o.a, 0, 0⟩) rfl (HX6.out.bl (rb, 31, opC ⟨0, 0, 0, 0, 0⟩) (by simp)).1 rfl Io.out (op_one _) ?_; intro w9 HB9 HU9)
  have HX9 := hid ((HX6.out.set (i := 1) rfl HB9.out HU9.out).bel)
  exact bodyPost_ret (results_blk Tryd.results17 rfl (show AggOf Tryd.prog 31 (opC ⟨ac, kd, o.a, 0, 0⟩).length from AggOf.struct Tryd.underlying31 info_op) HB9.out) rfl ⟨rfl, by rw [← hpB]; exact HX9.out⟩
set_option maxRecDepth 1000000 in
set_option maxHeartbeats 4000000 in
theorem tdL2 {ac kd : Nat} (hac : o.ac % 7 = ac) (hkd : o.k % 9 = kd) (hok : OpB o) (h4 : ac < 4) (hai : ari kd = 2) (hg : AgG w mg) : Calls Tryd.prog 17 #[.agg (opC o).toArray] w fun e w' => e = .returned (.agg (opC ⟨ac, kd, o.a, o.b, 0⟩).toArray) ∧ Below w.heap.size w w' := by
  show Calls _ _ #[.agg #[.int .u8 (o.ac : Int), .int .u8 (o.k : Int), .int .u64 (o.a : Int), .int .u64 (o.b : Int), .int .u64 (o.c : Int)]] _ _
  have Io : Hid ((Tryd.prog.info? 31).map (·.size) = some 5) := hid info_op
  have ta : (o.ac : Int).tmod 7 = (ac : Int) := by rw [Int.tmod_eq_emod_of_nonneg (by omega), ← hac]; omega
  have iac : (ac : Int) < 7 := by omega
  have tk : (o.k : Int).tmod 9 = (kd : Int) := by rw [Int.tmod_eq_emod_of_nonneg (by omega), ← hkd]; omega
  have hk9 : kd < 9 := by omega
  have ik9 : (kd : Int) < 9 := by omega
  have HG := hid hg
  obtain ⟨pB, hpB⟩ : ∃ x, w.heap.size = x := ⟨_, rfl⟩
  obtain ⟨w1, hw1⟩ : ∃ x, w.alloc (.cells #[.int .u8 (o.ac : Int), .int .u8 (o.k : Int), .int .u64 (o.a : Int), .int .u64 (o.b : Int), .int .u64 (o.c : Int)] 31) = x := ⟨_, rfl⟩
  have HX1 : Hid (XBs w w1 [(pB, 31, opC o)]) := hid (by have := (XBs.zero w).alloc (opC o) 31; rw [hpB, show w.alloc (.cells (opC o).toArray 31) = w1 from hw1] at this; exact this)
  obtain ⟨rb, hrb⟩ : ∃ x, w1.heap.size = x := ⟨_, rfl⟩
  obtain ⟨w2, hw2⟩ : ∃ x, w1.alloc (.cells #[.int .u8 0, .int .u8 0, .int .u64 0, .int .u64 0, .int .u64 0] 31) = x := ⟨_, rfl⟩
  have HX2 : Hid (XBs w w2 [(rb, 31, opC ⟨0, 0, 0, 0, 0⟩), (pB, 31, opC o)]) := hid (by have := HX1.out.alloc (opC ⟨0, 0, 0, 0, 0⟩) 31; rw [hrb, show w1.alloc (.cells (opC ⟨0, 0, 0, 0, 0⟩).toArray 31) = w2 from hw2] at this; exact this)
  obtain ⟨xB, hxB⟩ : ∃ x, w2.heap.size = x := ⟨_, rfl⟩
  obtain ⟨w3, hw3⟩ : ∃ x, w2.alloc (.cells #[.int .u8 0, .int .u8 0, .int .u64 0, .int .u64 0, .int .u64 0] 31) = x := ⟨_, rfl⟩
  have HX3 : Hid (XBs w w3 [(xB, 31, opC ⟨0, 0, 0, 0, 0⟩), (rb, 31, opC ⟨0, 0, 0, 0, 0⟩), (pB, 31, opC o)]) := hid (by have := HX2.out.alloc (opC ⟨0, 0, 0, 0, 0⟩) 31; rw [hxB, show w2.alloc (.cells (opC ⟨0, 0, 0, 0, 0⟩).toArray 31) = w3 from hw3] at this; exact this)
  have c0 : w2.cell? ⟨pB, 0, none⟩ = some (.int .u8 (o.ac : Int)) := (HX2.out.bl (pB, 31, opC o) (by simp)).1.cell 0
  clear HX1 HX2 hg
  go_enter Tryd.func17, Tryd.ntmps17
  go_upto_region 2 with (refine wpList_store_blk rfl 31 _ _ rfl xB rfl (opC ⟨ac, 0, 0, 0, 0⟩) rfl (HX3.out.bl (xB, 31, opC ⟨0, 0, 0, 0, 0⟩) (by simp)).1 rfl Io.out (op_one _) ?_; intro w4 HBs HUs)
  have HX4 : Hid (XBs w w4 [(xB, 31, opC ⟨ac, 0, 0, 0, 0⟩), (rb, 31, opC ⟨0, 0, 0, 0, 0⟩), (pB, 31, opC o)]) := hid (HX3.out.set (i := 0) rfl HBs.out HUs.out)
  clear HX3 HBs HUs hw1 hw2 hw3 hxB hrb c0 ta
  go_frame
  have q0 : w4.cell? ⟨xB, 0, none⟩ = some (.int .u8 (ac : Int)) := (HX4.out.bl (xB, 31, opC ⟨ac, 0, 0, 0, 0⟩) (by simp)).1.cell 0
  have d4 : decide (4 ≤ (ac : Int)) = false := decide_eq_false (by omega)
  have c1 : w4.cell? ⟨pB, 1, none⟩ = some (.int .u8 (o.k : Int)) := (HX4.out.bl (pB, 31, opC o) (by simp)).1.cell 1
  have q1 : w4.cell? ⟨xB, 1, none⟩ = some (.int .u8 0) := (HX4.out.bl (xB, 31, opC ⟨ac, 0, 0, 0, 0⟩) (by simp)).1.cell 1
  have f1 : w4.frozen? ⟨xB, 1, none⟩ = false := (HX4.out.bl (xB, 31, opC ⟨ac, 0, 0, 0, 0⟩) (by simp)).1.frozen 1
  go_upto_region 5 with fail
  obtain ⟨w5, hw5⟩ : ∃ x, w4.setCell ⟨xB, 1, none⟩ (.int .u8 (kd : Int)) = x := ⟨_, rfl⟩
  have HX5 : Hid (XBs w w5 [(xB, 31, opC ⟨ac, kd, 0, 0, 0⟩), (rb, 31, opC ⟨0, 0, 0, 0, 0⟩), (pB, 31, opC o)]) := hid (by
    rw [← hw5]
    exact HX4.out.set (i := 0) rfl ((HX4.out.bl (xB, 31, opC ⟨ac, 0, 0, 0, 0⟩) (by simp)).1.set 1 _) ((Upd.refl xB w4).setCell rfl _))
  simp only [hw5]
  clear hw5 HX4 q0 c1 q1 f1 tk
  have cg := (HG.out.below HX5.out.bel).c
  have hlk := HG.out.lk w5 (HX5.out.bel.block mg HG.out.lm) kd hk9
  rw [hai] at hlk
  have q1 : w5.cell? ⟨xB, 1, none⟩ = some (.int .u8 (kd : Int)) := (HX5.out.bl (xB, 31, opC ⟨ac, kd, 0, 0, 0⟩) (by simp)).1.cell 1
  have p0 : w5.cell? ⟨pB, 2, none⟩ = some (.int .u64 (o.a : Int)) := (HX5.out.bl (pB, 31, opC o) (by simp)).1.cell 2
  have r0 : w5.cell? ⟨xB, 2, none⟩ = some (.int .u64 0) := (HX5.out.bl (xB, 31, opC ⟨ac, kd, 0, 0, 0⟩) (by simp)).1.cell 2
  have f0 : w5.frozen? ⟨xB, 2, none⟩ = false := (HX5.out.bl (xB, 31, opC ⟨ac, kd, 0, 0, 0⟩) (by simp)).1.frozen 2
  go_upto_region 8 with fail
  obtain ⟨w6, hw6⟩ : ∃ x, w5.setCell ⟨xB, 2, none⟩ (.int .u64 (o.a : Int)) = x := ⟨_, rfl⟩
  have HX6 : Hid (XBs w w6 [(xB, 31, opC ⟨ac, kd, o.a, 0, 0⟩), (rb, 31, opC ⟨0, 0, 0, 0, 0⟩), (pB, 31, opC o)]) := hid (by
    rw [← hw6]
    exact HX5.out.set (i := 0) rfl ((HX5.out.bl (xB, 31, opC ⟨ac, kd, 0, 0, 0⟩) (by simp)).1.set 2 _) ((Upd.refl xB w5).setCell rfl _))
  simp only [hw6]
  clear hw6 HX5 p0 r0 f0
  have p1 : w6.cell? ⟨pB, 3, none⟩ = some (.int .u64 (o.b : Int)) := (HX6.out.bl (pB, 31, opC o) (by simp)).1.cell 3
  have r1 : w6.cell? ⟨xB, 3, none⟩ = some (.int .u64 0) := (HX6.out.bl (xB, 31, opC ⟨ac, kd, o.a, 0, 0⟩) (by simp)).1.cell 3
  have f1 : w6.frozen? ⟨xB, 3, none⟩ = false := (HX6.out.bl (xB, 31, opC ⟨ac, kd, o.a, 0, 0⟩) (by simp)).1.frozen 3
  go_upto_region 10 with fail
  obtain ⟨w7, hw7⟩ : ∃ x, w6.setCell ⟨xB, 3, none⟩ (.int .u64 (o.b : Int)) = x := ⟨_, rfl⟩
  have HX7 : Hid (XBs w w7 [(xB, 31, opC ⟨ac, kd, o.a, o.b, 0⟩), (rb, 31, opC ⟨0, 0, 0, 0, 0⟩), (pB, 31, opC o)]) := hid (by
    rw [← hw7]
    exact HX6.out.set (i := 0) rfl ((HX6.out.bl (xB, 31, opC ⟨ac, kd, o.a, 0, 0⟩) (by simp)).1.set 3 _) ((Upd.refl xB w6).setCell rfl _))
  simp only [hw7]
  clear hw7 HX6 p1 r1 f1
  have z0 : w7.cell? ⟨xB, 0, none⟩ = some (.int .u8 (ac : Int)) := (HX7.out.bl (xB, 31, opC ⟨ac, kd, o.a, o.b, 0⟩) (by simp)).1.cell 0
  have z1 : w7.cell? ⟨xB, 1, none⟩ = some (.int .u8 (kd : Int)) := (HX7.out.bl (xB, 31, opC ⟨ac, kd, o.a, o.b, 0⟩) (by simp)).1.cell 1
  have z2 : w7.cell? ⟨xB, 2, none⟩ = some (.int .u64 (o.a : Int)) := (HX7.out.bl (xB, 31, opC ⟨ac, kd, o.a, o.b, 0⟩) (by simp)).1.cell 2
  have z3 : w7.cell? ⟨xB, 3, none⟩ = some (.int .u64 (o.b : Int)) := (HX7.out.bl (xB, 31, opC ⟨ac, kd, o.a, o.b, 0⟩) (by simp)).1.cell 3
  have z4 : w7.cell? ⟨xB, 4, none⟩ = some (.int .u64 0) := (HX7.out.bl (xB, 31, opC ⟨ac, kd, o.a, o.b, 0⟩) (by simp)).1.cell 4
  go_wp2_with (refine wpList_store_blk rfl 31 _ _ rfl rb rfl (opC ⟨ac, kd, o.a, o.b, 0⟩) rfl (HX7.out.bl (rb, 31, opC ⟨0, 0, 0, 0, 0⟩) (by simp)).1 rfl Io.out (op_one _) ?_; intro w9 HB9 HU9)
  have HX9 := hid ((HX7.out.set (i := 1) rfl HB9.out HU9.out).bel)
  exact bodyPost_ret (results_blk Tryd.results17 rfl (show AggOf Tryd.prog 31 (opC ⟨ac, kd, o.a, o.b, 0⟩).length from AggOf.struct Tryd.underlying31 info_op) HB9.out) rfl ⟨rfl, by rw [← hpB]; exact HX9.out⟩
set_option maxRecDepth 1000000 in
set_option maxHeartbeats 4000000 in
theorem tdL3 {ac kd : Nat} (hac : o.ac % 7 = ac) (hkd : o.k % 9 = kd) (hok : OpB o) (h4 : ac < 4) (hai : ari kd = 3) (hg : AgG w mg) : Calls Tryd.prog 17 #[.agg (opC o).toArray] w fun e w' => e = .returned (.agg (opC ⟨ac, kd, o.a, o.b, o.c⟩).toArray) ∧ Below w.heap.size w w' := by
  show Calls _ _ #[.agg #[.int .u8 (o.ac : Int), .int .u8 (o.k : Int), .int .u64 (o.a : Int), .int .u64 (o.b : Int), .int .u64 (o.c : Int)]] _ _
  have Io : Hid ((Tryd.prog.info? 31).map (·.size) = some 5) := hid info_op
  have ta : (o.ac : Int).tmod 7 = (ac : Int) := by rw [Int.tmod_eq_emod_of_nonneg (by omega), ← hac]; omega
  have iac : (ac : Int) < 7 := by omega
  have tk : (o.k : Int).tmod 9 = (kd : Int) := by rw [Int.tmod_eq_emod_of_nonneg (by omega), ← hkd]; omega
  have hk9 : kd < 9 := by omega
  have ik9 : (kd : Int) < 9 := by omega
  have HG := hid hg
  obtain ⟨pB, hpB⟩ : ∃ x, w.heap.size = x := ⟨_, rfl⟩
  obtain ⟨w1, hw1⟩ : ∃ x, w.alloc (.cells #[.int .u8 (o.ac : Int), .int .u8 (o.k : Int), .int .u64 (o.a : Int), .int .u64 (o.b : Int), .int .u64 (o.c : Int)] 31) = x := ⟨_, rfl⟩
  have HX1 : Hid (XBs w w1 [(pB, 31, opC o)]) := hid (by have := (XBs.zero w).alloc (opC o) 31; rw [hpB, show w.alloc (.cells (opC o).toArray 31) = w1 from hw1] at this; exact this)
  obtain ⟨rb, hrb⟩ : ∃ x, w1.heap.size = x := ⟨_, rfl⟩
  obtain ⟨w2, hw2⟩ : ∃ x, w1.alloc (.cells #[.int .u8 0, .int .u8 0, .int .u64 0, .int .u64 0, .int .u64 0] 31) = x := ⟨_, rfl⟩
  have HX2 : Hid (XBs w w2 [(rb, 31, opC ⟨0, 0, 0, 0, 0⟩), (pB, 31, opC o)]) := hid (by have := HX1.out.alloc (opC ⟨0, 0, 0, 0, 0⟩) 31; rw [hrb, show w1.alloc (.cells (opC ⟨0, 0, 0, 0, 0⟩).toArray 31) = w2 from hw2] at this; exact this)
  obtain ⟨xB, hxB⟩ : ∃ x, w2.heap.size = x := ⟨_, rfl⟩
  obtain ⟨w3, hw3⟩ : ∃ x, w2.alloc (.cells #[.int .u8 0, .int .u8 0, .int .u64 0, .int .u64 0, .int .u64 0] 31) = x := ⟨_, rfl⟩
  have HX3 : Hid (XBs w w3 [(xB, 31, opC ⟨0, 0, 0, 0, 0⟩), (rb, 31, opC ⟨0, 0, 0, 0, 0⟩), (pB, 31, opC o)]) := hid (by have := HX2.out.alloc (opC ⟨0, 0, 0, 0, 0⟩) 31; rw [hxB, show w2.alloc (.cells (opC ⟨0, 0, 0, 0, 0⟩).toArray 31) = w3 from hw3] at this; exact this)
  have c0 : w2.cell? ⟨pB, 0, none⟩ = some (.int .u8 (o.ac : Int)) := (HX2.out.bl (pB, 31, opC o) (by simp)).1.cell 0
  clear HX1 HX2 hg
  go_enter Tryd.func17, Tryd.ntmps17
  go_upto_region 2 with (refine wpList_store_blk rfl 31 _ _ rfl xB rfl (opC ⟨ac, 0, 0, 0, 0⟩) rfl (HX3.out.bl (xB, 31, opC ⟨0, 0, 0, 0, 0⟩) (by simp)).1 rfl Io.out (op_one _) ?_; intro w4 HBs HUs)
  have HX4 : Hid (XBs w w4 [(xB, 31, opC ⟨ac, 0, 0, 0, 0⟩), (rb, 31, opC ⟨0, 0, 0, 0, 0⟩), (pB, 31, opC o)]) := hid (HX3.out.set (i := 0) rfl HBs.out HUs.out)
  clear HX3 HBs HUs hw1 hw2 hw3 hxB hrb c0 ta
  go_frame
  have q0 : w4.cell? ⟨xB, 0, none⟩ = some (.int .u8 (ac : Int)) := (HX4.out.bl (xB, 31, opC ⟨ac, 0, 0, 0, 0⟩) (by simp)).1.cell 0
  have d4 : decide (4 ≤ (ac : Int)) = false := decide_eq_false (by omega)
  have c1 : w4.cell? ⟨pB, 1, none⟩ = some (.int .u8 (o.k : Int)) := (HX4.out.bl (pB, 31, opC o) (by simp)).1.cell 1
  have q1 : w4.cell? ⟨xB, 1, none⟩ = some (.int .u8 0) := (HX4.out.bl (xB, 31, opC ⟨ac, 0, 0, 0, 0⟩) (by simp)).1.cell 1
  have f1 : w4.frozen? ⟨xB, 1, none⟩ = false := (HX4.out.bl (xB, 31, opC ⟨ac, 0, 0, 0, 0⟩) (by simp)).1.frozen 1
  go_upto_region 5 with fail
  obtain ⟨w5, hw5⟩ : ∃ x, w4.setCell ⟨xB, 1, none⟩ (.int .u8 (kd : Int)) = x := ⟨_, rfl⟩
  have HX5 : Hid (XBs w w5 [(xB, 31, opC ⟨ac, kd, 0, 0, 0⟩), (rb, 31, opC ⟨0, 0, 0, 0, 0⟩), (pB, 31, opC o)]) := hid (by
    rw [← hw5]
    exact HX4.out.set (i := 0) rfl ((HX4.out.bl (xB, 31, opC ⟨ac, 0, 0, 0, 0⟩) (by simp)).1.set 1 _) ((Upd.refl xB w4).setCell rfl _))
  simp only [hw5]
  clear hw5 HX4 q0 c1 q1 f1 tk
  have cg := (HG.out.below HX5.out.bel).c
  have hlk := HG.out.lk w5 (HX5.out.bel.block mg HG.out.lm) kd hk9
  rw [hai] at hlk
  have q1 : w5.cell? ⟨xB, 1, none⟩ = some (.int .u8 (kd : Int)) := (HX5.out.bl (xB, 31, opC ⟨ac, kd, 0, 0, 0⟩) (by simp)).1.cell 1
  have p0 : w5.cell? ⟨pB, 2, none⟩ = some (.int .u64 (o.a : Int)) := (HX5.out.bl (pB, 31, opC o) (by simp)).1.cell 2
  have r0 : w5.cell? ⟨xB, 2, none⟩ = some (.int .u64 0) := (HX5.out.bl (xB, 31, opC ⟨ac, kd, 0, 0, 0⟩) (by simp)).1.cell 2
  have f0 : w5.frozen? ⟨xB, 2, none⟩ = false := (HX5.out.bl (xB, 31, opC ⟨ac, kd, 0, 0, 0⟩) (by simp)).1.frozen 2
  go_upto_region 8 with fail
  obtain ⟨w6, hw6⟩ : ∃ x, w5.setCell ⟨xB, 2, none⟩ (.int .u64 (o.a : Int)) = x := ⟨_, rfl⟩
  have HX6 : Hid (XBs w w6 [(xB, 31, opC ⟨ac, kd, o.a, 0, 0⟩), (rb, 31, opC ⟨0, 0, 0, 0, 0⟩), (pB, 31, opC o)]) := hid (by
    rw [← hw6]
    exact HX5.out.set (i := 0) rfl ((HX5.out.bl (xB, 31, opC ⟨ac, kd, 0, 0, 0⟩) (by simp)).1.set 2 _) ((Upd.refl xB w5).setCell rfl _))
  simp only [hw6]
  clear hw6 HX5 p0 r0 f0
  have p1 : w6.cell? ⟨pB, 3, none⟩ = some (.int .u64 (o.b : Int)) := (HX6.out.bl (pB, 31, opC o) (by simp)).1.cell 3
  have r1 : w6.cell? ⟨xB, 3, none⟩ = some (.int .u64 0) := (HX6.out.bl (xB, 31, opC ⟨ac, kd, o.a, 0, 0⟩) (by simp)).1.cell 3
  have f1 : w6.frozen? ⟨xB, 3, none⟩ = false := (HX6.out.bl (xB, 31, opC ⟨ac, kd, o.a, 0, 0⟩) (by simp)).1.frozen 3
  go_upto_region 10 with fail
  obtain ⟨w7, hw7⟩ : ∃ x, w6.setCell ⟨xB, 3, none⟩ (.int .u64 (o.b : Int)) = x := ⟨_, rfl⟩
  have HX7 : Hid (XBs w w7 [(xB, 31, opC ⟨ac, kd, o.a, o.b, 0⟩), (rb, 31, opC ⟨0, 0, 0, 0, 0⟩), (pB, 31, opC o)]) := hid (by
    rw [← hw7]
    exact HX6.out.set (i := 0) rfl ((HX6.out.bl (xB, 31, opC ⟨ac, kd, o.a, 0, 0⟩) (by simp)).1.set 3 _) ((Upd.refl xB w6).setCell rfl _))
  simp only [hw7]
  clear hw7 HX6 p1 r1 f1
  have p2 : w7.cell? ⟨pB, 4, none⟩ = some (.int .u64 (o.c : Int)) := (HX7.out.bl (pB, 31, opC o) (by simp)).1.cell 4
  have r2 : w7.cell? ⟨xB, 4, none⟩ = some (.int .u64 0) := (HX7.out.bl (xB, 31, opC ⟨ac, kd, o.a, o.b, 0⟩) (by simp)).1.cell 4
  have f2 : w7.frozen? ⟨xB, 4, none⟩ = false := (HX7.out.bl (xB, 31, opC ⟨ac, kd, o.a, o.b, 0⟩) (by simp)).1.frozen 4
  go_upto_region 12 with fail
  obtain ⟨w8, hw8⟩ : ∃ x, w7.setCell ⟨xB, 4, none⟩ (.int .u64 (o.c : Int)) = x := ⟨_, rfl⟩
  have HX8 : Hid (XBs w w8 [(xB, 31, opC ⟨ac, kd, o.a, o.b, o.c⟩), (rb, 31, opC ⟨0, 0, 0, 0, 0⟩), (pB, 31, opC o)]) := hid (by
    rw [← hw8]
    exact HX7.out.set (i := 0) rfl ((HX7.out.bl (xB, 31, opC ⟨ac, kd, o.a, o.b, 0⟩) (by simp)).1.set 4 _) ((Upd.refl xB w7).setCell rfl _))
  simp only [hw8]
  clear hw8 HX7 p2 r2 f2
  have z0 : w8.cell? ⟨xB, 0, none⟩ = some (.int .u8 (ac : Int)) := (HX8.out.bl (xB, 31, opC ⟨ac, kd, o.a, o.b, o.c⟩) (by simp)).1.cell 0
  have z1 : w8.cell? ⟨xB, 1, none⟩ = some (.int .u8 (kd : Int)) := (HX8.out.bl (xB, 31, opC ⟨ac, kd, o.a, o.b, o.c⟩) (by simp)).1.cell 1
  have z2 : w8.cell? ⟨xB, 2, none⟩ = some (.int .u64 (o.a : Int)) := (HX8.out.bl (xB, 31, opC ⟨ac, kd, o.a, o.b, o.c⟩) (by simp)).1.cell 2
  have z3 : w8.cell? ⟨xB, 3, none⟩ = some (.int .u64 (o.b : Int)) := (HX8.out.bl (xB, 31, opC ⟨ac, kd, o.a, o.b, o.c⟩) (by simp)).1.cell 3
  have z4 : w8.cell? ⟨xB, 4, none⟩ = some (.int .u64 (o.c : Int)) := (HX8.out.bl (xB, 31, opC ⟨ac, kd, o.a, o.b, o.c⟩) (by simp)).1.cell 4
  go_wp2_with (refine wpList_store_blk rfl 31 _ _ rfl rb rfl (opC ⟨ac, kd, o.a, o.b, o.c⟩) rfl (HX8.out.bl (rb, 31, opC ⟨0, 0, 0, 0, 0⟩) (by simp)).1 rfl Io.out (op_one _) ?_; intro w9 HB9 HU9)
  have HX9 := hid ((HX8.out.set (i := 1) rfl HB9.out HU9.out).bel)
  exact bodyPost_ret (results_blk Tryd.results17 rfl (show AggOf Tryd.prog 31 (opC ⟨ac, kd, o.a, o.b, o.c⟩).length from AggOf.struct Tryd.underlying31 info_op) HB9.out) rfl ⟨rfl, by rw [← hpB]; exact HX9.out⟩
end
theorem tidied_walk {w : World} {mg : Nat} {o : OpP} (hok : OpB o) (hg : AgG w mg) : Calls Tryd.prog 17 #[.agg (opC o).toArray] w fun e w' => e = .returned (.agg (opC (tidy o)).toArray) ∧ Below w.heap.size w w' := by
  unfold tidy
  by_cases h4 : o.ac % 7 < 4
  · rw [if_pos h4]
    rcases (by have := ari_le (o.k % 9); omega : ari (o.k % 9) = 0 ∨ ari (o.k % 9) = 1 ∨ ari (o.k % 9) = 2 ∨ ari (o.k % 9) = 3) with e | e | e | e
    · rw [e]; exact tdL0 rfl rfl hok h4 e hg
    · rw [e]; exact tdL1 rfl rfl hok h4 e hg
    · rw [e]; exact tdL2 rfl rfl hok h4 e hg
    · rw [e]; exact tdL3 rfl rfl hok h4 e hg
  · rw [if_neg h4]
    exact tdH rfl hok h4
end Go.Proofs.Qxb6500889aDoor
