/- Methods of an object: FieldAddr, DataAddr, Ref, Data, SetRef, SetData (written by tools/mk_azi.py). -/
import Derived.Test.Qxb6500887aGreatAzH
namespace Go.Proofs.Qxb6500887aGreat
open Go.RowKit
set_option linter.unusedSimpArgs false
set_option linter.unusedVariables false

section
variable {l : AL} {S : AS} {w w' w0 : World} {p : Nat} {cs : List Value} {o : Ob}
theorem OX.nwr (h : OX w0 l S p cs w) : p ∉ l.wr := by
  have n1 : p ≠ l.a := h.bk.tneA h.am.a (by decide)
  have n2 : p ≠ l.w := h.bk.tneA h.am.ws (by decide)
  have n3 : p ≠ l.bc := h.bk.tneA h.am.tc.wb (by decide)
  have n4 : p ≠ l.bm := h.bk.tneA h.am.tm.wb (by decide)
  have n5 : p ≠ l.bl := h.bk.tneA h.am.tl.wb (by decide)
  have n6 : p ≠ l.bt := h.bk.tneA h.am.tt.wb (by decide)
  simp [AL.wr, n1, n2, n3, n4, n5, n6]
theorem OX.au (h : OX w0 l S p cs w) : AU l w0 S w := ⟨h.am, UL.ofBelow h.bel⟩
set_option maxRecDepth 100000 in
theorem obFieldAddrN {v0 v1 v2 v3 v4 : Value} (h : AM l S w) (i : Int) (hc : Chk l S [v0, v1, v2, v3, v4] 6) : Calls Tryz.prog 45 #[.agg #[v0, v1, v2, v3, v4], .int .i64 i] w fun e w' => e = .returned (.tuple #[.int .u64 0, .int .u8 6]) ∧ Below w.heap.size w w' := by
  obtain ⟨p, hp⟩ : ∃ p, w.heap.size = p := ⟨_, rfl⟩
  have HX : Hid (OX w l S p [v0, v1, v2, v3, v4] (w.alloc (.cells #[v0, v1, v2, v3, v4] 61))) := hid (OX.new (cs := [v0, v1, v2, v3, v4]) h (Below.refl _ w) hp)
  have HC := hid (fun wz (hz : AM l S wz) => fieldWordN hz i hc)
  clear h hc
  go_enter Tryz.func45, Tryz.ntmps45
  go_upto_region 1 with fail
  (try simp only [hp])
  generalize hw1 : w.alloc _ = w1 at HX ⊢
  clear hw1 hp
  have p0 := HX.out.bk.cell 0
  have p1 := HX.out.bk.cell 1
  have p2 := HX.out.bk.cell 2
  have p3 := HX.out.bk.cell 3
  have p4 := HX.out.bk.cell 4
  simp only [List.getElem?_cons_zero, List.getElem?_cons_succ] at p0 p1 p2 p3 p4
  go_wp2_with fail
  refine (HC.out _ HX.out.am).mono ?_
  rintro e w2 ⟨rfl, hb2⟩
  have HX2 := hid (HX.out.below hb2)
  clear hb2 HX p0 p1 p2 p3 p4 HC
  go_wp2
  refine bodyPost_ret (results_tmp2 Tryz.results45 _ _ _) rfl ?_
  exact ⟨rfl, HX2.out.bel⟩
set_option maxRecDepth 100000 in
set_option maxHeartbeats 1000000 in
theorem obFieldAddrZ (h : AM l S w) (ho : ObOk o) (i : Int) : Calls Tryz.prog 45 #[.agg #[.pointer (some ⟨l.a, 0, none⟩), .int .i64 (o.k : Int), .int .u64 (o.raw : Int), .int .i64 (o.sz : Int), .int .i64 (o.rf : Int)], .int .i64 i] w fun e w' => e = .returned (.tuple #[.int .u64 (if (fwV S o i).2 = 0 then 65536 + (fwV S o i).1 else 0), .int .u8 ((fwV S o i).2)]) ∧ Below w.heap.size w w' := by
  obtain ⟨p, hp⟩ : ∃ p, w.heap.size = p := ⟨_, rfl⟩
  have HX : Hid (OX w l S p (obL l o) (w.alloc (.cells #[.pointer (some ⟨l.a, 0, none⟩), .int .i64 (o.k : Int), .int .u64 (o.raw : Int), .int .i64 (o.sz : Int), .int .i64 (o.rf : Int)] 61))) := hid (OX.new (cs := (obL l o)) h (Below.refl _ w) hp)
  have HC := hid (fun wz (hz : AM l S wz) => fieldWordZ hz ho i)
  by_cases hc : (fwV S o i).2 = 0
  · obtain ⟨_, _, _, e1, e2⟩ := fw_ok ho hc
    rw [if_pos hc, hc, e1]
    rw [hc, e1] at HC
    generalize o.k + 1 + i.toNat = k at *
    clear h hc ho e1
    go_enter Tryz.func45, Tryz.ntmps45
    go_upto_region 1 with fail
    (try simp only [hp])
    generalize hw1 : w.alloc _ = w1 at HX ⊢
    clear hw1 hp
    have p0 := HX.out.bk.cell 0
    have p1 := HX.out.bk.cell 1
    have p2 := HX.out.bk.cell 2
    have p3 := HX.out.bk.cell 3
    have p4 := HX.out.bk.cell 4
    simp only [obL, List.getElem?_cons_zero, List.getElem?_cons_succ] at p0 p1 p2 p3 p4
    go_wp2_with fail
    refine (HC.out _ HX.out.am).mono ?_
    rintro e w2 ⟨rfl, hb2⟩
    have HX2 := hid (HX.out.below hb2)
    clear hb2 HX p0 p1 p2 p3 p4 HC
    go_wp2
    refine bodyPost_ret (results_tmp2 Tryz.results45 _ _ _) rfl ?_
    exact ⟨by first | rfl | simp, HX2.out.bel⟩
  · rw [if_neg hc]
    have e1 : (fwV S o i).1 = 0 := by
      unfold fwV at hc ⊢
      split
      · split
        · rename_i h1 h2
          rw [if_pos h1, if_pos h2] at hc
          exact absurd rfl hc
        · rfl
      · rfl
    rw [e1] at HC
    have dc : ((fwV S o i).2 == 0) = false := by simpa using hc
    have dc2 : ((fwV S o i).2 != 0) = true := by simp [bne, dc]
    generalize (fwV S o i).2 = c at *
    clear h hc ho e1
    go_enter Tryz.func45, Tryz.ntmps45
    go_upto_region 1 with fail
    (try simp only [hp])
    generalize hw1 : w.alloc _ = w1 at HX ⊢
    clear hw1 hp
    have p0 := HX.out.bk.cell 0
    have p1 := HX.out.bk.cell 1
    have p2 := HX.out.bk.cell 2
    have p3 := HX.out.bk.cell 3
    have p4 := HX.out.bk.cell 4
    simp only [obL, List.getElem?_cons_zero, List.getElem?_cons_succ] at p0 p1 p2 p3 p4
    go_wp2_with fail
    refine (HC.out _ HX.out.am).mono ?_
    rintro e w2 ⟨rfl, hb2⟩
    have HX2 := hid (HX.out.below hb2)
    clear hb2 HX p0 p1 p2 p3 p4 HC
    go_wp2
    refine bodyPost_ret (results_tmp2 Tryz.results45 _ _ _) rfl ?_
    exact ⟨rfl, HX2.out.bel⟩
set_option maxRecDepth 100000 in
theorem obDataAddrN {v0 v1 v2 v3 v4 : Value} (h : AM l S w) (i : Int) (hc : Chk l S [v0, v1, v2, v3, v4] 6) : Calls Tryz.prog 46 #[.agg #[v0, v1, v2, v3, v4], .int .i64 i] w fun e w' => e = .returned (.tuple #[.int .u64 0, .int .u8 6]) ∧ Below w.heap.size w w' := by
  obtain ⟨p, hp⟩ : ∃ p, w.heap.size = p := ⟨_, rfl⟩
  have HX : Hid (OX w l S p [v0, v1, v2, v3, v4] (w.alloc (.cells #[v0, v1, v2, v3, v4] 61))) := hid (OX.new (cs := [v0, v1, v2, v3, v4]) h (Below.refl _ w) hp)
  have HC := hid (fun wz (hz : AM l S wz) => dataWordN hz i hc)
  clear h hc
  go_enter Tryz.func46, Tryz.ntmps46
  go_upto_region 1 with fail
  (try simp only [hp])
  generalize hw1 : w.alloc _ = w1 at HX ⊢
  clear hw1 hp
  have p0 := HX.out.bk.cell 0
  have p1 := HX.out.bk.cell 1
  have p2 := HX.out.bk.cell 2
  have p3 := HX.out.bk.cell 3
  have p4 := HX.out.bk.cell 4
  simp only [List.getElem?_cons_zero, List.getElem?_cons_succ] at p0 p1 p2 p3 p4
  go_wp2_with fail
  refine (HC.out _ HX.out.am).mono ?_
  rintro e w2 ⟨rfl, hb2⟩
  have HX2 := hid (HX.out.below hb2)
  clear hb2 HX p0 p1 p2 p3 p4 HC
  go_wp2
  refine bodyPost_ret (results_tmp2 Tryz.results46 _ _ _) rfl ?_
  exact ⟨rfl, HX2.out.bel⟩
set_option maxRecDepth 100000 in
set_option maxHeartbeats 1000000 in
theorem obDataAddrZ (h : AM l S w) (ho : ObOk o) (i : Int) : Calls Tryz.prog 46 #[.agg #[.pointer (some ⟨l.a, 0, none⟩), .int .i64 (o.k : Int), .int .u64 (o.raw : Int), .int .i64 (o.sz : Int), .int .i64 (o.rf : Int)], .int .i64 i] w fun e w' => e = .returned (.tuple #[.int .u64 (if (dwV S o i).2 = 0 then 65536 + (dwV S o i).1 else 0), .int .u8 ((dwV S o i).2)]) ∧ Below w.heap.size w w' := by
  obtain ⟨p, hp⟩ : ∃ p, w.heap.size = p := ⟨_, rfl⟩
  have HX : Hid (OX w l S p (obL l o) (w.alloc (.cells #[.pointer (some ⟨l.a, 0, none⟩), .int .i64 (o.k : Int), .int .u64 (o.raw : Int), .int .i64 (o.sz : Int), .int .i64 (o.rf : Int)] 61))) := hid (OX.new (cs := (obL l o)) h (Below.refl _ w) hp)
  have HC := hid (fun wz (hz : AM l S wz) => dataWordZ hz ho i)
  by_cases hc : (dwV S o i).2 = 0
  · obtain ⟨_, _, _, e1, e2⟩ := dw_ok ho hc
    rw [if_pos hc, hc, e1]
    rw [hc, e1] at HC
    generalize o.k + 1 + o.rf + i.toNat = k at *
    clear h hc ho e1
    go_enter Tryz.func46, Tryz.ntmps46
    go_upto_region 1 with fail
    (try simp only [hp])
    generalize hw1 : w.alloc _ = w1 at HX ⊢
    clear hw1 hp
    have p0 := HX.out.bk.cell 0
    have p1 := HX.out.bk.cell 1
    have p2 := HX.out.bk.cell 2
    have p3 := HX.out.bk.cell 3
    have p4 := HX.out.bk.cell 4
    simp only [obL, List.getElem?_cons_zero, List.getElem?_cons_succ] at p0 p1 p2 p3 p4
    go_wp2_with fail
    refine (HC.out _ HX.out.am).mono ?_
    rintro e w2 ⟨rfl, hb2⟩
    have HX2 := hid (HX.out.below hb2)
    clear hb2 HX p0 p1 p2 p3 p4 HC
    go_wp2
    refine bodyPost_ret (results_tmp2 Tryz.results46 _ _ _) rfl ?_
    exact ⟨by first | rfl | simp, HX2.out.bel⟩
  · rw [if_neg hc]
    have e1 : (dwV S o i).1 = 0 := by
      unfold dwV at hc ⊢
      split
      · split
        · rename_i h1 h2
          rw [if_pos h1, if_pos h2] at hc
          exact absurd rfl hc
        · rfl
      · rfl
    rw [e1] at HC
    have dc : ((dwV S o i).2 == 0) = false := by simpa using hc
    have dc2 : ((dwV S o i).2 != 0) = true := by simp [bne, dc]
    generalize (dwV S o i).2 = c at *
    clear h hc ho e1
    go_enter Tryz.func46, Tryz.ntmps46
    go_upto_region 1 with fail
    (try simp only [hp])
    generalize hw1 : w.alloc _ = w1 at HX ⊢
    clear hw1 hp
    have p0 := HX.out.bk.cell 0
    have p1 := HX.out.bk.cell 1
    have p2 := HX.out.bk.cell 2
    have p3 := HX.out.bk.cell 3
    have p4 := HX.out.bk.cell 4
    simp only [obL, List.getElem?_cons_zero, List.getElem?_cons_succ] at p0 p1 p2 p3 p4
    go_wp2_with fail
    refine (HC.out _ HX.out.am).mono ?_
    rintro e w2 ⟨rfl, hb2⟩
    have HX2 := hid (HX.out.below hb2)
    clear hb2 HX p0 p1 p2 p3 p4 HC
    go_wp2
    refine bodyPost_ret (results_tmp2 Tryz.results46 _ _ _) rfl ?_
    exact ⟨rfl, HX2.out.bel⟩
set_option maxRecDepth 100000 in
theorem obRefN {v0 v1 v2 v3 v4 : Value} (h : AM l S w) (i : Int) (hc : Chk l S [v0, v1, v2, v3, v4] 6) : Calls Tryz.prog 27 #[.agg #[v0, v1, v2, v3, v4], .int .i64 i] w fun e w' => e = .returned (.tuple #[.int .u64 0, .int .u8 6]) ∧ Below w.heap.size w w' := by
  obtain ⟨p, hp⟩ : ∃ p, w.heap.size = p := ⟨_, rfl⟩
  have HX : Hid (OX w l S p [v0, v1, v2, v3, v4] (w.alloc (.cells #[v0, v1, v2, v3, v4] 61))) := hid (OX.new (cs := [v0, v1, v2, v3, v4]) h (Below.refl _ w) hp)
  have HC := hid (fun wz (hz : AM l S wz) => fieldWordN hz i hc)
  clear h hc
  go_enter Tryz.func27, Tryz.ntmps27
  go_upto_region 1 with fail
  (try simp only [hp])
  generalize hw1 : w.alloc _ = w1 at HX ⊢
  clear hw1 hp
  have p0 := HX.out.bk.cell 0
  have p1 := HX.out.bk.cell 1
  have p2 := HX.out.bk.cell 2
  have p3 := HX.out.bk.cell 3
  have p4 := HX.out.bk.cell 4
  simp only [List.getElem?_cons_zero, List.getElem?_cons_succ] at p0 p1 p2 p3 p4
  go_wp2_with fail
  refine (HC.out _ HX.out.am).mono ?_
  rintro e w2 ⟨rfl, hb2⟩
  have HX2 := hid (HX.out.below hb2)
  clear hb2 HX p0 p1 p2 p3 p4 HC
  go_wp2
  refine bodyPost_ret (results_tmp2 Tryz.results27 _ _ _) rfl ?_
  exact ⟨rfl, HX2.out.bel⟩
/-- A reference field read. -/
def rfV (S : AS) (o : Ob) (i : Int) : Int × Int := if (fwV S o i).2 = 0 then (if rfOk (S.W (o.k + 1 + i.toNat)) then (((S.W (o.k + 1 + i.toNat) : Nat) : Int), 0) else (0, 9)) else (0, (fwV S o i).2)
set_option maxRecDepth 100000 in
set_option maxHeartbeats 1000000 in
theorem obRefZ (h : AM l S w) (ho : ObOk o) (i : Int) : Calls Tryz.prog 27 #[.agg #[.pointer (some ⟨l.a, 0, none⟩), .int .i64 (o.k : Int), .int .u64 (o.raw : Int), .int .i64 (o.sz : Int), .int .i64 (o.rf : Int)], .int .i64 i] w fun e w' => e = .returned (.tuple #[.int .u64 ((rfV S o i).1), .int .u8 ((rfV S o i).2)]) ∧ Below w.heap.size w w' := by
  obtain ⟨p, hp⟩ : ∃ p, w.heap.size = p := ⟨_, rfl⟩
  have HX : Hid (OX w l S p (obL l o) (w.alloc (.cells #[.pointer (some ⟨l.a, 0, none⟩), .int .i64 (o.k : Int), .int .u64 (o.raw : Int), .int .i64 (o.sz : Int), .int .i64 (o.rf : Int)] 61))) := hid (OX.new (cs := (obL l o)) h (Below.refl _ w) hp)
  have HC := hid (fun wz (hz : AM l S wz) => fieldWordZ hz ho i)
  by_cases hc : (fwV S o i).2 = 0
  · obtain ⟨_, _, _, e1, e2⟩ := fw_ok ho hc
    have HCk := hid (fun wz => checkRefZ ((S.W (o.k + 1 + i.toNat) : Nat) : Int) wz)
    have e3 : rfV S o i = (if rfOk (S.W (o.k + 1 + i.toNat)) then (((S.W (o.k + 1 + i.toNat) : Nat) : Int), 0) else (0, 9)) := by unfold rfV; rw [if_pos hc]
    rw [e3]
    rw [hc, e1] at HC
    generalize o.k + 1 + i.toNat = k at *
    clear h hc ho e1 e3
    obtain ⟨x, hx⟩ : ∃ x, S.W k = x := ⟨_, rfl⟩
    rw [hx] at HCk ⊢
    have Hx := hid hx
    clear hx
    by_cases hr : rfOk (x : Int)
    all_goals
      (first | rw [if_pos hr, if_pos hr] at HCk | rw [if_neg hr, if_neg hr] at HCk)
      (first | rw [if_pos hr] | rw [if_neg hr])
      clear hr
      go_enter Tryz.func27, Tryz.ntmps27
      go_upto_region 1 with fail
      (try simp only [hp])
      generalize hw1 : w.alloc _ = w1 at HX ⊢
      clear hw1 hp
      have p0 := HX.out.bk.cell 0
      have p1 := HX.out.bk.cell 1
      have p2 := HX.out.bk.cell 2
      have p3 := HX.out.bk.cell 3
      have p4 := HX.out.bk.cell 4
      simp only [obL, List.getElem?_cons_zero, List.getElem?_cons_succ] at p0 p1 p2 p3 p4
      go_wp2_with fail
      refine (HC.out _ HX.out.am).mono ?_
      rintro e w2 ⟨rfl, hb2⟩
      have HX2 := hid (HX.out.below hb2)
      clear hb2 HX p0 p1 p2 p3 p4 HC
      have p0 := HX2.out.bk.cell 0
      have p1 := HX2.out.bk.cell 1
      have p2 := HX2.out.bk.cell 2
      have p3 := HX2.out.bk.cell 3
      have p4 := HX2.out.bk.cell 4
      simp only [obL, List.getElem?_cons_zero, List.getElem?_cons_succ] at p0 p1 p2 p3 p4
      have a0 := HX2.out.am.cells.1
      have x0 := HX2.out.am.word e2
      rw [Hx.out] at x0
      (go_wp2_with fail; refine ((HCk.out w2)).mono ?_; rintro e_ w_ ⟨he_, hw_⟩; subst he_; have hs_ := hw_.symm; clear hw_; subst hs_)
      go_wp2
      refine bodyPost_ret (results_tmp2 Tryz.results27 _ _ _) rfl ?_
      exact ⟨rfl, HX2.out.bel⟩
  · rw [show rfV S o i = (0, (fwV S o i).2) by unfold rfV; rw [if_neg hc]]
    have e1 : (fwV S o i).1 = 0 := by
      unfold fwV at hc ⊢
      split
      · split
        · rename_i h1 h2
          rw [if_pos h1, if_pos h2] at hc
          exact absurd rfl hc
        · rfl
      · rfl
    rw [e1] at HC
    have dc : ((fwV S o i).2 == 0) = false := by simpa using hc
    have dc2 : ((fwV S o i).2 != 0) = true := by simp [bne, dc]
    generalize (fwV S o i).2 = c at *
    clear h hc ho e1
    go_enter Tryz.func27, Tryz.ntmps27
    go_upto_region 1 with fail
    (try simp only [hp])
    generalize hw1 : w.alloc _ = w1 at HX ⊢
    clear hw1 hp
    have p0 := HX.out.bk.cell 0
    have p1 := HX.out.bk.cell 1
    have p2 := HX.out.bk.cell 2
    have p3 := HX.out.bk.cell 3
    have p4 := HX.out.bk.cell 4
    simp only [obL, List.getElem?_cons_zero, List.getElem?_cons_succ] at p0 p1 p2 p3 p4
    go_wp2_with fail
    refine (HC.out _ HX.out.am).mono ?_
    rintro e w2 ⟨rfl, hb2⟩
    have HX2 := hid (HX.out.below hb2)
    clear hb2 HX p0 p1 p2 p3 p4 HC
    go_wp2
    refine bodyPost_ret (results_tmp2 Tryz.results27 _ _ _) rfl ?_
    exact ⟨rfl, HX2.out.bel⟩
set_option maxRecDepth 100000 in
theorem obDataN {v0 v1 v2 v3 v4 : Value} (h : AM l S w) (i : Int) (hc : Chk l S [v0, v1, v2, v3, v4] 6) : Calls Tryz.prog 29 #[.agg #[v0, v1, v2, v3, v4], .int .i64 i] w fun e w' => e = .returned (.tuple #[.int .u64 0, .int .u8 6]) ∧ Below w.heap.size w w' := by
  obtain ⟨p, hp⟩ : ∃ p, w.heap.size = p := ⟨_, rfl⟩
  have HX : Hid (OX w l S p [v0, v1, v2, v3, v4] (w.alloc (.cells #[v0, v1, v2, v3, v4] 61))) := hid (OX.new (cs := [v0, v1, v2, v3, v4]) h (Below.refl _ w) hp)
  have HC := hid (fun wz (hz : AM l S wz) => dataWordN hz i hc)
  clear h hc
  go_enter Tryz.func29, Tryz.ntmps29
  go_upto_region 1 with fail
  (try simp only [hp])
  generalize hw1 : w.alloc _ = w1 at HX ⊢
  clear hw1 hp
  have p0 := HX.out.bk.cell 0
  have p1 := HX.out.bk.cell 1
  have p2 := HX.out.bk.cell 2
  have p3 := HX.out.bk.cell 3
  have p4 := HX.out.bk.cell 4
  simp only [List.getElem?_cons_zero, List.getElem?_cons_succ] at p0 p1 p2 p3 p4
  go_wp2_with fail
  refine (HC.out _ HX.out.am).mono ?_
  rintro e w2 ⟨rfl, hb2⟩
  have HX2 := hid (HX.out.below hb2)
  clear hb2 HX p0 p1 p2 p3 p4 HC
  go_wp2
  refine bodyPost_ret (results_tmp2 Tryz.results29 _ _ _) rfl ?_
  exact ⟨rfl, HX2.out.bel⟩
/-- A data word read. -/
def dtV (S : AS) (o : Ob) (i : Int) : Int × Int := if (dwV S o i).2 = 0 then (((S.W (o.k + 1 + o.rf + i.toNat) : Nat) : Int), 0) else (0, (dwV S o i).2)
set_option maxRecDepth 100000 in
set_option maxHeartbeats 1000000 in
theorem obDataZ (h : AM l S w) (ho : ObOk o) (i : Int) : Calls Tryz.prog 29 #[.agg #[.pointer (some ⟨l.a, 0, none⟩), .int .i64 (o.k : Int), .int .u64 (o.raw : Int), .int .i64 (o.sz : Int), .int .i64 (o.rf : Int)], .int .i64 i] w fun e w' => e = .returned (.tuple #[.int .u64 ((dtV S o i).1), .int .u8 ((dtV S o i).2)]) ∧ Below w.heap.size w w' := by
  obtain ⟨p, hp⟩ : ∃ p, w.heap.size = p := ⟨_, rfl⟩
  have HX : Hid (OX w l S p (obL l o) (w.alloc (.cells #[.pointer (some ⟨l.a, 0, none⟩), .int .i64 (o.k : Int), .int .u64 (o.raw : Int), .int .i64 (o.sz : Int), .int .i64 (o.rf : Int)] 61))) := hid (OX.new (cs := (obL l o)) h (Below.refl _ w) hp)
  have HC := hid (fun wz (hz : AM l S wz) => dataWordZ hz ho i)
  by_cases hc : (dwV S o i).2 = 0
  · obtain ⟨_, _, _, e1, e2⟩ := dw_ok ho hc
    have e3 : dtV S o i = (((S.W (o.k + 1 + o.rf + i.toNat) : Nat) : Int), 0) := by unfold dtV; rw [if_pos hc]
    rw [e3]
    rw [hc, e1] at HC
    generalize o.k + 1 + o.rf + i.toNat = k at *
    clear h hc ho e1 e3
    obtain ⟨x, hx⟩ : ∃ x, S.W k = x := ⟨_, rfl⟩
    rw [hx]
    have Hx := hid hx
    clear hx
    go_enter Tryz.func29, Tryz.ntmps29
    go_upto_region 1 with fail
    (try simp only [hp])
    generalize hw1 : w.alloc _ = w1 at HX ⊢
    clear hw1 hp
    have p0 := HX.out.bk.cell 0
    have p1 := HX.out.bk.cell 1
    have p2 := HX.out.bk.cell 2
    have p3 := HX.out.bk.cell 3
    have p4 := HX.out.bk.cell 4
    simp only [obL, List.getElem?_cons_zero, List.getElem?_cons_succ] at p0 p1 p2 p3 p4
    go_wp2_with fail
    refine (HC.out _ HX.out.am).mono ?_
    rintro e w2 ⟨rfl, hb2⟩
    have HX2 := hid (HX.out.below hb2)
    clear hb2 HX p0 p1 p2 p3 p4 HC
    have p0 := HX2.out.bk.cell 0
    have p1 := HX2.out.bk.cell 1
    have p2 := HX2.out.bk.cell 2
    have p3 := HX2.out.bk.cell 3
    have p4 := HX2.out.bk.cell 4
    simp only [obL, List.getElem?_cons_zero, List.getElem?_cons_succ] at p0 p1 p2 p3 p4
    have a0 := HX2.out.am.cells.1
    have x0 := HX2.out.am.word e2
    rw [Hx.out] at x0
    go_wp2
    refine bodyPost_ret (results_tmp2 Tryz.results29 _ _ _) rfl ?_
    exact ⟨rfl, HX2.out.bel⟩
  · rw [show dtV S o i = (0, (dwV S o i).2) by unfold dtV; rw [if_neg hc]]
    have e1 : (dwV S o i).1 = 0 := by
      unfold dwV at hc ⊢
      split
      · split
        · rename_i h1 h2
          rw [if_pos h1, if_pos h2] at hc
          exact absurd rfl hc
        · rfl
      · rfl
    rw [e1] at HC
    have dc : ((dwV S o i).2 == 0) = false := by simpa using hc
    have dc2 : ((dwV S o i).2 != 0) = true := by simp [bne, dc]
    generalize (dwV S o i).2 = c at *
    clear h hc ho e1
    go_enter Tryz.func29, Tryz.ntmps29
    go_upto_region 1 with fail
    (try simp only [hp])
    generalize hw1 : w.alloc _ = w1 at HX ⊢
    clear hw1 hp
    have p0 := HX.out.bk.cell 0
    have p1 := HX.out.bk.cell 1
    have p2 := HX.out.bk.cell 2
    have p3 := HX.out.bk.cell 3
    have p4 := HX.out.bk.cell 4
    simp only [obL, List.getElem?_cons_zero, List.getElem?_cons_succ] at p0 p1 p2 p3 p4
    go_wp2_with fail
    refine (HC.out _ HX.out.am).mono ?_
    rintro e w2 ⟨rfl, hb2⟩
    have HX2 := hid (HX.out.below hb2)
    clear hb2 HX p0 p1 p2 p3 p4 HC
    go_wp2
    refine bodyPost_ret (results_tmp2 Tryz.results29 _ _ _) rfl ?_
    exact ⟨rfl, HX2.out.bel⟩
set_option maxRecDepth 100000 in
theorem obSetRefN {v0 v1 v2 v3 v4 : Value} (h : AM l S w) (i r : Int) (hc : Chk l S [v0, v1, v2, v3, v4] 6) : Calls Tryz.prog 47 #[.agg #[v0, v1, v2, v3, v4], .int .i64 i, .int .u64 r] w fun e w' => e = .returned (.int .u8 6) ∧ Below w.heap.size w w' := by
  obtain ⟨p, hp⟩ : ∃ p, w.heap.size = p := ⟨_, rfl⟩
  have HX : Hid (OX w l S p [v0, v1, v2, v3, v4] (w.alloc (.cells #[v0, v1, v2, v3, v4] 61))) := hid (OX.new (cs := [v0, v1, v2, v3, v4]) h (Below.refl _ w) hp)
  have HC := hid (fun wz (hz : AM l S wz) => fieldWordN hz i hc)
  clear h hc
  go_enter Tryz.func47, Tryz.ntmps47
  go_upto_region 1 with fail
  (try simp only [hp])
  generalize hw1 : w.alloc _ = w1 at HX ⊢
  clear hw1 hp
  have p0 := HX.out.bk.cell 0
  have p1 := HX.out.bk.cell 1
  have p2 := HX.out.bk.cell 2
  have p3 := HX.out.bk.cell 3
  have p4 := HX.out.bk.cell 4
  simp only [List.getElem?_cons_zero, List.getElem?_cons_succ] at p0 p1 p2 p3 p4
  go_wp2_with fail
  refine (HC.out _ HX.out.am).mono ?_
  rintro e w2 ⟨rfl, hb2⟩
  have HX2 := hid (HX.out.below hb2)
  clear hb2 HX p0 p1 p2 p3 p4 HC
  go_wp2
  go_ret
  exact ⟨rfl, HX2.out.bel⟩
def stRfA (S : AS) (o : Ob) (i r : Int) : Int × AS := if (fwV S o i).2 = 0 then (if rfOk r then (0, S.tch.putW (o.k + 1 + i.toNat) r.toNat) else (9, S)) else ((fwV S o i).2, S)
set_option maxRecDepth 100000 in
set_option maxHeartbeats 1000000 in
theorem obSetRefZ (h : AM l S w) (ho : ObOk o) (i r : Int) (hr : U64 r) : Calls Tryz.prog 47 #[.agg #[.pointer (some ⟨l.a, 0, none⟩), .int .i64 (o.k : Int), .int .u64 (o.raw : Int), .int .i64 (o.sz : Int), .int .i64 (o.rf : Int)], .int .i64 i, .int .u64 r] w fun e w' => e = .returned (.int .u8 (stRfA S o i r).1) ∧ Hid (AU l w (stRfA S o i r).2 w') := by
  obtain ⟨p, hp⟩ : ∃ p, w.heap.size = p := ⟨_, rfl⟩
  have HX : Hid (OX w l S p (obL l o) (w.alloc (.cells #[.pointer (some ⟨l.a, 0, none⟩), .int .i64 (o.k : Int), .int .u64 (o.raw : Int), .int .i64 (o.sz : Int), .int .i64 (o.rf : Int)] 61))) := hid (OX.new (cs := (obL l o)) h (Below.refl _ w) hp)
  have HC := hid (fun wz (hz : AM l S wz) => fieldWordZ hz ho i)
  unfold stRfA
  by_cases hc : (fwV S o i).2 = 0
  · obtain ⟨_, _, _, e1, e2⟩ := fw_ok ho hc
    rw [if_pos hc]
    rw [hc, e1] at HC
    generalize o.k + 1 + i.toNat = k at *
    clear h hc ho e1
    obtain ⟨rn, rfl⟩ : ∃ rn : Nat, r = (rn : Int) := ⟨r.toNat, by have := hr.1; omega⟩
    rw [Int.toNat_natCast]
    have hrl : rn < 18446744073709551616 := by have := hr.2; omega
    clear hr
    have HCk := hid (fun wz => checkRefZ (rn : Int) wz)
    by_cases hk : rfOk (rn : Int)
    · as_aux_lemma =>
      rw [if_pos hk]
      rw [if_pos hk, if_pos hk] at HCk
      clear hk
      go_enter Tryz.func47, Tryz.ntmps47
      go_upto_region 1 with fail
      (try simp only [hp])
      generalize hw1 : w.alloc _ = w1 at HX ⊢
      clear hw1 hp
      have p0 := HX.out.bk.cell 0
      have p1 := HX.out.bk.cell 1
      have p2 := HX.out.bk.cell 2
      have p3 := HX.out.bk.cell 3
      have p4 := HX.out.bk.cell 4
      simp only [obL, List.getElem?_cons_zero, List.getElem?_cons_succ] at p0 p1 p2 p3 p4
      go_wp2_with fail
      refine (HC.out _ HX.out.am).mono ?_
      rintro e w2 ⟨rfl, hb2⟩
      have HX2 := hid (HX.out.below hb2)
      clear hb2 HX p0 p1 p2 p3 p4 HC
      have p0 := HX2.out.bk.cell 0
      have p1 := HX2.out.bk.cell 1
      have p2 := HX2.out.bk.cell 2
      have p3 := HX2.out.bk.cell 3
      have p4 := HX2.out.bk.cell 4
      simp only [obL, List.getElem?_cons_zero, List.getElem?_cons_succ] at p0 p1 p2 p3 p4
      (go_wp2_with fail; refine ((HCk.out w2)).mono ?_; rintro e_ w_ ⟨he_, hw_⟩; subst he_; have hs_ := hw_.symm; clear hw_; subst hs_)
      go_wp2_with fail
      refine (touchZ HX2.out.am).mono ?_
      rintro e w3 ⟨rfl, HU⟩
      have HBk : Hid (Blk w3 p 61 (obL l o)) := hid (HU.out.u.blk HX2.out.bk HX2.out.nwr)
      have HUU : Hid (AU l w S.tch w3) := hid (HX2.out.au.trans HU.out)
      clear HU HX2 p0 p1 p2 p3 p4
      have p0 := HBk.out.cell 0
      simp only [obL, List.getElem?_cons_zero] at p0
      have a0 := HUU.out.m.cells.1
      have x0 := HUU.out.m.word e2
      have fz := HUU.out.m.ws.frozen k
      have HF := hid (HUU.out.putW e2 hrl)
      clear HUU HBk
      generalize S.tch.W k = y at x0
      go_wp2
      go_ret
      exact ⟨rfl, HF⟩
    · as_aux_lemma =>
      rw [if_neg hk]
      rw [if_neg hk, if_neg hk] at HCk
      clear hk
      go_enter Tryz.func47, Tryz.ntmps47
      go_upto_region 1 with fail
      (try simp only [hp])
      generalize hw1 : w.alloc _ = w1 at HX ⊢
      clear hw1 hp
      have p0 := HX.out.bk.cell 0
      have p1 := HX.out.bk.cell 1
      have p2 := HX.out.bk.cell 2
      have p3 := HX.out.bk.cell 3
      have p4 := HX.out.bk.cell 4
      simp only [obL, List.getElem?_cons_zero, List.getElem?_cons_succ] at p0 p1 p2 p3 p4
      go_wp2_with fail
      refine (HC.out _ HX.out.am).mono ?_
      rintro e w2 ⟨rfl, hb2⟩
      have HX2 := hid (HX.out.below hb2)
      clear hb2 HX p0 p1 p2 p3 p4 HC
      have p0 := HX2.out.bk.cell 0
      have p1 := HX2.out.bk.cell 1
      have p2 := HX2.out.bk.cell 2
      have p3 := HX2.out.bk.cell 3
      have p4 := HX2.out.bk.cell 4
      simp only [obL, List.getElem?_cons_zero, List.getElem?_cons_succ] at p0 p1 p2 p3 p4
      (go_wp2_with fail; refine ((HCk.out w2)).mono ?_; rintro e_ w_ ⟨he_, hw_⟩; subst he_; have hs_ := hw_.symm; clear hw_; subst hs_)
      go_wp2
      go_ret
      exact ⟨rfl, hid HX2.out.au⟩
  · rw [if_neg hc]
    have e1 : (fwV S o i).1 = 0 := by
      unfold fwV at hc ⊢
      split
      · split
        · rename_i h1 h2
          rw [if_pos h1, if_pos h2] at hc
          exact absurd rfl hc
        · rfl
      · rfl
    rw [e1] at HC
    have dc : ((fwV S o i).2 == 0) = false := by simpa using hc
    have dc2 : ((fwV S o i).2 != 0) = true := by simp [bne, dc]
    generalize (fwV S o i).2 = c at *
    clear h hc ho e1
    go_enter Tryz.func47, Tryz.ntmps47
    go_upto_region 1 with fail
    (try simp only [hp])
    generalize hw1 : w.alloc _ = w1 at HX ⊢
    clear hw1 hp
    have p0 := HX.out.bk.cell 0
    have p1 := HX.out.bk.cell 1
    have p2 := HX.out.bk.cell 2
    have p3 := HX.out.bk.cell 3
    have p4 := HX.out.bk.cell 4
    simp only [obL, List.getElem?_cons_zero, List.getElem?_cons_succ] at p0 p1 p2 p3 p4
    go_wp2_with fail
    refine (HC.out _ HX.out.am).mono ?_
    rintro e w2 ⟨rfl, hb2⟩
    have HX2 := hid (HX.out.below hb2)
    clear hb2 HX p0 p1 p2 p3 p4 HC
    have p0 := HX2.out.bk.cell 0
    have p1 := HX2.out.bk.cell 1
    have p2 := HX2.out.bk.cell 2
    have p3 := HX2.out.bk.cell 3
    have p4 := HX2.out.bk.cell 4
    simp only [obL, List.getElem?_cons_zero, List.getElem?_cons_succ] at p0 p1 p2 p3 p4
    go_wp2
    go_ret
    exact ⟨rfl, hid HX2.out.au⟩
set_option maxRecDepth 100000 in
theorem obSetDataN {v0 v1 v2 v3 v4 : Value} (h : AM l S w) (i r : Int) (hc : Chk l S [v0, v1, v2, v3, v4] 6) : Calls Tryz.prog 48 #[.agg #[v0, v1, v2, v3, v4], .int .i64 i, .int .u64 r] w fun e w' => e = .returned (.int .u8 6) ∧ Below w.heap.size w w' := by
  obtain ⟨p, hp⟩ : ∃ p, w.heap.size = p := ⟨_, rfl⟩
  have HX : Hid (OX w l S p [v0, v1, v2, v3, v4] (w.alloc (.cells #[v0, v1, v2, v3, v4] 61))) := hid (OX.new (cs := [v0, v1, v2, v3, v4]) h (Below.refl _ w) hp)
  have HC := hid (fun wz (hz : AM l S wz) => dataWordN hz i hc)
  clear h hc
  go_enter Tryz.func48, Tryz.ntmps48
  go_upto_region 1 with fail
  (try simp only [hp])
  generalize hw1 : w.alloc _ = w1 at HX ⊢
  clear hw1 hp
  have p0 := HX.out.bk.cell 0
  have p1 := HX.out.bk.cell 1
  have p2 := HX.out.bk.cell 2
  have p3 := HX.out.bk.cell 3
  have p4 := HX.out.bk.cell 4
  simp only [List.getElem?_cons_zero, List.getElem?_cons_succ] at p0 p1 p2 p3 p4
  go_wp2_with fail
  refine (HC.out _ HX.out.am).mono ?_
  rintro e w2 ⟨rfl, hb2⟩
  have HX2 := hid (HX.out.below hb2)
  clear hb2 HX p0 p1 p2 p3 p4 HC
  go_wp2
  go_ret
  exact ⟨rfl, HX2.out.bel⟩
def stDtA (S : AS) (o : Ob) (i r : Int) : Int × AS := if (dwV S o i).2 = 0 then (0, S.tch.putW (o.k + 1 + o.rf + i.toNat) r.toNat) else ((dwV S o i).2, S)
set_option maxRecDepth 100000 in
set_option maxHeartbeats 1000000 in
theorem obSetDataZ (h : AM l S w) (ho : ObOk o) (i r : Int) (hr : U64 r) : Calls Tryz.prog 48 #[.agg #[.pointer (some ⟨l.a, 0, none⟩), .int .i64 (o.k : Int), .int .u64 (o.raw : Int), .int .i64 (o.sz : Int), .int .i64 (o.rf : Int)], .int .i64 i, .int .u64 r] w fun e w' => e = .returned (.int .u8 (stDtA S o i r).1) ∧ Hid (AU l w (stDtA S o i r).2 w') := by
  obtain ⟨p, hp⟩ : ∃ p, w.heap.size = p := ⟨_, rfl⟩
  have HX : Hid (OX w l S p (obL l o) (w.alloc (.cells #[.pointer (some ⟨l.a, 0, none⟩), .int .i64 (o.k : Int), .int .u64 (o.raw : Int), .int .i64 (o.sz : Int), .int .i64 (o.rf : Int)] 61))) := hid (OX.new (cs := (obL l o)) h (Below.refl _ w) hp)
  have HC := hid (fun wz (hz : AM l S wz) => dataWordZ hz ho i)
  unfold stDtA
  by_cases hc : (dwV S o i).2 = 0
  · obtain ⟨_, _, _, e1, e2⟩ := dw_ok ho hc
    rw [if_pos hc]
    rw [hc, e1] at HC
    generalize o.k + 1 + o.rf + i.toNat = k at *
    clear h hc ho e1
    obtain ⟨rn, rfl⟩ : ∃ rn : Nat, r = (rn : Int) := ⟨r.toNat, by have := hr.1; omega⟩
    rw [Int.toNat_natCast]
    have hrl : rn < 18446744073709551616 := by have := hr.2; omega
    clear hr
    go_enter Tryz.func48, Tryz.ntmps48
    go_upto_region 1 with fail
    (try simp only [hp])
    generalize hw1 : w.alloc _ = w1 at HX ⊢
    clear hw1 hp
    have p0 := HX.out.bk.cell 0
    have p1 := HX.out.bk.cell 1
    have p2 := HX.out.bk.cell 2
    have p3 := HX.out.bk.cell 3
    have p4 := HX.out.bk.cell 4
    simp only [obL, List.getElem?_cons_zero, List.getElem?_cons_succ] at p0 p1 p2 p3 p4
    go_wp2_with fail
    refine (HC.out _ HX.out.am).mono ?_
    rintro e w2 ⟨rfl, hb2⟩
    have HX2 := hid (HX.out.below hb2)
    clear hb2 HX p0 p1 p2 p3 p4 HC
    have p0 := HX2.out.bk.cell 0
    have p1 := HX2.out.bk.cell 1
    have p2 := HX2.out.bk.cell 2
    have p3 := HX2.out.bk.cell 3
    have p4 := HX2.out.bk.cell 4
    simp only [obL, List.getElem?_cons_zero, List.getElem?_cons_succ] at p0 p1 p2 p3 p4
    go_wp2_with fail
    refine (touchZ HX2.out.am).mono ?_
    rintro e w3 ⟨rfl, HU⟩
    have HBk : Hid (Blk w3 p 61 (obL l o)) := hid (HU.out.u.blk HX2.out.bk HX2.out.nwr)
    have HUU : Hid (AU l w S.tch w3) := hid (HX2.out.au.trans HU.out)
    clear HU HX2 p0 p1 p2 p3 p4
    have p0 := HBk.out.cell 0
    simp only [obL, List.getElem?_cons_zero] at p0
    have a0 := HUU.out.m.cells.1
    have x0 := HUU.out.m.word e2
    have fz := HUU.out.m.ws.frozen k
    have HF := hid (HUU.out.putW e2 hrl)
    clear HUU HBk
    generalize S.tch.W k = y at x0
    go_wp2
    go_ret
    exact ⟨rfl, HF⟩
  · rw [if_neg hc]
    have e1 : (dwV S o i).1 = 0 := by
      unfold dwV at hc ⊢
      split
      · split
        · rename_i h1 h2
          rw [if_pos h1, if_pos h2] at hc
          exact absurd rfl hc
        · rfl
      · rfl
    rw [e1] at HC
    have dc : ((dwV S o i).2 == 0) = false := by simpa using hc
    have dc2 : ((dwV S o i).2 != 0) = true := by simp [bne, dc]
    generalize (dwV S o i).2 = c at *
    clear h hc ho e1
    go_enter Tryz.func48, Tryz.ntmps48
    go_upto_region 1 with fail
    (try simp only [hp])
    generalize hw1 : w.alloc _ = w1 at HX ⊢
    clear hw1 hp
    have p0 := HX.out.bk.cell 0
    have p1 := HX.out.bk.cell 1
    have p2 := HX.out.bk.cell 2
    have p3 := HX.out.bk.cell 3
    have p4 := HX.out.bk.cell 4
    simp only [obL, List.getElem?_cons_zero, List.getElem?_cons_succ] at p0 p1 p2 p3 p4
    go_wp2_with fail
    refine (HC.out _ HX.out.am).mono ?_
    rintro e w2 ⟨rfl, hb2⟩
    have HX2 := hid (HX.out.below hb2)
    clear hb2 HX p0 p1 p2 p3 p4 HC
    have p0 := HX2.out.bk.cell 0
    have p1 := HX2.out.bk.cell 1
    have p2 := HX2.out.bk.cell 2
    have p3 := HX2.out.bk.cell 3
    have p4 := HX2.out.bk.cell 4
    simp only [obL, List.getElem?_cons_zero, List.getElem?_cons_succ] at p0 p1 p2 p3 p4
    go_wp2
    go_ret
    exact ⟨rfl, hid HX2.out.au⟩
end
end Go.Proofs.Qxb6500887aGreat
