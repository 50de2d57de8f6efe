/- Methods of an object: fieldWord, dataWord, FieldAddr, DataAddr, Ref, Data, SetRef, SetData (written by tools/mk_azh.py). -/
import Derived.Test.Qxb6500887aGreatAzG
namespace Go.Proofs.Qxb6500887aGreat
open Go.RowKit
set_option linter.unusedSimpArgs false
set_option linter.unusedVariables false

/-- Where reference field i of an object lies, or why not. -/
def fwV (S : AS) (o : Ob) (i : Int) : Int × Int := if S.W o.k = o.raw then (if 0 ≤ i ∧ i < (o.rf : Int) then ((o.k : Int) + 1 + i, 0) else (0, 8)) else (0, 6)
def dwV (S : AS) (o : Ob) (i : Int) : Int × Int := if S.W o.k = o.raw then (if 0 ≤ i ∧ i < ((o.sz - o.rf : Nat) : Int) then ((o.k : Int) + 1 + (o.rf : Int) + i, 0) else (0, 8)) else (0, 6)
/-- An object's copy is refused with c. -/
def Chk (l : AL) (S : AS) (cs : List Value) (c : Int) : Prop := ∀ wz, AM l S wz → Calls Tryz.prog 208 #[.agg cs.toArray] wz fun e w' => e = .returned (.int .u8 c) ∧ Below wz.heap.size wz w'
section
variable {l : AL} {S : AS} {w w' w0 : World} {p : Nat} {cs : List Value} {o : Ob}
theorem Chk.ob (ho : ObOk o) : Chk l S (obL l o) (ckC S o) := fun wz hz => checkZ hz ho
theorem Chk.zero : Chk l S ob0 6 := fun wz _ => check0 wz
theorem fw_ok {i : Int} (ho : ObOk o) (h : (fwV S o i).2 = 0) : S.W o.k = o.raw ∧ 0 ≤ i ∧ i < (o.rf : Int) ∧ (fwV S o i).1 = ((o.k + 1 + i.toNat : Nat) : Int) ∧ o.k + 1 + i.toNat < 32768 := by
  unfold fwV at h ⊢
  by_cases h1 : S.W o.k = o.raw
  · rw [if_pos h1] at h ⊢
    by_cases h2 : 0 ≤ i ∧ i < (o.rf : Int)
    · rw [if_pos h2]
      have := ho.k
      have := ho.rf
      exact ⟨h1, h2.1, h2.2, by omega, by omega⟩
    · rw [if_neg h2] at h; cases h
  · rw [if_neg h1] at h; cases h
theorem dw_ok {i : Int} (ho : ObOk o) (h : (dwV S o i).2 = 0) : S.W o.k = o.raw ∧ 0 ≤ i ∧ i < ((o.sz - o.rf : Nat) : Int) ∧ (dwV S o i).1 = ((o.k + 1 + o.rf + i.toNat : Nat) : Int) ∧ o.k + 1 + o.rf + i.toNat < 32768 := by
  unfold dwV at h ⊢
  by_cases h1 : S.W o.k = o.raw
  · rw [if_pos h1] at h ⊢
    by_cases h2 : 0 ≤ i ∧ i < ((o.sz - o.rf : Nat) : Int)
    · rw [if_pos h2]
      have := ho.k
      have := ho.rf
      exact ⟨h1, h2.1, h2.2, by omega, by omega⟩
    · rw [if_neg h2] at h; cases h
  · rw [if_neg h1] at h; cases h
set_option maxRecDepth 100000 in
theorem fieldWordN {v0 v1 v2 v3 v4 : Value} (h : AM l S w) (i : Int) (hc : Chk l S [v0, v1, v2, v3, v4] 6) : Calls Tryz.prog 147 #[.agg #[v0, v1, v2, v3, v4], .int .i64 i] w fun e w' => e = .returned (.tuple #[.int .i64 0, .int .u8 6]) ∧ Below w.heap.size w w' := by
  obtain ⟨p, hp⟩ : ∃ p, w.heap.size = p := ⟨_, rfl⟩
  have HX : Hid (OX w l S p [v0, v1, v2, v3, v4] (w.alloc (.cells #[v0, v1, v2, v3, v4] 61))) := hid (OX.new (cs := [v0, v1, v2, v3, v4]) h (Below.refl _ w) hp)
  have HC := hid hc
  clear h hc
  go_enter Tryz.func147, Tryz.ntmps147
  go_upto_region 1 with fail
  (try simp only [hp])
  generalize hw1 : w.alloc _ = w1 at HX ⊢
  clear hw1 hp
  have p0 := HX.out.bk.cell 0
  have p1 := HX.out.bk.cell 1
  have p2 := HX.out.bk.cell 2
  have p3 := HX.out.bk.cell 3
  have p4 := HX.out.bk.cell 4
  simp only [List.getElem?_cons_zero, List.getElem?_cons_succ] at p0 p1 p2 p3 p4
  go_wp2_with fail
  refine (HC.out _ HX.out.am).mono ?_
  rintro e w2 ⟨rfl, hb2⟩
  have HX2 := hid (HX.out.below hb2)
  clear hb2 HX p0 p1 p2 p3 p4 HC
  go_wp2
  refine bodyPost_ret (results_tmp2 Tryz.results147 _ _ _) rfl ?_
  exact ⟨rfl, HX2.out.bel⟩
set_option maxRecDepth 100000 in
theorem dataWordN {v0 v1 v2 v3 v4 : Value} (h : AM l S w) (i : Int) (hc : Chk l S [v0, v1, v2, v3, v4] 6) : Calls Tryz.prog 149 #[.agg #[v0, v1, v2, v3, v4], .int .i64 i] w fun e w' => e = .returned (.tuple #[.int .i64 0, .int .u8 6]) ∧ Below w.heap.size w w' := by
  obtain ⟨p, hp⟩ : ∃ p, w.heap.size = p := ⟨_, rfl⟩
  have HX : Hid (OX w l S p [v0, v1, v2, v3, v4] (w.alloc (.cells #[v0, v1, v2, v3, v4] 61))) := hid (OX.new (cs := [v0, v1, v2, v3, v4]) h (Below.refl _ w) hp)
  have HC := hid hc
  clear h hc
  go_enter Tryz.func149, Tryz.ntmps149
  go_upto_region 1 with fail
  (try simp only [hp])
  generalize hw1 : w.alloc _ = w1 at HX ⊢
  clear hw1 hp
  have p0 := HX.out.bk.cell 0
  have p1 := HX.out.bk.cell 1
  have p2 := HX.out.bk.cell 2
  have p3 := HX.out.bk.cell 3
  have p4 := HX.out.bk.cell 4
  simp only [List.getElem?_cons_zero, List.getElem?_cons_succ] at p0 p1 p2 p3 p4
  go_wp2_with fail
  refine (HC.out _ HX.out.am).mono ?_
  rintro e w2 ⟨rfl, hb2⟩
  have HX2 := hid (HX.out.below hb2)
  clear hb2 HX p0 p1 p2 p3 p4 HC
  go_wp2
  refine bodyPost_ret (results_tmp2 Tryz.results149 _ _ _) rfl ?_
  exact ⟨rfl, HX2.out.bel⟩
set_option maxRecDepth 100000 in
set_option maxHeartbeats 1000000 in
theorem fieldWordZ (h : AM l S w) (ho : ObOk o) (i : Int) : Calls Tryz.prog 147 #[.agg #[.pointer (some ⟨l.a, 0, none⟩), .int .i64 (o.k : Int), .int .u64 (o.raw : Int), .int .i64 (o.sz : Int), .int .i64 (o.rf : Int)], .int .i64 i] w fun e w' => e = .returned (.tuple #[.int .i64 (fwV S o i).1, .int .u8 (fwV S o i).2]) ∧ Below w.heap.size w w' := by
  by_cases hk : S.W o.k = o.raw
  rotate_left
  · have e1 : fwV S o i = (0, 6) := by unfold fwV; rw [if_neg hk]
    rw [e1]
    have hC : Chk l S (obL l o) 6 := by
      have := Chk.ob (l := l) (S := S) ho
      unfold ckC at this
      rw [if_neg hk] at this
      exact this
    exact fieldWordN h i hC
  have hC : Chk l S (obL l o) 0 := by
    have := Chk.ob (l := l) (S := S) ho
    unfold ckC at this
    rw [if_pos hk] at this
    exact this
  have HC := hid hC
  have b1 := ho.k
  have b2 := ho.rf
  have b3 := ho.s2
  obtain ⟨p, hp⟩ : ∃ p, w.heap.size = p := ⟨_, rfl⟩
  have HX : Hid (OX w l S p (obL l o) (w.alloc (.cells #[.pointer (some ⟨l.a, 0, none⟩), .int .i64 (o.k : Int), .int .u64 (o.raw : Int), .int .i64 (o.sz : Int), .int .i64 (o.rf : Int)] 61))) := hid (OX.new (cs := (obL l o)) h (Below.refl _ w) hp)
  have HV : Hid (fwV S o i = if 0 ≤ i ∧ i < (o.rf : Int) then ((o.k : Int) + 1 + i, 0) else (0, 8)) := hid (by unfold fwV; rw [if_pos hk])
  have HDw := hid (fun wz => hdDataZ o.sz o.rf ho.s2 ho.rf wz)
  obtain ⟨c, hcc⟩ : ∃ c, fwV S o i = c := ⟨_, rfl⟩
  rw [hcc] at HV ⊢
  clear hcc h hC hk ho
  go_enter Tryz.func147, Tryz.ntmps147
  go_upto_region 1 with fail
  (try simp only [hp])
  generalize hw1 : w.alloc _ = w1 at HX ⊢
  clear hw1 hp
  have p0 := HX.out.bk.cell 0
  have p1 := HX.out.bk.cell 1
  have p2 := HX.out.bk.cell 2
  have p3 := HX.out.bk.cell 3
  have p4 := HX.out.bk.cell 4
  simp only [obL, List.getElem?_cons_zero, List.getElem?_cons_succ] at p0 p1 p2 p3 p4
  have HC' : Hid (∀ wz, AM l S wz → Calls Tryz.prog 208 #[.agg #[.pointer (some ⟨l.a, 0, none⟩), .int .i64 (o.k : Int), .int .u64 (o.raw : Int), .int .i64 (o.sz : Int), .int .i64 (o.rf : Int)]] wz fun e w' => e = .returned (.int .u8 0) ∧ Below wz.heap.size wz w') := hid (fun wz hz => HC.out wz hz)
  clear HC
  go_wp2_with fail
  refine (HC'.out _ HX.out.am).mono ?_
  rintro e w2 ⟨rfl, hb2⟩
  have HX2 := hid (HX.out.below hb2)
  clear hb2 HX p0 p1 p2 p3 p4 HC'
  have p0 := HX2.out.bk.cell 0
  have p1 := HX2.out.bk.cell 1
  have p2 := HX2.out.bk.cell 2
  have p3 := HX2.out.bk.cell 3
  have p4 := HX2.out.bk.cell 4
  simp only [obL, List.getElem?_cons_zero, List.getElem?_cons_succ] at p0 p1 p2 p3 p4
  by_cases hi0 : i < 0
  · as_aux_lemma =>
    have d0 : decide (i < 0) = true := decide_eq_true hi0
    have HE : Hid (c = (0, 8)) := hid (by rw [HV.out, if_neg (by omega)])
    clear HV
    go_wp2
    refine bodyPost_ret (results_tmp2 Tryz.results147 _ _ _) rfl ?_
    exact ⟨by rw [HE.out]; rfl, HX2.out.bel⟩
  have d0 : decide (i < 0) = false := decide_eq_false hi0
  by_cases hi1 : i < (o.rf : Int)
  · as_aux_lemma =>
    have d1 : decide (i ≥ (o.rf : Int)) = false := decide_eq_false (by omega)
    have d2 : decide ((o.rf : Int) ≤ i) = false := decide_eq_false (by omega)
    have HE : Hid (c = ((o.k : Int) + 1 + i, 0)) := hid (by rw [HV.out, if_pos (by omega)])
    clear HV
    go_wp2
    refine bodyPost_ret (results_tmp2 Tryz.results147 _ _ _) rfl ?_
    exact ⟨by rw [HE.out]; rfl, HX2.out.bel⟩
  · as_aux_lemma =>
    have d1 : decide (i ≥ (o.rf : Int)) = true := decide_eq_true (by omega)
    have d2 : decide ((o.rf : Int) ≤ i) = true := decide_eq_true (by omega)
    have HE : Hid (c = (0, 8)) := hid (by rw [HV.out, if_neg (by omega)])
    clear HV
    go_wp2
    refine bodyPost_ret (results_tmp2 Tryz.results147 _ _ _) rfl ?_
    exact ⟨by rw [HE.out]; rfl, HX2.out.bel⟩
set_option maxRecDepth 100000 in
set_option maxHeartbeats 1000000 in
theorem dataWordZ (h : AM l S w) (ho : ObOk o) (i : Int) : Calls Tryz.prog 149 #[.agg #[.pointer (some ⟨l.a, 0, none⟩), .int .i64 (o.k : Int), .int .u64 (o.raw : Int), .int .i64 (o.sz : Int), .int .i64 (o.rf : Int)], .int .i64 i] w fun e w' => e = .returned (.tuple #[.int .i64 (dwV S o i).1, .int .u8 (dwV S o i).2]) ∧ Below w.heap.size w w' := by
  by_cases hk : S.W o.k = o.raw
  rotate_left
  · have e1 : dwV S o i = (0, 6) := by unfold dwV; rw [if_neg hk]
    rw [e1]
    have hC : Chk l S (obL l o) 6 := by
      have := Chk.ob (l := l) (S := S) ho
      unfold ckC at this
      rw [if_neg hk] at this
      exact this
    exact dataWordN h i hC
  have hC : Chk l S (obL l o) 0 := by
    have := Chk.ob (l := l) (S := S) ho
    unfold ckC at this
    rw [if_pos hk] at this
    exact this
  have HC := hid hC
  have b1 := ho.k
  have b2 := ho.rf
  have b3 := ho.s2
  obtain ⟨p, hp⟩ : ∃ p, w.heap.size = p := ⟨_, rfl⟩
  have HX : Hid (OX w l S p (obL l o) (w.alloc (.cells #[.pointer (some ⟨l.a, 0, none⟩), .int .i64 (o.k : Int), .int .u64 (o.raw : Int), .int .i64 (o.sz : Int), .int .i64 (o.rf : Int)] 61))) := hid (OX.new (cs := (obL l o)) h (Below.refl _ w) hp)
  have HV : Hid (dwV S o i = if 0 ≤ i ∧ i < ((o.sz - o.rf : Nat) : Int) then ((o.k : Int) + 1 + (o.rf : Int) + i, 0) else (0, 8)) := hid (by unfold dwV; rw [if_pos hk])
  have HDw := hid (fun wz => hdDataZ o.sz o.rf ho.s2 ho.rf wz)
  obtain ⟨c, hcc⟩ : ∃ c, dwV S o i = c := ⟨_, rfl⟩
  rw [hcc] at HV ⊢
  clear hcc h hC hk ho
  go_enter Tryz.func149, Tryz.ntmps149
  go_upto_region 1 with fail
  (try simp only [hp])
  generalize hw1 : w.alloc _ = w1 at HX ⊢
  clear hw1 hp
  have p0 := HX.out.bk.cell 0
  have p1 := HX.out.bk.cell 1
  have p2 := HX.out.bk.cell 2
  have p3 := HX.out.bk.cell 3
  have p4 := HX.out.bk.cell 4
  simp only [obL, List.getElem?_cons_zero, List.getElem?_cons_succ] at p0 p1 p2 p3 p4
  have HC' : Hid (∀ wz, AM l S wz → Calls Tryz.prog 208 #[.agg #[.pointer (some ⟨l.a, 0, none⟩), .int .i64 (o.k : Int), .int .u64 (o.raw : Int), .int .i64 (o.sz : Int), .int .i64 (o.rf : Int)]] wz fun e w' => e = .returned (.int .u8 0) ∧ Below wz.heap.size wz w') := hid (fun wz hz => HC.out wz hz)
  clear HC
  go_wp2_with fail
  refine (HC'.out _ HX.out.am).mono ?_
  rintro e w2 ⟨rfl, hb2⟩
  have HX2 := hid (HX.out.below hb2)
  clear hb2 HX p0 p1 p2 p3 p4 HC'
  have p0 := HX2.out.bk.cell 0
  have p1 := HX2.out.bk.cell 1
  have p2 := HX2.out.bk.cell 2
  have p3 := HX2.out.bk.cell 3
  have p4 := HX2.out.bk.cell 4
  simp only [obL, List.getElem?_cons_zero, List.getElem?_cons_succ] at p0 p1 p2 p3 p4
  by_cases hi0 : i < 0
  · as_aux_lemma =>
    have d0 : decide (i < 0) = true := decide_eq_true hi0
    have HE : Hid (c = (0, 8)) := hid (by rw [HV.out, if_neg (by omega)])
    clear HV
    go_wp2
    refine bodyPost_ret (results_tmp2 Tryz.results149 _ _ _) rfl ?_
    exact ⟨by rw [HE.out]; rfl, HX2.out.bel⟩
  have d0 : decide (i < 0) = false := decide_eq_false hi0
  go_wp2_with fail
  refine (HDw.out _).mono ?_
  rintro e w3 ⟨rfl, hb3⟩
  have HX3 := hid (HX2.out.below hb3)
  clear hb3 HX2 p0 p1 p2 p3 p4 HDw
  have p0 := HX3.out.bk.cell 0
  have p1 := HX3.out.bk.cell 1
  have p2 := HX3.out.bk.cell 2
  have p3 := HX3.out.bk.cell 3
  have p4 := HX3.out.bk.cell 4
  simp only [obL, List.getElem?_cons_zero, List.getElem?_cons_succ] at p0 p1 p2 p3 p4
  have hsb : o.sz - o.rf ≤ 8192 := by omega
  obtain ⟨m, hm⟩ : ∃ m, o.sz - o.rf = m := ⟨_, rfl⟩
  rw [hm] at HV hsb
  simp only [hm]
  by_cases hi1 : i < (m : Int)
  · as_aux_lemma =>
    have d1 : decide (i ≥ (m : Int)) = false := decide_eq_false (by omega)
    have d2 : decide ((m : Int) ≤ i) = false := decide_eq_false (by omega)
    have HE : Hid (c = ((o.k : Int) + 1 + (o.rf : Int) + i, 0)) := hid (by rw [HV.out, if_pos (by omega)])
    clear HV
    go_wp2
    refine bodyPost_ret (results_tmp2 Tryz.results149 _ _ _) rfl ?_
    exact ⟨by rw [HE.out]; rfl, HX3.out.bel⟩
  · as_aux_lemma =>
    have d1 : decide (i ≥ (m : Int)) = true := decide_eq_true (by omega)
    have d2 : decide ((m : Int) ≤ i) = true := decide_eq_true (by omega)
    have HE : Hid (c = (0, 8)) := hid (by rw [HV.out, if_neg (by omega)])
    clear HV
    go_wp2
    refine bodyPost_ret (results_tmp2 Tryz.results149 _ _ _) rfl ?_
    exact ⟨by rw [HE.out]; rfl, HX3.out.bel⟩
end
end Go.Proofs.Qxb6500887aGreat
