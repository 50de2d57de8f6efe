/- refusesAll (written by tools/mk_azlb.py). -/
import Derived.Test.Qxb6500887aGreatAzLa
import Derived.Great.BuildSlice
namespace Go.Proofs.Qxb6500887aGreat
open Go.RowKit
set_option linter.unusedSimpArgs false
set_option linter.unusedVariables false
/-- Inside refusesAll. -/
structure RA (l : AL) (S : AS) (w0 : World) (p q : Nat) (cs oc : List Value) (w : World) : Prop where
  am0 : AM l S w0
  bel : Below w0.heap.size w0 w
  ob : Blk w p 61 cs
  op : Blk w q 31 oc
section
variable {l : AL} {S : AS} {w w' w0 : World} {p q : Nat} {cs oc : List Value}
theorem RA.am (h : RA l S w0 p q cs oc w) : AM l S w := h.am0.below h.bel
theorem RA.below (h : RA l S w0 p q cs oc w) (hb : Below w.heap.size w w') : RA l S w0 p q cs oc w' := ⟨h.am0, h.bel.trans (hb.mono h.bel.size), h.ob.below hb, h.op.below hb⟩
theorem info_cd : (Tryz.prog.info? 32).map (fun i => (i.zero, i.size, i.bytes)) = some (some (.int .u8 0), 1, 1) := by kernel_rfl
set_option maxRecDepth 100000 in
theorem wpList_bs9 {ops : Array Oper} {rest : List Oper} {o : Oper} {a : Act} {w : World} {Q : Exit → Act → World → Prop} (hg : o.guard = none) (x0 x1 x2 x3 x4 x5 x6 x7 x8 : Operand) (ho : o.op = .buildSlice 171 9 #[(0, x0), (1, x1), (2, x2), (3, x3), (4, x4), (5, x5), (6, x6), (7, x7), (8, x8)])
    (h0 : a.eval x0 = .int .u8 6) (h1 : a.eval x1 = .int .u8 6) (h2 : a.eval x2 = .int .u8 6) (h3 : a.eval x3 = .int .u8 6) (h4 : a.eval x4 = .int .u8 6) (h5 : a.eval x5 = .int .u8 6) (h6 : a.eval x6 = .int .u8 6) (h7 : a.eval x7 = .int .u8 6) (h8 : a.eval x8 = .int .u8 6)
    (h : ∀ g w', w.heap.size = g → w.alloc (.cells (List.replicate 9 (.int .u8 6)).toArray 32) = w' → wpList Tryz.prog ops Q rest (a.put o.dst (.slice (some ⟨g, 0, none⟩) 9 9)) w') : wpList Tryz.prog ops Q (o :: rest) a w := by
  obtain ⟨i, hi, he⟩ := Option.map_eq_some_iff.1 info_cd
  simp only [Prod.mk.injEq] at he
  obtain ⟨e1, e2, e3⟩ := he
  refine wpList_buildSlice hg 171 32 9 _ ho (List.replicate 9 (.int .u8 6)).toArray i (.int .u8 0) Tryz.underlying171 hi e1 (by rw [e2]; decide) (by rw [e2]; decide) ?_ (h _ _ rfl rfl)
  rw [e2]
  simp only [List.map_toArray, List.map_cons, List.map_nil, h0, h1, h2, h3, h4, h5, h6, h7, h8]
  kernel_rfl
set_option maxRecDepth 100000 in
set_option maxHeartbeats 8000000 in
theorem refusesAllZ {v0 v1 v2 v3 v4 : Value} (h : AM l S w) (hc : Chk l S [v0, v1, v2, v3, v4] 6) (ok oa ob oc : Int) (hb : U64 ob) (hoc : U64 oc) : Calls Tryz.prog 25 #[.agg #[v0, v1, v2, v3, v4], .agg #[.int .u8 ok, .int .u64 oa, .int .u64 ob, .int .u64 oc]] w fun e w' => e = .returned (.bool true) ∧ Hid (Below w.heap.size w w') := by
  obtain ⟨p, hp⟩ : ∃ p, w.heap.size = p := ⟨_, rfl⟩
  obtain ⟨q, hq⟩ : ∃ q, p + 1 = q := ⟨_, rfl⟩
  have H0 : Hid (RA l S w p q [v0, v1, v2, v3, v4] [.int .u8 ok, .int .u64 oa, .int .u64 ob, .int .u64 oc] ((w.alloc (.cells #[v0, v1, v2, v3, v4] 61)).alloc (.cells #[.int .u8 ok, .int .u64 oa, .int .u64 ob, .int .u64 oc] 31))) := hid (by
    have k1 := Blk.new w [v0, v1, v2, v3, v4] 61
    rw [hp] at k1
    have k2 := Blk.new (w.alloc (.cells #[v0, v1, v2, v3, v4] 61)) [.int .u8 ok, .int .u64 oa, .int .u64 ob, .int .u64 oc] 31
    rw [World.size_alloc, hp, hq] at k2
    have hs := (nbel w (.cells #[v0, v1, v2, v3, v4] 61))
    exact ⟨h, hs.trans ((nbel _ _).mono hs.size), k1.below (nbel _ _), k2⟩)
  obtain ⟨nb, hnb⟩ : ∃ n, nbI ob = n := ⟨_, rfl⟩
  have HNb : Hid (∀ wz, Calls Tryz.prog 26 #[.int .u64 ob] wz fun e w' => e = .returned (.int .i64 nb) ∧ w' = wz) := hid (fun wz => by
    have := number_walk ob hb wz
    rw [show wrap64 ob = nb from hnb] at this
    exact this)
  have HCk := hid hc
  clear h hnb hc hb hoc
  go_enter Tryz.func25, Tryz.ntmps25
  go_upto_region 1 with fail
  (try simp only [World.size_alloc, hp, hq])
  generalize hw1 : World.alloc (w.alloc _) _ = w1 at H0 ⊢
  clear hw1 hp hq
  have p0 := H0.out.ob.cell 0
  have p1 := H0.out.ob.cell 1
  have p2 := H0.out.ob.cell 2
  have p3 := H0.out.ob.cell 3
  have p4 := H0.out.ob.cell 4
  have o2 := H0.out.op.cell 2
  have o3 := H0.out.op.cell 3
  simp only [List.getElem?_cons_zero, List.getElem?_cons_succ] at p0 p1 p2 p3 p4 o2 o3
  (go_wp2_with fail; refine (HNb.out w1).mono ?_; rintro e_ w_ ⟨he_, hw_⟩; subst he_; have hs_ := hw_.symm; clear hw_; subst hs_)
  go_wp2_with fail
  refine (obFieldAddrN H0.out.am nb HCk.out).mono ?_
  rintro e w2 ⟨rfl, hb_⟩
  have H1 := hid (H0.out.below hb_)
  clear hb_ H0 p0 p1 p2 p3 p4 o2 o3
  have p0 := H1.out.ob.cell 0
  have p1 := H1.out.ob.cell 1
  have p2 := H1.out.ob.cell 2
  have p3 := H1.out.ob.cell 3
  have p4 := H1.out.ob.cell 4
  have o2 := H1.out.op.cell 2
  have o3 := H1.out.op.cell 3
  simp only [List.getElem?_cons_zero, List.getElem?_cons_succ] at p0 p1 p2 p3 p4 o2 o3
  go_wp2_with fail
  refine (obDataAddrN H1.out.am nb HCk.out).mono ?_
  rintro e w3 ⟨rfl, hb_⟩
  have H2 := hid (H1.out.below hb_)
  clear hb_ H1 p0 p1 p2 p3 p4 o2 o3
  have p0 := H2.out.ob.cell 0
  have p1 := H2.out.ob.cell 1
  have p2 := H2.out.ob.cell 2
  have p3 := H2.out.ob.cell 3
  have p4 := H2.out.ob.cell 4
  have o2 := H2.out.op.cell 2
  have o3 := H2.out.op.cell 3
  simp only [List.getElem?_cons_zero, List.getElem?_cons_succ] at p0 p1 p2 p3 p4 o2 o3
  go_wp2_with fail
  refine (obRefN H2.out.am nb HCk.out).mono ?_
  rintro e w4 ⟨rfl, hb_⟩
  have H3 := hid (H2.out.below hb_)
  clear hb_ H2 p0 p1 p2 p3 p4 o2 o3
  have p0 := H3.out.ob.cell 0
  have p1 := H3.out.ob.cell 1
  have p2 := H3.out.ob.cell 2
  have p3 := H3.out.ob.cell 3
  have p4 := H3.out.ob.cell 4
  have o2 := H3.out.op.cell 2
  have o3 := H3.out.op.cell 3
  simp only [List.getElem?_cons_zero, List.getElem?_cons_succ] at p0 p1 p2 p3 p4 o2 o3
  go_wp2_with fail
  refine (obDataN H3.out.am nb HCk.out).mono ?_
  rintro e w5 ⟨rfl, hb_⟩
  have H4 := hid (H3.out.below hb_)
  clear hb_ H3 p0 p1 p2 p3 p4 o2 o3
  have p0 := H4.out.ob.cell 0
  have p1 := H4.out.ob.cell 1
  have p2 := H4.out.ob.cell 2
  have p3 := H4.out.ob.cell 3
  have p4 := H4.out.ob.cell 4
  have o2 := H4.out.op.cell 2
  have o3 := H4.out.op.cell 3
  simp only [List.getElem?_cons_zero, List.getElem?_cons_succ] at p0 p1 p2 p3 p4 o2 o3
  go_wp2_with fail
  refine (obSetRefN H4.out.am nb 0 HCk.out).mono ?_
  rintro e w6 ⟨rfl, hb_⟩
  have H5 := hid (H4.out.below hb_)
  clear hb_ H4 p0 p1 p2 p3 p4 o2 o3
  have p0 := H5.out.ob.cell 0
  have p1 := H5.out.ob.cell 1
  have p2 := H5.out.ob.cell 2
  have p3 := H5.out.ob.cell 3
  have p4 := H5.out.ob.cell 4
  have o2 := H5.out.op.cell 2
  have o3 := H5.out.op.cell 3
  simp only [List.getElem?_cons_zero, List.getElem?_cons_succ] at p0 p1 p2 p3 p4 o2 o3
  go_wp2_with fail
  refine (obSetDataN H5.out.am nb oc HCk.out).mono ?_
  rintro e w7 ⟨rfl, hb_⟩
  have H6 := hid (H5.out.below hb_)
  clear hb_ H5 p0 p1 p2 p3 p4 o2 o3
  have p0 := H6.out.ob.cell 0
  have p1 := H6.out.ob.cell 1
  have p2 := H6.out.ob.cell 2
  have p3 := H6.out.ob.cell 3
  have p4 := H6.out.ob.cell 4
  have o2 := H6.out.op.cell 2
  have o3 := H6.out.op.cell 3
  simp only [List.getElem?_cons_zero, List.getElem?_cons_succ] at p0 p1 p2 p3 p4 o2 o3
  go_wp2_with fail
  refine (appendRefsN H6.out.am HCk.out).mono ?_
  rintro e w8 ⟨rfl, hb_⟩
  have H7 := hid (H6.out.below hb_)
  clear hb_ H6 p0 p1 p2 p3 p4 o2 o3
  have p0 := H7.out.ob.cell 0
  have p1 := H7.out.ob.cell 1
  have p2 := H7.out.ob.cell 2
  have p3 := H7.out.ob.cell 3
  have p4 := H7.out.ob.cell 4
  have o2 := H7.out.op.cell 2
  have o3 := H7.out.op.cell 3
  simp only [List.getElem?_cons_zero, List.getElem?_cons_succ] at p0 p1 p2 p3 p4 o2 o3
  go_wp2_with fail
  refine (appendSomeN H7.out.am 0 1 HCk.out).mono ?_
  rintro e w9 ⟨rfl, hb_⟩
  have H8 := hid (H7.out.below hb_)
  clear hb_ H7 p0 p1 p2 p3 p4 o2 o3
  have p0 := H8.out.ob.cell 0
  have p1 := H8.out.ob.cell 1
  have p2 := H8.out.ob.cell 2
  have p3 := H8.out.ob.cell 3
  have p4 := H8.out.ob.cell 4
  have o2 := H8.out.op.cell 2
  have o3 := H8.out.op.cell 3
  simp only [List.getElem?_cons_zero, List.getElem?_cons_succ] at p0 p1 p2 p3 p4 o2 o3
  go_wp2_with fail
  refine (eachFieldN H8.out.am _ HCk.out).mono ?_
  rintro e w10 ⟨rfl, hb_⟩
  have H9 := hid (H8.out.below hb_)
  clear hb_ H8 p0 p1 p2 p3 p4 o2 o3
  have p0 := H9.out.ob.cell 0
  have p1 := H9.out.ob.cell 1
  have p2 := H9.out.ob.cell 2
  have p3 := H9.out.ob.cell 3
  have p4 := H9.out.ob.cell 4
  have o2 := H9.out.op.cell 2
  have o3 := H9.out.op.cell 3
  simp only [List.getElem?_cons_zero, List.getElem?_cons_succ] at p0 p1 p2 p3 p4 o2 o3
  go_wp2_with (refine wpList_bs9 rfl _ _ _ _ _ _ _ _ _ rfl rfl rfl rfl rfl rfl rfl rfl rfl rfl ?_; intro g wb hg hwb)
  have HB : Hid (RA l S w p q [v0, v1, v2, v3, v4] [.int .u8 ok, .int .u64 oa, .int .u64 ob, .int .u64 oc] wb ∧ Blk wb g 32 (List.replicate 9 (.int .u8 6))) := hid (by
    have kk := Blk.new w10 (List.replicate 9 (.int .u8 6)) 32
    rw [hg] at kk
    rw [← hwb]
    exact ⟨H9.out.below (nbel _ _), kk⟩)
  clear hg hwb H9 p0 p1 p2 p3 p4 o2 o3
  go_upto_region 12 with fail
  go_loopw [83] (fun u wr => ∃ j : Nat, u = .int .i64 (j : Int) ∧ j ≤ 9 ∧ wr = wb) (fun u _ => 9 - (intOf u).toNat)
  case atStart => exact ⟨0, rfl, by omega, rfl⟩
  case round =>
  obtain ⟨j, rfl, hj, hwr⟩ := hrel
  have hwr' := hwr.symm
  clear hwr
  subst hwr'
  by_cases hj9 : j < 9
  · as_aux_lemma =>
    have dj : decide ((j : Int) < 9) = true := decide_eq_true (by omega)
    have dj' : decide (j < 9) = true := decide_eq_true hj9
    have cj : wb.cell? ⟨g, j, none⟩ = some (.int .u8 6) := by
      rw [HB.out.2.cell j, List.getElem?_replicate, if_pos hj9]
    go_wp2
    exact ⟨⟨j + 1, by go_num, by omega, by trivial⟩, by simp [intOf]; omega⟩
  as_aux_lemma =>
  have dj : decide ((j : Int) < 9) = false := decide_eq_false (by omega)
  have dj' : decide (j < 9) = false := decide_eq_false hj9
  have HX := hid HB.out.1
  clear HB
  have p0 := HX.out.ob.cell 0
  have p1 := HX.out.ob.cell 1
  have p2 := HX.out.ob.cell 2
  have p3 := HX.out.ob.cell 3
  have p4 := HX.out.ob.cell 4
  have o2 := HX.out.op.cell 2
  have o3 := HX.out.op.cell 3
  simp only [List.getElem?_cons_zero, List.getElem?_cons_succ] at p0 p1 p2 p3 p4 o2 o3
  have HHo := hid (housedN HX.out.am HCk.out)
  go_wp2_with fail
  refine HHo.out.mono ?_
  rintro e wz ⟨rfl, hbz⟩
  have HZ := hid (HX.out.below hbz)
  clear hbz HX HHo p0 p1 p2 p3 p4 o2 o3
  go_wp2
  go_ret
  exact ⟨rfl, hid HZ.out.bel⟩
end
end Go.Proofs.Qxb6500887aGreat
