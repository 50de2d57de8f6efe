/- Extent, Erase, ScrubLines, Occupy, Vacate. -/
import Derived.Test.Qxb6500887aGreatAzJ
namespace Go.Proofs.Qxb6500887aGreat
open Go.RowKit
set_option linter.unusedSimpArgs false
set_option linter.unusedVariables false

section
variable {l : AL} {S : AS} {w w' w0 : World} {p q : Nat} {cs : List Value} {o : Ob}
theorem info_ex : (Tryz.prog.info? 84).map (·.size) = some 2 := by kernel_rfl
theorem agg_ex : AggOf Tryz.prog 84 2 := AggOf.struct Tryz.underlying84 (by kernel_rfl)
set_option maxRecDepth 100000 in
set_option maxHeartbeats 1000000 in
theorem obExtentZ (h : AM l S w) (ho : ObOk o) : Calls Tryz.prog 37 #[.agg #[.pointer (some ⟨l.a, 0, none⟩), .int .i64 (o.k : Int), .int .u64 (o.raw : Int), .int .i64 (o.sz : Int), .int .i64 (o.rf : Int)]] w fun e w' => e = .returned (.agg #[.int .i64 (o.k : Int), .int .i64 ((1 + o.sz : Nat) : Int)]) ∧ Below w.heap.size w w' := by
  obtain ⟨p, hp⟩ : ∃ p, w.heap.size = p := ⟨_, rfl⟩
  have I0 := hid info_ex
  have HW := hid (fun wz => hdWordsZ o.sz o.rf ho.s2 wz)
  have hk := ho.k
  have HX : Hid (OX w l S p (obL l o) ((w.alloc (.cells #[.pointer (some ⟨l.a, 0, none⟩), .int .i64 (o.k : Int), .int .u64 (o.raw : Int), .int .i64 (o.sz : Int), .int .i64 (o.rf : Int)] 61)).alloc (.cells #[.int .i64 0, .int .i64 0] 84)) ∧ Blk ((w.alloc (.cells #[.pointer (some ⟨l.a, 0, none⟩), .int .i64 (o.k : Int), .int .u64 (o.raw : Int), .int .i64 (o.sz : Int), .int .i64 (o.rf : Int)] 61)).alloc (.cells #[.int .i64 0, .int .i64 0] 84)) (p + 1) 84 [.int .i64 0, .int .i64 0]) := hid (by
    have k1 := OX.new (cs := obL l o) h (Below.refl _ w) hp
    have k2 := k1.below (nbel _ (.cells #[.int .i64 0, .int .i64 0] 84))
    have k3 := Blk.new (w.alloc (.cells (obL l o).toArray 61)) [.int .i64 0, .int .i64 0] 84
    rw [show (w.alloc (.cells (obL l o).toArray 61)).heap.size = p + 1 by simp [hp]] at k3
    exact ⟨k2, k3⟩)
  clear h ho
  go_enter Tryz.func37, Tryz.ntmps37
  go_upto_region 1 with fail
  (try simp only [hp])
  generalize hw1 : (w.alloc _).alloc _ = w1 at HX ⊢
  clear hw1 hp
  refine wp_region_heavy (fun wz => OX w l S p (obL l o) wz ∧ Blk wz (p + 1) 84 [.int .i64 0, .int .i64 0]) 6 [0, 1, 2, 3] [4, 5] rfl (by kernel_rfl) (by kernel_rfl) (fun d _ _ _ _ h => by cases d <;> exact h) ⟨HX.out.1.below (Drew.below ⟨1, rfl⟩ _), HX.out.2.below (Drew.below ⟨1, rfl⟩ _)⟩ ?_
  apply Exists.intro
  refine ⟨?_, ?_⟩
  · intro W hW
    have p1 : ∀ u, (W u).cell? ⟨p, 1, none⟩ = some (.int .i64 (o.k : Int)) := fun u => (hW u).1.ps.2.1
    have p3 : ∀ u, (W u).cell? ⟨p, 3, none⟩ = some (.int .i64 (o.sz : Int)) := fun u => (hW u).1.ps.2.2.2.1
    have p4 : ∀ u, (W u).cell? ⟨p, 4, none⟩ = some (.int .i64 (o.rf : Int)) := fun u => (hW u).1.ps.2.2.2.2
    clear hW
    simp only [List.take, opsAt, List.drop, List.cons_append, List.nil_append]
    repeat (go_big_quiet_step (fail))
    exact rfl
  simp only [List.take, List.drop, opsAt, List.cons_append, List.nil_append, wpHv]
  have HRd : Hid (OX w l S p (obL l o) w1.drew ∧ Blk w1.drew (p + 1) 84 [.int .i64 0, .int .i64 0]) := hid ⟨HX.out.1.below (Drew.below ⟨1, rfl⟩ _), HX.out.2.below (Drew.below ⟨1, rfl⟩ _)⟩
  generalize w1.drew = w2 at HRd ⊢
  clear HX
  go_wp2_with fail
  refine (HW.out _).mono ?_
  rintro e w3 ⟨rfl, hb3⟩
  have H3 : Hid (OX w l S p (obL l o) w3 ∧ Blk w3 (p + 1) 84 [.int .i64 0, .int .i64 0]) := hid ⟨HRd.out.1.below hb3, HRd.out.2.below hb3⟩
  clear hb3 HRd HW
  go_wp2_with fail
  refine ⟨H3.out, ?_⟩
  go_wp2_with fail
  refine ⟨H3.out, ?_⟩
  simp only [QN]
  have one : ∀ u ∈ ([.int .i64 (o.k : Int), .int .i64 ((1 + o.sz : Nat) : Int)] : List Value), u.oneCell' = true := by
    intro u hu
    simp only [List.mem_cons, List.not_mem_nil, or_false] at hu
    rcases hu with rfl | rfl <;> rfl
  have hlo := H3.out.1.lo
  refine wpList_store_blk rfl 84 _ _ rfl (p + 1) rfl [.int .i64 (o.k : Int), .int .i64 ((1 + o.sz : Nat) : Int)] rfl H3.out.2 rfl I0.out one ?_
  intro w9 HB9 HU9
  go_wp2
  refine bodyPost_ret (results_blk (cs := [.int .i64 (o.k : Int), .int .i64 ((1 + o.sz : Nat) : Int)]) Tryz.results37 rfl agg_ex HB9.out) rfl ?_
  exact ⟨rfl, H3.out.1.bel.trans (HU9.out.below (by omega) H3.out.1.bel.size)⟩
/-- The object, its extent in the block q. -/
structure OE (w0 : World) (l : AL) (S : AS) (q k n : Nat) (w : World) : Prop where
  au : AU l w0 S w
  bk : Blk w q 84 [.int .i64 (k : Int), .int .i64 (n : Int)]
theorem OE.below {k n : Nat} (h : OE w0 l S q k n w) (hb : Below w.heap.size w w') : OE w0 l S q k n w' := ⟨h.au.below hb, h.bk.below hb⟩
theorem OE.nwr {k n : Nat} (h : OE w0 l S q k n w) : q ∉ l.wr := by
  have n1 : q ≠ l.a := h.bk.tneA h.au.m.a (by decide)
  have n2 : q ≠ l.w := h.bk.tneA h.au.m.ws (by decide)
  have n3 : q ≠ l.bc := h.bk.tneA h.au.m.tc.wb (by decide)
  have n4 : q ≠ l.bm := h.bk.tneA h.au.m.tm.wb (by decide)
  have n5 : q ≠ l.bl := h.bk.tneA h.au.m.tl.wb (by decide)
  have n6 : q ≠ l.bt := h.bk.tneA h.au.m.tt.wb (by decide)
  simp [AL.wr, n1, n2, n3, n4, n5, n6]
theorem OE.step {k n : Nat} {S' : AS} (h : OE w0 l S q k n w) (hu : AU l w S' w') : OE w0 l S' q k n w' := ⟨h.au.trans hu, hu.u.blk h.bk h.nwr⟩
/-- Erase: what becomes of the arena. -/
def eraseA (S : AS) (x : Int) : Int × AS := if onC S x = 0 then (0, { S.tch.zero (opO S (gIx x)).k ((opO S (gIx x)).k + (1 + (opO S (gIx x)).sz)) with L := fillX 1 64 (opO S (gIx x)).k ((opO S (gIx x)).k + (1 + (opO S (gIx x)).sz)) 0 S.L, C := setX 2 32 S.C ((opO S (gIx x)).k / 2) 0, M := setX 1 64 S.M ((opO S (gIx x)).k / 2) 0 }) else (onC S x, S)
theorem extEndN {k n : Nat} (h1 : 1 ≤ n) (h2 : k + n ≤ 32768) (w : World) : Calls Tryz.prog 44 #[.agg #[.int .i64 (k : Int), .int .i64 (n : Int)]] w fun e w' => e = .returned (.int .i64 ((k + n : Nat) : Int)) ∧ Below w.heap.size w w' := by
  have := extEnd_walk (k : Int) (n : Int) ⟨by omega, by omega, by omega⟩ w
  unfold extV at this
  rw [show (k : Int) + (n : Int) = ((k + n : Nat) : Int) by omega] at this
  exact this
set_option maxRecDepth 100000 in
set_option maxHeartbeats 2000000 in
theorem eraseZ (h : AM l S w) (x : Int) : Calls Tryz.prog 68 #[.pointer (some ⟨l.a, 0, none⟩), .int .u64 x] w fun e w' => e = .returned (.int .u8 (eraseA S x).1) ∧ Hid (AU l w (eraseA S x).2 w') := by
  unfold eraseA
  have HO := hid (openZ h x)
  have HA := hid h
  by_cases hc : onC S x = 0
  · obtain ⟨_, _, e1, ho⟩ := onC_ok h hc
    rw [if_pos hc]
    rw [e1, hc] at HO
    generalize opO S (gIx x) = o at *
    have HM := hid (fun wz (hz : AM l S wz) => obExtentZ hz ho)
    have HO' : Hid (Calls Tryz.prog 22 #[.pointer (some ⟨l.a, 0, none⟩), .int .u64 x] w fun e w' => e = .returned (.tuple #[.agg #[.pointer (some ⟨l.a, 0, none⟩), .int .i64 (o.k : Int), .int .u64 (o.raw : Int), .int .i64 (o.sz : Int), .int .i64 (o.rf : Int)], .int .u8 0]) ∧ Below w.heap.size w w') := HO
    have hk := ho.k
    clear h hc ho e1 HO
    obtain ⟨n, hn⟩ : ∃ n, 1 + o.sz = n := ⟨_, rfl⟩
    have hn1 : 1 ≤ n := by omega
    have hkn : o.k + n ≤ 32768 := by omega
    rw [hn] at HM ⊢
    have HE := hid (fun wz => extEndN hn1 hkn wz)
    have hdiv : (o.k : Int) / 2 = ((o.k / 2 : Nat) : Int) := by omega
    go_enter Tryz.func68, Tryz.ntmps68
    go_wp2_with fail
    refine HO'.out.mono ?_
    rintro e w2 ⟨rfl, hb2⟩
    obtain ⟨p, hp⟩ : ∃ p, w2.heap.size = p := ⟨_, rfl⟩
    have HX : Hid (OX w l S p (obL l o) (w2.alloc (.cells #[.pointer (some ⟨l.a, 0, none⟩), .int .i64 (o.k : Int), .int .u64 (o.raw : Int), .int .i64 (o.sz : Int), .int .i64 (o.rf : Int)] 61))) := hid (OX.new (cs := obL l o) (HA.out.below hb2) hb2 hp)
    clear hb2 HO' HA
    go_upto_region 4 with fail
    (try simp only [hp])
    generalize hw3 : w2.alloc _ = w3 at HX ⊢
    clear hw3 hp
    obtain ⟨p0, p1, p2, p3, p4⟩ := HX.out.ps
    go_wp2_with fail
    refine (HM.out _ HX.out.am).mono ?_
    rintro e w4 ⟨rfl, hb4⟩
    have HX4 := hid (HX.out.below hb4)
    clear hb4 HX p0 p1 p2 p3 p4 HM
    obtain ⟨q, hq⟩ : ∃ q, w4.heap.size = q := ⟨_, rfl⟩
    have HQ : Hid (OE w l S q o.k n (w4.alloc (.cells #[.int .i64 (o.k : Int), .int .i64 (n : Int)] 84))) := hid (by
      have kk := Blk.new w4 [.int .i64 (o.k : Int), .int .i64 (n : Int)] 84
      rw [hq] at kk
      exact ⟨HX4.out.au.below (nbel w4 _), kk⟩)
    go_upto_region 5 with fail
    (try simp only [hq])
    generalize hw5 : w4.alloc _ = w5 at HQ ⊢
    clear hw5 hq HX4
    obtain ⟨k, hkk⟩ : ∃ k, o.k = k := ⟨_, rfl⟩
    rw [hkk] at HQ hk hkn HE hdiv
    go_wp2_with fail
    refine (touchZ HQ.out.au.m).mono ?_
    rintro e w6 ⟨rfl, HU⟩
    have HQ6 := hid (HQ.out.step HU.out)
    clear HU HQ
    -- region 6: a.zero(e.Word, e.End())
    go_upto_region 6 with fail
    refine wp_region_heavy (fun wz => Blk wz q 84 [.int .i64 (k : Int), .int .i64 (n : Int)]) 6 [0, 1, 2, 3] [4, 5] rfl (by kernel_rfl) (by kernel_rfl) (fun d _ _ _ _ h => by cases d <;> exact h) (HQ6.out.bk.below (Drew.below ⟨1, rfl⟩ _)) ?_
    apply Exists.intro
    refine ⟨?_, ?_⟩
    · intro W hW
      have q0 : ∀ u, (W u).cell? ⟨q, 0, none⟩ = some (.int .i64 (k : Int)) := fun u => (hW u).cell 0
      have q1 : ∀ u, (W u).cell? ⟨q, 1, none⟩ = some (.int .i64 (n : Int)) := fun u => (hW u).cell 1
      clear hW
      simp only [List.take, opsAt, List.drop, List.cons_append, List.nil_append]
      repeat (go_big_quiet_step (fail))
      exact rfl
    simp only [List.take, List.drop, opsAt, List.cons_append, List.nil_append, wpHv]
    have HQd : Hid (OE w l S.tch q k n w6.drew) := hid (HQ6.out.below (Drew.below ⟨1, rfl⟩ _))
    generalize w6.drew = w7 at HQd ⊢
    clear HQ6
    go_wp2_with fail
    refine (HE.out w7).mono ?_
    rintro e w8 ⟨rfl, hb8⟩
    have HQ8 := hid (HQd.out.below hb8)
    clear hb8 HQd
    go_wp2_with fail
    refine ⟨HQ8.out.bk, ?_⟩
    have HZ := hid (zeroZ (AU.start HQ8.out.au.m) k (k + n) (by omega) hkn)
    go_wp2_with fail
    refine HZ.out.mono ?_
    rintro e w9 ⟨rfl, HU9⟩
    have HQ9 := hid (HQ8.out.step HU9.out)
    clear HU9 HQ8 HZ
    go_wp2_with fail
    refine ⟨HQ9.out.bk, ?_⟩
    simp only [QN]
    -- region 7: a.logs.Fill
    go_upto_region 7 with fail
    refine wp_region_heavy (fun wz => wz.cell? ⟨l.a, 3, none⟩ = some (.pointer (some ⟨l.tl, 0, none⟩)) ∧ Blk wz q 84 [.int .i64 (k : Int), .int .i64 (n : Int)]) 9 [0, 1, 2, 3, 4, 5, 6] [7, 8] rfl (by kernel_rfl) (by kernel_rfl) (fun d _ _ _ _ h => by cases d <;> exact h) ⟨(HQ9.out.au.m.drew ⟨1, rfl⟩).cells.2.2.2.1, HQ9.out.bk.below (Drew.below ⟨1, rfl⟩ _)⟩ ?_
    apply Exists.intro
    refine ⟨?_, ?_⟩
    · intro W hW
      have k1 : ∀ u, (W u).cell? ⟨l.a, 3, none⟩ = some (.pointer (some ⟨l.tl, 0, none⟩)) := fun u => (hW u).1
      have q0 : ∀ u, (W u).cell? ⟨q, 0, none⟩ = some (.int .i64 (k : Int)) := fun u => (hW u).2.cell 0
      have q1 : ∀ u, (W u).cell? ⟨q, 1, none⟩ = some (.int .i64 (n : Int)) := fun u => (hW u).2.cell 1
      clear hW
      simp only [List.take, opsAt, List.drop, List.cons_append, List.nil_append]
      repeat (go_big_quiet_step (fail))
      exact rfl
    simp only [List.take, List.drop, opsAt, List.cons_append, List.nil_append, wpHv]
    have HQd : Hid (OE w l (S.tch.zero k (k + n)) q k n w9.drew) := hid (HQ9.out.below (Drew.below ⟨1, rfl⟩ _))
    generalize w9.drew = wa at HQd ⊢
    clear HQ9
    go_wp2_with fail
    refine (HE.out wa).mono ?_
    rintro e wb ⟨rfl, hbb⟩
    have HQb := hid (HQd.out.below hbb)
    clear hbb HQd
    go_wp2_with fail
    refine ⟨⟨HQb.out.au.m.cells.2.2.2.1, HQb.out.bk⟩, ?_⟩
    have HZ := hid (HQb.out.au.m.tl.fill k (k + n) 0 (by omega) hkn (by decide))
    go_wp2_with fail
    refine HZ.out.mono ?_
    rintro e wc ⟨rfl, HUc⟩
    have HQc := hid (HQb.out.step ((AU.start HQb.out.au.m).setL HUc.out.1 HUc.out.2))
    clear HUc HQb HZ
    go_wp2_with fail
    refine ⟨⟨HQc.out.au.m.cells.2.2.2.1, HQc.out.bk⟩, ?_⟩
    simp only [QN]
    have q0 := HQc.out.bk.cell 0
    simp only [List.getElem?_cons_zero] at q0
    have c1 := HQc.out.au.m.cells.2.1
    have hg : k / 2 < 16384 := by omega
    have HS1 := hid (HQc.out.au.m.tc.set (k / 2) 0 hg (by decide))
    obtain ⟨g, hgg⟩ : ∃ g, k / 2 = g := ⟨_, rfl⟩
    rw [hgg] at HS1 hg hdiv
    have Hgg := hid hgg
    clear hgg
    go_wp2_with fail
    refine HS1.out.mono ?_
    rintro e wd ⟨rfl, HUd⟩
    have HQd := hid (HQc.out.au.setC HUd.out.1 HUd.out.2)
    clear HUd HQc HS1 q0 c1
    have c2 := HQd.out.m.cells.2.2.1
    have HS2 := hid (HQd.out.m.tm.set g 0 hg (by decide))
    go_wp2_with fail
    refine HS2.out.mono ?_
    rintro e we ⟨rfl, HUe⟩
    have HQe := hid (HQd.out.setM HUe.out.1 HUe.out.2)
    clear HUe HQd HS2 c2
    go_wp2
    go_ret
    exact ⟨rfl, by rw [hkk, Hgg.out]; exact HQe⟩
  · rw [if_neg hc]
    rw [onC_no hc] at HO
    have dc : (onC S x == 0) = false := by simpa using hc
    have dc2 : (onC S x != 0) = true := by simp [bne, dc]
    have HO' : Hid (Calls Tryz.prog 22 #[.pointer (some ⟨l.a, 0, none⟩), .int .u64 x] w fun e w' => e = .returned (.tuple #[.agg #[.pointer none, .int .i64 0, .int .u64 0, .int .i64 0, .int .i64 0], .int .u8 (onC S x)]) ∧ Below w.heap.size w w') := HO
    generalize onC S x = c at *
    clear h hc HO
    go_enter Tryz.func68, Tryz.ntmps68
    go_wp2_with fail
    refine HO'.out.mono ?_
    rintro e w2 ⟨rfl, hb2⟩
    have HB3 := hid (hb2.trans ((nbel w2 (.cells #[.pointer none, .int .i64 0, .int .u64 0, .int .i64 0, .int .i64 0] 61)).mono hb2.size))
    clear hb2 HO'
    go_upto_region 3 with fail
    generalize hw3 : w2.alloc _ = w3 at HB3 ⊢
    clear hw3
    go_wp2
    go_ret
    exact ⟨rfl, hid ⟨HA.out.below HB3.out, UL.ofBelow HB3.out⟩⟩
end
end Go.Proofs.Qxb6500887aGreat
