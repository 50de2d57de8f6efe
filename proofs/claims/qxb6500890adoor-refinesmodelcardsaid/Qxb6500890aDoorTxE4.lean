/- The cursor: Origin, Step, Over. -/
import Derived.Test.Qxb6500890aDoorTxE3
import Derived.Test.Qxb6500890aDoorHeavy
namespace Go.Proofs.Qxb6500890aDoor
open Go.RowKit
set_option linter.unusedSimpArgs false
set_option linter.unusedVariables false

def cuC (o l k : Nat) : List Value := [.int .i64 (o : Int), .int .i64 (l : Int), .int .i64 (k : Int)]
theorem aggCu : AggOf Tryd.prog 74 3 := AggOf.struct Tryd.underlying74 (by kernel_rfl)
theorem info_cu : (Tryd.prog.info? 74).map (·.size) = some 3 := by kernel_rfl
theorem cu_one (o l k : Nat) : ∀ v ∈ cuC o l k, v.oneCell' = true := by
  intro v hv
  simp [cuC] at hv
  rcases hv with rfl | rfl | rfl <;> rfl
section
variable {w w' : World}
set_option maxRecDepth 100000
set_option maxHeartbeats 1000000
theorem origin_walk (w : World) : Calls Tryd.prog 35 #[] w fun r w' => r = .returned (.agg (cuC 0 1 1).toArray) ∧ Below w.heap.size w w' := by
  obtain ⟨p, hp⟩ : ∃ p, w.heap.size = p := ⟨_, rfl⟩
  have hb := Blk.new w (cuC 0 0 0) 74
  rw [hp] at hb
  have HB := hid hb
  have I0 := hid info_cu
  clear hb
  go_enter Tryd.func35, Tryd.ntmps35
  go_wp2_with (refine wpList_store_blk rfl 74 _ _ rfl p rfl (cuC 0 1 1) rfl HB.out rfl I0.out (cu_one _ _ _) ?_; intro w9 HB9 HU9)
  exact bodyPost_ret (results_blk (cs := cuC 0 1 1) Tryd.results35 rfl aggCu HB9.out) rfl ⟨rfl, (nbel w _).trans (HU9.out.below (by omega) (by simp))⟩
theorem cstep_walk (o l k : Nat) (ho : o ≤ 1000000) (hl : l ≤ 1000001) (hk : k ≤ 1000001) (b : UInt8) (w : World) : Calls Tryd.prog 66 #[.agg (cuC o l k).toArray, .int .u8 (b.toNat : Int)] w fun r w' => r = .returned (.agg (cuC (o + 1) (curS (l, k) b).1 (curS (l, k) b).2).toArray) ∧ Below w.heap.size w w' := by
  obtain ⟨p, hp⟩ : ∃ p, w.heap.size = p := ⟨_, rfl⟩
  have hb0 := Blk.new (w.alloc (.cells (cuC o l k).toArray 74)) (cuC 0 0 0) 74
  have n1 := nbel w (.cells (cuC o l k).toArray 74)
  have hs : (w.alloc (.cells (cuC o l k).toArray 74)).heap.size = p + 1 := by simp [hp]
  rw [hs] at hb0
  have HB := hid hb0
  have HN := hid n1
  have I0 := hid info_cu
  have i1 : (o : Int) ≤ 1000000 := by omega
  have i2 : (l : Int) ≤ 1000001 := by omega
  have i3 : (k : Int) ≤ 1000001 := by omega
  have e0 : (cuC o l k).toArray = #[.int .i64 (o : Int), .int .i64 (l : Int), .int .i64 (k : Int)] := rfl
  rw [e0] at HB HN ⊢
  clear hb0 n1 hs
  by_cases h : b.toNat = 10
  · have e1 : curS (l, k) b = (l + 1, 1) := by unfold curS; rw [if_pos h]
    rw [e1]
    have d1 : ((b.toNat : Int) == 10) = true := by rw [h]; rfl
    clear h e1
    go_enter Tryd.func66, Tryd.ntmps66
    go_wp2_with (refine wpList_store_blk rfl 74 _ _ rfl (p + 1) rfl (cuC (o + 1) (l + 1) 1) (by simp [cuC, Act.eval, Act.put]) HB.out rfl I0.out (cu_one _ _ _) ?_; intro w9 HB9 HU9)
    exact bodyPost_ret (results_blk (cs := cuC (o + 1) (l + 1) 1) Tryd.results66 rfl aggCu HB9.out) rfl ⟨rfl, (HN.out.trans ((nbel _ _).mono HN.out.size)).trans (HU9.out.below (by omega) (by simp; omega))⟩
  · have e1 : curS (l, k) b = (l, k + 1) := by unfold curS; rw [if_neg h]
    rw [e1]
    have d1 : ((b.toNat : Int) == 10) = false := by rw [beq_eq_false_iff_ne]; omega
    clear h e1
    go_enter Tryd.func66, Tryd.ntmps66
    go_wp2_with (refine wpList_store_blk rfl 74 _ _ rfl (p + 1) rfl (cuC (o + 1) l (k + 1)) (by simp [cuC, Act.eval, Act.put]) HB.out rfl I0.out (cu_one _ _ _) ?_; intro w9 HB9 HU9)
    exact bodyPost_ret (results_blk (cs := cuC (o + 1) l (k + 1)) Tryd.results66 rfl aggCu HB9.out) rfl ⟨rfl, (HN.out.trans ((nbel _ _).mono HN.out.size)).trans (HU9.out.below (by omega) (by simp; omega))⟩
/-- Over under way. -/
structure Ov (w : World) (p i : Nat) (c : Nat × Nat) (wr : World) : Prop where
  be : Below w.heap.size w wr
  lo : w.heap.size ≤ p
  b1 : Blk wr p 74 (cuC i c.1 c.2)
  b2 : Blk wr (p + 1) 74 (cuC 0 0 0)
theorem Ov.below {w wr w' : World} {p i : Nat} {c : Nat × Nat} (h : Ov w p i c wr) (hb : Below wr.heap.size wr w') : Ov w p i c w' := ⟨h.be.trans (hb.mono h.be.size), h.lo, h.b1.below hb, h.b2.below hb⟩
theorem Ov.cells {w wr : World} {p i : Nat} {c : Nat × Nat} (h : Ov w p i c wr) : wr.cell? ⟨p, 0, none⟩ = some (.int .i64 (i : Int)) ∧ wr.cell? ⟨p, 1, none⟩ = some (.int .i64 (c.1 : Int)) ∧ wr.cell? ⟨p, 2, none⟩ = some (.int .i64 (c.2 : Int)) := ⟨h.b1.cell 0, h.b1.cell 1, h.b1.cell 2⟩
theorem Ov.new (w : World) : Ov w w.heap.size 0 (1, 1) ((w.alloc (.cells (cuC 0 1 1).toArray 74)).alloc (.cells (cuC 0 0 0).toArray 74)) := by
  have n1 := nbel w (.cells (cuC 0 1 1).toArray 74)
  have k1 := Blk.new w (cuC 0 1 1) 74
  have s1 : (w.alloc (.cells (cuC 0 1 1).toArray 74)).heap.size = w.heap.size + 1 := by simp
  generalize w.alloc (.cells (cuC 0 1 1).toArray 74) = w1 at n1 k1 s1
  have n2 := nbel w1 (.cells (cuC 0 0 0).toArray 74)
  have k2 := Blk.new w1 (cuC 0 0 0) 74
  rw [s1] at k2
  exact ⟨n1.trans (n2.mono n1.size), Nat.le_refl _, k1.below n2, k2⟩
theorem over_walk (s : ByteArray) (hs : s.size ≤ 1000000) (w : World) : Calls Tryd.prog 36 #[.agg (cuC 0 1 1).toArray, .string s] w fun r w' => r = .returned (.agg (cuC s.size (placeP s.data.toList).1 (placeP s.data.toList).2).toArray) ∧ Below w.heap.size w w' := by
  have HO0 := hid (Ov.new w)
  have I0 := hid info_cu
  obtain ⟨p, hp⟩ : ∃ p, w.heap.size = p := ⟨_, rfl⟩
  rw [hp] at HO0
  obtain ⟨n, hn⟩ : ∃ n, s.size = n := ⟨_, rfl⟩
  have Hn := hid hn
  have hni : (n : Int) ≤ 1000000 := by omega
  have e0 : (cuC 0 1 1).toArray = #[.int .i64 0, .int .i64 1, .int .i64 1] := rfl
  have e1 : (cuC 0 0 0).toArray = #[.int .i64 0, .int .i64 0, .int .i64 0] := rfl
  rw [e0, e1] at HO0
  rw [e0]
  clear e0 e1
  go_enter Tryd.func36, Tryd.ntmps36
  go_upto_region 1 with fail
  generalize hwr : ((w.alloc (Obj.cells #[.int .i64 0, .int .i64 1, .int .i64 1] 74)).alloc (Obj.cells #[.int .i64 0, .int .i64 0, .int .i64 0] 74)) = w0 at HO0 ⊢
  clear hwr
  go_wp2_with fail
  go_loopw [5] (fun v wr => ∃ i : Nat, i ≤ n ∧ v = .int .i64 (i : Int) ∧ Hid (Ov w p i (placeP (s.data.toList.take i)) wr)) (fun v _ => n - (intOf v).toNat)
  case atStart => exact ⟨0, by omega, rfl, HO0⟩
  case round =>
  clear HO0
  obtain ⟨i, hi, rfl, HO⟩ := hrel
  by_cases hin : i < n
  rotate_left
  · have hie : i = n := by omega
    subst hie
    have di : decide ((i : Int) < (i : Int)) = false := decide_eq_false (by omega)
    have et : s.data.toList.take i = s.data.toList := List.take_of_length_le (by show s.size ≤ i; omega)
    rw [et] at HO
    have HR : Hid (∀ w9, Upd (p + 1) wr w9 → Below w.heap.size w w9) := hid (fun w9 hu => HO.out.be.trans (hu.below (by have := HO.out.lo; omega) HO.out.be.size))
    generalize hpl : placeP s.data.toList = pl at HO
    obtain ⟨x0, x1, x2⟩ := HO.out.cells
    obtain ⟨pl1, pl2⟩ := pl
    have Hpl := hid hpl
    have H2 := hid HO.out.b2
    dsimp only at x1 x2
    clear hpl hin hi et HO
    go_wp2_with (refine wpList_store_blk rfl 74 _ _ rfl (p + 1) rfl (cuC i pl1 pl2) rfl H2.out rfl I0.out (cu_one _ _ _) ?_; intro w9 HB9 HU9)
    exact bodyPost_ret (results_blk (cs := cuC i pl1 pl2) Tryd.results36 rfl aggCu HB9.out) rfl ⟨by rw [Hpl.out, Hn.out], HR.out _ HU9.out⟩
  have di : decide ((i : Int) < (n : Int)) = true := decide_eq_true (by omega)
  have ki : i < s.size := by omega
  have HNx := hid (place_next s ki)
  have HLe := hid (place_le (s.data.toList.take i))
  generalize placeP (s.data.toList.take i) = pl at HO HNx HLe
  obtain ⟨pl1, pl2⟩ := pl
  have hl9 : pl1 ≤ 1000001 ∧ pl2 ≤ 1000001 := by
    have h1 := HLe.out
    rw [List.length_take] at h1
    dsimp only at h1
    have : s.data.toList.length = n := Hn.out
    omega
  have HSt := hid (fun wx => cstep_walk i pl1 pl2 (by omega) hl9.1 hl9.2 s[i] wx)
  rw [show (cuC i pl1 pl2).toArray = #[.int .i64 (i : Int), .int .i64 (pl1 : Int), .int .i64 (pl2 : Int)] from rfl] at HSt
  have HS3 : Hid (∀ wx : World, Ov w p i (pl1, pl2) wx → wx.cell? ⟨p, 0, none⟩ = some (.int .i64 (i : Int)) ∧ wx.cell? ⟨p, 1, none⟩ = some (.int .i64 (pl1 : Int)) ∧ wx.cell? ⟨p, 2, none⟩ = some (.int .i64 (pl2 : Int))) := hid (fun wx h => h.cells)
  clear HLe hl9
  go_upto_region 4 with fail
  refine wp_region_heavy (fun wx => wx.cell? ⟨p, 0, none⟩ = some (.int .i64 (i : Int)) ∧ wx.cell? ⟨p, 1, none⟩ = some (.int .i64 (pl1 : Int)) ∧ wx.cell? ⟨p, 2, none⟩ = some (.int .i64 (pl2 : Int))) 5 [0, 1, 2, 3] [4] rfl (by kernel_rfl) (by kernel_rfl) (fun d _ _ _ _ h => by cases d <;> exact h) (HS3.out _ (HO.out.below (Drew.below ⟨1, rfl⟩ _))) ?_
  apply Exists.intro
  refine ⟨?_, ?_⟩
  · intro W hW
    have y1 := fun x => (hW x).1
    have y2 := fun x => (hW x).2.1
    have y3 := fun x => (hW x).2.2
    simp only [List.take, opsAt, List.drop, List.cons_append, List.nil_append]
    repeat (go_big_quiet_step (fail))
    exact rfl
  simp only [List.take, List.drop, opsAt, List.cons_append, List.nil_append, wpHv]
  have HBd : Hid (Below wr.heap.size wr wr.drew) := hid (Drew.below ⟨1, rfl⟩ _)
  generalize wr.drew = wd at HBd ⊢
  have HOd := hid (HO.out.below HBd.out)
  clear HBd
  go_wp2_with fail
  refine (HSt.out _).mono ?_
  rintro e8 w8 ⟨rfl, hb8⟩
  have HO8 := hid (HOd.out.below hb8)
  clear HOd hb8 HSt HO
  go_wp2_with fail
  refine ⟨HS3.out _ HO8.out, ?_⟩
  simp only [QN]
  rw [← HNx.out]
  clear HNx
  obtain ⟨pl', hpl'⟩ : ∃ x, placeP (s.data.toList.take (i + 1)) = x := ⟨_, rfl⟩
  rw [hpl']
  have Hpl' := hid hpl'
  clear hpl'
  refine wpList_store_blk rfl 74 _ _ rfl p rfl (cuC (i + 1) pl'.1 pl'.2) rfl HO8.out.b1 rfl I0.out (cu_one _ _ _) ?_
  intro w9 HB9 HU9
  have HO9 : Hid (Ov w p (i + 1) (placeP (s.data.toList.take (i + 1))) w9) := hid (by
    rw [Hpl'.out]
    exact ⟨HO8.out.be.trans (HU9.out.below HO8.out.lo HO8.out.be.size), HO8.out.lo, HB9.out, HO8.out.b2.of (HU9.out.block _ HO8.out.b2.lt (by omega))⟩)
  clear HO8 HB9 HU9 Hpl'
  go_wp2
  exact ⟨⟨i + 1, by omega, by go_num, HO9⟩, by simp [intOf]; omega⟩
end
end Go.Proofs.Qxb6500890aDoor
