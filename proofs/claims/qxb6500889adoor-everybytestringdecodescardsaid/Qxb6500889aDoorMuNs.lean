/- The model: every kind of step together, and Step, which counts. -/
import Derived.Test.Qxb6500889aDoorMuNa
import Derived.Test.Qxb6500889aDoorMuNb
import Derived.Test.Qxb6500889aDoorMuNc
import Derived.Test.Qxb6500889aDoorMuNd
import Derived.Test.Qxb6500889aDoorMuNe
import Derived.Test.Qxb6500889aDoorMuNf
import Derived.Test.Qxb6500889aDoorMuNg
import Derived.Test.Qxb6500889aDoorMuNh
import Derived.Test.Qxb6500889aDoorMuNi
namespace Go.Proofs.Qxb6500889aDoor
open Go.RowKit
set_option linter.unusedSimpArgs false
set_option linter.unusedVariables false
section
variable {w w' w'' wz : World} {σ σ' σ'' : Rl} {N N' : ML} {M M' : MS} {n m : Nat} {xs : List XBk}
theorem mst_walk (h : MN w σ N M) (hb : MBd M n) (hn : n < 100000000000) (hids : MIds M) (o : OpP) (hob : OpB o) (room : Bool) :
    Calls Tryd.prog 23 #[.pointer (some ⟨N.mB, 0, none⟩), .agg (opC o).toArray, .bool room] w fun e w' => MsP w σ N M o room e w' := by
  by_cases h7 : 7 ≤ o.ac
  · exact mst_bad h hb hn hids o hob room h7
  by_cases h4 : 4 ≤ o.ac
  · exact mst_coll h hb hn hids o hob room h4 (by omega)
  have hac : o.ac < 4 := by omega
  by_cases k9 : 9 ≤ o.k
  · exact mst_kb h hb hn hids o hob room hac k9
  by_cases k0 : o.k = 0
  · exact mst_0 h hb hn hids o hob room hac k0
  by_cases k6 : o.k = 6
  · exact mst_6 h hb hn hids o hob room hac k6
  by_cases k7 : o.k = 7
  · exact mst_7 h hb hn hids o hob room hac k7
  by_cases k8 : o.k = 8
  · exact mst_8 h hb hn hids o hob room hac k8
  by_cases hop : mOp M o.a = 0
  · exact mst_nil h hb hn hids o hob room hac ⟨by omega, by omega⟩ hop
  cases hlk : mLook M o.ac (mOp M o.a) with
  | none => exact mst_hdl h hb hn hids o hob room hac ⟨by omega, by omega⟩ hop hlk
  | some id =>
    by_cases k5 : o.k = 5
    · exact mst_5 h hb hn hids o hob room hac k5 hop hlk
    by_cases k3 : o.k = 3
    · exact mst_3 h hb hn hids o hob room hac k3 hop hlk
    by_cases k4 : o.k = 4
    · exact mst_4 h hb hn hids o hob room hac k4 hop hlk
    by_cases k1 : o.k = 1
    · exact mst_1 h hb hn hids o hob room hac k1 hop hlk
    exact mst_2 h hb hn hids o hob room hac (by omega) hop hlk
theorem mSetR_ct (M : MS) (id i v : Nat) : (mSetR M id i v).st = M.st ∧ (mSetR M id i v).rf = M.rf := by
  unfold mSetR
  split <;> exact ⟨rfl, rfl⟩
theorem mSetD_ct (M : MS) (id i v : Nat) : (mSetD M id i v).st = M.st ∧ (mSetD M id i v).rf = M.rf := by
  unfold mSetD
  split <;> exact ⟨rfl, rfl⟩
theorem mObj_ct (M : MS) (m : Nat) (o : OpP) (id : Nat) (q : MO) : (mObj M m o id q).1.st = M.st ∧ (mObj M m o id q).1.rf = M.rf := by
  unfold mObj
  repeat' split
  all_goals first | exact ⟨rfl, rfl⟩ | exact mSetR_ct _ _ _ _ | exact mSetD_ct _ _ _ _
theorem mAlloc_ct (M : MS) (m s r : Nat) (room : Bool) : (mAlloc M m s r room).1.st = M.st ∧ (mAlloc M m s r room).1.rf = M.rf := by
  unfold mAlloc
  repeat' split
  all_goals exact ⟨rfl, rfl⟩
theorem mPop_ct (M : MS) (m : Nat) : (mPop M m).1.st = M.st ∧ (mPop M m).1.rf = M.rf := by
  unfold mPop
  repeat' split
  all_goals exact ⟨rfl, rfl⟩
theorem mDo_ct (M : MS) (o : OpP) (room : Bool) : (mDo M o room).1.st = M.st ∧ (mDo M o room).1.rf = M.rf := by
  unfold mDo
  repeat' split
  all_goals first | exact ⟨rfl, rfl⟩ | exact mAlloc_ct _ _ _ _ _ | exact mPop_ct _ _ | exact mObj_ct _ _ _ _ _
theorem MN.setSt (h : MN w σ N M) (v : Nat) : MOut w σ N { M with st := v } (w.setCell ⟨N.mB, 15, none⟩ (.int .u64 (v : Int))) :=
  h.put2 (N' := N) (Below.refl _ _) (fun _ _ _ _ => trivial) (fun _ _ _ => rfl) (fun _ _ => rfl) h.dom ⟨h.pt.ow, h.pt.ro, h.pt.o, h.pt.rt, h.pt.hd, h.pt.is⟩ rfl rfl
theorem MN.setRc (h : MN w σ N M) (v : Nat) : MOut w σ N { M with rf := v } (w.setCell ⟨N.mB, 16, none⟩ (.int .u64 (v : Int))) :=
  h.put2 (N' := N) (Below.refl _ _) (fun _ _ _ _ => trivial) (fun _ _ _ => rfl) (fun _ _ => rfl) h.dom ⟨h.pt.ow, h.pt.ro, h.pt.o, h.pt.rt, h.pt.hd, h.pt.is⟩ rfl rfl
set_option maxRecDepth 1000000 in
set_option maxHeartbeats 8000000 in
theorem mStep_walk (h : MN w σ N M) (hb : MBd M n) (hn : n < 100000000000) (hids : MIds M) (o : OpP) (hob : OpB o) (room : Bool) :
    Calls Tryd.prog 9 #[.pointer (some ⟨N.mB, 0, none⟩), .agg (opC o).toArray, .bool room] w fun e w' => e = .returned (.agg (rzC (mDo M o room).2).toArray) ∧ MOut w σ N (mCnt (mDo M o room).1 (mDo M o room).2) w' := by
  have HD0 := hid (EM.two h o)
  obtain ⟨q, hq⟩ : ∃ q, w.heap.size = q := ⟨_, rfl⟩
  rw [hq] at HD0
  have I0 : Hid ((Tryd.prog.info? 36).map (·.size) = some 8) := hid info_rz
  have I1 : Hid ((Tryd.prog.info? 31).map (·.size) = some 5) := hid info_op
  obtain ⟨mB, hmB⟩ : ∃ b, N.mB = b := ⟨_, rfl⟩
  have HmB := hid hmB
  have HW : Hid (∀ wz, EM w σ N M [(q + 1, 36, rzC (rzR 0)), (q, 31, opC o)] wz → Calls Tryd.prog 23 #[.pointer (some ⟨mB, 0, none⟩), .agg (opC o).toArray, .bool room] wz fun e w' => ∃ M', (e = .returned (.agg (rzC (mDo M o room).2).toArray) ∧ M' = (mDo M o room).1) ∧ EM w σ N M' [(q + 1, 36, rzC (rzR 0)), (q, 31, opC o)] w') := hid (fun wz hz => by
    have := hz.call (f := 23) (args := fun x => #[.pointer (some ⟨x, 0, none⟩), .agg (opC o).toArray, .bool room]) (R := fun e M' => e = .returned (.agg (rzC (mDo M o room).2).toArray) ∧ M' = (mDo M o room).1) (fun σ' N' hM => (mst_walk hM hb hn hids o hob room).mono (fun e w' ⟨k1, k2⟩ => ⟨_, ⟨k1, rfl⟩, k2⟩))
    rw [hmB] at this
    exact this)
  rw [hmB]
  have Hst : Hid ((mDo M o room).1.st ≤ n ∧ (mDo M o room).1.rf ≤ n) := hid (by rw [(mDo_ct M o room).1, (mDo_ct M o room).2]; exact ⟨hb.st, hb.rf⟩)
  generalize (mDo M o room).1 = M2 at HW Hst ⊢
  generalize (mDo M o room).2 = z at HW ⊢
  clear h hb hids hob hmB
  go_enter Tryd.func9, Tryd.ntmps9
  go_upto_region 1 with fail
  obtain ⟨w1, hw1⟩ : ∃ w1, (w.alloc (.cells (opC o).toArray 31)).alloc (.cells (rzC (rzR 0)).toArray 36) = w1 := ⟨_, rfl⟩
  have HD : Hid (EM w σ N M [(q + 1, 36, rzC (rzR 0)), (q, 31, opC o)] w1) := by rw [← hw1]; exact HD0
  rw [show (w.alloc (.cells (opC o).toArray 31)).alloc (.cells #[.int .u8 0, .int .u64 0, .int .u64 0, .int .u64 0, .int .u64 0, .int .u64 0, .int .i64 0, .int .i64 0] 36) = w1 from hw1]
  clear hw1 HD0
  go_wp2_with (refine wpList_load_blk rfl 31 _ rfl q rfl (opC o) (HD.out.bl (q, 31, opC o) (by simp)).1 _ Tryd.underlying31 rfl I1.out ?_)
  refine (HW.out _ HD.out).mono ?_
  rintro e w2 ⟨M2', ⟨rfl, hM2⟩, hD2⟩
  rw [hM2] at hD2
  have HE1 := hid (hD2.alloc (rzC (rzR 0)) 36)
  obtain ⟨r, hr⟩ : ∃ r, w2.heap.size = r := ⟨_, rfl⟩
  rw [hr] at HE1
  clear hD2 HD HW hM2
  go_upto_region 2 with (refine wpList_store_blk rfl 36 _ _ rfl r rfl (rzC z) rfl (HE1.out.bl (r, 36, rzC (rzR 0)) (by simp)).1 rfl I0.out (rz_one _) ?_; intro w3 HB3 HU3)
  have HE3 : Hid (EM w σ N M2 [(r, 36, rzC z), (q + 1, 36, rzC (rzR 0)), (q, 31, opC o)] w3) := hid (HE1.out.set (i := 0) rfl HB3.out HU3.out)
  obtain ⟨st, hst⟩ : ∃ k, M2.st = k := ⟨_, rfl⟩
  obtain ⟨rf, hrf⟩ : ∃ k, M2.rf = k := ⟨_, rfl⟩
  have b1 : st ≤ 100000000000 := by have := Hst.out.1; omega
  have b2 : rf ≤ 100000000000 := by have := Hst.out.2; omega
  obtain ⟨N3, _, s1, f1⟩ := HE3.out.mcell HmB.out 15 (by omega)
  have s1' : w3.cell? ⟨mB, 15, none⟩ = some (.int .u64 (st : Int)) := by rw [s1, ← hst]; rfl
  have HE4 : Hid (EM w σ N { M2 with st := st + 1 } [(r, 36, rzC z), (q + 1, 36, rzC (rzR 0)), (q, 31, opC o)] (w3.setCell ⟨mB, 15, none⟩ (.int .u64 ((st : Int) + 1)))) := hid (HE3.out.app HmB.out (fun σ' N' hM he => by rw [← he]; exact hM.setSt (st + 1)))
  have Hs := hid hst
  have Hr := hid hrf
  clear HE1 HB3 HU3 hst hrf s1
  go_upto_region 3 with fail
  generalize w3.setCell ⟨mB, 15, none⟩ (.int .u64 ((st : Int) + 1)) = w4 at HE4 ⊢
  clear HE3 s1' f1
  obtain ⟨N4, _, s2, f2⟩ := HE4.out.mcell HmB.out 16 (by omega)
  have s2' : w4.cell? ⟨mB, 16, none⟩ = some (.int .u64 (rf : Int)) := by rw [s2, ← Hr.out]; rfl
  have c0 : w4.cell? ⟨r, 0, none⟩ = some (.int .u8 (z.c : Int)) := (HE4.out.bl (r, 36, rzC z) (by simp)).1.cell 0
  clear s2
  by_cases hc : z.c = 0
  · as_aux_lemma =>
    have dc : ((z.c : Int) != 0) = false := by simp [hc]
    have He : Hid (({ M2 with st := st + 1 } : MS) = mCnt M2 z) := hid (by unfold mCnt; rw [if_pos hc, Hs.out])
    clear hc
    go_wp2_with (first | (refine wpList_load_blk rfl 36 _ rfl r rfl (rzC z) (HE4.out.bl (r, 36, rzC z) (by simp)).1 _ Tryd.underlying36 rfl I0.out ?_) | (refine wpList_store_blk rfl 36 _ _ rfl (q + 1) rfl (rzC z) rfl (HE4.out.bl (q + 1, 36, rzC (rzR 0)) (by simp)).1 rfl I0.out (rz_one _) ?_; intro w9 HB9 HU9))
    have HM9 := (HE4.out.set (i := 1) rfl HB9.out HU9.out).out
    exact bodyPost_ret (results_blk Tryd.results9 rfl (show AggOf Tryd.prog 36 (rzC z).length from AggOf.struct Tryd.underlying36 info_rz) HB9.out) rfl
      ⟨rfl, by rw [← He.out]; exact HM9⟩
  · as_aux_lemma =>
    have dc : ((z.c : Int) != 0) = true := by simp [hc]
    have He : Hid (({ M2 with st := st + 1, rf := rf + 1 } : MS) = mCnt M2 z) := hid (by unfold mCnt; rw [if_neg hc, Hs.out, Hr.out])
    have HE5 : Hid (EM w σ N { M2 with st := st + 1, rf := rf + 1 } [(r, 36, rzC z), (q + 1, 36, rzC (rzR 0)), (q, 31, opC o)] (w4.setCell ⟨mB, 16, none⟩ (.int .u64 ((rf : Int) + 1)))) := hid (HE4.out.app HmB.out (fun σ' N' hM he => by rw [← he]; exact hM.setRc (rf + 1)))
    clear hc
    go_upto_region 5 with fail
    generalize w4.setCell ⟨mB, 16, none⟩ (.int .u64 ((rf : Int) + 1)) = w5 at HE5 ⊢
    clear HE4 s2' f2 c0
    go_wp2_with (first | (refine wpList_load_blk rfl 36 _ rfl r rfl (rzC z) (HE5.out.bl (r, 36, rzC z) (by simp)).1 _ Tryd.underlying36 rfl I0.out ?_) | (refine wpList_store_blk rfl 36 _ _ rfl (q + 1) rfl (rzC z) rfl (HE5.out.bl (q + 1, 36, rzC (rzR 0)) (by simp)).1 rfl I0.out (rz_one _) ?_; intro w9 HB9 HU9))
    have HM9 := (HE5.out.set (i := 1) rfl HB9.out HU9.out).out
    exact bodyPost_ret (results_blk Tryd.results9 rfl (show AggOf Tryd.prog 36 (rzC z).length from AggOf.struct Tryd.underlying36 info_rz) HB9.out) rfl
      ⟨rfl, by rw [← He.out]; exact HM9⟩
end
end Go.Proofs.Qxb6500889aDoor
