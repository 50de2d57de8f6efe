/- The model: stats. -/
import Derived.Test.Qxb6500889aDoorMuN3
namespace Go.Proofs.Qxb6500889aDoor
open Go.RowKit
set_option linter.unusedSimpArgs false
set_option linter.unusedVariables false
def mStY (M : MS) (k j : Nat) : Rz := ⟨0, 0, M.st, M.rf, M.objs.length, M.sf, sumT (fun m => (M.held m).length) k, sumT (fun m => (M.roots m).length) j⟩
structure SmW (w : World) (M : MS) (r p k j : Nat) (wr : World) : Prop where
  b2 : Blk wr r 34 (stC stZ)
  b3 : Blk wr p 34 (stC (mStY M k j))
  be : Below w.heap.size w wr
  hr : w.heap.size ≤ r
  rp : r < p
section
variable {w w' w'' wr wz : World} {σ : Rl} {N : ML} {M : MS} {n r p k j : Nat}
theorem SmW.below (h : SmW w M r p k j wr) (hb : Below wr.heap.size wr wz) : SmW w M r p k j wz := ⟨h.b2.below hb, h.b3.below hb, h.be.trans (hb.mono h.be.size), h.hr, h.rp⟩
theorem SmW.set {i : Nat} {v : Value} (h : SmW w M r p k j wr) {k' j' : Nat} (he : (stC (mStY M k j)).set i v = stC (mStY M k' j')) : SmW w M r p k' j' (wr.setCell ⟨p, i, none⟩ v) := by
  have hu : Upd p wr (wr.setCell ⟨p, i, none⟩ v) := (Upd.refl p wr).setCell (p := ⟨p, i, none⟩) rfl _
  have h1 := h.hr
  have h2 := h.rp
  refine ⟨h.b2.upd hu (by omega), ?_, h.be.trans (hu.below (by omega) h.be.size), h1, h2⟩
  have := h.b3.set i v
  rw [he] at this
  exact this
set_option maxRecDepth 1000000 in
set_option maxHeartbeats 2000000 in
theorem mstats_walk (h : MN w σ N M) (hb : MBd M n) (hn : n ≤ 100000000000) :
    Calls Tryd.prog 41 #[.pointer (some ⟨N.mB, 0, none⟩)] w fun e w' => e = .returned (.agg (stC (mStat M)).toArray) ∧ Below w.heap.size w w' := by
  obtain ⟨r, hr⟩ : ∃ r, w.heap.size = r := ⟨_, rfl⟩
  obtain ⟨mB, hmB⟩ : ∃ b, N.mB = b := ⟨_, rfl⟩
  obtain ⟨no, hno⟩ : ∃ b, M.objs.length = b := ⟨_, rfl⟩
  obtain ⟨oa, ok, hov⟩ : ∃ a k, N.ov = .slice a no k := by
    rcases h.pt.ow.2 with ⟨e, h0⟩ | ⟨g, cap, cur, e, _⟩
    · rw [hno] at h0; exact ⟨none, 0, by rw [e, h0]⟩
    · rw [hno] at e; exact ⟨_, _, e⟩
  have HC : Hid (∀ wz, Below w.heap.size w wz → wz.cell? ⟨mB, 15, none⟩ = some (.int .u64 (M.st : Int)) ∧ wz.cell? ⟨mB, 16, none⟩ = some (.int .u64 (M.rf : Int)) ∧ wz.cell? ⟨mB, 17, none⟩ = some (.int .u64 (M.sf : Int)) ∧ wz.cell? ⟨mB, 0, none⟩ = some (.slice oa no ok)) := hid (fun wz hz => by
    have q := fun i => (h.below hz).cell i
    rw [hmB] at q
    exact ⟨q 15, q 16, q 17, by rw [q 0, ← hov]; rfl⟩)
  have HR : Hid (∀ m, m < 4 → ∃ a1 k1 a2 k2, ∀ wz, Below w.heap.size w wz → wz.cell? ⟨mB, 5 + m, none⟩ = some (.slice a1 (M.held m).length k1) ∧ wz.cell? ⟨mB, 1 + m, none⟩ = some (.slice a2 (M.roots m).length k2)) := hid (fun m hm => by
    obtain ⟨a1, k1, e1⟩ := (h.pt.hd m hm).shape
    obtain ⟨a2, k2, e2⟩ := (h.pt.rt m hm).shape
    refine ⟨a1, k1, a2, k2, fun wz hz => ?_⟩
    have := (h.below hz).rcell hm
    rw [hmB, e1, e2] at this
    exact ⟨this.2.1, this.1⟩)
  have HBd := hid hb
  have Hno := hid hno
  have no9 : (no : Int) ≤ 100000000000 := by have := hb.ob; omega
  have ISt : Hid ((Tryd.prog.info? 34).map (·.size) = some 6) := hid info_st
  obtain ⟨w1, hw1⟩ : ∃ w1, w.alloc (.cells (stC stZ).toArray 34) = w1 := ⟨_, rfl⟩
  have HF1 : Hid (Below w.heap.size w w1 ∧ Blk w1 r 34 (stC stZ)) := hid ⟨by rw [← hw1]; exact nbel _ _, by have := Blk.new w (stC stZ) 34; rw [hr, hw1] at this; exact this⟩
  have hw1' : w.alloc (.cells #[.int .u64 0, .int .u64 0, .int .u64 0, .int .u64 0, .int .i64 0, .int .i64 0] 34) = w1 := hw1
  have Hr := hid hr
  rw [hmB]
  clear h hb hmB hov hno hw1
  go_enter Tryd.func41, Tryd.ntmps41
  go_upto_region 1 with fail
  clear hw1' hr
  refine wp_region_heavy (fun wz => Below w.heap.size w wz) 20 [0, 1, 2, 3, 4, 5, 6, 7, 8, 9, 10, 11, 12, 13, 14, 15, 16, 17, 18] [19] rfl (by kernel_rfl) (by kernel_rfl) (fun d _ _ _ _ h => by cases d <;> exact h) (HF1.out.1.trans (Drew.below ⟨1, rfl⟩ _)) ?_
  apply Exists.intro
  refine ⟨?_, ?_⟩
  · intro W hW
    have q0 : ∀ x, (W x).cell? ⟨mB, 15, none⟩ = some (.int .u64 (M.st : Int)) := fun x => (HC.out _ (hW x)).1
    have q1 : ∀ x, (W x).cell? ⟨mB, 16, none⟩ = some (.int .u64 (M.rf : Int)) := fun x => (HC.out _ (hW x)).2.1
    have q2 : ∀ x, (W x).cell? ⟨mB, 17, none⟩ = some (.int .u64 (M.sf : Int)) := fun x => (HC.out _ (hW x)).2.2.1
    have q3 : ∀ x, (W x).cell? ⟨mB, 0, none⟩ = some (.slice oa no ok) := fun x => (HC.out _ (hW x)).2.2.2
    clear hW
    simp only [List.take, opsAt, List.drop, List.cons_append, List.nil_append]
    repeat (go_big_quiet_step (fail))
    exact rfl
  simp only [List.take, List.drop, opsAt, List.cons_append, List.nil_append, wpHv]
  have HF2 : Hid (Below w.heap.size w w1.drew ∧ Blk w1.drew r 34 (stC stZ)) := hid ⟨HF1.out.1.trans (Drew.below ⟨1, rfl⟩ _), HF1.out.2.below (Drew.below ⟨1, rfl⟩ _)⟩
  generalize w1.drew = wd at HF2 ⊢
  clear HF1
  obtain ⟨p, hp⟩ : ∃ p, wd.heap.size = p := ⟨_, rfl⟩
  obtain ⟨w2, hw2⟩ : ∃ x, wd.alloc (.cells (stC stZ).toArray 34) = x := ⟨_, rfl⟩
  have HF3 : Hid (Below w.heap.size w w2 ∧ Blk w2 r 34 (stC stZ) ∧ Blk w2 p 34 (stC stZ) ∧ r < p) := hid (by
    have hbn : Below wd.heap.size wd w2 := by rw [← hw2]; exact nbel _ _
    refine ⟨HF2.out.1.trans (hbn.mono HF2.out.1.size), HF2.out.2.below hbn, ?_, by have := HF2.out.2.lt; omega⟩
    have := Blk.new wd (stC stZ) 34
    rw [hp, hw2] at this
    exact this)
  go_wp2_with fail
  rw [show wd.alloc (.cells #[.int .u64 0, .int .u64 0, .int .u64 0, .int .u64 0, .int .i64 0, .int .i64 0] 34) = w2 from hw2]
  try rw [hp]
  clear hw2 hp HF2
  refine ⟨HF3.out.1, ?_⟩
  simp only [QN]
  go_wp2_with (refine wpList_store_blk rfl 34 _ _ rfl p rfl (stC ⟨0, 0, M.st, M.rf, no, M.sf, 0, 0⟩) rfl HF3.out.2.2.1 rfl ISt.out (fun v hv => by simp [stC] at hv; rcases hv with rfl | rfl | rfl | rfl | rfl | rfl <;> rfl) ?_; intro w3 HB3 HU3)
  have HS0 : Hid (SmW w M r p 0 0 w3) := hid ⟨HF3.out.2.1.upd HU3.out (by have := HF3.out.2.2.2; omega), by have := HB3.out; rw [← Hno.out] at this; exact this, HF3.out.1.trans (HU3.out.below (by have := HF3.out.2.2.2; have := Hr.out; omega) HF3.out.1.size), by rw [Hr.out]; omega, HF3.out.2.2.2⟩
  clear HF3 HB3 HU3
  go_loopw [4] (fun v wr => ∃ k : Nat, k ≤ 4 ∧ v = .int .i64 (k : Int) ∧ Hid (SmW w M r p k k wr)) (fun v _ => 4 - (intOf v).toNat)
  case atStart => exact ⟨0, by omega, rfl, HS0⟩
  case round =>
    clear HS0
    obtain ⟨k, hk, rfl, HS⟩ := hrel
    by_cases hlt : k < 4
    rotate_left
    · as_aux_lemma =>
      have hk4 : k = 4 := by omega
      subst hk4
      rw [show ((4 : Nat) : Int) = 4 from rfl]
      have I4 : Hid ((Tryd.prog.info? 34).map (·.size) = some (stC (mStY M 4 4)).length) := hid info_st
      go_upto_region 7 with fail
      go_wp2_with (first | (refine wpList_load_blk rfl 34 _ rfl p rfl (stC (mStY M 4 4)) HS.out.b3 _ Tryd.underlying34 rfl I4.out ?_) | (refine wpList_store_blk rfl 34 _ _ rfl r rfl (stC (mStY M 4 4)) rfl HS.out.b2 rfl I4.out (fun v hv => by simp [stC, mStY] at hv; rcases hv with rfl | rfl | rfl | rfl | rfl | rfl <;> rfl) ?_; intro w8 HB8 HU8))
      exact bodyPost_ret (results_blk Tryd.results41 rfl (show AggOf Tryd.prog 34 (stC (mStY M 4 4)).length from AggOf.struct Tryd.underlying34 info_st) HB8.out) rfl
        ⟨rfl, HS.out.be.trans (HU8.out.below HS.out.hr HS.out.be.size)⟩
    as_aux_lemma =>
    have dk : decide ((k : Int) < 4) = true := decide_eq_true (by omega)
    have i1 : (k : Int) < 4 := by omega
    obtain ⟨a1, k1, a2, k2, hcc⟩ := HR.out k hlt
    obtain ⟨nh, hnh⟩ : ∃ n, sumT (fun m => (M.held m).length) k = n := ⟨_, rfl⟩
    obtain ⟨nr, hnr⟩ : ∃ n, sumT (fun m => (M.roots m).length) k = n := ⟨_, rfl⟩
    obtain ⟨ln, hln⟩ : ∃ n, (M.held k).length = n := ⟨_, rfl⟩
    obtain ⟨lr, hlr⟩ : ∃ n, (M.roots k).length = n := ⟨_, rfl⟩
    rw [hln, hlr] at hcc
    have HCC := hid hcc
    have b1 : nh ≤ 512 := by have := sumT_le (c := 128) (f := fun m => (M.held m).length) (fun m hm => HBd.out.hd m hm) k (by omega); omega
    have b2 : nr ≤ 256 := by have := sumT_le (c := 64) (f := fun m => (M.roots m).length) (fun m hm => HBd.out.rt m hm) k (by omega); omega
    have b3 : ln ≤ 128 := by rw [← hln]; exact HBd.out.hd k hlt
    have b4 : lr ≤ 64 := by rw [← hlr]; exact HBd.out.rt k hlt
    have e1 : sumT (fun m => (M.held m).length) (k + 1) = nh + ln := by show sumT _ k + _ = _; rw [hnh]; exact congrArg _ hln
    have e2 : sumT (fun m => (M.roots m).length) (k + 1) = nr + lr := by show sumT _ k + _ = _; rw [hnr]; exact congrArg _ hlr
    have HE1 : Hid ((stC (mStY M k k)).set 4 (.int .i64 ((nh : Int) + (ln : Int))) = stC (mStY M (k + 1) k)) := hid (by unfold mStY; rw [e1]; simp [stC])
    have HE2 : Hid ((stC (mStY M (k + 1) k)).set 5 (.int .i64 ((nr : Int) + (lr : Int))) = stC (mStY M (k + 1) (k + 1))) := hid (by unfold mStY; rw [e2]; simp [stC])
    have Hm : Hid (∀ wz, Below wr.heap.size wr wz → wz.cell? ⟨p, 4, none⟩ = some (.int .i64 (nh : Int)) ∧ Below w.heap.size w wz) := hid (fun wz hz => by
      have h1 := HS.out.below hz
      exact ⟨by rw [h1.b3.cell 4]; unfold mStY; rw [hnh]; rfl, h1.be⟩)
    have Hnr := hid hnr
    clear hcc hnh hnr hln hlr e1 e2
    go_upto_region 5 with fail
    refine wp_region_heavy (fun wz => Below wr.heap.size wr wz) 10 [0, 1, 2, 3, 4, 5, 6, 7, 8, 9] [] rfl (by kernel_rfl) (by kernel_rfl) (fun d _ _ _ _ h => by cases d <;> exact h) (Drew.below ⟨1, rfl⟩ _) ?_
    apply Exists.intro
    refine ⟨?_, ?_⟩
    · intro W hW
      have d0 : ∀ x, (W x).cell? ⟨p, 4, none⟩ = some (.int .i64 (nh : Int)) := fun x => (Hm.out _ (hW x)).1
      have d1 : ∀ x, (W x).cell? ⟨mB, 5 + k, none⟩ = some (.slice a1 ln k1) := fun x => (HCC.out _ (Hm.out _ (hW x)).2).1
      clear hW
      simp only [List.take, opsAt, List.drop, List.cons_append, List.nil_append]
      repeat (go_big_quiet_step (fail))
      exact rfl
    simp only [List.take, List.drop, opsAt, List.cons_append, List.nil_append, wpHv]
    have HS1 : Hid (SmW w M r p k k wr.drew) := hid (HS.out.below (Drew.below ⟨1, rfl⟩ _))
    generalize wr.drew = w2 at HS1 ⊢
    simp only [QN]
    clear HS Hm
    have d5 := HS1.out.b3.cell 4
    have d6 := HS1.out.b3.frozen 4
    go_upto_region 6 with fail
    have HS2 : Hid (SmW w M r p (k + 1) k (w2.setCell ⟨p, 4, none⟩ (.int .i64 ((nh : Int) + (ln : Int))))) := hid (HS1.out.set HE1.out)
    generalize w2.setCell ⟨p, 4, none⟩ (.int .i64 ((nh : Int) + (ln : Int))) = w3 at HS2 ⊢
    clear HS1 d5 d6 HE1
    have Hm2 : Hid (∀ wz, Below w3.heap.size w3 wz → wz.cell? ⟨p, 5, none⟩ = some (.int .i64 (nr : Int)) ∧ Below w.heap.size w wz) := hid (fun wz hz => by
      have h1 := HS2.out.below hz
      exact ⟨by rw [h1.b3.cell 5]; unfold mStY; rw [Hnr.out]; rfl, h1.be⟩)
    refine wp_region_heavy (fun wz => Below w3.heap.size w3 wz) 10 [0, 1, 2, 3, 4, 5, 6, 7, 8, 9] [] rfl (by kernel_rfl) (by kernel_rfl) (fun d _ _ _ _ h => by cases d <;> exact h) (Drew.below ⟨1, rfl⟩ _) ?_
    apply Exists.intro
    refine ⟨?_, ?_⟩
    · intro W hW
      have d0 : ∀ x, (W x).cell? ⟨p, 5, none⟩ = some (.int .i64 (nr : Int)) := fun x => (Hm2.out _ (hW x)).1
      have d1 : ∀ x, (W x).cell? ⟨mB, 1 + k, none⟩ = some (.slice a2 lr k2) := fun x => (HCC.out _ (Hm2.out _ (hW x)).2).2
      clear hW
      simp only [List.take, opsAt, List.drop, List.cons_append, List.nil_append]
      repeat (go_big_quiet_step (fail))
      exact rfl
    simp only [List.take, List.drop, opsAt, List.cons_append, List.nil_append, wpHv]
    have HS3 : Hid (SmW w M r p (k + 1) k w3.drew) := hid (HS2.out.below (Drew.below ⟨1, rfl⟩ _))
    generalize w3.drew = w4 at HS3 ⊢
    simp only [QN]
    clear HS2 Hm2
    have d5 := HS3.out.b3.cell 5
    have d6 := HS3.out.b3.frozen 5
    go_wp2
    refine ⟨⟨k + 1, by omega, by go_num, hid (HS3.out.set HE2.out)⟩, by simp [intOf]; omega⟩
end
end Go.Proofs.Qxb6500889aDoor
