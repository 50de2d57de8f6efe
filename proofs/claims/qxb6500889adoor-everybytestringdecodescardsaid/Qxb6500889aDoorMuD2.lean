/- Stats. -/
import Derived.Test.Qxb6500889aDoorMuD1
namespace Go.Proofs.Qxb6500889aDoor
open Go.RowKit
set_option linter.unusedSimpArgs false
set_option linter.unusedVariables false
section
variable {w w' w'' : World} {ρ ρ' ρ'' : Rl} {L L' : HL} {T : XL} {H H' : HS} {X : XS}
theorem MM.scells2 (h : MM w ρ L T H X) : w.cell? ⟨T.xB, 274, none⟩ = some (.int .i64 0) ∧ w.cell? ⟨T.xB, 275, none⟩ = some (.int .i64 0) := by
  rw [h.xcell, h.xcell, show 274 = 268 + 6 from rfl, xC_tl, show 275 = 268 + 7 from rfl, xC_tl]
  exact ⟨rfl, rfl⟩
def stZ : Rz := ⟨0, 0, 0, 0, 0, 0, 0, 0⟩
def stY (H : HS) (X : XS) (k j : Nat) : Rz := ⟨0, 0, X.st, X.rf, X.al, X.sf, sumT (fun m => (X.tb m).ad.length) k, sumT (fun m => (H.roots m).length) j⟩
structure StW (w : World) (H : HS) (X : XS) (r k j : Nat) (wr : World) : Prop where
  b2 : Blk wr r 34 (stC stZ)
  b3 : Blk wr (r + 1) 34 (stC (stY H X k j))
  be : Below w.heap.size w wr
theorem StW.below {w : World} {H : HS} {X : XS} {r k j : Nat} {wr wz : World} (h : StW w H X r k j wr) (hb : Below wr.heap.size wr wz) : StW w H X r k j wz := ⟨h.b2.below hb, h.b3.below hb, h.be.trans (hb.mono h.be.size)⟩
theorem StW.set {w : World} {H : HS} {X : XS} {r k j i : Nat} {v : Value} {wr : World} (h : StW w H X r k j wr) {k' j' : Nat} (hw : w.heap.size ≤ r) (he : (stC (stY H X k j)).set i v = stC (stY H X k' j')) : StW w H X r k' j' (wr.setCell ⟨r + 1, i, none⟩ v) := by
  have hu : Upd (r + 1) wr (wr.setCell ⟨r + 1, i, none⟩ v) := (Upd.refl (r + 1) wr).setCell (p := ⟨r + 1, i, none⟩) rfl _
  refine ⟨h.b2.upd hu (by omega), ?_, h.be.trans (hu.below (by omega) h.be.size)⟩
  have := h.b3.set i v
  rw [he] at this
  exact this
set_option maxRecDepth 1000000 in
set_option maxHeartbeats 2000000 in
theorem stats_walk (h : MM w ρ L T H X) (hb : XB X) (hrl : ∀ m, m < 4 → (H.roots m).length ≤ 64) :
    Calls Tryd.prog 27 #[.pointer (some ⟨T.xB, 0, none⟩)] w fun e w' => e = .returned (.agg (stC (stX H X 4)).toArray) ∧ Below w.heap.size w w' := by
  obtain ⟨r, hr⟩ : ∃ r, w.heap.size = r := ⟨_, rfl⟩
  have HH := hid h
  have HXb := hid hb
  have Hrl := hid hrl
  obtain ⟨w1, hw1⟩ : ∃ w1, w.alloc (.cells (stC stZ).toArray 34) = w1 := ⟨_, rfl⟩
  have hbe1 : Below w.heap.size w w1 := by rw [← hw1]; exact nbel w _
  have hz1 : w1.heap.size = r + 1 := by rw [← hw1, ← hr]; simp
  have hbk1 : Blk w1 r 34 (stC stZ) := by rw [← hw1, ← hr]; exact Blk.new w (stC stZ) 34
  have h1 := h.below hbe1
  have hs := h1.scells
  have hs2 := h1.scells2
  have hb1 := hbk1.alloc (.cells (stC stZ).toArray 34)
  have hb2 := Blk.new w1 (stC stZ) 34
  have hbe : Below w.heap.size w (w1.alloc (.cells (stC stZ).toArray 34)) := hbe1.alloc (by omega) _
  rw [hz1] at hb2
  have HB1 := hid hb1
  have HB2 := hid hb2
  have HBe := hid hbe
  have Hr := hid hr
  obtain ⟨xB, hxB⟩ : ∃ b, T.xB = b := ⟨_, rfl⟩
  have HxB := hid hxB
  rw [hxB] at hs hs2
  rw [hxB]
  obtain ⟨c1, c2, c3, c4⟩ := hs
  obtain ⟨c5, c6⟩ := hs2
  have I0 : Hid ((Tryd.prog.info? 34).map (·.size) = some (stC (stY H X 0 0)).length) := hid info_st
  have I4 : Hid ((Tryd.prog.info? 34).map (·.size) = some (stC (stY H X 4 4)).length) := hid info_st
  have Hw1 := hid hw1
  have Hz1 := hid hz1
  clear hb1 hb2 hbe h hb hrl hxB h1 hbk1 hbe1 hw1 hz1
  go_enter Tryd.func27, Tryd.ntmps27
  go_upto_region 1 with fail
  rw [show w.alloc (Obj.cells #[Value.int .u64 0, Value.int .u64 0, Value.int .u64 0, Value.int .u64 0, Value.int .i64 0, Value.int .i64 0] 34) = w1 from Hw1.out]
  have hz1 := Hz1.out
  clear Hw1 hr
  go_wp2_with (refine wpList_store_blk rfl 34 _ _ rfl (r + 1) rfl (stC (stY H X 0 0)) rfl HB2.out rfl I0.out (fun v hv => by simp [stC, stY, sumT] at hv; rcases hv with rfl | rfl | rfl | rfl | rfl | rfl <;> rfl) ?_; intro w9 HB9 HU9)
  have HS0 : Hid (StW w H X r 0 0 w9) := hid ⟨HB1.out.upd HU9.out (by omega), HB9.out, HBe.out.trans (HU9.out.below (by rw [Hr.out]; omega) HBe.out.size)⟩
  clear HB1 HB2 HB9 HU9 HBe c1 c2 c3 c4 c5 c6 hz1 Hz1 I0
  go_loopw [9] (fun v wr => ∃ k : Nat, k ≤ 4 ∧ v = .int .i64 (k : Int) ∧ Hid (StW w H X r k k wr)) (fun v _ => 4 - (intOf v).toNat)
  case atStart => exact ⟨0, by omega, rfl, HS0⟩
  case round =>
    obtain ⟨k, hk, rfl, HS⟩ := hrel
    by_cases hlt : k < 4
    rotate_left
    · as_aux_lemma =>
      have hk4 : k = 4 := by omega
      subst hk4
      go_upto_region 8 with fail
      go_wp2_with (first | (refine wpList_load_blk rfl 34 _ rfl (r + 1) rfl (stC (stY H X 4 4)) HS.out.b3 _ Tryd.underlying34 rfl I4.out ?_) | (refine wpList_store_blk rfl 34 _ _ rfl r rfl (stC (stY H X 4 4)) rfl HS.out.b2 rfl I4.out (fun v hv => by simp [stC, stY] at hv; rcases hv with rfl | rfl | rfl | rfl | rfl | rfl <;> rfl) ?_; intro w8 HB8 HU8))
      exact bodyPost_ret (results_blk Tryd.results27 rfl (show AggOf Tryd.prog 34 (stC (stY H X 4 4)).length from AggOf.struct Tryd.underlying34 info_st) HB8.out) rfl
        ⟨rfl, HS.out.be.trans (HU8.out.below (by rw [Hr.out]; omega) HS.out.be.size)⟩
    clear hk HS0
    have dk : decide ((k : Int) < 4) = true := decide_eq_true (by omega)
    have i1 : (k : Int) < 4 := by omega
    obtain ⟨nh, hnh⟩ : ∃ n, sumT (fun m => (X.tb m).ad.length) k = n := ⟨_, rfl⟩
    obtain ⟨nr, hnr⟩ : ∃ n, sumT (fun m => (H.roots m).length) k = n := ⟨_, rfl⟩
    obtain ⟨ln, hln⟩ : ∃ n, (X.tb k).ad.length = n := ⟨_, rfl⟩
    obtain ⟨lr, hlr⟩ : ∃ n, (H.roots k).length = n := ⟨_, rfl⟩
    have b1 : nh ≤ 512 := by have := sumT_le (c := 128) (f := fun m => (X.tb m).ad.length) (fun m hm => HXb.out.len m) k (by omega); omega
    have b2 : nr ≤ 256 := by have := sumT_le (c := 64) (f := fun m => (H.roots m).length) (fun m hm => Hrl.out m hm) k (by omega); omega
    have b3 : ln ≤ 128 := by rw [← hln]; exact HXb.out.len k
    have b4 : lr ≤ 64 := by rw [← hlr]; exact Hrl.out k hlt
    obtain ⟨ta, tc, htv⟩ := (HH.out.tr k hlt).shape
    rw [hln] at htv
    have e1 : sumT (fun m => (X.tb m).ad.length) (k + 1) = nh + ln := by show sumT _ k + _ = _; rw [hnh]; exact congrArg _ hln
    have e2 : sumT (fun m => (H.roots m).length) (k + 1) = nr + lr := by show sumT _ k + _ = _; rw [hnr]; exact congrArg _ hlr
    have HE1 : Hid ((stC (stY H X k k)).set 4 (.int .i64 ((nh : Int) + (ln : Int))) = stC (stY H X (k + 1) k)) := hid (by unfold stY; rw [e1]; simp [stC])
    have HE2 : Hid ((stC (stY H X (k + 1) k)).set 5 (.int .i64 ((nr : Int) + (lr : Int))) = stC (stY H X (k + 1) (k + 1))) := hid (by unfold stY; rw [e2]; simp [stC])
    have hc4 := HS.out.b3.cell 4
    have hc5 := HS.out.b3.cell 5
    have Hm : Hid (∀ wz, Below wr.heap.size wr wz → wz.cell? ⟨r + 1, 4, none⟩ = some (.int .i64 (nh : Int)) ∧ wz.cell? ⟨xB, 1 + k * 3 + 2, none⟩ = some (.slice ta ln tc)) := hid (fun wz hz => by
      have h1 := HS.out.below hz
      have h2 := (HH.out.below h1.be).tcells hlt
      refine ⟨?_, ?_⟩
      · rw [h1.b3.cell 4]; unfold stY; rw [hnh]; rfl
      · have h3 := h2.2.2; rw [htv, HxB.out] at h3; exact h3)
    have hlr' := hid hlr
    have hnr' := hid hnr
    clear hln hlr htv e1 e2 hc4 hc5 hnr
    go_upto_region 5 with fail
    refine wp_region_heavy (fun wz => Below wr.heap.size wr wz) 11 [0, 1, 2, 3, 4, 5, 6, 7, 8, 9, 10] [] rfl (by kernel_rfl) (by kernel_rfl) (fun d _ _ _ _ h => by cases d <;> exact h) (Drew.below ⟨1, rfl⟩ _) ?_
    apply Exists.intro
    refine ⟨?_, ?_⟩
    · intro W hW
      have d0 : ∀ x, (W x).cell? ⟨r + 1, 4, none⟩ = some (.int .i64 (nh : Int)) := fun x => (Hm.out _ (hW x)).1
      have d1 : ∀ x, (W x).cell? ⟨xB, 1 + k * 3 + 2, none⟩ = some (.slice ta ln tc) := fun x => (Hm.out _ (hW x)).2
      clear hW
      simp only [List.take, opsAt, List.drop, List.cons_append, List.nil_append]
      repeat (go_big_quiet_step (fail))
      exact rfl
    simp only [List.take, List.drop, opsAt, List.cons_append, List.nil_append, wpHv]
    have HS1 : Hid (StW w H X r k k wr.drew) := hid (HS.out.below (Drew.below ⟨1, rfl⟩ _))
    generalize wr.drew = w2 at HS1 ⊢
    simp only [QN]
    clear HS Hm hnh
    have d5 := HS1.out.b3.cell 4
    have d6 := HS1.out.b3.frozen 4
    go_upto_region 6 with fail
    have HS2 : Hid (StW w H X r (k + 1) k (w2.setCell ⟨r + 1, 4, none⟩ (.int .i64 ((nh : Int) + (ln : Int))))) := hid (HS1.out.set (by rw [Hr.out]; exact Nat.le_refl _) HE1.out)
    generalize w2.setCell ⟨r + 1, 4, none⟩ (.int .i64 ((nh : Int) + (ln : Int))) = w3 at HS2 ⊢
    clear HS1 d5 d6 HE1
    have Hm2 : Hid (∀ wz, Below w3.heap.size w3 wz → wz.cell? ⟨r + 1, 5, none⟩ = some (.int .i64 (nr : Int)) ∧ wz.cell? ⟨xB, 0, none⟩ = some (.pointer (some ⟨L.hB, 0, none⟩)) ∧ Calls Tryd.prog 45 #[.pointer (some ⟨L.hB, 0, none⟩), .int .i64 (k : Int)] wz fun e w' => e = .returned (.int .i64 (lr : Int)) ∧ w' = wz) := hid (fun wz hz => by
      have h1 := HS2.out.below hz
      have h2 := HH.out.below h1.be
      refine ⟨?_, ?_, ?_⟩
      · rw [h1.b3.cell 5]; unfold stY; rw [hnr'.out]; rfl
      · have h3 := h2.heapP; rw [HxB.out] at h3; exact h3
      · have h3 := depth_walk h2.hm hlt; rw [hlr'.out] at h3; exact h3)
    refine wp_region_heavy (fun wz => Below w3.heap.size w3 wz) 9 [0, 1, 2, 3, 4, 5, 6, 7, 8] [] rfl (by kernel_rfl) (by kernel_rfl) (fun d _ _ _ _ h => by cases d <;> exact h) (Drew.below ⟨1, rfl⟩ _) ?_
    apply Exists.intro
    refine ⟨?_, ?_⟩
    · intro W hW
      have d0 : ∀ x, (W x).cell? ⟨r + 1, 5, none⟩ = some (.int .i64 (nr : Int)) := fun x => (Hm2.out _ (hW x)).1
      have d1 : ∀ x, (W x).cell? ⟨xB, 0, none⟩ = some (.pointer (some ⟨L.hB, 0, none⟩)) := fun x => (Hm2.out _ (hW x)).2.1
      have HD := hid (fun x => (Hm2.out _ (hW x)).2.2)
      clear hW
      simp only [List.take, opsAt, List.drop, List.cons_append, List.nil_append]
      repeat (go_big_quiet_step ((go_at_call 45; exact Calls.class_same (HD.out _))))
      exact rfl
    simp only [List.take, List.drop, opsAt, List.cons_append, List.nil_append, wpHv]
    have HS3 : Hid (StW w H X r (k + 1) k w3.drew) := hid (HS2.out.below (Drew.below ⟨1, rfl⟩ _))
    generalize w3.drew = w4 at HS3 ⊢
    simp only [QN]
    clear HS2 Hm2
    have d5 := HS3.out.b3.cell 5
    have d6 := HS3.out.b3.frozen 5
    go_wp2
    refine ⟨⟨k + 1, by omega, by go_num, hid (HS3.out.set (by rw [Hr.out]; exact Nat.le_refl _) HE2.out)⟩, by simp [intOf]; omega⟩
end
end Go.Proofs.Qxb6500889aDoor
