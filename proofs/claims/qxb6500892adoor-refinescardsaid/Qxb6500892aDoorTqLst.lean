/- pushHead, unlink. -/
import Derived.Test.Qxb6500892aDoorTqMem
namespace Go.Proofs.Qxb6500892aDoor
open Go.RowKit
set_option linter.unusedSimpArgs false
set_option linter.unusedVariables false

/-- An index, or none. -/
def Ix (n : Nat) (x : Int) : Prop := x = -1 ∨ ∃ k : Nat, k < n ∧ x = (k : Int)
def ph1 (s : ES) (q i : Nat) : ES := { s with whr := upd s.whr i q, prv := upd s.prv i (-1), nxt := upd s.nxt i (s.hd q) }
def ph2 (s : ES) (q i : Nat) : ES := if s.hd q = -1 then { ph1 s q i with tl := upd s.tl q (i : Int) } else { ph1 s q i with prv := upd (ph1 s q i).prv (s.hd q).toNat (i : Int) }
def pushHeadS (s : ES) (q i : Nat) : ES := { ph2 s q i with hd := upd s.hd q (i : Int), sz := upd s.sz q (s.sz q + 1) }
theorem ph2_hd (s : ES) (q i : Nat) : (ph2 s q i).hd = s.hd ∧ (ph2 s q i).sz = s.sz ∧ (ph2 s q i).n = s.n ∧ (ph2 s q i).m = s.m := by unfold ph2; split <;> exact ⟨rfl, rfl, rfl, rfl⟩
set_option maxRecDepth 100000 in
set_option maxHeartbeats 2000000 in
theorem pushHead_walk (e gn gb : Nat) (s : ES) (q i : Nat) (w : World) (h : EM e gn gb s w) (hq : q < 5) (hi : i < s.n) (hh : Ix s.n (s.hd q)) (hsz : 0 ≤ s.sz q ∧ s.sz q ≤ 1000000) :
    Calls Tryd.prog 40 #[.pointer (some ⟨e, 0, none⟩), .int .u8 (q : Int), .int .i32 (i : Int)] w fun x w' => x = .returned (.tuple #[]) ∧ EM e gn gb (pushHeadS s q i) w' ∧ U3 e gn gb w w' := by
  have HE := hid h
  have Hh := hid hh
  have q5 : (q : Int) < 5 := by omega
  have in1 : (i : Int) < (s.n : Int) := by omega
  have e0 : ∀ nn, (w.drewN nn).cell? ⟨e, 4, none⟩ = some (.slice (some ⟨gn, 0, none⟩) s.n s.n) := fun nn => h.nds
  have hz1 := hsz.1
  have hz2 := hsz.2
  clear h hh
  go_enter Tryd.func40, Tryd.ntmps40
  go_upto_region 0 with fail
  go_quiet (fail)
  have HE1 := hid (HE.out.drew nq)
  have HU1 : Hid (U3 e gn gb w (w.drewN nq)) := hid (U3.ofBelow (Drew.below ⟨nq, rfl⟩ _))
  generalize w.drewN nq = w1 at HE1 HU1 ⊢
  clear e0 HE
  obtain ⟨x, hx⟩ : ∃ x, s.hd q = x := ⟨_, rfl⟩
  have c0 : w1.cell? ⟨e, 5 + q * 3, none⟩ = some (.int .i32 x) := by rw [HE1.out.hd hq, hx]
  have E1 := HE1.out.setWhr hi q
  have E2 := E1.setPrv hi (-1)
  have E3 := E2.setNxt hi x
  have a1 := HE1.out.whr hi
  have b1 := HE1.out.nb.frozen (i * 7 + 5)
  have a2 := E1.prv hi
  have b2 := E1.nb.frozen (i * 7)
  have a3 := E2.nxt hi
  have b3 := E2.nb.frozen (i * 7 + 1)
  have HE4 : Hid (EM e gn gb (ph1 s q i) (((w1.setCell ⟨gn, i * 7 + 5, none⟩ (.int .u8 (q : Int))).setCell ⟨gn, i * 7, none⟩ (.int .i32 (-1))).setCell ⟨gn, i * 7 + 1, none⟩ (.int .i32 x))) := hid (by
    unfold ph1
    rw [hx]
    exact E3)
  have HU4 : Hid (U3 e gn gb w (((w1.setCell ⟨gn, i * 7 + 5, none⟩ (.int .u8 (q : Int))).setCell ⟨gn, i * 7, none⟩ (.int .i32 (-1))).setCell ⟨gn, i * 7 + 1, none⟩ (.int .i32 x))) := hid (((HU1.out.trans (U3.set gn _ _ (.inr (.inl rfl)))).trans (U3.set gn _ _ (.inr (.inl rfl)))).trans (U3.set gn _ _ (.inr (.inl rfl))))
  clear E1 E2 E3
  go_upto_region 2 with fail
  generalize ((w1.setCell ⟨gn, i * 7 + 5, none⟩ (.int .u8 (q : Int))).setCell ⟨gn, i * 7, none⟩ (.int .i32 (-1))).setCell ⟨gn, i * 7 + 1, none⟩ (.int .i32 x) = w2 at HE4 HU4 ⊢
  clear c0 a1 b1 a2 b2 a3 b3 HE1 HU1
  have c1 : w2.cell? ⟨e, 5 + q * 3, none⟩ = some (.int .i32 x) := by rw [HE4.out.hd hq]; unfold ph1; rw [hx]
  have hsn : (ph1 s q i).n = s.n := rfl
  have HFin : Hid (∀ w5 : World, EM e gn gb (ph2 s q i) w5 → U3 e gn gb w w5 → ∃ v1 v2 v3, w5.cell? ⟨e, 5 + q * 3, none⟩ = some v1 ∧ w5.frozen? ⟨e, 5 + q * 3, none⟩ = false ∧ (w5.setCell ⟨e, 5 + q * 3, none⟩ (.int .i32 (i : Int))).cell? ⟨e, 5 + q * 3 + 2, none⟩ = some (.int .i64 (s.sz q)) ∧ (w5.setCell ⟨e, 5 + q * 3, none⟩ (.int .i32 (i : Int))).frozen? ⟨e, 5 + q * 3 + 2, none⟩ = false ∧ Hid (EM e gn gb (pushHeadS s q i) ((w5.setCell ⟨e, 5 + q * 3, none⟩ (.int .i32 (i : Int))).setCell ⟨e, 5 + q * 3 + 2, none⟩ (.int .i64 (s.sz q + 1))) ∧ U3 e gn gb w ((w5.setCell ⟨e, 5 + q * 3, none⟩ (.int .i32 (i : Int))).setCell ⟨e, 5 + q * 3 + 2, none⟩ (.int .i64 (s.sz q + 1)))) ∧ v2 = v3) := hid (fun w5 hE hU => by
    obtain ⟨p1, p2, p3, p4⟩ := ph2_hd s q i
    have F1 := hE.setHd hq (i : Int)
    have F2 := F1.setSz hq (s.sz q + 1)
    refine ⟨_, (0 : Nat), 0, hE.hd hq, hE.eb.frozen _, ?_, F1.eb.frozen _, hid ⟨?_, (hU.trans (U3.set e _ _ (.inl rfl))).trans (U3.set e _ _ (.inl rfl))⟩, rfl⟩
    · rw [F1.sz hq]
      show some (Value.int .i64 ((ph2 s q i).sz q)) = _
      rw [p2]
    · have : pushHeadS s q i = { { ph2 s q i with hd := upd (ph2 s q i).hd q (i : Int) } with sz := upd (ph2 s q i).sz q (s.sz q + 1) } := by unfold pushHeadS; rw [p1, p2]
      rw [this]
      exact F2)
  obtain ⟨z, hz⟩ : ∃ z, s.sz q = z := ⟨_, rfl⟩
  rw [hz] at HFin hz1 hz2
  rcases Hh.out with hh | ⟨k, hk, hh⟩
  · as_aux_lemma =>
    rw [hx] at hh
    subst hh
    have dx : ((-1 : Int) != -1) = false := by decide
    have c2 : w2.cell? ⟨e, 5 + q * 3 + 1, none⟩ = some (.int .i32 (s.tl q)) := HE4.out.tl hq
    have f2 := HE4.out.eb.frozen (5 + q * 3 + 1)
    obtain ⟨v1, _, _, g1, g2, g3, g4, HG, _⟩ := HFin.out (w2.setCell ⟨e, 5 + q * 3 + 1, none⟩ (.int .i32 (i : Int))) (by unfold ph2; rw [if_pos hx]; exact HE4.out.setTl hq (i : Int)) (HU4.out.trans (U3.set e _ _ (.inl rfl)))
    clear HFin
    go_wp2
    refine bodyPost_end (results_none Tryd.results40 _ _ _) rfl ?_
    exact ⟨rfl, HG.out.1, HG.out.2⟩
  · as_aux_lemma =>
    rw [hx] at hh
    subst hh
    have dx : ((k : Int) != -1) = true := bne_iff_ne.2 (by omega)
    have kn : (k : Int) < (s.n : Int) := by omega
    obtain ⟨X, W, hT, hI⟩ := class_mk (fun w3 => EM e gn gb (ph1 s q i) w3 ∧ U3 e gn gb w w3)
    have H0 : Hid (∃ x, w2.drew = W x) := hid (hI _ ⟨HE4.out.drew 1, HU4.out.trans (U3.ofBelow (Drew.below ⟨1, rfl⟩ _))⟩)
    have hne : Nonempty X := ⟨H0.out.choose⟩
    have t0 : ∀ x, (W x).cell? ⟨e, 4, none⟩ = some (.slice (some ⟨gn, 0, none⟩) s.n s.n) := fun x => (hT x).1.nds
    have t1 : ∀ x, (W x).cell? ⟨e, 5 + q * 3, none⟩ = some (.int .i32 (k : Int)) := fun x => by rw [(hT x).1.hd hq]; unfold ph1; rw [hx]
    have HTT := hid hT
    clear hT hI
    go_upto_region 3 with fail
    refine wp_region_class_lastT W rfl (by kernel_rfl) (by kernel_rfl) (by kernel_rfl) H0.out ?_
    dsimp only [List.dropLast, List.getLast]
    repeat (go_big_quiet_step (fail))
    refine wpQuiet_nil ?_
    intro y
    have HY := hid (HTT.out y)
    generalize W y = wy at HY ⊢
    clear t0 t1 H0 HTT c1 HE4 HU4
    have c2 : wy.cell? ⟨gn, k * 7, none⟩ = some (.int .i32 ((ph1 s q i).prv k)) := HY.out.1.prv hk
    have f2 := HY.out.1.nb.frozen (k * 7)
    obtain ⟨v1, _, _, g1, g2, g3, g4, HG, _⟩ := HFin.out (wy.setCell ⟨gn, k * 7, none⟩ (.int .i32 (i : Int))) (by
      unfold ph2
      rw [if_neg (by rw [hx]; omega), hx, Int.toNat_natCast]
      exact HY.out.1.setPrv hk (i : Int)) (HY.out.2.trans (U3.set gn _ _ (.inr (.inl rfl))))
    clear HFin
    go_wp2
    refine bodyPost_end (results_none Tryd.results40 _ _ _) rfl ?_
    exact ⟨rfl, HG.out.1, HG.out.2⟩
def ul1 (s : ES) (i : Nat) : ES := if s.prv i = -1 then { s with hd := upd s.hd (s.whr i) (s.nxt i) } else { s with nxt := upd s.nxt (s.prv i).toNat (s.nxt i) }
def ul2 (s : ES) (q i : Nat) : ES := if s.nxt i = -1 then { s with tl := upd s.tl q (s.prv i) } else { s with prv := upd s.prv (s.nxt i).toNat (s.prv i) }
def ul3 (s : ES) (q i : Nat) : ES := { s with sz := upd s.sz q (s.sz q - 1), whr := upd s.whr i 0, prv := upd s.prv i (-1), nxt := upd s.nxt i (-1) }
def unlinkS (s : ES) (i : Nat) : ES := ul3 (ul2 (ul1 s i) (s.whr i) i) (s.whr i) i
theorem ul1_keep (s : ES) (i : Nat) : (ul1 s i).n = s.n ∧ (ul1 s i).sz = s.sz ∧ (ul1 s i).whr = s.whr ∧ (ul1 s i).prv = s.prv := by unfold ul1; split <;> exact ⟨rfl, rfl, rfl, rfl⟩
theorem ul2_keep (s : ES) (q i : Nat) : (ul2 s q i).n = s.n ∧ (ul2 s q i).sz = s.sz ∧ (ul2 s q i).whr = s.whr := by unfold ul2; split <;> exact ⟨rfl, rfl, rfl⟩
set_option maxRecDepth 100000 in
set_option maxHeartbeats 2000000 in
theorem unlink_walk (e gn gb : Nat) (s : ES) (i : Nat) (w : World) (h : EM e gn gb s w) (hi : i < s.n) (hq : s.whr i < 5) (hp : Ix s.n (s.prv i)) (hn : Ix s.n ((ul1 s i).nxt i)) (hsz : 0 ≤ s.sz (s.whr i) ∧ s.sz (s.whr i) ≤ 1000000) :
    Calls Tryd.prog 45 #[.pointer (some ⟨e, 0, none⟩), .int .i32 (i : Int)] w fun x w' => x = .returned (.tuple #[]) ∧ EM e gn gb (unlinkS s i) w' ∧ U3 e gn gb w w' := by
  have HE := hid h
  have Hp := hid hp
  have Hn := hid hn
  obtain ⟨q, hqq⟩ : ∃ q, s.whr i = q := ⟨_, rfl⟩
  rw [hqq] at hq hsz
  have q5 : (q : Int) < 5 := by omega
  have in1 : (i : Int) < (s.n : Int) := by omega
  have e0 : w.cell? ⟨e, 4, none⟩ = some (.slice (some ⟨gn, 0, none⟩) s.n s.n) := h.nds
  have e1 : ∀ nn, (w.drewN nn).cell? ⟨gn, i * 7 + 5, none⟩ = some (.int .u8 (q : Int)) := fun nn => by have := h.whr hi; rw [hqq] at this; exact this
  obtain ⟨z, hz⟩ : ∃ z, s.sz q = z := ⟨_, rfl⟩
  rw [hz] at hsz
  have hz1 := hsz.1
  have hz2 := hsz.2
  have Hqq := hid hqq
  have Hz := hid hz
  clear h hp hn hqq hz
  go_enter Tryd.func45, Tryd.ntmps45
  go_upto_region 1 with fail
  go_quiet (fail)
  have HE1 : Hid (EM e gn gb s (w.drewN nq) ∧ U3 e gn gb w (w.drewN nq)) := hid ⟨HE.out.drew nq, U3.ofBelow (Drew.below ⟨nq, rfl⟩ _)⟩
  generalize w.drewN nq = w1 at HE1 ⊢
  clear e0 e1 HE
  obtain ⟨x, hx⟩ : ∃ x, s.prv i = x := ⟨_, rfl⟩
  have c0 : w1.cell? ⟨gn, i * 7, none⟩ = some (.int .i32 x) := by rw [HE1.out.1.prv hi, hx]
  have Hx := hid hx
  clear hx
  go_upto_if 24 with fail
  go_cut [] from 25 to 45 (fun wc => Hid (EM e gn gb (ul1 s i) wc ∧ U3 e gn gb w wc))
  case first =>
    as_aux_lemma =>
    rcases Hp.out with hh | ⟨k, hk, hh⟩
    · as_aux_lemma =>
      rw [Hx.out] at hh
      subst hh
      obtain ⟨y, hy⟩ : ∃ y, s.nxt i = y := ⟨_, rfl⟩
      have c1 : w1.cell? ⟨gn, i * 7 + 1, none⟩ = some (.int .i32 y) := by rw [HE1.out.1.nxt hi, hy]
      have c2 : w1.cell? ⟨e, 5 + q * 3, none⟩ = some (.int .i32 (s.hd q)) := HE1.out.1.hd hq
      have f2 := HE1.out.1.eb.frozen (5 + q * 3)
      have HG : Hid (EM e gn gb (ul1 s i) (w1.setCell ⟨e, 5 + q * 3, none⟩ (.int .i32 y)) ∧ U3 e gn gb w (w1.setCell ⟨e, 5 + q * 3, none⟩ (.int .i32 y))) := hid ⟨by unfold ul1; rw [if_pos Hx.out, Hqq.out, hy]; exact HE1.out.1.setHd hq y, HE1.out.2.trans (U3.set e _ _ (.inl rfl))⟩
      clear hy
      go_wp2
      go_meet
      case rel => exact HG
    · as_aux_lemma =>
      rw [Hx.out] at hh
      subst hh
      have kn : (k : Int) < (s.n : Int) := by omega
      have dx : ((k : Int) != -1) = true := bne_iff_ne.2 (by omega)
      obtain ⟨y, hy⟩ : ∃ y, s.nxt i = y := ⟨_, rfl⟩
      obtain ⟨X, W, hT, hI⟩ := class_mk (fun w3 => EM e gn gb s w3 ∧ U3 e gn gb w w3)
      have H0 : Hid (∃ x, w1.drew = W x) := hid (hI _ ⟨HE1.out.1.drew 1, HE1.out.2.trans (U3.ofBelow (Drew.below ⟨1, rfl⟩ _))⟩)
      have hne : Nonempty X := ⟨H0.out.choose⟩
      have t0 : ∀ x, (W x).cell? ⟨e, 4, none⟩ = some (.slice (some ⟨gn, 0, none⟩) s.n s.n) := fun x => (hT x).1.nds
      have t1 : ∀ x, (W x).cell? ⟨gn, i * 7, none⟩ = some (.int .i32 (k : Int)) := fun x => by rw [(hT x).1.prv hi, Hx.out]
      have t2 : ∀ x, (W x).cell? ⟨gn, i * 7 + 1, none⟩ = some (.int .i32 y) := fun x => by rw [(hT x).1.nxt hi, hy]
      have HTT := hid hT
      clear hT hI
      go_upto_region 3 with fail
      refine wp_region_class_lastT W rfl (by kernel_rfl) (by kernel_rfl) (by kernel_rfl) H0.out ?_
      dsimp only [List.dropLast, List.getLast]
      repeat (go_big_quiet_step (fail))
      refine wpQuiet_nil ?_
      intro y'
      have HY := hid (HTT.out y')
      generalize W y' = wy at HY ⊢
      clear t0 t1 t2 H0 HTT c0 HE1
      have c2 : wy.cell? ⟨gn, k * 7 + 1, none⟩ = some (.int .i32 (s.nxt k)) := HY.out.1.nxt hk
      have f2 := HY.out.1.nb.frozen (k * 7 + 1)
      have HG : Hid (EM e gn gb (ul1 s i) (wy.setCell ⟨gn, k * 7 + 1, none⟩ (.int .i32 y)) ∧ U3 e gn gb w (wy.setCell ⟨gn, k * 7 + 1, none⟩ (.int .i32 y))) := hid ⟨by unfold ul1; rw [if_neg (by rw [Hx.out]; omega), Hx.out, Int.toNat_natCast, hy]; exact HY.out.1.setNxt hk y, HY.out.2.trans (U3.set gn _ _ (.inr (.inl rfl)))⟩
      clear hy
      go_wp2
      go_meet
      case rel => exact HG
  case rest =>
  as_aux_lemma =>
  have HE2 := hcut
  clear hcut HE1 c0
  obtain ⟨k1, k2, k3, k4⟩ := ul1_keep s i
  have HK := hid (And.intro k1 (And.intro k2 (And.intro k3 k4)))
  clear k1 k2 k3 k4
  have hi2 : i < (ul1 s i).n := by rw [HK.out.1]; exact hi
  obtain ⟨y, hy⟩ : ∃ y, (ul1 s i).nxt i = y := ⟨_, rfl⟩
  have c0 : wc.cell? ⟨gn, i * 7 + 1, none⟩ = some (.int .i32 y) := by rw [HE2.out.1.nxt hi2, hy]
  have Hy := hid hy
  clear hy
  go_upto_if 50 with fail
  go_cut [] from 51 to 71 (fun wc => Hid (EM e gn gb (ul2 (ul1 s i) q i) wc ∧ U3 e gn gb w wc))
  case first =>
    as_aux_lemma =>
    have cx : wc.cell? ⟨gn, i * 7, none⟩ = some (.int .i32 x) := by rw [HE2.out.1.prv hi2, HK.out.2.2.2, Hx.out]
    rcases Hn.out with hh | ⟨k, hk, hh⟩
    · as_aux_lemma =>
      rw [Hy.out] at hh
      subst hh
      have c2 : wc.cell? ⟨e, 5 + q * 3 + 1, none⟩ = some (.int .i32 ((ul1 s i).tl q)) := HE2.out.1.tl hq
      have f2 := HE2.out.1.eb.frozen (5 + q * 3 + 1)
      have HG : Hid (EM e gn gb (ul2 (ul1 s i) q i) (wc.setCell ⟨e, 5 + q * 3 + 1, none⟩ (.int .i32 x)) ∧ U3 e gn gb w (wc.setCell ⟨e, 5 + q * 3 + 1, none⟩ (.int .i32 x))) := hid ⟨by
        have hset := HE2.out.1.setTl hq x
        unfold ul2
        rw [if_pos Hy.out, show (ul1 s i).prv i = x by rw [HK.out.2.2.2, Hx.out]]
        exact hset, HE2.out.2.trans (U3.set e _ _ (.inl rfl))⟩
      go_wp2
      go_meet
      case rel => exact HG
    · as_aux_lemma =>
      rw [Hy.out] at hh
      subst hh
      have kn : (k : Int) < (s.n : Int) := by omega
      have hk2 : k < (ul1 s i).n := by rw [HK.out.1]; exact hk
      have dx : ((k : Int) != -1) = true := bne_iff_ne.2 (by omega)
      obtain ⟨X, W, hT, hI⟩ := class_mk (fun w3 => EM e gn gb (ul1 s i) w3 ∧ U3 e gn gb w w3)
      have H0 : Hid (∃ x, wc.drew = W x) := hid (hI _ ⟨HE2.out.1.drew 1, HE2.out.2.trans (U3.ofBelow (Drew.below ⟨1, rfl⟩ _))⟩)
      have hne : Nonempty X := ⟨H0.out.choose⟩
      have t0 : ∀ x, (W x).cell? ⟨e, 4, none⟩ = some (.slice (some ⟨gn, 0, none⟩) s.n s.n) := fun x => by rw [(hT x).1.nds, HK.out.1]
      have t1 : ∀ z, (W z).cell? ⟨gn, i * 7, none⟩ = some (.int .i32 x) := fun z => by rw [(hT z).1.prv hi2, HK.out.2.2.2, Hx.out]
      have t2 : ∀ x, (W x).cell? ⟨gn, i * 7 + 1, none⟩ = some (.int .i32 (k : Int)) := fun x => by rw [(hT x).1.nxt hi2, Hy.out]
      have HTT := hid hT
      clear hT hI
      go_upto_region 6 with fail
      refine wp_region_class_lastT W rfl (by kernel_rfl) (by kernel_rfl) (by kernel_rfl) H0.out ?_
      dsimp only [List.dropLast, List.getLast]
      repeat (go_big_quiet_step (fail))
      refine wpQuiet_nil ?_
      intro y'
      have HY := hid (HTT.out y')
      generalize W y' = wy at HY ⊢
      clear t0 t1 t2 H0 HTT c0 HE2
      have c2 : wy.cell? ⟨gn, k * 7, none⟩ = some (.int .i32 ((ul1 s i).prv k)) := HY.out.1.prv hk2
      have f2 := HY.out.1.nb.frozen (k * 7)
      have HG : Hid (EM e gn gb (ul2 (ul1 s i) q i) (wy.setCell ⟨gn, k * 7, none⟩ (.int .i32 x)) ∧ U3 e gn gb w (wy.setCell ⟨gn, k * 7, none⟩ (.int .i32 x))) := hid ⟨by
        have hset := HY.out.1.setPrv hk2 x
        unfold ul2
        rw [if_neg (by rw [Hy.out]; omega), Hy.out, Int.toNat_natCast, show (ul1 s i).prv i = x by rw [HK.out.2.2.2, Hx.out]]
        exact hset, HY.out.2.trans (U3.set gn _ _ (.inr (.inl rfl)))⟩
      go_wp2
      go_meet
      case rel => exact HG
  case rest =>
  as_aux_lemma =>
  have HE3 := hcut
  clear hcut HE2 c0
  obtain ⟨k1, k2, k3⟩ := ul2_keep (ul1 s i) q i
  have hsz3 : (ul2 (ul1 s i) q i).sz q = z := by rw [k2, HK.out.2.1]; exact Hz.out
  have hi3 : i < (ul2 (ul1 s i) q i).n := by rw [k1]; exact hi2
  have HF : Hid (unlinkS s i = ul3 (ul2 (ul1 s i) q i) q i) := hid (by unfold unlinkS; rw [Hqq.out])
  generalize ul2 (ul1 s i) q i = s3 at HE3 hsz3 hi3 HF
  have c1 : wc.cell? ⟨e, 5 + q * 3 + 2, none⟩ = some (.int .i64 z) := by rw [HE3.out.1.sz hq, hsz3]
  have f1 := HE3.out.1.eb.frozen (5 + q * 3 + 2)
  have E1 := HE3.out.1.setSz hq (z - 1)
  have E2 : EM e gn gb { s3 with sz := upd s3.sz q (z - 1), whr := upd s3.whr i 0 } ((wc.setCell ⟨e, 5 + q * 3 + 2, none⟩ (.int .i64 (z - 1))).setCell ⟨gn, i * 7 + 5, none⟩ (.int .u8 0)) := E1.setWhr hi3 0
  have E3 := E2.setPrv hi3 (-1)
  have E4 := E3.setNxt hi3 (-1)
  have a2 := E1.whr hi3
  have b2 := E1.nb.frozen (i * 7 + 5)
  have a3 := E2.prv hi3
  have b3 := E2.nb.frozen (i * 7)
  have a4 := E3.nxt hi3
  have b4 := E3.nb.frozen (i * 7 + 1)
  have HG : Hid (EM e gn gb (unlinkS s i) ((((wc.setCell ⟨e, 5 + q * 3 + 2, none⟩ (.int .i64 (z - 1))).setCell ⟨gn, i * 7 + 5, none⟩ (.int .u8 0)).setCell ⟨gn, i * 7, none⟩ (.int .i32 (-1))).setCell ⟨gn, i * 7 + 1, none⟩ (.int .i32 (-1))) ∧ U3 e gn gb w ((((wc.setCell ⟨e, 5 + q * 3 + 2, none⟩ (.int .i64 (z - 1))).setCell ⟨gn, i * 7 + 5, none⟩ (.int .u8 0)).setCell ⟨gn, i * 7, none⟩ (.int .i32 (-1))).setCell ⟨gn, i * 7 + 1, none⟩ (.int .i32 (-1)))) := hid ⟨by
    rw [HF.out]
    unfold ul3
    rw [hsz3]
    exact E4, (((HE3.out.2.trans (U3.set e _ _ (.inl rfl))).trans (U3.set gn _ _ (.inr (.inl rfl)))).trans (U3.set gn _ _ (.inr (.inl rfl)))).trans (U3.set gn _ _ (.inr (.inl rfl)))⟩
  clear E1 E2 E3 E4 HF
  go_wp2
  refine bodyPost_end (results_none Tryd.results45 _ _ _) rfl ?_
  exact ⟨rfl, HG.out.1, HG.out.2⟩
end Go.Proofs.Qxb6500892aDoor
