/- sameTables (written by tools/mk_stb.py). -/
import Derived.Test.Qxb6500889aDoorMuA1
import Derived.Test.Qxb6500889aDoorMuP7
import Derived.Test.Qxb6500889aDoorTree
namespace Go.Proofs.Qxb6500889aDoor
open Go.RowKit
set_option linter.unusedSimpArgs false
set_option linter.unusedVariables false
/-- New memory only, and some new blocks. -/
structure FB (w : World) (xs : List XBk) (wz : World) : Prop where
  bel : Below w.heap.size w wz
  bl : ∀ x ∈ xs, Blk wz x.1 x.2.1 x.2.2 ∧ w.heap.size ≤ x.1
  nd : (xs.map (·.1)).Nodup
section
variable {w wz w' : World} {xs : List XBk}
theorem FB.start (h : Below w.heap.size w wz) : FB w [] wz := ⟨h, fun x hx => (by cases hx), List.nodup_nil⟩
theorem FB.below (h : FB w xs wz) (hb : Below wz.heap.size wz w') : FB w xs w' := ⟨h.bel.trans (hb.mono h.bel.size), fun x hx => ⟨(h.bl x hx).1.below hb, (h.bl x hx).2⟩, h.nd⟩
theorem FB.alloc (h : FB w xs wz) (cs : List Value) (t : TypeId) : FB w ((wz.heap.size, t, cs) :: xs) (wz.alloc (.cells cs.toArray t)) := by
  have hb := nbel wz (.cells cs.toArray t)
  refine ⟨h.bel.trans (hb.mono h.bel.size), fun x hx => ?_, ?_⟩
  · rcases List.mem_cons.1 hx with rfl | hx
    · exact ⟨Blk.new wz cs t, h.bel.size⟩
    · exact ⟨(h.bl x hx).1.below hb, (h.bl x hx).2⟩
  · rw [List.map_cons, List.nodup_cons]
    refine ⟨fun hm => ?_, h.nd⟩
    obtain ⟨x, hx, he⟩ := List.mem_map.1 hm
    have := (h.bl x hx).1.lt
    omega
theorem FB.set (h : FB w xs wz) {i g : Nat} {t : TypeId} {cs cs' : List Value} (hi : xs[i]? = some (g, t, cs)) (hb : Blk w' g t cs') (hu : Upd g wz w') : FB w (xs.set i (g, t, cs')) w' := by
  obtain ⟨hm1, hm2⟩ := set_spec h.nd (cs' := cs') hi
  obtain ⟨b1, b2⟩ := h.bl _ (List.mem_of_getElem? hi)
  refine ⟨h.bel.trans (hu.below b2 h.bel.size), fun x hx => ?_, by rw [hm2]; exact h.nd⟩
  rcases hm1 x hx with rfl | ⟨hx, hne⟩
  · exact ⟨hb, b2⟩
  · exact ⟨(h.bl x hx).1.upd hu hne, (h.bl x hx).2⟩
end
theorem st_one (z : Rz) : ∀ v ∈ stC z, v.oneCell' = true := by
  intro v hv
  simp [stC] at hv
  rcases hv with rfl | rfl | rfl | rfl | rfl | rfl <;> rfl
/-- Two machines of the same tables. -/
structure SmT (H1 : HS) (X1 : XS) (H2 : HS) (X2 : XS) : Prop where
  tb : ∀ m, m < 4 → X1.tb m = X2.tb m
  rt : ∀ m, m < 4 → (H1.roots m).length = (H2.roots m).length
  al : X1.al = X2.al
  sf : X1.sf = X2.sf
theorem SmT.tgt {H1 H2 : HS} {X1 X2 : XS} (h : SmT H1 X1 H2 X2) {m : Nat} (hm : m < 4) (v : Nat) : tgtX X2 m v = tgtX X1 m v := by
  unfold tgtX lookX
  rw [h.tb m hm]
theorem SmT.st {H1 H2 : HS} {X1 X2 : XS} (h : SmT H1 X1 H2 X2) : (stX H2 X2 4).h = (stX H1 X1 4).h ∧ (stX H2 X2 4).r = (stX H1 X1 4).r ∧ (stX H2 X2 4).d = (stX H1 X1 4).d ∧ (stX H2 X2 4).e = (stX H1 X1 4).e := by
  refine ⟨?_, ?_, h.al.symm, h.sf.symm⟩
  · show sumT _ 4 = sumT _ 4
    simp only [sumT]
    rw [h.tb 0 (by omega), h.tb 1 (by omega), h.tb 2 (by omega), h.tb 3 (by omega)]
  · show sumT _ 4 = sumT _ 4
    simp only [sumT]
    rw [h.rt 0 (by omega), h.rt 1 (by omega), h.rt 2 (by omega), h.rt 3 (by omega)]
section
variable {w w' : World} {ρ1 ρ2 : Rl} {L1 L2 : HL} {T1 T2 : XL} {V1 V2 : WL} {H1 H2 : HS} {X1 X2 : XS} {ks1 ks2 : Nat → List Nat} {G : List Nat}
set_option maxRecDepth 1000000 in
set_option maxHeartbeats 8000000 in
theorem sameTables_walk (hA : WK w ρ1 L1 T1 V1 H1 X1 ks1 G) (hB : WK w ρ2 L2 T2 V2 H2 X2 ks2 G) (x1 : XB X1) (x2 : XB X2) (r1 : ∀ m, m < 4 → (H1.roots m).length ≤ 64) (r2 : ∀ m, m < 4 → (H2.roots m).length ≤ 64) (hs : SmT H1 X1 H2 X2) (hg : ∀ h, h ∈ G → h < 18446744073709551616) (hgl : G.length ≤ 100000000000) :
    Calls Tryd.prog 12 #[.pointer (some ⟨V1.wB, 0, none⟩), .pointer (some ⟨V2.wB, 0, none⟩)] w fun e w' => e = .returned (.bool true) ∧ Below w.heap.size w w' := by
  obtain ⟨wA, hwA⟩ : ∃ b, V1.wB = b := ⟨_, rfl⟩
  obtain ⟨wB, hwB⟩ : ∃ b, V2.wB = b := ⟨_, rfl⟩
  obtain ⟨xA, hxA⟩ : ∃ b, T1.xB = b := ⟨_, rfl⟩
  obtain ⟨xB, hxB⟩ : ∃ b, T2.xB = b := ⟨_, rfl⟩
  obtain ⟨a1, k1, hv1, hk1, hm1⟩ := all_shape hA.al
  obtain ⟨a2, k2, hv2, hk2, hm2⟩ := all_shape hB.al
  obtain ⟨ng, hng⟩ : ∃ n, G.length = n := ⟨_, rfl⟩
  rw [hng] at hv1 hv2
  have HC : Hid (∀ wz, Below w.heap.size w wz → wz.cell? ⟨wA, 6, none⟩ = some (.slice a1 ng k1) ∧ wz.cell? ⟨wB, 6, none⟩ = some (.slice a2 ng k2) ∧ wz.cell? ⟨wA, 1, none⟩ = some (.pointer (some ⟨xA, 0, none⟩)) ∧ wz.cell? ⟨wB, 1, none⟩ = some (.pointer (some ⟨xB, 0, none⟩))) := hid (fun wz hz => by
    have h1 := (hA.below hz).cells
    have h2 := (hB.below hz).cells
    rw [hwA, hxA, hv1] at h1
    rw [hwB, hxB, hv2] at h2
    exact ⟨h1.2.2, h2.2.2, h1.2.1, h2.2.1⟩)
  have HAd : Hid (∀ (wz : World) (m h : Nat), Below w.heap.size w wz → m < 4 → h < 18446744073709551616 → Calls Tryd.prog 11 #[.pointer (some ⟨xA, 0, none⟩), .int .i64 (m : Int), .int .u64 (h : Int)] wz fun e w' => e = .returned (.tuple #[.int .u64 ((tgtX X1 m h).1 : Int), .int .u8 ((tgtX X1 m h).2 : Int)]) ∧ w' = wz) := hid (fun wz m h hz hm hh => by
    have := address_walk (hA.below hz).mm hm x1 h hh
    rw [hxA] at this
    exact this)
  have HBd : Hid (∀ (wz : World) (m h : Nat), Below w.heap.size w wz → m < 4 → h < 18446744073709551616 → Calls Tryd.prog 11 #[.pointer (some ⟨xB, 0, none⟩), .int .i64 (m : Int), .int .u64 (h : Int)] wz fun e w' => e = .returned (.tuple #[.int .u64 ((tgtX X1 m h).1 : Int), .int .u8 ((tgtX X1 m h).2 : Int)]) ∧ w' = wz) := hid (fun wz m h hz hm hh => by
    have := address_walk (hB.below hz).mm hm x2 h hh
    rw [hxB, hs.tgt hm] at this
    exact this)
  obtain ⟨z1, hz1⟩ : ∃ z, stX H1 X1 4 = z := ⟨_, rfl⟩
  obtain ⟨z2, hz2⟩ : ∃ z, stX H2 X2 4 = z := ⟨_, rfl⟩
  have HStA : Hid (∀ {xs : List XBk} (wz : World), FB w xs wz → Calls Tryd.prog 27 #[.pointer (some ⟨xA, 0, none⟩)] wz fun e w' => e = .returned (.agg (stC z1).toArray) ∧ FB w xs w') := hid (fun wz hz => by
    have := stats_walk (hA.below hz.bel).mm x1 r1
    rw [hxA, hz1] at this
    exact this.mono (fun e w' ⟨q1, q2⟩ => ⟨q1, hz.below q2⟩))
  have HStB : Hid (∀ {xs : List XBk} (wz : World), FB w xs wz → Calls Tryd.prog 27 #[.pointer (some ⟨xB, 0, none⟩)] wz fun e w' => e = .returned (.agg (stC z2).toArray) ∧ FB w xs w') := hid (fun wz hz => by
    have := stats_walk (hB.below hz.bel).mm x2 r2
    rw [hxB, hz2] at this
    exact this.mono (fun e w' ⟨q1, q2⟩ => ⟨q1, hz.below q2⟩))
  have Hzz : Hid (z2.h = z1.h ∧ z2.r = z1.r ∧ z2.d = z1.d ∧ z2.e = z1.e) := hid (by rw [← hz1, ← hz2]; exact hs.st)
  have HGe : Hid (∀ (wz : World) (j : Nat), Below w.heap.size w wz → j < ng → ∃ (h g : Nat), h < 18446744073709551616 ∧ a1 = some ⟨g, 0, none⟩ ∧ wz.cell? ⟨g, j, none⟩ = some (.int .u64 (h : Int))) := hid (fun wz j hz hj => by
    have hj' : j < G.length := by omega
    obtain ⟨g, q, e1, e2⟩ := (hA.below hz).al.get (i := j) (List.getElem?_eq_getElem hj')
    rw [hv1] at e1
    injection e1 with e3
    exact ⟨G[j], g, hg _ (List.getElem_mem hj'), e3, e2⟩)
  have ISt : Hid ((Tryd.prog.info? 34).map (·.size) = some 6) := hid info_st
  have ng9 : ng ≤ 100000000000 := by omega
  rw [hwA, hwB]
  clear hA hB x1 x2 r1 r2 hs hg hgl hwA hwB hxA hxB hv1 hv2 hng hz1 hz2 hk1 hk2 hm1 hm2
  go_enter Tryd.func12, Tryd.ntmps12
  go_upto_region 1 with fail
  refine wp_region_heavy (fun wz => Below w.heap.size w wz) 11 [0, 1, 2, 3, 4, 5, 6, 7, 8, 9, 10] [] rfl (by kernel_rfl) (by kernel_rfl) (fun d _ _ _ _ h => by cases d <;> exact h) (Drew.below ⟨1, rfl⟩ _) ?_
  apply Exists.intro
  refine ⟨?_, ?_⟩
  · intro W hW
    have d0 : ∀ x, (W x).cell? ⟨wA, 6, none⟩ = some (.slice a1 ng k1) := fun x => (HC.out _ (hW x)).1
    have d1 : ∀ x, (W x).cell? ⟨wB, 6, none⟩ = some (.slice a2 ng k2) := fun x => (HC.out _ (hW x)).2.1
    clear hW
    simp only [List.take, opsAt, List.drop, List.cons_append, List.nil_append]
    repeat (go_big_quiet_step (fail))
    exact rfl
  simp only [List.take, List.drop, opsAt, List.cons_append, List.nil_append, wpHv, QN]
  have HB0 : Hid (Below w.heap.size w w.drew) := hid (Drew.below ⟨1, rfl⟩ _)
  generalize w.drew = wd at HB0 ⊢
  go_wp2_with fail
  go_loopw [5] (fun v wr => ∃ m : Nat, m ≤ 4 ∧ v = .int .i64 (m : Int) ∧ Hid (Below w.heap.size w wr)) (fun v _ => 4 - (intOf v).toNat)
  case atStart => exact ⟨0, by omega, rfl, HB0⟩
  case round =>
  clear HB0
  obtain ⟨m, hm, rfl, HB⟩ := hrel
  by_cases hlt : m < 4
  · as_aux_lemma =>
    have dm : decide ((m : Int) < 4) = true := decide_eq_true (by omega)
    obtain ⟨q1, q2, q3, q4⟩ := HC.out _ HB.out
    go_wp2_with fail
    go_loopw [34] (fun v wq => ∃ j : Nat, j ≤ ng ∧ v = .int .i64 (j : Int) ∧ Hid (Below w.heap.size w wq)) (fun v _ => ng - (intOf v).toNat)
    case atStart => exact ⟨0, by omega, rfl, HB⟩
    case round =>
      clear HB q1 q2 q3 q4
      obtain ⟨j, hj, rfl, HB⟩ := hrel
      by_cases hjl : j < ng
      · as_aux_lemma =>
        have dj : decide ((j : Int) < (ng : Int)) = true := decide_eq_true (by omega)
        have ij : (j : Int) < (ng : Int) := by omega
        obtain ⟨h, g, hh, rfl, ch⟩ := HGe.out _ j HB.out hjl
        obtain ⟨q1, q2, q3, q4⟩ := HC.out _ HB.out
        have HA9 := hid (HAd.out _ m h HB.out hlt hh)
        have HB9 := hid (HBd.out _ m h HB.out hlt hh)
        generalize (tgtX X1 m h).1 = ta at HA9 HB9
        generalize (tgtX X1 m h).2 = tc at HA9 HB9
        go_wp2_with fail
        refine HA9.out.mono ?_
        rintro e wy ⟨rfl, rfl⟩
        go_wp2_with fail
        refine HB9.out.mono ?_
        rintro e wy2 ⟨rfl, rfl⟩
        go_wp2
        exact ⟨⟨j + 1, by omega, by go_num, HB⟩, by simp [intOf]; omega⟩
      · as_aux_lemma =>
        have dj : decide ((j : Int) < (ng : Int)) = false := decide_eq_false (by omega)
        go_wp2
        exact ⟨⟨m + 1, by omega, by go_num, HB⟩, by simp [intOf]; omega⟩
  · as_aux_lemma =>
    obtain rfl : m = 4 := by omega
    rw [show ((4 : Nat) : Int) = 4 from rfl]
    go_upto_region 14 with fail
    go_cut [12, 13] from 67 to 76 (fun v12 v13 wc => ∃ p q, v12 = .pointer (some ⟨p, 0, none⟩) ∧ v13 = .pointer (some ⟨q, 0, none⟩) ∧ Hid (Below w.heap.size w wc ∧ Blk wc p 34 (stC z1) ∧ Blk wc q 34 (stC z2)))
    case first =>
      as_aux_lemma =>
      refine wp_region_tree (fun wz => Below w.heap.size w wz) 12 [0, 1, 2, 3, 5, 6, 7, 8] (.tri 4 (.tri 9 (.two 10 (.one 11 .leaf) 11 (.one 10 .leaf)) 10 (.two 9 (.one 11 .leaf) 11 (.one 9 .leaf)) 11 (.two 9 (.one 10 .leaf) 10 (.one 9 .leaf))) 10 (.two 4 (.two 9 (.one 11 .leaf) 11 (.one 9 .leaf)) 11 (.one 4 (.one 9 .leaf))) 11 (.two 4 (.two 9 (.one 10 .leaf) 10 (.one 9 .leaf)) 10 (.one 4 (.one 9 .leaf)))) rfl (by kernel_rfl) (by kernel_rfl) (fun d _ _ _ _ h => by cases d <;> exact h) (HB.out.trans (Drew.below ⟨1, rfl⟩ _)) ?_
      apply Exists.intro
      refine ⟨?_, ?_⟩
      · intro W hW
        have d0 : ∀ x, (W x).cell? ⟨wA, 1, none⟩ = some (.pointer (some ⟨xA, 0, none⟩)) := fun x => (HC.out _ (hW x)).2.2.1
        have d1 : ∀ x, (W x).cell? ⟨wB, 1, none⟩ = some (.pointer (some ⟨xB, 0, none⟩)) := fun x => (HC.out _ (hW x)).2.2.2
        clear hW
        simp only [List.take, opsAt, List.drop, List.cons_append, List.nil_append]
        repeat (go_big_quiet_step (fail))
        exact rfl
      have HF : Hid (FB w [] wr.drew) := hid (FB.start (HB.out.trans (Drew.below ⟨1, rfl⟩ _)))
      generalize wr.drew = wd at HF ⊢
      clear HB HC HAd HBd HGe
      simp only [wpTr, opsAt, List.take, List.drop, List.cons_append, List.nil_append]
      refine ⟨?_, ?_, ?_⟩
      · go_wp2_with fail
        refine (HStA.out _ HF.out).mono ?_
        rintro y wA ⟨rfl, hFn⟩
        have HFA := hid hFn
        clear hFn
        go_wp2_with fail
        refine ⟨HFA.out.bel, ?_⟩
        simp only [wpTr, opsAt, List.take, List.drop, List.cons_append, List.nil_append]
        refine ⟨?_, ?_, ?_⟩
        · go_wp2_with fail
          refine (HStB.out _ HFA.out).mono ?_
          rintro y wAB ⟨rfl, hFn⟩
          have HFAB := hid hFn
          clear hFn
          go_wp2_with fail
          refine ⟨HFAB.out.bel, ?_⟩
          simp only [wpTr, opsAt, List.take, List.drop, List.cons_append, List.nil_append]
          refine ⟨?_, ?_⟩
          · have HFABC := hid (HFAB.out.alloc (stC stZ) 34)
            go_wp2_with fail
            obtain ⟨pABC, hp⟩ : ∃ p, wAB.heap.size = p := ⟨_, rfl⟩
            obtain ⟨wABC, hwn⟩ : ∃ x, wAB.alloc (.cells (stC stZ).toArray 34) = x := ⟨_, rfl⟩
            rw [hp, hwn] at HFABC
            rw [show wAB.alloc (.cells #[.int .u64 0, .int .u64 0, .int .u64 0, .int .u64 0, .int .i64 0, .int .i64 0] 34) = wABC from hwn, hp]
            clear hwn hp
            refine ⟨HFABC.out.bel, ?_⟩
            simp only [wpTr, opsAt, List.take, List.drop, List.cons_append, List.nil_append]
            have HFABCD := hid (HFABC.out.alloc (stC stZ) 34)
            go_wp2_with fail
            obtain ⟨pABCD, hp⟩ : ∃ p, wABC.heap.size = p := ⟨_, rfl⟩
            obtain ⟨wABCD, hwn⟩ : ∃ x, wABC.alloc (.cells (stC stZ).toArray 34) = x := ⟨_, rfl⟩
            rw [hp, hwn] at HFABCD
            rw [show wABC.alloc (.cells #[.int .u64 0, .int .u64 0, .int .u64 0, .int .u64 0, .int .i64 0, .int .i64 0] 34) = wABCD from hwn, hp]
            clear hwn hp
            refine ⟨HFABCD.out.bel, ?_⟩
            simp only [wpTr, QN]
            go_wp2_with (first | (refine wpList_store_blk rfl 34 _ _ rfl pABC rfl (stC z1) rfl (HFABCD.out.bl (pABC, 34, stC stZ) (by simp)).1 rfl ISt.out (st_one _) ?_; intro wS1 HBs1 HUs1) | (refine wpList_store_blk rfl 34 _ _ rfl pABCD rfl (stC z2) rfl ((HFABCD.out.set (i := 1) rfl HBs1.out HUs1.out).bl (pABCD, 34, stC stZ) (by simp)).1 rfl ISt.out (st_one _) ?_; intro wS2 HBs2 HUs2))
            have HFx := (HFABCD.out.set (i := 1) rfl HBs1.out HUs1.out).set (i := 0) rfl HBs2.out HUs2.out
            go_meet
            case rel => exact ⟨pABC, pABCD, rfl, rfl, hid ⟨HFx.bel, (HFx.bl (pABC, 34, stC z1) (by simp)).1, (HFx.bl (pABCD, 34, stC z2) (by simp)).1⟩⟩
          · have HFABD := hid (HFAB.out.alloc (stC stZ) 34)
            go_wp2_with fail
            obtain ⟨pABD, hp⟩ : ∃ p, wAB.heap.size = p := ⟨_, rfl⟩
            obtain ⟨wABD, hwn⟩ : ∃ x, wAB.alloc (.cells (stC stZ).toArray 34) = x := ⟨_, rfl⟩
            rw [hp, hwn] at HFABD
            rw [show wAB.alloc (.cells #[.int .u64 0, .int .u64 0, .int .u64 0, .int .u64 0, .int .i64 0, .int .i64 0] 34) = wABD from hwn, hp]
            clear hwn hp
            refine ⟨HFABD.out.bel, ?_⟩
            simp only [wpTr, opsAt, List.take, List.drop, List.cons_append, List.nil_append]
            have HFABDC := hid (HFABD.out.alloc (stC stZ) 34)
            go_wp2_with fail
            obtain ⟨pABDC, hp⟩ : ∃ p, wABD.heap.size = p := ⟨_, rfl⟩
            obtain ⟨wABDC, hwn⟩ : ∃ x, wABD.alloc (.cells (stC stZ).toArray 34) = x := ⟨_, rfl⟩
            rw [hp, hwn] at HFABDC
            rw [show wABD.alloc (.cells #[.int .u64 0, .int .u64 0, .int .u64 0, .int .u64 0, .int .i64 0, .int .i64 0] 34) = wABDC from hwn, hp]
            clear hwn hp
            refine ⟨HFABDC.out.bel, ?_⟩
            simp only [wpTr, QN]
            go_wp2_with (first | (refine wpList_store_blk rfl 34 _ _ rfl pABDC rfl (stC z1) rfl (HFABDC.out.bl (pABDC, 34, stC stZ) (by simp)).1 rfl ISt.out (st_one _) ?_; intro wS1 HBs1 HUs1) | (refine wpList_store_blk rfl 34 _ _ rfl pABD rfl (stC z2) rfl ((HFABDC.out.set (i := 0) rfl HBs1.out HUs1.out).bl (pABD, 34, stC stZ) (by simp)).1 rfl ISt.out (st_one _) ?_; intro wS2 HBs2 HUs2))
            have HFx := (HFABDC.out.set (i := 0) rfl HBs1.out HUs1.out).set (i := 1) rfl HBs2.out HUs2.out
            go_meet
            case rel => exact ⟨pABDC, pABD, rfl, rfl, hid ⟨HFx.bel, (HFx.bl (pABDC, 34, stC z1) (by simp)).1, (HFx.bl (pABD, 34, stC z2) (by simp)).1⟩⟩
        · have HFAC := hid (HFA.out.alloc (stC stZ) 34)
          go_wp2_with fail
          obtain ⟨pAC, hp⟩ : ∃ p, wA.heap.size = p := ⟨_, rfl⟩
          obtain ⟨wAC, hwn⟩ : ∃ x, wA.alloc (.cells (stC stZ).toArray 34) = x := ⟨_, rfl⟩
          rw [hp, hwn] at HFAC
          rw [show wA.alloc (.cells #[.int .u64 0, .int .u64 0, .int .u64 0, .int .u64 0, .int .i64 0, .int .i64 0] 34) = wAC from hwn, hp]
          clear hwn hp
          refine ⟨HFAC.out.bel, ?_⟩
          simp only [wpTr, opsAt, List.take, List.drop, List.cons_append, List.nil_append]
          refine ⟨?_, ?_⟩
          · go_wp2_with fail
            refine (HStB.out _ HFAC.out).mono ?_
            rintro y wACB ⟨rfl, hFn⟩
            have HFACB := hid hFn
            clear hFn
            go_wp2_with fail
            refine ⟨HFACB.out.bel, ?_⟩
            simp only [wpTr, opsAt, List.take, List.drop, List.cons_append, List.nil_append]
            have HFACBD := hid (HFACB.out.alloc (stC stZ) 34)
            go_wp2_with fail
            obtain ⟨pACBD, hp⟩ : ∃ p, wACB.heap.size = p := ⟨_, rfl⟩
            obtain ⟨wACBD, hwn⟩ : ∃ x, wACB.alloc (.cells (stC stZ).toArray 34) = x := ⟨_, rfl⟩
            rw [hp, hwn] at HFACBD
            rw [show wACB.alloc (.cells #[.int .u64 0, .int .u64 0, .int .u64 0, .int .u64 0, .int .i64 0, .int .i64 0] 34) = wACBD from hwn, hp]
            clear hwn hp
            refine ⟨HFACBD.out.bel, ?_⟩
            simp only [wpTr, QN]
            go_wp2_with (first | (refine wpList_store_blk rfl 34 _ _ rfl pAC rfl (stC z1) rfl (HFACBD.out.bl (pAC, 34, stC stZ) (by simp)).1 rfl ISt.out (st_one _) ?_; intro wS1 HBs1 HUs1) | (refine wpList_store_blk rfl 34 _ _ rfl pACBD rfl (stC z2) rfl ((HFACBD.out.set (i := 1) rfl HBs1.out HUs1.out).bl (pACBD, 34, stC stZ) (by simp)).1 rfl ISt.out (st_one _) ?_; intro wS2 HBs2 HUs2))
            have HFx := (HFACBD.out.set (i := 1) rfl HBs1.out HUs1.out).set (i := 0) rfl HBs2.out HUs2.out
            go_meet
            case rel => exact ⟨pAC, pACBD, rfl, rfl, hid ⟨HFx.bel, (HFx.bl (pAC, 34, stC z1) (by simp)).1, (HFx.bl (pACBD, 34, stC z2) (by simp)).1⟩⟩
          · have HFACD := hid (HFAC.out.alloc (stC stZ) 34)
            go_wp2_with fail
            obtain ⟨pACD, hp⟩ : ∃ p, wAC.heap.size = p := ⟨_, rfl⟩
            obtain ⟨wACD, hwn⟩ : ∃ x, wAC.alloc (.cells (stC stZ).toArray 34) = x := ⟨_, rfl⟩
            rw [hp, hwn] at HFACD
            rw [show wAC.alloc (.cells #[.int .u64 0, .int .u64 0, .int .u64 0, .int .u64 0, .int .i64 0, .int .i64 0] 34) = wACD from hwn, hp]
            clear hwn hp
            refine ⟨HFACD.out.bel, ?_⟩
            simp only [wpTr, opsAt, List.take, List.drop, List.cons_append, List.nil_append]
            go_wp2_with fail
            refine (HStB.out _ HFACD.out).mono ?_
            rintro y wACDB ⟨rfl, hFn⟩
            have HFACDB := hid hFn
            clear hFn
            go_wp2_with fail
            refine ⟨HFACDB.out.bel, ?_⟩
            simp only [wpTr, QN]
            go_wp2_with (first | (refine wpList_store_blk rfl 34 _ _ rfl pAC rfl (stC z1) rfl (HFACDB.out.bl (pAC, 34, stC stZ) (by simp)).1 rfl ISt.out (st_one _) ?_; intro wS1 HBs1 HUs1) | (refine wpList_store_blk rfl 34 _ _ rfl pACD rfl (stC z2) rfl ((HFACDB.out.set (i := 1) rfl HBs1.out HUs1.out).bl (pACD, 34, stC stZ) (by simp)).1 rfl ISt.out (st_one _) ?_; intro wS2 HBs2 HUs2))
            have HFx := (HFACDB.out.set (i := 1) rfl HBs1.out HUs1.out).set (i := 0) rfl HBs2.out HUs2.out
            go_meet
            case rel => exact ⟨pAC, pACD, rfl, rfl, hid ⟨HFx.bel, (HFx.bl (pAC, 34, stC z1) (by simp)).1, (HFx.bl (pACD, 34, stC z2) (by simp)).1⟩⟩
        · have HFAD := hid (HFA.out.alloc (stC stZ) 34)
          go_wp2_with fail
          obtain ⟨pAD, hp⟩ : ∃ p, wA.heap.size = p := ⟨_, rfl⟩
          obtain ⟨wAD, hwn⟩ : ∃ x, wA.alloc (.cells (stC stZ).toArray 34) = x := ⟨_, rfl⟩
          rw [hp, hwn] at HFAD
          rw [show wA.alloc (.cells #[.int .u64 0, .int .u64 0, .int .u64 0, .int .u64 0, .int .i64 0, .int .i64 0] 34) = wAD from hwn, hp]
          clear hwn hp
          refine ⟨HFAD.out.bel, ?_⟩
          simp only [wpTr, opsAt, List.take, List.drop, List.cons_append, List.nil_append]
          refine ⟨?_, ?_⟩
          · go_wp2_with fail
            refine (HStB.out _ HFAD.out).mono ?_
            rintro y wADB ⟨rfl, hFn⟩
            have HFADB := hid hFn
            clear hFn
            go_wp2_with fail
            refine ⟨HFADB.out.bel, ?_⟩
            simp only [wpTr, opsAt, List.take, List.drop, List.cons_append, List.nil_append]
            have HFADBC := hid (HFADB.out.alloc (stC stZ) 34)
            go_wp2_with fail
            obtain ⟨pADBC, hp⟩ : ∃ p, wADB.heap.size = p := ⟨_, rfl⟩
            obtain ⟨wADBC, hwn⟩ : ∃ x, wADB.alloc (.cells (stC stZ).toArray 34) = x := ⟨_, rfl⟩
            rw [hp, hwn] at HFADBC
            rw [show wADB.alloc (.cells #[.int .u64 0, .int .u64 0, .int .u64 0, .int .u64 0, .int .i64 0, .int .i64 0] 34) = wADBC from hwn, hp]
            clear hwn hp
            refine ⟨HFADBC.out.bel, ?_⟩
            simp only [wpTr, QN]
            go_wp2_with (first | (refine wpList_store_blk rfl 34 _ _ rfl pADBC rfl (stC z1) rfl (HFADBC.out.bl (pADBC, 34, stC stZ) (by simp)).1 rfl ISt.out (st_one _) ?_; intro wS1 HBs1 HUs1) | (refine wpList_store_blk rfl 34 _ _ rfl pAD rfl (stC z2) rfl ((HFADBC.out.set (i := 0) rfl HBs1.out HUs1.out).bl (pAD, 34, stC stZ) (by simp)).1 rfl ISt.out (st_one _) ?_; intro wS2 HBs2 HUs2))
            have HFx := (HFADBC.out.set (i := 0) rfl HBs1.out HUs1.out).set (i := 1) rfl HBs2.out HUs2.out
            go_meet
            case rel => exact ⟨pADBC, pAD, rfl, rfl, hid ⟨HFx.bel, (HFx.bl (pADBC, 34, stC z1) (by simp)).1, (HFx.bl (pAD, 34, stC z2) (by simp)).1⟩⟩
          · have HFADC := hid (HFAD.out.alloc (stC stZ) 34)
            go_wp2_with fail
            obtain ⟨pADC, hp⟩ : ∃ p, wAD.heap.size = p := ⟨_, rfl⟩
            obtain ⟨wADC, hwn⟩ : ∃ x, wAD.alloc (.cells (stC stZ).toArray 34) = x := ⟨_, rfl⟩
            rw [hp, hwn] at HFADC
            rw [show wAD.alloc (.cells #[.int .u64 0, .int .u64 0, .int .u64 0, .int .u64 0, .int .i64 0, .int .i64 0] 34) = wADC from hwn, hp]
            clear hwn hp
            refine ⟨HFADC.out.bel, ?_⟩
            simp only [wpTr, opsAt, List.take, List.drop, List.cons_append, List.nil_append]
            go_wp2_with fail
            refine (HStB.out _ HFADC.out).mono ?_
            rintro y wADCB ⟨rfl, hFn⟩
            have HFADCB := hid hFn
            clear hFn
            go_wp2_with fail
            refine ⟨HFADCB.out.bel, ?_⟩
            simp only [wpTr, QN]
            go_wp2_with (first | (refine wpList_store_blk rfl 34 _ _ rfl pADC rfl (stC z1) rfl (HFADCB.out.bl (pADC, 34, stC stZ) (by simp)).1 rfl ISt.out (st_one _) ?_; intro wS1 HBs1 HUs1) | (refine wpList_store_blk rfl 34 _ _ rfl pAD rfl (stC z2) rfl ((HFADCB.out.set (i := 0) rfl HBs1.out HUs1.out).bl (pAD, 34, stC stZ) (by simp)).1 rfl ISt.out (st_one _) ?_; intro wS2 HBs2 HUs2))
            have HFx := (HFADCB.out.set (i := 0) rfl HBs1.out HUs1.out).set (i := 1) rfl HBs2.out HUs2.out
            go_meet
            case rel => exact ⟨pADC, pAD, rfl, rfl, hid ⟨HFx.bel, (HFx.bl (pADC, 34, stC z1) (by simp)).1, (HFx.bl (pAD, 34, stC z2) (by simp)).1⟩⟩
      · have HFC := hid (HF.out.alloc (stC stZ) 34)
        go_wp2_with fail
        obtain ⟨pC, hp⟩ : ∃ p, wd.heap.size = p := ⟨_, rfl⟩
        obtain ⟨wC, hwn⟩ : ∃ x, wd.alloc (.cells (stC stZ).toArray 34) = x := ⟨_, rfl⟩
        rw [hp, hwn] at HFC
        rw [show wd.alloc (.cells #[.int .u64 0, .int .u64 0, .int .u64 0, .int .u64 0, .int .i64 0, .int .i64 0] 34) = wC from hwn, hp]
        clear hwn hp
        refine ⟨HFC.out.bel, ?_⟩
        simp only [wpTr, opsAt, List.take, List.drop, List.cons_append, List.nil_append]
        refine ⟨?_, ?_⟩
        · go_wp2_with fail
          refine (HStA.out _ HFC.out).mono ?_
          rintro y wCA ⟨rfl, hFn⟩
          have HFCA := hid hFn
          clear hFn
          go_wp2_with fail
          refine ⟨HFCA.out.bel, ?_⟩
          simp only [wpTr, opsAt, List.take, List.drop, List.cons_append, List.nil_append]
          refine ⟨?_, ?_⟩
          · go_wp2_with fail
            refine (HStB.out _ HFCA.out).mono ?_
            rintro y wCAB ⟨rfl, hFn⟩
            have HFCAB := hid hFn
            clear hFn
            go_wp2_with fail
            refine ⟨HFCAB.out.bel, ?_⟩
            simp only [wpTr, opsAt, List.take, List.drop, List.cons_append, List.nil_append]
            have HFCABD := hid (HFCAB.out.alloc (stC stZ) 34)
            go_wp2_with fail
            obtain ⟨pCABD, hp⟩ : ∃ p, wCAB.heap.size = p := ⟨_, rfl⟩
            obtain ⟨wCABD, hwn⟩ : ∃ x, wCAB.alloc (.cells (stC stZ).toArray 34) = x := ⟨_, rfl⟩
            rw [hp, hwn] at HFCABD
            rw [show wCAB.alloc (.cells #[.int .u64 0, .int .u64 0, .int .u64 0, .int .u64 0, .int .i64 0, .int .i64 0] 34) = wCABD from hwn, hp]
            clear hwn hp
            refine ⟨HFCABD.out.bel, ?_⟩
            simp only [wpTr, QN]
            go_wp2_with (first | (refine wpList_store_blk rfl 34 _ _ rfl pC rfl (stC z1) rfl (HFCABD.out.bl (pC, 34, stC stZ) (by simp)).1 rfl ISt.out (st_one _) ?_; intro wS1 HBs1 HUs1) | (refine wpList_store_blk rfl 34 _ _ rfl pCABD rfl (stC z2) rfl ((HFCABD.out.set (i := 1) rfl HBs1.out HUs1.out).bl (pCABD, 34, stC stZ) (by simp)).1 rfl ISt.out (st_one _) ?_; intro wS2 HBs2 HUs2))
            have HFx := (HFCABD.out.set (i := 1) rfl HBs1.out HUs1.out).set (i := 0) rfl HBs2.out HUs2.out
            go_meet
            case rel => exact ⟨pC, pCABD, rfl, rfl, hid ⟨HFx.bel, (HFx.bl (pC, 34, stC z1) (by simp)).1, (HFx.bl (pCABD, 34, stC z2) (by simp)).1⟩⟩
          · have HFCAD := hid (HFCA.out.alloc (stC stZ) 34)
            go_wp2_with fail
            obtain ⟨pCAD, hp⟩ : ∃ p, wCA.heap.size = p := ⟨_, rfl⟩
            obtain ⟨wCAD, hwn⟩ : ∃ x, wCA.alloc (.cells (stC stZ).toArray 34) = x := ⟨_, rfl⟩
            rw [hp, hwn] at HFCAD
            rw [show wCA.alloc (.cells #[.int .u64 0, .int .u64 0, .int .u64 0, .int .u64 0, .int .i64 0, .int .i64 0] 34) = wCAD from hwn, hp]
            clear hwn hp
            refine ⟨HFCAD.out.bel, ?_⟩
            simp only [wpTr, opsAt, List.take, List.drop, List.cons_append, List.nil_append]
            go_wp2_with fail
            refine (HStB.out _ HFCAD.out).mono ?_
            rintro y wCADB ⟨rfl, hFn⟩
            have HFCADB := hid hFn
            clear hFn
            go_wp2_with fail
            refine ⟨HFCADB.out.bel, ?_⟩
            simp only [wpTr, QN]
            go_wp2_with (first | (refine wpList_store_blk rfl 34 _ _ rfl pC rfl (stC z1) rfl (HFCADB.out.bl (pC, 34, stC stZ) (by simp)).1 rfl ISt.out (st_one _) ?_; intro wS1 HBs1 HUs1) | (refine wpList_store_blk rfl 34 _ _ rfl pCAD rfl (stC z2) rfl ((HFCADB.out.set (i := 1) rfl HBs1.out HUs1.out).bl (pCAD, 34, stC stZ) (by simp)).1 rfl ISt.out (st_one _) ?_; intro wS2 HBs2 HUs2))
            have HFx := (HFCADB.out.set (i := 1) rfl HBs1.out HUs1.out).set (i := 0) rfl HBs2.out HUs2.out
            go_meet
            case rel => exact ⟨pC, pCAD, rfl, rfl, hid ⟨HFx.bel, (HFx.bl (pC, 34, stC z1) (by simp)).1, (HFx.bl (pCAD, 34, stC z2) (by simp)).1⟩⟩
        · have HFCD := hid (HFC.out.alloc (stC stZ) 34)
          go_wp2_with fail
          obtain ⟨pCD, hp⟩ : ∃ p, wC.heap.size = p := ⟨_, rfl⟩
          obtain ⟨wCD, hwn⟩ : ∃ x, wC.alloc (.cells (stC stZ).toArray 34) = x := ⟨_, rfl⟩
          rw [hp, hwn] at HFCD
          rw [show wC.alloc (.cells #[.int .u64 0, .int .u64 0, .int .u64 0, .int .u64 0, .int .i64 0, .int .i64 0] 34) = wCD from hwn, hp]
          clear hwn hp
          refine ⟨HFCD.out.bel, ?_⟩
          simp only [wpTr, opsAt, List.take, List.drop, List.cons_append, List.nil_append]
          go_wp2_with fail
          refine (HStA.out _ HFCD.out).mono ?_
          rintro y wCDA ⟨rfl, hFn⟩
          have HFCDA := hid hFn
          clear hFn
          go_wp2_with fail
          refine ⟨HFCDA.out.bel, ?_⟩
          simp only [wpTr, opsAt, List.take, List.drop, List.cons_append, List.nil_append]
          go_wp2_with fail
          refine (HStB.out _ HFCDA.out).mono ?_
          rintro y wCDAB ⟨rfl, hFn⟩
          have HFCDAB := hid hFn
          clear hFn
          go_wp2_with fail
          refine ⟨HFCDAB.out.bel, ?_⟩
          simp only [wpTr, QN]
          go_wp2_with (first | (refine wpList_store_blk rfl 34 _ _ rfl pC rfl (stC z1) rfl (HFCDAB.out.bl (pC, 34, stC stZ) (by simp)).1 rfl ISt.out (st_one _) ?_; intro wS1 HBs1 HUs1) | (refine wpList_store_blk rfl 34 _ _ rfl pCD rfl (stC z2) rfl ((HFCDAB.out.set (i := 1) rfl HBs1.out HUs1.out).bl (pCD, 34, stC stZ) (by simp)).1 rfl ISt.out (st_one _) ?_; intro wS2 HBs2 HUs2))
          have HFx := (HFCDAB.out.set (i := 1) rfl HBs1.out HUs1.out).set (i := 0) rfl HBs2.out HUs2.out
          go_meet
          case rel => exact ⟨pC, pCD, rfl, rfl, hid ⟨HFx.bel, (HFx.bl (pC, 34, stC z1) (by simp)).1, (HFx.bl (pCD, 34, stC z2) (by simp)).1⟩⟩
      · have HFD := hid (HF.out.alloc (stC stZ) 34)
        go_wp2_with fail
        obtain ⟨pD, hp⟩ : ∃ p, wd.heap.size = p := ⟨_, rfl⟩
        obtain ⟨wD, hwn⟩ : ∃ x, wd.alloc (.cells (stC stZ).toArray 34) = x := ⟨_, rfl⟩
        rw [hp, hwn] at HFD
        rw [show wd.alloc (.cells #[.int .u64 0, .int .u64 0, .int .u64 0, .int .u64 0, .int .i64 0, .int .i64 0] 34) = wD from hwn, hp]
        clear hwn hp
        refine ⟨HFD.out.bel, ?_⟩
        simp only [wpTr, opsAt, List.take, List.drop, List.cons_append, List.nil_append]
        refine ⟨?_, ?_⟩
        · go_wp2_with fail
          refine (HStA.out _ HFD.out).mono ?_
          rintro y wDA ⟨rfl, hFn⟩
          have HFDA := hid hFn
          clear hFn
          go_wp2_with fail
          refine ⟨HFDA.out.bel, ?_⟩
          simp only [wpTr, opsAt, List.take, List.drop, List.cons_append, List.nil_append]
          refine ⟨?_, ?_⟩
          · go_wp2_with fail
            refine (HStB.out _ HFDA.out).mono ?_
            rintro y wDAB ⟨rfl, hFn⟩
            have HFDAB := hid hFn
            clear hFn
            go_wp2_with fail
            refine ⟨HFDAB.out.bel, ?_⟩
            simp only [wpTr, opsAt, List.take, List.drop, List.cons_append, List.nil_append]
            have HFDABC := hid (HFDAB.out.alloc (stC stZ) 34)
            go_wp2_with fail
            obtain ⟨pDABC, hp⟩ : ∃ p, wDAB.heap.size = p := ⟨_, rfl⟩
            obtain ⟨wDABC, hwn⟩ : ∃ x, wDAB.alloc (.cells (stC stZ).toArray 34) = x := ⟨_, rfl⟩
            rw [hp, hwn] at HFDABC
            rw [show wDAB.alloc (.cells #[.int .u64 0, .int .u64 0, .int .u64 0, .int .u64 0, .int .i64 0, .int .i64 0] 34) = wDABC from hwn, hp]
            clear hwn hp
            refine ⟨HFDABC.out.bel, ?_⟩
            simp only [wpTr, QN]
            go_wp2_with (first | (refine wpList_store_blk rfl 34 _ _ rfl pDABC rfl (stC z1) rfl (HFDABC.out.bl (pDABC, 34, stC stZ) (by simp)).1 rfl ISt.out (st_one _) ?_; intro wS1 HBs1 HUs1) | (refine wpList_store_blk rfl 34 _ _ rfl pD rfl (stC z2) rfl ((HFDABC.out.set (i := 0) rfl HBs1.out HUs1.out).bl (pD, 34, stC stZ) (by simp)).1 rfl ISt.out (st_one _) ?_; intro wS2 HBs2 HUs2))
            have HFx := (HFDABC.out.set (i := 0) rfl HBs1.out HUs1.out).set (i := 1) rfl HBs2.out HUs2.out
            go_meet
            case rel => exact ⟨pDABC, pD, rfl, rfl, hid ⟨HFx.bel, (HFx.bl (pDABC, 34, stC z1) (by simp)).1, (HFx.bl (pD, 34, stC z2) (by simp)).1⟩⟩
          · have HFDAC := hid (HFDA.out.alloc (stC stZ) 34)
            go_wp2_with fail
            obtain ⟨pDAC, hp⟩ : ∃ p, wDA.heap.size = p := ⟨_, rfl⟩
            obtain ⟨wDAC, hwn⟩ : ∃ x, wDA.alloc (.cells (stC stZ).toArray 34) = x := ⟨_, rfl⟩
            rw [hp, hwn] at HFDAC
            rw [show wDA.alloc (.cells #[.int .u64 0, .int .u64 0, .int .u64 0, .int .u64 0, .int .i64 0, .int .i64 0] 34) = wDAC from hwn, hp]
            clear hwn hp
            refine ⟨HFDAC.out.bel, ?_⟩
            simp only [wpTr, opsAt, List.take, List.drop, List.cons_append, List.nil_append]
            go_wp2_with fail
            refine (HStB.out _ HFDAC.out).mono ?_
            rintro y wDACB ⟨rfl, hFn⟩
            have HFDACB := hid hFn
            clear hFn
            go_wp2_with fail
            refine ⟨HFDACB.out.bel, ?_⟩
            simp only [wpTr, QN]
            go_wp2_with (first | (refine wpList_store_blk rfl 34 _ _ rfl pDAC rfl (stC z1) rfl (HFDACB.out.bl (pDAC, 34, stC stZ) (by simp)).1 rfl ISt.out (st_one _) ?_; intro wS1 HBs1 HUs1) | (refine wpList_store_blk rfl 34 _ _ rfl pD rfl (stC z2) rfl ((HFDACB.out.set (i := 0) rfl HBs1.out HUs1.out).bl (pD, 34, stC stZ) (by simp)).1 rfl ISt.out (st_one _) ?_; intro wS2 HBs2 HUs2))
            have HFx := (HFDACB.out.set (i := 0) rfl HBs1.out HUs1.out).set (i := 1) rfl HBs2.out HUs2.out
            go_meet
            case rel => exact ⟨pDAC, pD, rfl, rfl, hid ⟨HFx.bel, (HFx.bl (pDAC, 34, stC z1) (by simp)).1, (HFx.bl (pD, 34, stC z2) (by simp)).1⟩⟩
        · have HFDC := hid (HFD.out.alloc (stC stZ) 34)
          go_wp2_with fail
          obtain ⟨pDC, hp⟩ : ∃ p, wD.heap.size = p := ⟨_, rfl⟩
          obtain ⟨wDC, hwn⟩ : ∃ x, wD.alloc (.cells (stC stZ).toArray 34) = x := ⟨_, rfl⟩
          rw [hp, hwn] at HFDC
          rw [show wD.alloc (.cells #[.int .u64 0, .int .u64 0, .int .u64 0, .int .u64 0, .int .i64 0, .int .i64 0] 34) = wDC from hwn, hp]
          clear hwn hp
          refine ⟨HFDC.out.bel, ?_⟩
          simp only [wpTr, opsAt, List.take, List.drop, List.cons_append, List.nil_append]
          go_wp2_with fail
          refine (HStA.out _ HFDC.out).mono ?_
          rintro y wDCA ⟨rfl, hFn⟩
          have HFDCA := hid hFn
          clear hFn
          go_wp2_with fail
          refine ⟨HFDCA.out.bel, ?_⟩
          simp only [wpTr, opsAt, List.take, List.drop, List.cons_append, List.nil_append]
          go_wp2_with fail
          refine (HStB.out _ HFDCA.out).mono ?_
          rintro y wDCAB ⟨rfl, hFn⟩
          have HFDCAB := hid hFn
          clear hFn
          go_wp2_with fail
          refine ⟨HFDCAB.out.bel, ?_⟩
          simp only [wpTr, QN]
          go_wp2_with (first | (refine wpList_store_blk rfl 34 _ _ rfl pDC rfl (stC z1) rfl (HFDCAB.out.bl (pDC, 34, stC stZ) (by simp)).1 rfl ISt.out (st_one _) ?_; intro wS1 HBs1 HUs1) | (refine wpList_store_blk rfl 34 _ _ rfl pD rfl (stC z2) rfl ((HFDCAB.out.set (i := 0) rfl HBs1.out HUs1.out).bl (pD, 34, stC stZ) (by simp)).1 rfl ISt.out (st_one _) ?_; intro wS2 HBs2 HUs2))
          have HFx := (HFDCAB.out.set (i := 0) rfl HBs1.out HUs1.out).set (i := 1) rfl HBs2.out HUs2.out
          go_meet
          case rel => exact ⟨pDC, pD, rfl, rfl, hid ⟨HFx.bel, (HFx.bl (pDC, 34, stC z1) (by simp)).1, (HFx.bl (pD, 34, stC z2) (by simp)).1⟩⟩
    case rest =>
    obtain ⟨p, q, rfl, rfl, HF⟩ := hcut
    as_aux_lemma =>
    have p4 : wc.cell? ⟨p, 4, none⟩ = some (.int .i64 (z1.h : Int)) := HF.out.2.1.cell 4
    have p5 : wc.cell? ⟨p, 5, none⟩ = some (.int .i64 (z1.r : Int)) := HF.out.2.1.cell 5
    have p2 : wc.cell? ⟨p, 2, none⟩ = some (.int .u64 (z1.d : Int)) := HF.out.2.1.cell 2
    have p3 : wc.cell? ⟨p, 3, none⟩ = some (.int .u64 (z1.e : Int)) := HF.out.2.1.cell 3
    have q4 : wc.cell? ⟨q, 4, none⟩ = some (.int .i64 (z1.h : Int)) := by rw [← Hzz.out.1]; exact HF.out.2.2.cell 4
    have q5 : wc.cell? ⟨q, 5, none⟩ = some (.int .i64 (z1.r : Int)) := by rw [← Hzz.out.2.1]; exact HF.out.2.2.cell 5
    have q2 : wc.cell? ⟨q, 2, none⟩ = some (.int .u64 (z1.d : Int)) := by rw [← Hzz.out.2.2.1]; exact HF.out.2.2.cell 2
    have q3 : wc.cell? ⟨q, 3, none⟩ = some (.int .u64 (z1.e : Int)) := by rw [← Hzz.out.2.2.2]; exact HF.out.2.2.cell 3
    go_wp2
    go_ret
    exact ⟨rfl, HF.out.1⟩
end
end Go.Proofs.Qxb6500889aDoor
