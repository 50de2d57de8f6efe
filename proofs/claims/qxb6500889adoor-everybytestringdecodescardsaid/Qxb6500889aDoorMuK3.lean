/- The law's comparison of world and model: alike walks. -/
import Derived.Test.Qxb6500889aDoorMuK2
namespace Go.Proofs.Qxb6500889aDoor
open Go.RowKit
set_option linter.unusedSimpArgs false
set_option linter.unusedVariables false
section
variable {w w' wr : World} {xs : List XBk} {pB i1 i2 : Nat} {φ : Nat → Nat} {H : HS} {X : XS} {c : Nat} {objs : List MO}
set_option maxRecDepth 1000000 in
set_option maxHeartbeats 8000000 in
theorem alike_walk {w0 : World} {wB k : Nat} {ρ : Rl} {L : HL} {T : XL} {V : WL} {G : List Nat} {σ : Rl} {N : ML} {M : MS} {n : Nat} (hL : LW w0 wB k ρ L T V H X G w) (hk : k ≤ 100000000000) (hM : MN w σ N M) (hb : MBd M n) (hn : n ≤ 100000000000) (hr : RM H X G M φ) :
    Calls Tryd.prog 48 #[.pointer (some ⟨wB, 0, none⟩), .pointer (some ⟨N.mB, 0, none⟩)] w fun e w' => e = .returned (.bool true) ∧ Below w.heap.size w w' := by
  have HL := hid hL
  have HM := hid hM
  have HBd := hid hb
  have HR := hid hr
  have HPr : Hid (∀ xs pB i1 i2 c wr, AL xs w pB i1 i2 φ H X c wr → ∀ a, (a = 0 ∨ Nm H X a) → Calls Tryd.prog 63 #[.pointer (some ⟨pB, 0, none⟩), .int .u64 (a : Int), .int .i64 (φ a : Int)] wr fun e w' => e = .returned (.bool true) ∧ AL xs w pB i1 i2 φ H X c w') := hid (fun xs pB i1 i2 c wr h a ha => h.pair hL.hi hr.mt a ha)
  have HA0 := hid (AL.start (φ := φ) (H := H) (X := X) w)
  have HXB : Hid (XB X) := hid (hL.xn.xb hk)
  obtain ⟨hB, hhB⟩ : ∃ b, L.hB = b := ⟨_, rfl⟩
  obtain ⟨xB, hxB⟩ : ∃ b, T.xB = b := ⟨_, rfl⟩
  obtain ⟨mB, hmB⟩ : ∃ b, N.mB = b := ⟨_, rfl⟩
  rw [hmB]
  have HhB := hid hhB
  have HxB := hid hxB
  have HmB := hid hmB
  have HCw : Hid (∀ wz, Below w.heap.size w wz → wz.cell? ⟨wB, 0, none⟩ = some (.pointer (some ⟨hB, 0, none⟩)) ∧ wz.cell? ⟨wB, 1, none⟩ = some (.pointer (some ⟨xB, 0, none⟩))) := hid (fun wz hz => by
    have h1 := hL.below hz
    have cw := h1.wm.cells
    rw [h1.hv, hhB, hxB] at cw
    exact ⟨cw.1, cw.2.1⟩)
  have hmm := @run_makeMap Tryd.prog
  obtain ⟨w3, hw3⟩ : ∃ w3, ((w.alloc (.map #[] 0)).alloc (.map #[] 0)).alloc (.cells #[.map (some w.heap.size), .map (some (w.heap.size + 1)), .slice none 0 0] 145) = w3 := ⟨_, rfl⟩
  rw [hw3] at HA0
  clear hL hM hb hr hhB hxB hmB
  go_enter Tryd.func48, Tryd.ntmps48
  go_upto_region 2 with fail
  try simp only [hw3]
  generalize w.heap.size + 2 = pB at *
  generalize w.heap.size + 1 = i2 at *
  obtain ⟨i1, hi1⟩ : ∃ i, w.heap.size = i := ⟨_, rfl⟩
  have HA1 : Hid (AL [] w pB i1 i2 φ H X 196610 w3) := hid (by rw [← hi1]; exact HA0.out)
  clear hw3 hmm HA0 hi1
  go_wp2_with fail
  go_loopw [6] (fun j wr => ∃ m : Nat, m ≤ 4 ∧ j = .int .i64 (m : Int) ∧ Hid (AL [] w pB i1 i2 φ H X 196610 wr)) (fun j _ => 4 - (intOf j).toNat)
  case atStart => exact ⟨0, by omega, rfl, HA1⟩
  case round =>
  clear HA1
  obtain ⟨m, hm, rfl, HA⟩ := hrel
  by_cases hlt : m < 4
  · as_aux_lemma =>
    have dk : decide ((m : Int) < 4) = true := decide_eq_true (by omega)
    have i4 : (m : Int) < 4 := by omega
    have im0 : (0 : Int) ≤ (m : Int) := by omega
    obtain ⟨ra, rk, hrv⟩ := (HL.out.wm.mm.hm.rt m hlt).shape
    obtain ⟨rn, hrn⟩ : ∃ x, (H.roots m).length = x := ⟨_, rfl⟩
    rw [hrn] at hrv
    obtain ⟨ma, mk, hmv⟩ := (HM.out.pt.rt m hlt).shape
    have hmn : (M.roots m).length = rn := by rw [HR.out.roots m hlt, List.length_map, hrn]
    rw [hmn] at hmv
    obtain ⟨ha, hk9, hhv⟩ := (HM.out.pt.hd m hlt).shape
    obtain ⟨ln, hln⟩ : ∃ x, (M.held m).length = x := ⟨_, rfl⟩
    rw [hln] at hhv
    obtain ⟨gn, hgn⟩ : ∃ x, M.gen m = x := ⟨_, rfl⟩
    have HC : Hid (∀ wz, Below w.heap.size w wz → wz.cell? ⟨hB, 2 + m, none⟩ = some (.slice ra rn rk) ∧ wz.cell? ⟨mB, 1 + m, none⟩ = some (.slice ma rn mk) ∧ wz.cell? ⟨mB, 5 + m, none⟩ = some (.slice ha ln hk9) ∧ wz.cell? ⟨mB, 9 + m, none⟩ = some (.int .u64 (gn : Int))) := hid (fun wz hz => by
      have c1 := (HL.out.below hz).wm.mm.hm.rcell hlt
      have c2 := (HM.out.below hz).rcell hlt
      rw [HhB.out, hrv] at c1
      rw [HmB.out, hmv, hhv, hgn] at c2
      exact ⟨c1, c2⟩)
    have rn9 : (rn : Int) ≤ 64 := by have := HL.out.hi.rl m hlt; omega
    have ln9 : (ln : Int) ≤ 128 := by have := HBd.out.hd m hlt; omega
    have Hrn := hid hrn
    have Hmn := hid hmn
    have Hln := hid hln
    have Hrv := hid hrv
    have Hmv := hid hmv
    have Hhv := hid hhv
    have Hgn := hid hgn
    clear hrn hmn hln hrv hmv hhv hgn
    go_upto_region 5 with fail
    refine wp_region_heavy (fun wy => Below w.heap.size w wy) 18 [0, 1, 2, 3, 4, 5, 6, 7, 8, 9, 10, 11, 12, 13, 14, 15, 16, 17] [] rfl (by kernel_rfl) (by kernel_rfl) (fun d _ _ _ _ h => by cases d <;> exact h) (HA.out.bel.trans (Drew.below ⟨1, rfl⟩ _)) ?_
    apply Exists.intro
    refine ⟨?_, ?_⟩
    · intro W hW
      have q0 := fun x => (HCw.out _ (hW x)).1
      have q1 := fun x => (HC.out _ (hW x)).1
      have q2 := fun x => (HC.out _ (hW x)).2.1
      clear hW
      simp only [List.take, opsAt, List.drop, List.cons_append, List.nil_append]
      repeat (go_big_quiet_step (fail))
      exact rfl
    simp only [List.take, List.drop, opsAt, List.cons_append, List.nil_append, wpHv, QN]
    have HA2 : Hid (AL [] w pB i1 i2 φ H X 196610 wr.drew) := hid (HA.out.below (Drew.below ⟨1, rfl⟩ _))
    generalize wr.drew = wd at HA2 ⊢
    clear HA
    have dne : ((rn : Int) != (rn : Int)) = false := by simp
    have c0 := (HCw.out wd HA2.out.bel).1
    have c1 := (HC.out wd HA2.out.bel).1
    go_wp2_with fail
    go_loopw [55] (fun v wq => ∃ j : Nat, j ≤ rn ∧ v = .int .i64 (j : Int) ∧ Hid (AL [] w pB i1 i2 φ H X 196610 wq)) (fun v _ => rn - (intOf v).toNat)
    case atStart => exact ⟨0, by omega, rfl, HA2⟩
    case round =>
    clear HA2 c0 c1 dne
    obtain ⟨j, hj, rfl, HA⟩ := hrel
    by_cases hjl : j < rn
    · as_aux_lemma =>
      have dj : decide ((j : Int) < (rn : Int)) = true := decide_eq_true (by omega)
      have ij : (j : Int) < (rn : Int) := by omega
      obtain ⟨x, hx⟩ : ∃ x, (H.roots m)[j]? = some x := ⟨_, List.getElem?_eq_getElem (by rw [Hrn.out]; exact hjl)⟩
      have hx2 : (M.roots m)[j]? = some (φ x) := by rw [HR.out.roots m hlt, List.getElem?_map, hx]; rfl
      have HL2 := HL.out.below HA.out.bel
      obtain ⟨g1, k1, e1, e2⟩ := (HL2.wm.mm.hm.rt m hlt).get hx
      rw [Hrv.out] at e1
      injection e1 with t1 t2 t3
      subst t1
      obtain ⟨g2, k2, e3, e4⟩ := ((HM.out.below HA.out.bel).pt.rt m hlt).get hx2
      rw [Hmv.out] at e3
      injection e3 with t4 t5 t6
      subst t4
      have cm := (HC.out wr HA.out.bel).2.1
      have hnm : x = 0 ∨ Nm H X x := by
        by_cases e : x = 0
        · exact .inl e
        · exact .inr (.root m x hlt (List.mem_of_getElem? hx) e)
      have HCl := hid (HPr.out _ _ _ _ _ _ HA.out x hnm)
      generalize φ x = fx at HCl e4
      clear hx hx2 HL2 t2 t3 t5 t6 hnm
      go_wp2_with fail
      refine HCl.out.mono ?_
      rintro e w7 ⟨rfl, hA7⟩
      have HA7 := hid hA7
      clear hA7 HCl HA cm e2 e4
      go_wp2
      exact ⟨⟨j + 1, by omega, by go_num, HA7⟩, by simp [intOf]; omega⟩
    obtain rfl : j = rn := by omega
    as_aux_lemma =>
    have dj : decide ((j : Int) < (j : Int)) = false := decide_eq_false (by omega)
    have ch := (HC.out wr HA.out.bel).2.2.1
    go_wp2_with fail
    go_loopw [81] (fun v wq => ∃ s : Nat, s ≤ ln ∧ v = .int .i64 (s : Int) ∧ Hid (AL [] w pB i1 i2 φ H X 196610 wq)) (fun v _ => ln - (intOf v).toNat)
    case atStart => exact ⟨0, by omega, rfl, HA⟩
    case round =>
    clear HA ch dj
    obtain ⟨s, hs, rfl, HA⟩ := hrel
    by_cases hsl : s < ln
    · as_aux_lemma =>
      have ds : decide ((s : Int) < (ln : Int)) = true := decide_eq_true (by omega)
      have is : (s : Int) < (ln : Int) := by omega
      have hal : (X.tb m).ad.length = ln := by rw [← Hln.out, HR.out.held m hlt, List.length_map]
      obtain ⟨x, hx⟩ : ∃ x, ((X.tb m).ad)[s]? = some x := ⟨_, List.getElem?_eq_getElem (by rw [hal]; exact hsl)⟩
      have hx2 : (M.held m)[s]? = some (φ x) := by rw [HR.out.held m hlt, List.getElem?_map, hx]; rfl
      obtain ⟨g2, k2, e3, e4⟩ := ((HM.out.below HA.out.bel).pt.hd m hlt).get hx2
      rw [Hhv.out] at e3
      injection e3 with t4 t5 t6
      subst t4
      have hgx : (X.tb m).gen = gn := by rw [← HR.out.gen m hlt, Hgn.out]
      have hg9 : gn ≤ 100000000000 := by rw [← hgx]; have := HL.out.xn.gen m; omega
      have hmem : x ∈ (X.tb m).ad := List.mem_of_getElem? hx
      have hnz : x ≠ 0 := fun e => HL.out.hi.nz m hlt (by rw [← e]; exact hmem)
      have hnm : x = 0 ∨ Nm H X x := .inr (.hand m x hlt hmem hnz)
      have hhl : hN gn m s < 18446744073709551616 := hN_lt (by omega) hlt (by omega)
      have htg : tgtX X m (hN gn m s) = (x, 0) := by
        unfold tgtX
        rw [if_neg (hN_ne _ _ _), ← hgx, look_live hlt (by omega) (by rw [hgx]; omega), hx]
      have HAd : Hid (∀ wz, Below w.heap.size w wz → Calls Tryd.prog 11 #[.pointer (some ⟨xB, 0, none⟩), .int .i64 (m : Int), .int .u64 ((hN gn m s : Nat) : Int)] wz fun e w'' => e = .returned (.tuple #[.int .u64 (x : Int), .int .u8 0]) ∧ w'' = wz) := hid (fun wz hz => by
        have := address_walk (HL.out.below hz).wm.mm hlt HXB.out (hN gn m s) hhl
        rw [HxB.out, htg] at this
        exact this)
      have HHo : Hid (∀ w9 : World, Calls Tryd.prog 62 #[.int .i64 (m : Int), .int .u64 (gn : Int), .int .i64 (s : Int)] w9 fun e w' => e = .returned (.int .u64 ((hN gn m s : Nat) : Int)) ∧ w' = w9) := hid (fun w9 => handleOf_walk m gn s hlt (by omega) (by omega) w9)
      generalize hN gn m s = hv at HAd HHo
      have HPx := hid (fun wz (hz : AL [] w pB i1 i2 φ H X 196610 wz) => HPr.out _ _ _ _ _ _ hz x hnm)
      generalize φ x = fx at HPx e4
      clear hx hx2 t5 t6 hnm hal hgx hmem hnz hhl htg
      go_upto_region 16 with fail
      refine wp_region_heavy (fun wy => Below w.heap.size w wy) 20 [0, 1, 2, 3, 4, 5, 6, 7, 8, 9, 10, 11, 12, 13, 14, 15, 16, 17, 18, 19] [] rfl (by kernel_rfl) (by kernel_rfl) (fun d _ _ _ _ h => by cases d <;> exact h) (HA.out.bel.trans (Drew.below ⟨1, rfl⟩ _)) ?_
      apply Exists.intro
      refine ⟨?_, ?_⟩
      · intro W hW
        have q0 := fun x => (HCw.out _ (hW x)).2
        have q1 := fun x => (HC.out _ (hW x)).2.2.2
        have HAd2 := fun y => HAd.out _ (hW y)
        clear hW
        simp only [List.take, opsAt, List.drop, List.cons_append, List.nil_append]
        repeat (go_big_quiet_step (first | (go_at_call 62; exact Calls.class_same (HHo.out _)) | (go_at_call 11; exact Calls.class_same (HAd2 _))))
        exact rfl
      simp only [List.take, List.drop, opsAt, List.cons_append, List.nil_append, wpHv, QN]
      have HA2 : Hid (AL [] w pB i1 i2 φ H X 196610 wr.drew) := hid (HA.out.below (Drew.below ⟨1, rfl⟩ _))
      generalize wr.drew = wd at HA2 ⊢
      clear HA HAd HHo e4
      go_wp2_with fail
      refine (HPx.out _ HA2.out).mono ?_
      rintro e w7 ⟨rfl, hA7⟩
      have HA7 := hid hA7
      clear hA7 HPx HA2
      go_wp2
      exact ⟨⟨s + 1, by omega, by go_num, HA7⟩, by simp [intOf]; omega⟩
    obtain rfl : s = ln := by omega
    as_aux_lemma =>
    have ds : decide ((s : Int) < (s : Int)) = false := decide_eq_false (by omega)
    go_wp2
    exact ⟨⟨m + 1, by omega, by go_num, HA⟩, by simp [intOf]; omega⟩
  obtain rfl : m = 4 := by omega
  as_aux_lemma =>
  rw [show ((4 : Nat) : Int) = 4 from rfl]
  have dk : decide ((4 : Int) < 4) = false := rfl
  go_wp2_with fail
  have HA5 : Hid (∃ c, AL [] w pB i1 i2 φ H X c wr) := hid ⟨_, HA.out⟩
  clear HA dk
  go_loopw [13] (fun _ wq => Hid (∃ c, AL [] w pB i1 i2 φ H X c wq)) (fun _ wq => (98305 - mapN wq i1) * 2 + tdN wq pB)
  case atStart => exact HA5
  case round =>
  clear HA5
  have HAe := hrel
  obtain ⟨c, hA⟩ := HAe.out
  obtain ⟨v, S, D, hMc, hS1, hS2, hD1, hD2, hcc⟩ := hA.ex
  have HBe := hid hA.bel
  have hSl := named_bound HL.out.hi hS1 hS2
  rcases List.eq_nil_or_concat D with hD0 | ⟨zs, x, hDx⟩
  · as_aux_lemma =>
    subst hD0
    have c2 := hMc.bk.cell 2
    obtain ⟨va, vk, hv⟩ := own_shape hMc.own
    have c2' : wr.cell? ⟨pB, 2, none⟩ = some (.slice va 0 vk) := by rw [← List.length_nil (α := Nat), ← hv]; exact c2
    clear c2 hv hMc hS1 hS2 hD1 hD2 hcc hA HAe hSl
    go_wp2
    go_ret
    exact ⟨rfl, HBe.out⟩
  rw [List.concat_eq_append] at hDx
  subst hDx
  obtain ⟨g, gk, hv, hk1, hk2, hpop⟩ := hMc.pop
  subst hv
  obtain ⟨zn, hzn⟩ : ∃ n, zs.length = n := ⟨_, rfl⟩
  have hzl : zn + 1 ≤ 98304 := by rw [List.length_append, List.length_singleton, hzn] at hD2; omega
  have Hme : Hid ((98305 - mapN wr i1) * 2 + tdN wr pB = (98305 - S.length) * 2 + zn + 1) := hid (by
    obtain ⟨E, e1, e2, e3⟩ := hMc.m1
    have hE : E.length = S.length := by rw [← e2, List.length_map]
    have ht : tdN wr pB = zs.length + 1 := by
      unfold tdN
      rw [hMc.bk.cell 2]
      rfl
    rw [e1.mapN, ht, hE, hzn]
    omega)
  have hxS : x ∈ S := hD1 x (by simp)
  have HPop : Hid (∀ wy, Below wr.heap.size wr wy → wy.cell? ⟨g, zn, none⟩ = some (.int .u64 (x : Int)) ∧ wy.cell? ⟨pB, 2, none⟩ = some (.slice (some ⟨g, 0, none⟩) (zn + 1) gk) ∧ wy.frozen? ⟨pB, 2, none⟩ = false ∧ AL [] w pB i1 i2 φ H X ((98305 - S.length) * 2 + zn) (wy.setCell ⟨pB, 2, none⟩ (.slice (some ⟨g, 0, none⟩) zn gk)) ∧ ∀ wu, Below (wy.setCell ⟨pB, 2, none⟩ (.slice (some ⟨g, 0, none⟩) zn gk)).heap.size (wy.setCell ⟨pB, 2, none⟩ (.slice (some ⟨g, 0, none⟩) zn gk)) wu → (Instr.lookup 142 (.map (some i1)) (.int .u64 (x : Int)) false).run Tryd.prog wu = .ok (.int .i64 (φ x : Int)) wu ∧ wu.cell? ⟨pB, 0, none⟩ = some (.map (some i1))) := hid (fun wy hy => by
    obtain ⟨p1, p2, p3, p4⟩ := hpop wy hy
    rw [hzn] at p1 p2 p4
    have hu : Upd pB wy (wy.setCell ⟨pB, 2, none⟩ (.slice (some ⟨g, 0, none⟩) zn gk)) := (Upd.refl pB wy).setCell (p := ⟨pB, 2, none⟩) rfl _
    have hbe := HBe.out.trans (hy.mono HBe.out.size)
    exact ⟨p1, p2, p3, ⟨hbe.trans (hu.below hMc.lo.1 hbe.size), _, S, zs, p4, hS1, hS2, fun a ha => hD1 a (by simp [ha]), by rw [List.length_append] at hD2; omega, by rw [hzn]; omega⟩, fun wu hwu => ⟨(p4.below hwu).seen1 hxS, (p4.below hwu).bk.cell 0⟩⟩)
  have HNx := hid (hS2 x hxS)
  obtain ⟨ln, hln⟩ : ∃ l, zn + 1 = l := ⟨_, rfl⟩
  rw [hln] at HPop hzl
  have hli : (ln : Int) - 1 = (zn : Int) := by omega
  have ilt : (zn : Int) < (ln : Int) := by omega
  have lnb : (ln : Int) ≤ 98304 := by omega
  have dl : decide ((0 : Int) < (ln : Int)) = true := decide_eq_true (by omega)
  have kb : (gk : Int) ≤ 9223372036854775807 := by unfold maxLen at hk2; omega
  have kb2 : (zn : Int) ≤ (gk : Int) := by omega
  have c2 := (HPop.out wr (Below.refl _ _)).2.1
  clear hMc hS1 hS2 hD1 hD2 hcc hA HAe hSl hpop hk1 hk2 hzn hzl hxS hln
  have dl2 : decide (0 < ln) = true := decide_eq_true (by omega)
  go_upto_region 21 with fail
  try rw [dl2]
  refine wp_region_heavy (fun wy => Below wr.heap.size wr wy) 13 [0, 1, 2, 3, 4, 5, 6, 7, 8, 9, 10, 11, 12] [] rfl (by kernel_rfl) (by kernel_rfl) (fun d _ _ _ _ h => by cases d <;> exact h) (Drew.below ⟨1, rfl⟩ _) ?_
  apply Exists.intro
  refine ⟨?_, ?_⟩
  · intro W hW
    have q0 := fun x => (HPop.out _ (hW x)).1
    have q1 := fun x => (HPop.out _ (hW x)).2.1
    clear hW
    simp only [List.take, opsAt, List.drop, List.cons_append, List.nil_append]
    repeat (go_big_quiet_step (fail))
    exact rfl
  simp only [List.take, List.drop, opsAt, List.cons_append, List.nil_append, wpHv, QN]
  have HB1 : Hid (Below wr.heap.size wr wr.drew) := hid (Drew.below ⟨1, rfl⟩ _)
  generalize wr.drew = wd at HB1 ⊢
  go_upto_region 22 with fail
  refine wp_region_heavy (fun wy => Below wr.heap.size wr wy) 12 [0, 1, 2, 3, 4, 5, 6, 7, 8, 9, 10, 11] [] rfl (by kernel_rfl) (by kernel_rfl) (fun d _ _ _ _ h => by cases d <;> exact h) (HB1.out.trans (Drew.below ⟨1, rfl⟩ _)) ?_
  apply Exists.intro
  refine ⟨?_, ?_⟩
  · intro W hW
    have q1 := fun x => (HPop.out _ (hW x)).2.1
    clear hW
    simp only [List.take, opsAt, List.drop, List.cons_append, List.nil_append]
    repeat (go_big_quiet_step (fail))
    exact rfl
  simp only [List.take, List.drop, opsAt, List.cons_append, List.nil_append, wpHv, QN]
  have HB2 : Hid (Below wr.heap.size wr wd.drew) := hid (HB1.out.trans (Drew.below ⟨1, rfl⟩ _))
  generalize wd.drew = wd2 at HB2 ⊢
  have c2 := (HPop.out wd2 HB2.out).2.1
  have f2 := (HPop.out wd2 HB2.out).2.2.1
  have HA3 : Hid (AL [] w pB i1 i2 φ H X ((98305 - S.length) * 2 + zn) (wd2.setCell ⟨pB, 2, none⟩ (.slice (some ⟨g, 0, none⟩) zn gk))) := hid (HPop.out wd2 HB2.out).2.2.2.1
  have hlk := (HPop.out wd2 HB2.out).2.2.2.2
  clear HB1 HPop
  go_upto_region 23 with fail
  generalize wd2.setCell ⟨pB, 2, none⟩ (.slice (some ⟨g, 0, none⟩) zn gk) = w4 at HA3 hlk ⊢
  have HLk0 := hid hlk
  clear hlk
  clear c2 f2 HB2
  obtain ⟨y, qo, hy, hf1, hqo, hq1, hq2⟩ := HR.out.mt.ob x HNx.out
  have hcx := (HL.out.hi.nm x HNx.out).2
  have hyn : ∀ a ∈ y.refs, a = 0 ∨ Nm H X a := fun a ha => by
    by_cases e : a = 0
    · exact .inl e
    · exact .inr (.ref x a y HNx.out hy ha e)
  have HYn := hid hyn
  obtain ⟨f, hf⟩ : ∃ f, φ x = f := ⟨_, rfl⟩
  rw [hf] at HLk0 hf1 hqo
  have HLk : Hid (∀ wu, Below w4.heap.size w4 wu → (Instr.lookup 142 (.map (some i1)) (.int .u64 (x : Int)) false).run Tryd.prog wu = .ok (.int .i64 (f : Int)) wu) := hid (fun wu h => (HLk0.out wu h).1)
  have HCp : Hid (∀ wu, Below w4.heap.size w4 wu → wu.cell? ⟨pB, 0, none⟩ = some (.map (some i1))) := hid (fun wu h => (HLk0.out wu h).2)
  clear HLk0
  obtain ⟨i0, hi0⟩ : ∃ i, f - 1 = i := ⟨_, rfl⟩
  rw [hi0] at hqo
  have hfi : (f : Int) - 1 = (i0 : Int) := by omega
  obtain ⟨no, hno⟩ : ∃ x, M.objs.length = x := ⟨_, rfl⟩
  have i0lt : (i0 : Int) < (no : Int) := by have := (List.getElem?_eq_some_iff.1 hqo).1; omega
  have i0lt0 : i0 < no := by omega
  have nob : (no : Int) ≤ 100000000000 := by have := HBd.out.ob; omega
  have fb : (f : Int) ≤ 100000000000 := by omega
  obtain ⟨gO, kO, eO, hOat⟩ := HM.out.oat hqo
  rw [HmB.out, hno] at hOat
  have kOb : no ≤ kO ∧ kO ≤ maxLen := by
    rcases HM.out.pt.ow.2 with ⟨e, h0⟩ | ⟨g', cap, cur, e, h5, hg', hn', hc', hs', ht'⟩
    · omega
    · rw [eO] at e
      injection e with t1 t2 t3
      subst t3
      exact ⟨by omega, by omega⟩
  have kO1 : (kO : Int) ≤ 9223372036854775807 := by have := kOb.2; unfold maxLen at this; omega
  have kO2 : (no : Int) ≤ (kO : Int) := by omega
  obtain ⟨rn, hrn⟩ : ∃ x, y.refs.length = x := ⟨_, rfl⟩
  obtain ⟨dn, hdn⟩ : ∃ x, y.data.length = x := ⟨_, rfl⟩
  have hqr : qo.refs.length = rn := by rw [hq1, List.length_map, hrn]
  have hqd : qo.data.length = dn := by rw [hq2, hdn]
  obtain ⟨oB, hoB⟩ : ∃ b, L.ob x = b := ⟨_, rfl⟩
  obtain ⟨rB, hrB⟩ : ∃ b, L.rb x = b := ⟨_, rfl⟩
  obtain ⟨dB, hdB⟩ : ∃ b, L.db x = b := ⟨_, rfl⟩
  obtain ⟨mO, hmO⟩ : ∃ b, L.mO = b := ⟨_, rfl⟩
  obtain ⟨mC, hmC⟩ : ∃ b, L.mC = b := ⟨_, rfl⟩
  have hsz := (HL.out.wm.mm.hm.o x y hy).sz
  have rn9 : (rn : Int) ≤ 8192 := by omega
  have dn9 : (dn : Int) ≤ 8192 := by omega
  have HOb : Hid (∀ wz, Below w.heap.size w wz → wz.cell? ⟨hB, 0, none⟩ = some (.map (some mO)) ∧ wz.cell? ⟨hB, 10, none⟩ = some (.map (some mC)) ∧ (Instr.lookup 78 (.map (some mO)) (.int .u64 (x : Int)) true).run Tryd.prog wz = .ok (.tuple #[.pointer (some ⟨oB, 0, none⟩), .bool true]) wz ∧ (Instr.lookup 83 (.map (some mC)) (.int .u64 (x : Int)) false).run Tryd.prog wz = .ok (.bool false) wz) := hid (fun wz hz => by
    have h1 := (HL.out.below hz).wm.mm.hm
    have l1 := h1.lookT hy
    have l2 := h1.lookC x
    have c := h1.cells
    rw [hmO, hoB] at l1
    rw [hmC, hcx] at l2
    rw [HhB.out, hmO, hmC] at c
    exact ⟨c.1, c.2.2, l1, l2⟩)
  have HOc : Hid (∀ wz, Below w.heap.size w wz → wz.cell? ⟨oB, 0, none⟩ = some (.slice (some ⟨rB, 0, none⟩) rn rn) ∧ wz.cell? ⟨oB, 1, none⟩ = some (.slice (some ⟨dB, 0, none⟩) dn dn)) := hid (fun wz hz => by
    have h1 := ((HL.out.below hz).wm.mm.hm.o x y hy).o
    rw [hoB, hrB, hdB, hrn, hdn] at h1
    exact ⟨h1.cell 0, h1.cell 1⟩)
  obtain ⟨mrB, hmrB⟩ : ∃ b, N.rb i0 = b := ⟨_, rfl⟩
  obtain ⟨mdB, hmdB⟩ : ∃ b, N.db i0 = b := ⟨_, rfl⟩
  rw [hmrB, hmdB] at hOat
  have HRj : Hid (∀ wz, Below w.heap.size w wz → ∀ j a : Nat, y.refs[j]? = some a → wz.cell? ⟨rB, j, none⟩ = some (.int .u64 (a : Int)) ∧ wz.cell? ⟨mrB, j, none⟩ = some (.int .i64 (φ a : Int))) := hid (fun wz hz j a hj => by
    have h1 := ((HL.out.below hz).wm.mm.hm.o x y hy).r
    rw [hrB] at h1
    have h2 := (hOat wz hz).rb
    refine ⟨?_, ?_⟩
    · rw [h1.cell]; unfold aC; rw [List.getElem?_map, hj]; rfl
    · rw [h2.cell]; unfold aK; rw [List.getElem?_map, hq1, List.getElem?_map, hj]; rfl)
  have HDj : Hid (∀ wz, Below w.heap.size w wz → ∀ j a : Nat, y.data[j]? = some a → wz.cell? ⟨dB, j, none⟩ = some (.int .u64 (a : Int)) ∧ wz.cell? ⟨mdB, j, none⟩ = some (.int .u64 (a : Int))) := hid (fun wz hz j a hj => by
    have h1 := ((HL.out.below hz).wm.mm.hm.o x y hy).d
    rw [hdB] at h1
    have h2 := (hOat wz hz).db
    refine ⟨?_, ?_⟩
    · rw [h1.cell]; unfold aC; rw [List.getElem?_map, hj]; rfl
    · rw [h2.cell]; unfold aK; rw [List.getElem?_map, hq2, hj]; rfl)
  have HQo : Hid (∀ wz, Below w.heap.size w wz → wz.cell? ⟨mB, 0, none⟩ = some (.slice (some ⟨gO, 0, none⟩) no kO) ∧ wz.cell? ⟨gO, i0 * 2, none⟩ = some (.slice (some ⟨mrB, 0, none⟩) rn rn) ∧ wz.cell? ⟨gO, i0 * 2 + 1, none⟩ = some (.slice (some ⟨mdB, 0, none⟩) dn dn)) := hid (fun wz hz => by
    have h1 := hOat wz hz
    have h2 := h1.r
    have h3 := h1.d
    rw [hqr] at h2
    rw [hqd] at h3
    exact ⟨h1.c, h2, h3⟩)
  have Hrn := hid hrn
  have Hdn := hid hdn
  have c0 := (HCw.out w4 HA3.out.bel).1
  have c1 := (HOb.out w4 HA3.out.bel).1
  have c10 := (HOb.out w4 HA3.out.bel).2.1
  have l1 := (HOb.out w4 HA3.out.bel).2.2.1
  have l2 := (HOb.out w4 HA3.out.bel).2.2.2
  clear hy hf1 hqo hq1 hq2 hcx hyn hf hi0 hno eO hOat kOb hrn hdn hqr hqd hoB hrB hdB hmO hmC hsz hmrB hmdB HNx HOb
  go_upto_region 26 with fail
  clear c0 c1 c10 l1 l2
  refine wp_region_heavy (fun wy => Below w4.heap.size w4 wy) 14 [0, 1, 2, 3, 4, 5, 6, 7, 8, 9, 10, 11, 12] [13] rfl (by kernel_rfl) (by kernel_rfl) (fun d _ _ _ _ h => by cases d <;> exact h) (Drew.below ⟨1, rfl⟩ _) ?_
  apply Exists.intro
  refine ⟨?_, ?_⟩
  · intro W hW
    have q0 := fun x => (HQo.out _ (HA3.out.bel.trans ((hW x).mono HA3.out.bel.size))).1
    have q1 := fun x => (HQo.out _ (HA3.out.bel.trans ((hW x).mono HA3.out.bel.size))).2.1
    have q2 := fun x => (HQo.out _ (HA3.out.bel.trans ((hW x).mono HA3.out.bel.size))).2.2
    have q3 := fun x => HLk.out _ (hW x)
    have q4 := fun x => HCp.out _ (hW x)
    clear hW
    simp only [List.take, opsAt, List.drop, List.cons_append, List.nil_append]
    repeat (go_big_quiet_step (fail))
    exact rfl
  simp only [List.take, List.drop, opsAt, List.cons_append, List.nil_append, wpHv]
  have HB4 : Hid (Below w4.heap.size w4 w4.drew) := hid (Drew.below ⟨1, rfl⟩ _)
  generalize w4.drew = wd at HB4 ⊢
  have HA4 := hid ((HA3.out.below HB4.out).alloc [.slice none 0 0, .slice none 0 0] 93)
  obtain ⟨qB, hqB⟩ : ∃ b, wd.heap.size = b := ⟨_, rfl⟩
  rw [hqB] at HA4
  have HBq : Hid (Below w4.heap.size w4 (wd.alloc (.cells #[.slice none 0 0, .slice none 0 0] 93))) := hid (HB4.out.trans ((nbel wd _).mono HB4.out.size))
  have hqb : w.heap.size ≤ qB := by rw [← hqB]; exact Nat.le_trans HA3.out.bel.size HB4.out.size
  have Hqb := hid hqb
  have I2 : Hid ((Tryd.prog.info? 93).map (·.size) = some 2) := hid (by kernel_rfl)
  go_wp2_with fail
  try simp only [hqB]
  refine ⟨HBq.out, ?_⟩
  simp only [QN]
  generalize wd.alloc (.cells #[.slice none 0 0, .slice none 0 0] 93) = w5 at HA4 ⊢
  clear HBq HB4 HA3 hqB hqb HLk HCp
  go_upto_region 27 with (refine wpList_store_blk rfl 93 _ _ rfl qB rfl [.slice (some ⟨mrB, 0, none⟩) rn rn, .slice (some ⟨mdB, 0, none⟩) dn dn] rfl (HA4.out.xblk (qB, 93, [.slice none 0 0, .slice none 0 0]) (by simp)) rfl I2.out (by intro v hv; simp at hv; rcases hv with rfl | rfl <;> rfl) ?_; intro w6 HB6 HU6)
  have HA6 : Hid (AL [(qB, 93, [.slice (some ⟨mrB, 0, none⟩) rn rn, .slice (some ⟨mdB, 0, none⟩) dn dn])] w pB i1 i2 φ H X ((98305 - S.length) * 2 + zn) w6) := hid (HA4.out.setx Hqb.out (fun x hx => (by cases hx)) HB6.out HU6.out)
  clear HA4 HB6 HU6 Hqb HQo
  obtain ⟨cc, hcc⟩ : ∃ c, (98305 - S.length) * 2 + zn = c := ⟨_, rfl⟩
  rw [hcc] at HA6 Hme
  have HXc : Hid (∀ wz, AL [(qB, 93, [.slice (some ⟨mrB, 0, none⟩) rn rn, .slice (some ⟨mdB, 0, none⟩) dn dn])] w pB i1 i2 φ H X cc wz → (wz.cell? ⟨qB, 0, none⟩ = some (.slice (some ⟨mrB, 0, none⟩) rn rn) ∧ wz.cell? ⟨qB, 1, none⟩ = some (.slice (some ⟨mdB, 0, none⟩) dn dn)) ∧ wz.cell? ⟨oB, 0, none⟩ = some (.slice (some ⟨rB, 0, none⟩) rn rn) ∧ wz.cell? ⟨oB, 1, none⟩ = some (.slice (some ⟨dB, 0, none⟩) dn dn)) := hid (fun wz hz => by
    have hb := hz.xblk _ List.mem_cons_self
    exact ⟨⟨hb.cell 0, hb.cell 1⟩, HOc.out wz hz.bel⟩)
  obtain ⟨XS, hXS⟩ : ∃ X : List XBk, [(qB, 93, [.slice (some ⟨mrB, 0, none⟩) rn rn, .slice (some ⟨mdB, 0, none⟩) dn dn])] = X := ⟨_, rfl⟩
  rw [hXS] at HA6 HXc
  clear hcc hXS HOc
  go_frame
  refine wp_region_heavy (fun wy => AL XS w pB i1 i2 φ H X cc wy) 20 [0, 1, 2, 3, 4, 5, 6, 7, 8, 9, 10, 11, 12, 13, 14, 15, 16, 17, 18, 19] [] rfl (by kernel_rfl) (by kernel_rfl) (fun d _ _ _ _ h => by cases d <;> exact h) (HA6.out.below (Drew.below ⟨1, rfl⟩ _)) ?_
  apply Exists.intro
  refine ⟨?_, ?_⟩
  · intro W hW
    have q0 := fun x => (HXc.out _ (hW x)).1.1
    have q1 := fun x => (HXc.out _ (hW x)).1.2
    have q2 := fun x => (HXc.out _ (hW x)).2.1
    have q3 := fun x => (HXc.out _ (hW x)).2.2
    have dr : ((rn : Int) != (rn : Int)) = false := by simp
    have dd : ((dn : Int) != (dn : Int)) = false := by simp
    clear hW
    simp only [List.take, opsAt, List.drop, List.cons_append, List.nil_append]
    repeat (go_big_quiet_step (fail))
    exact rfl
  simp only [List.take, List.drop, opsAt, List.cons_append, List.nil_append, wpHv, QN]
  have HA7 : Hid (AL XS w pB i1 i2 φ H X cc w6.drew) := hid (HA6.out.below (Drew.below ⟨1, rfl⟩ _))
  generalize w6.drew = w7 at HA7 ⊢
  clear HA6
  have dr : ((rn : Int) != (rn : Int)) = false := by simp
  have dd : ((dn : Int) != (dn : Int)) = false := by simp
  have co := (HXc.out _ HA7.out).2.2
  go_wp2_with fail
  clear dr dd co
  go_loopw [209] (fun v wq => ∃ j : Nat, j ≤ dn ∧ v = .int .i64 (j : Int) ∧ Hid (AL XS w pB i1 i2 φ H X cc wq)) (fun v _ => dn - (intOf v).toNat)
  case atStart => exact ⟨0, by omega, rfl, HA7⟩
  case round =>
  clear HA7
  obtain ⟨j, hj, rfl, HA⟩ := hrel
  by_cases hjl : j < dn
  · as_aux_lemma =>
    have dj : decide ((j : Int) < (dn : Int)) = true := decide_eq_true (by omega)
    have ij : (j : Int) < (dn : Int) := by omega
    obtain ⟨a, ha⟩ : ∃ a, y.data[j]? = some a := ⟨_, List.getElem?_eq_getElem (by rw [Hdn.out]; exact hjl)⟩
    have HDa := hid (fun wz hz => HDj.out wz hz j a ha)
    have dna : ((a : Int) != (a : Int)) = false := by simp
    clear ha
    go_upto_region 32 with fail
    refine wp_region_heavy (fun wy => AL XS w pB i1 i2 φ H X cc wy) 13 [0, 1, 2, 3, 4, 5, 6, 7, 8, 9, 10, 11, 12] [] rfl (by kernel_rfl) (by kernel_rfl) (fun d _ _ _ _ h => by cases d <;> exact h) (HA.out.below (Drew.below ⟨1, rfl⟩ _)) ?_
    apply Exists.intro
    refine ⟨?_, ?_⟩
    · intro W hW
      have q1 := fun x => (HXc.out _ (hW x)).1.2
      have q3 := fun x => (HXc.out _ (hW x)).2.2
      have q4 := fun x => (HDa.out _ (hW x).bel).1
      have q5 := fun x => (HDa.out _ (hW x).bel).2
      clear hW
      simp only [List.take, opsAt, List.drop, List.cons_append, List.nil_append]
      repeat (go_big_quiet_step (fail))
      exact rfl
    simp only [List.take, List.drop, opsAt, List.cons_append, List.nil_append, wpHv, QN]
    have HA2 : Hid (AL XS w pB i1 i2 φ H X cc wr.drew) := hid (HA.out.below (Drew.below ⟨1, rfl⟩ _))
    generalize wr.drew = wd at HA2 ⊢
    go_wp2
    exact ⟨⟨j + 1, by omega, by go_num, HA2⟩, by simp [intOf]; omega⟩
  obtain rfl : j = dn := by omega
  as_aux_lemma =>
  have dj : decide ((j : Int) < (j : Int)) = false := decide_eq_false (by omega)
  have co := (HXc.out _ HA.out).2.1
  go_wp2_with fail
  go_loopw [231] (fun v wq => ∃ s : Nat, s ≤ rn ∧ v = .int .i64 (s : Int) ∧ Hid (AL XS w pB i1 i2 φ H X cc wq)) (fun v _ => rn - (intOf v).toNat)
  case atStart => exact ⟨0, by omega, rfl, HA⟩
  case round =>
  clear HA co dj
  obtain ⟨s, hs, rfl, HA⟩ := hrel
  by_cases hsl : s < rn
  · as_aux_lemma =>
    have ds : decide ((s : Int) < (rn : Int)) = true := decide_eq_true (by omega)
    have is : (s : Int) < (rn : Int) := by omega
    obtain ⟨a, ha⟩ : ∃ a, y.refs[s]? = some a := ⟨_, List.getElem?_eq_getElem (by rw [Hrn.out]; exact hsl)⟩
    have HRa := hid (fun wz hz => HRj.out wz hz s a ha)
    have HPa := hid (fun wz (hz : AL XS w pB i1 i2 φ H X cc wz) => HPr.out _ _ _ _ _ _ hz a (HYn.out a (List.mem_of_getElem? ha)))
    generalize φ a = fa at HRa HPa
    clear ha
    go_upto_region 38 with fail
    refine wp_region_heavy (fun wy => AL XS w pB i1 i2 φ H X cc wy) 15 [0, 1, 2, 3, 4, 5, 6, 7, 8, 9, 10, 11, 12] [13, 14] rfl (by kernel_rfl) (by kernel_rfl) (fun d _ _ _ _ h => by cases d <;> exact h) (HA.out.below (Drew.below ⟨1, rfl⟩ _)) ?_
    apply Exists.intro
    refine ⟨?_, ?_⟩
    · intro W hW
      have q1 := fun x => (HXc.out _ (hW x)).1.1
      have q3 := fun x => (HXc.out _ (hW x)).2.1
      have q4 := fun x => (HRa.out _ (hW x).bel).1
      have q5 := fun x => (HRa.out _ (hW x).bel).2
      clear hW
      simp only [List.take, opsAt, List.drop, List.cons_append, List.nil_append]
      repeat (go_big_quiet_step (fail))
      exact rfl
    simp only [List.take, List.drop, opsAt, List.cons_append, List.nil_append, wpHv]
    have HA2 : Hid (AL XS w pB i1 i2 φ H X cc wr.drew) := hid (HA.out.below (Drew.below ⟨1, rfl⟩ _))
    generalize wr.drew = wd at HA2 ⊢
    go_wp2_with fail
    refine (HPa.out _ HA2.out).mono ?_
    rintro e w8 ⟨rfl, hA8⟩
    have HA8 := hid hA8
    clear hA8 HA2
    go_wp2_with fail
    refine ⟨HA8.out, ?_⟩
    go_wp2_with fail
    refine ⟨HA8.out, ?_⟩
    simp only [QN]
    go_wp2
    exact ⟨⟨s + 1, by omega, by go_num, HA8⟩, by simp [intOf]; omega⟩
  obtain rfl : s = rn := by omega
  as_aux_lemma =>
  have ds : decide ((s : Int) < (s : Int)) = false := decide_eq_false (by omega)
  have HAd : Hid (∃ c, AL [] w pB i1 i2 φ H X c wr) := hid ⟨_, HA.out.drop⟩
  have Hmm := hid HA.out.meas
  go_wp2
  exact ⟨HAd, by have h1 := Hme.out; have h2 := Hmm.out; omega⟩
end
end Go.Proofs.Qxb6500889aDoor
