/- The law HarvestPairsEachLoggedField (written by tools/mk_l6.py). -/
import Derived.Test.Qxb6500888aBaQ6
namespace Go.Proofs.Qxb6500888a
open Go.RowKit
set_option linter.unusedSimpArgs false
set_option linter.unusedVariables false
attribute [local irreducible] wdC

theorem OwR.neK {α β : Type} {K : RK α} {K' : RK β} {n0 n1 : Nat} {w : World} {v v' : Value} {xs : List α} {ys : List β} (h : OwR K n0 w v xs) (h' : OwR K' n1 w v' ys) (ht : K.t ≠ K'.t) : ∀ g, v.ownBlock = some g → v'.ownBlock ≠ some g := fun g hg hg' => by
  rcases h.2 with ⟨h1, _⟩ | ⟨a, cap, cur, h1, h2, h3, _⟩
  · rw [h1] at hg; cases hg
  · rcases h'.2 with ⟨k1, _⟩ | ⟨a', cap', cur', k1, k2, k3, _⟩
    · rw [k1] at hg'; cases hg'
    · rw [h1] at hg
      rw [k1] at hg'
      cases hg
      cases hg'
      rw [h3] at k3
      have k4 := Option.some.inj k3
      injection k4 with k5 k6 k7
      exact ht k6
theorem Kep.row {α : Type} {K : RK α} {n0 : Nat} {w w' : World} {u v : Value} {xs : List α} (h : Kep w u w') (hv : OwR K n0 w v xs) (hne : ∀ g, v.ownBlock = some g → u.ownBlock ≠ some g) : OwR K n0 w' v xs := hv.of (fun g hg hlt => h.blk g hlt (fun g' hg' e => by subst e; exact hne g hg hg'))
def fI (G : GS) (B : BS) (j : Nat) : List Nat := (((lgL B).take j).map fun e => G.word (offA e.1)).filter (fun x => decide (x ≠ 0))
def fD (B : BS) (j : Nat) : List Nat := (((lgL B).take j).map Prod.snd).filter (fun x => decide (x ≠ 0))
theorem fI_s {G : GS} {B : BS} {j : Nat} {e : Nat × Nat} (h : (lgL B)[j]? = some e) : fI G B (j + 1) = fI G B j ++ (if G.word (offA e.1) = 0 then [] else [G.word (offA e.1)]) := by
  unfold fI
  rw [List.take_add_one, h, Option.toList_some, List.map_append, List.filter_append]
  congr 1
  by_cases e0 : G.word (offA e.1) = 0 <;> simp [e0]
theorem fD_s {B : BS} {j : Nat} {e : Nat × Nat} (h : (lgL B)[j]? = some e) : fD B (j + 1) = fD B j ++ (if e.2 = 0 then [] else [e.2]) := by
  unfold fD
  rw [List.take_add_one, h, Option.toList_some, List.map_append, List.filter_append]
  congr 1
  by_cases e0 : e.2 = 0 <;> simp [e0]
theorem fI_len (G : GS) (B : BS) (j : Nat) : (fI G B j).length ≤ (lgL B).length := by
  unfold fI
  refine Nat.le_trans (List.length_filter_le _ _) ?_
  rw [List.length_map, List.length_take]
  omega
theorem fD_len (B : BS) (j : Nat) : (fD B j).length ≤ (lgL B).length := by
  unfold fD
  refine Nat.le_trans (List.length_filter_le _ _) ?_
  rw [List.length_map, List.length_take]
  omega
/-- The two lists under way. -/
structure HlI (w3 : World) (G : GS) (B : BS) (j7 j8 : Nat) (lv v7 v8 : Value) (wr : World) : Prop where
  r7 : OwR rtA w3.heap.size wr v7 (fI G B j7)
  r8 : OwR rtA w3.heap.size wr v8 (fD B j8)
  lr : OwR rtE w3.heap.size wr lv (lgL B)
  ap : ∀ g, v7.ownBlock = some g → v8.ownBlock ≠ some g
  bel : Below w3.heap.size w3 wr
theorem HlI.below {w3 wr w' : World} {G : GS} {B : BS} {j7 j8 : Nat} {lv v7 v8 : Value} (h : HlI w3 G B j7 j8 lv v7 v8 wr) (hb : Below wr.heap.size wr w') : HlI w3 G B j7 j8 lv v7 v8 w' := ⟨h.r7.below hb, h.r8.below hb, h.lr.below hb, h.ap, h.bel.trans (hb.mono h.bel.size)⟩
set_option maxRecDepth 1000000 in
set_option maxHeartbeats 8000000 in
theorem pairs_walk (a : Option Addr) (n c : Nat) (l : List OpP) (w : World) (hs : Script w a n c l) :
    Calls Try.prog 5 #[.slice a n c] w fun e w' => e = .returned (.bool true) ∧ Below w.heap.size w w' := by
  have HSm := hid (fun w => small_walk a n c w)
  have HS := hid hs
  have HNw := hid (fun w => newWorld_walk w)
  have HNs := hid (fun w => newSnapshot_walk w)
  clear hs
  by_cases hsm : n ≤ 65536
  rotate_left
  · as_aux_lemma =>
    rw [decide_eq_false hsm] at HSm
    go_enter Try.func5, Try.ntmps5
    go_wp2_with (go_at_call 13; refine (HSm.out _).mono ?_; rintro e w' ⟨rfl, rfl⟩)
    go_ret
    exact ⟨rfl, Below.refl _ _⟩
  rw [decide_eq_true hsm] at HSm
  go_enter Try.func5, Try.ntmps5
  go_wp2_with (go_at_call 13; refine (HSm.out _).mono ?_; rintro e w' ⟨rfl, rfl⟩)
  refine (HNw.out _).mono ?_
  rintro e w1 ⟨wB, ρ1, L1, T1, rfl, hW1, hl1, hb1, hwB⟩
  have HL1 : Hid (LW w' wB 0 ρ1 L1 T1 G0 B0 w1) := hid ⟨hW1, InvM.zero, hb1, hl1⟩
  have HwB := hid hwB
  clear hW1 hl1 hb1 HNw HSm hwB
  go_wp2_with fail
  refine (HNs.out _).mono ?_
  rintro e w2 ⟨rfl, hsn, hb2⟩
  obtain ⟨sN, hsN⟩ : ∃ x, w1.heap.size = x := ⟨_, rfl⟩
  have HLI : Hid (EfI w' wB sN 0 w2) := hid (by
    rw [hsN] at hsn
    refine ⟨ρ1, L1, T1, G0, B0, fun _ => 0, _, ⟨HL1.out.below hb2, hsn, HL1.out.new0 (by omega), ?_, ?_⟩, CI.zero _⟩
    · have := HL1.out.wm.wb.lt; omega
    · have := HL1.out.bel.size; omega)
  rw [hsN]
  clear HNs hsn hb2 hsN HL1
  go_wp2_with fail
  go_loopw [22] (fun v wr => ∃ i : Nat, i ≤ n ∧ v = .int .i64 (i : Int) ∧ Hid (EfI w' wB sN i wr)) (fun v _ => n - (intOf v).toNat)
  case atStart => exact ⟨0, by omega, rfl, HLI⟩
  case round =>
  clear HLI
  obtain ⟨i, hi, rfl, HLI⟩ := hrel
  obtain ⟨ρ, L, T, G, B, atp, Z, hE, hci⟩ := HLI.out
  have HE := hid hE
  have Hci := hid hci
  clear hE hci HLI
  by_cases hin : i < n
  rotate_left
  · as_aux_lemma =>
    have di : decide ((i : Int) < (n : Int)) = false := decide_eq_false (by omega)
    go_wp2
    go_ret
    exact ⟨rfl, HE.out.lw.bel⟩
  have di : decide ((i : Int) < (n : Int)) = true := decide_eq_true (by omega)
  have hii : (i : Int) < (n : Int) := by omega
  obtain ⟨o, ho, hok, b, off, rfl, hb, c0, c1, c2, c3, c4⟩ := (HS.out.below HE.out.lw.bel).at hin
  have HOk := hid hok
  clear ho hok
  obtain ⟨ob, hob⟩ : ∃ p, wr.heap.size = p := ⟨_, rfl⟩
  go_upto_region 7 with fail
  obtain ⟨w3, hw3⟩ : ∃ w2, wr.alloc (.cells #[.int .u8 (o.kind : Int), .int .u8 (o.m : Int), .int .u64 (o.a : Int), .int .u64 (o.b : Int), .int .u64 (o.c : Int)] 31) = w2 := ⟨_, rfl⟩
  have HW3 : Hid (EfS w' wB sN i ρ L T G B atp w3 ∧ Blk w3 ob 31 (opC o) ∧ ρ ob = 0) := hid (by
    rw [← hw3]
    have hbk := Blk.new wr (opC o) 31
    rw [hob] at hbk
    exact ⟨HE.out.below (nbel wr _), hbk, HE.out.lw.new0 (by omega)⟩)
  simp only [hw3]
  clear hw3 hob c0 c1 c2 c3 c4 HE
  have HAL := hid (allLogs_walk HW3.out.1.lw.wm (fun m => by have := HW3.out.1.lw.inv.bo.nl m; omega))
  go_wp2_with fail
  refine HAL.out.mono ?_
  rintro e w7 ⟨v7, rfl, h7, hb7⟩
  rw [lgK_four] at h7
  obtain ⟨a7, q7, rfl, _⟩ := h7.rdE
  obtain ⟨n7, hn7⟩ : ∃ x, (lgL B).length = x := ⟨_, rfl⟩
  have in7 : (n7 : Int) ≤ 4000000000 := by
    have h1 := lgK_len (B := B) (fun m => by have := HW3.out.1.lw.inv.bo.nl m; omega) 4
    rw [lgK_four, hn7] at h1
    omega
  have Hn7 := hid hn7
  rw [hn7] at h7
  rw [hn7]
  have HI0 : Hid (HlI w3 G B 0 0 (.slice a7 n7 q7) (.slice none 0 0) (.slice none 0 0) w7) := hid ⟨OwR.nil _ _ _, OwR.nil _ _ _, h7, fun g hg => (by cases hg), hb7⟩
  clear hn7 HAL h7 hb7
  go_wp2_with fail
  go_loopw [7, 8, 29] (fun u7 u8 v wr => ∃ j : Nat, j ≤ n7 ∧ v = .int .i64 (j : Int) ∧ ∃ ai ni qi ad nd qd, u7 = .slice ai ni qi ∧ u8 = .slice ad nd qd ∧ Hid (HlI w3 G B j j (.slice a7 n7 q7) (.slice ai ni qi) (.slice ad nd qd) wr)) (fun _ _ v _ => n7 - (intOf v).toNat)
  case atStart => exact ⟨0, by omega, rfl, none, 0, 0, none, 0, 0, rfl, rfl, HI0⟩
  case round =>
  clear HI0
  obtain ⟨j, hj, rfl, ai, ni, qi, ad, nd, qd, rfl, rfl, HJ⟩ := hrel
  by_cases hjn : j < n7
  · as_aux_lemma =>
    have dj : decide ((j : Int) < (n7 : Int)) = true := decide_eq_true (by omega)
    have hij : (j : Int) < (n7 : Int) := by omega
    obtain ⟨⟨f, od⟩, hx⟩ : ∃ x, (lgL B)[j]? = some x := ⟨(lgL B)[j]'(by rw [Hn7.out]; exact hjn), List.getElem?_eq_getElem _⟩
    obtain ⟨a7', q7', e7, hget⟩ := HJ.out.lr.rdE
    injection e7 with e71 e72 e73
    obtain ⟨g, e74, _, _, x1, x2⟩ := hget j _ hx
    subst e71 e73
    subst e74
    obtain ⟨ow, hZo, s, hs, e1, e2, e3⟩ := Hci.out.l2 _ (List.mem_of_getElem? hx)
    dsimp only at x1 x2 e1 e2
    obtain ⟨no, qo, hno⟩ := st_some (Hci.out.Ac_st (.inl hZo))
    have hs3 := (Hci.out.slot_in hno hs).2.2
    have HFs := hid (And.intro e1.symm hs3)
    have hoff : offA f = s := by rw [e1]; exact offA_add s
    have HI1 : Hid (fI G B (j + 1) = fI G B j ++ (if G.word s = 0 then [] else [G.word s])) := hid (by have := fI_s (G := G) hx; dsimp only at this; rw [hoff] at this; exact this)
    have HI2 : Hid (fD B (j + 1) = fD B j ++ (if od = 0 then [] else [od])) := hid (fD_s hx)
    obtain ⟨eb, heb⟩ : ∃ x, wr.heap.size = x := ⟨_, rfl⟩
    clear hx hs hno hZo e1 e2 e3 hs3 hget e72 hoff
    go_upto_region 11 with fail
    obtain ⟨wv, hwv⟩ : ∃ x, wr.alloc (.cells #[.int .u64 (f : Int), .int .u64 (od : Int)] 59) = x := ⟨_, rfl⟩
    have HBv : Hid (Below wr.heap.size wr wv) := hid (by rw [← hwv]; exact nbel wr _)
    have HEb : Hid (Blk wv eb 59 [.int .u64 (f : Int), .int .u64 (od : Int)]) := hid (by
      rw [← hwv, ← heb]
      exact Blk.new wr [.int .u64 (f : Int), .int .u64 (od : Int)] 59)
    simp only [hwv]
    clear hwv x1 x2 heb
    have HJv := hid (HJ.out.below HBv.out)
    clear HJ HBv
    have y2 : wv.cell? ⟨eb, 1, none⟩ = some (.int .u64 (od : Int)) := HEb.out.cell 1
    obtain ⟨b0, hb0⟩ : ∃ b, ((od : Int) != 0) = b := ⟨_, rfl⟩
    have Hb0 := hid hb0
    go_upto_if 35 with fail
    clear hb0
    go_cut [8] from 36 to 40 (fun v8 wc => ∃ ad nd qd, v8 = .slice ad nd qd ∧ Hid (HlI w3 G B j (j + 1) (.slice (some ⟨g, 0, none⟩) n7 q7) (.slice ai ni qi) (.slice ad nd qd) wc ∧ Blk wc eb 59 [.int .u64 (f : Int), .int .u64 (od : Int)]))
    case first =>
      as_aux_lemma =>
      cases b0 with
      | false =>
        have h0 : od = 0 := by have := Hb0.out; simp at this; omega
        subst h0
        have HR : Hid (HlI w3 G B j (j + 1) (.slice (some ⟨g, 0, none⟩) n7 q7) (.slice ai ni qi) (.slice ad nd qd) wv ∧ Blk wv eb 59 [.int .u64 (f : Int), .int .u64 ((0 : Nat) : Int)]) := hid ⟨⟨HJv.out.r7, by rw [HI2.out, if_pos rfl, List.append_nil]; exact HJv.out.r8, HJv.out.lr, HJv.out.ap, HJv.out.bel⟩, HEb.out⟩
        clear HJv HEb y2
        go_wp2
        go_meet
        case rel => exact ⟨_, _, _, rfl, HR⟩
      | true =>
        have h0 : od ≠ 0 := by have := Hb0.out; simp at this; omega
        go_wp2_with (at_builtin; refine stopHere ?_)
        intro _
        obtain ⟨k, hk8⟩ : ∃ k, wv.heap.size = k := ⟨_, rfl⟩
        obtain ⟨wf, hwf⟩ : ∃ wf, wv.alloc (.cells #[.int .u64 (od : Int)] 48) = wf := ⟨_, rfl⟩
        have HJf : Hid (HlI w3 G B j j (.slice (some ⟨g, 0, none⟩) n7 q7) (.slice ai ni qi) (.slice ad nd qd) wf ∧ Blk wf eb 59 [.int .u64 (f : Int), .int .u64 (od : Int)]) := hid (by rw [← hwf]; exact ⟨HJv.out.below (nbel wv _), HEb.out.below (nbel wv _)⟩)
        have HNw : Hid (∀ ad, some (⟨k, 0, none⟩ : Addr) = some ad → ∀ j u, ([od].flatMap rtA.f)[j]? = some u → wf.cell? (ad.add j) = some u) := hid (by rw [← hwf]; exact newX rtA wv od _ hk8.symm)
        (try simp only [hwf, hk8])
        clear hwf hk8 HJv HEb y2
        refine wpList_app_l okA rfl _ _ HJf.out.1.r8 rfl [od] rfl (some ⟨k, 0, none⟩) 1 1 rfl rfl (fun h => by cases h) HNw.out (by
          have h1 := fD_len B j
          rw [Hn7.out] at h1
          show ((fD B j).length + 1) * 8 ≤ _
          omega) HJf.out.1.bel.size ?_
        intro v9 w9 hr9 hk9 hg9
        obtain ⟨a9, q9, rfl⟩ := hr9.out.shape
        have HR : Hid (HlI w3 G B j (j + 1) (.slice (some ⟨g, 0, none⟩) n7 q7) (.slice ai ni qi) (.slice a9 (fD B j ++ [od]).length q9) w9 ∧ Blk w9 eb 59 [.int .u64 (f : Int), .int .u64 (od : Int)]) := hid (by
          have hh := HJf.out.1
          refine ⟨⟨hk9.out.row hh.r7 hh.ap, by rw [HI2.out, if_neg h0]; exact hr9.out, hk9.out.row hh.lr (hh.lr.neK hh.r8 (by decide)), fun g' h1 h2 => ?_, hh.bel.trans (hk9.out.below hh.r8.hi hh.bel.size)⟩, hk9.out.keep HJf.out.2 (hh.r8.ne HJf.out.2 (by decide))⟩
          rcases hg9 g' h2 with h3 | h3
          · exact hh.ap g' h1 h3
          · have := hh.r7.lt g' h1
            omega)
        generalize (fD B j ++ [od]).length = n9 at HR ⊢
        clear HJf hr9 hk9 hg9 HNw h0
        go_wp2
        go_meet
        case rel => exact ⟨_, _, _, rfl, HR⟩
    case rest =>
    as_aux_lemma =>
    obtain ⟨ad2, nd2, qd2, rfl, HR⟩ := hcut
    clear HJv HEb y2 HI2 Hb0
    obtain ⟨wu, hwu⟩ : ∃ x, wc = x := ⟨_, rfl⟩
    rw [hwu] at HR ⊢
    clear hwu
    go_upto_region 13 with fail
    obtain ⟨X, W, HTT, H0, hne, HC⟩ := class_below wu
    have HWu := hid (HW3.out.1.lw.below HR.out.1.bel)
    have y1 : ∀ y, (W y).cell? ⟨eb, 0, none⟩ = some (.int .u64 (f : Int)) := fun y => (HR.out.2.below (HTT.out y)).cell 0
    have y3 : ∀ y, (W y).cell? ⟨wB, 0, none⟩ = some (.pointer (some ⟨L.hB, 0, none⟩)) := fun y => (HWu.out.below (HTT.out y)).wm.cells.1
    have HRA : Hid (∀ y, Calls Try.prog 26 #[.pointer (some ⟨L.hB, 0, none⟩), .int .u64 (f : Int)] (W y) fun e w' => e = .returned (.int .u64 (G.word s : Int)) ∧ Below (W y).heap.size (W y) w') := hid (fun y => refAt_walk (HWu.out.below (HTT.out y)).wm.bm.gm (a := f) (s := s) HFs.out.1 HFs.out.2)
    generalize G.word s = v at HRA HI1
    refine wp_region_class W (by kernel_rfl) (by kernel_rfl) H0.out ?_
    repeat (go_big_quiet_step ((go_at_call 26; exact Calls.class_of HC.out (HRA.out _))))
    refine wpQuiet_nil ?_
    intro z
    have HJz := hid (HR.out.1.below (HTT.out z))
    generalize W z = wz at HJz ⊢
    clear y1 y3 HRA H0 HTT HC hne HR HWu
    by_cases hv0 : v = 0
    · subst hv0
      have HJ9 : Hid (HlI w3 G B (j + 1) (j + 1) (.slice (some ⟨g, 0, none⟩) n7 q7) (.slice ai ni qi) (.slice ad2 nd2 qd2) wz) := hid ⟨by rw [HI1.out, if_pos rfl, List.append_nil]; exact HJz.out.r7, HJz.out.r8, HJz.out.lr, HJz.out.ap, HJz.out.bel⟩
      clear HJz
      go_wp2
      exact ⟨⟨j + 1, by omega, by go_num, _, _, _, _, _, _, rfl, rfl, HJ9⟩, by simp [intOf]; omega⟩
    · have dv : (!((v : Int) == 0)) = true := by simp; omega
      have dv2 : ((v : Int) == 0) = false := by simp; omega
      go_upto_region 15 with fail
      go_wp2_with (at_builtin; refine stopHere ?_)
      intro _
      obtain ⟨k, hk8⟩ : ∃ k, wz.heap.size = k := ⟨_, rfl⟩
      obtain ⟨wf, hwf⟩ : ∃ wf, wz.alloc (.cells #[.int .u64 (v : Int)] 48) = wf := ⟨_, rfl⟩
      have HJf : Hid (HlI w3 G B j (j + 1) (.slice (some ⟨g, 0, none⟩) n7 q7) (.slice ai ni qi) (.slice ad2 nd2 qd2) wf) := hid (by rw [← hwf]; exact HJz.out.below (nbel wz _))
      have HNw : Hid (∀ ad, some (⟨k, 0, none⟩ : Addr) = some ad → ∀ j u, ([v].flatMap rtA.f)[j]? = some u → wf.cell? (ad.add j) = some u) := hid (by rw [← hwf]; exact newX rtA wz v _ hk8.symm)
      (try simp only [hwf, hk8])
      clear hwf hk8 HJz
      refine wpList_app_l okA rfl _ _ HJf.out.r7 rfl [v] rfl (some ⟨k, 0, none⟩) 1 1 rfl rfl (fun h => by cases h) HNw.out (by
        have h1 := fI_len G B j
        rw [Hn7.out] at h1
        show ((fI G B j).length + 1) * 8 ≤ _
        omega) HJf.out.bel.size ?_
      intro v9 w9 hr9 hk9 hg9
      obtain ⟨a9, q9, rfl⟩ := hr9.out.shape
      have HJ9 : Hid (HlI w3 G B (j + 1) (j + 1) (.slice (some ⟨g, 0, none⟩) n7 q7) (.slice a9 (fI G B j ++ [v]).length q9) (.slice ad2 nd2 qd2) w9) := hid (by
        have hh := HJf.out
        refine ⟨by rw [HI1.out, if_neg hv0]; exact hr9.out, hk9.out.row hh.r8 (fun g' h1 h2 => hh.ap g' h2 h1), hk9.out.row hh.lr (hh.lr.neK hh.r7 (by decide)), fun g' h1 h2 => ?_, hh.bel.trans (hk9.out.below hh.r7.hi hh.bel.size)⟩
        rcases hg9 g' h1 with h3 | h3
        · exact hh.ap g' h3 h2
        · have := hh.r8.lt g' h2
          omega)
      generalize (fI G B j ++ [v]).length = n9 at HJ9 ⊢
      clear HJf hr9 hk9 hg9 HNw
      go_wp2
      exact ⟨⟨j + 1, by omega, by go_num, _, _, _, _, _, _, rfl, rfl, HJ9⟩, by simp [intOf]; omega⟩
  have dj : decide ((j : Int) < (n7 : Int)) = false := decide_eq_false (by omega)
  have HW7 : Hid (EfS w' wB sN i ρ L T G B atp wr ∧ Blk wr ob 31 (opC o) ∧ ρ ob = 0 ∧ RowX rtA wr ρ 0 (.slice ai ni qi) (fI G B n7) ∧ RowX rtA wr ρ 0 (.slice ad nd qd) (fD B n7)) := hid (by
    have hjn2 : j = n7 := by omega
    have h1 := HJ.out
    rw [hjn2] at h1
    exact ⟨HW3.out.1.below h1.bel, HW3.out.2.1.below h1.bel, HW3.out.2.2, h1.r7.rx0 (fun g hg => HW3.out.1.lw.new0 hg), h1.r8.rx0 (fun g hg => HW3.out.1.lw.new0 hg)⟩)
  clear HJ HW3
  as_aux_lemma =>
  have I1 : Hid ((Try.prog.info? 31).map (·.size) = some 5) := hid info_op
  have I0 := hid info_rz
  go_upto_region 17 with fail
  obtain ⟨w5, hw5⟩ : ∃ x, wr = x := ⟨_, rfl⟩
  rw [hw5] at HW7
  try rw [hw5]
  clear hw5
  go_wp2_with (refine wpList_load_blk rfl 31 _ rfl ob rfl (opC o) HW7.out.2.1 _ Try.underlying31 rfl I1.out ?_)
  refine (HW7.out.1.lw.play (by omega) o HOk.out).mono ?_
  rintro e w6 ⟨V, ρ4, L4, T4, rfl, h4⟩
  have HP4 := hid h4
  have HOb4 : Hid (EfS w' wB sN (i + 1) ρ4 L4 T4 (playS G B o).2.2.1 (playS G B o).2.2.2 atp w6 ∧ Blk w6 ob 31 (opC o) ∧ RowX rtA w6 ρ4 0 (.slice ai ni qi) (fI G B n7) ∧ RowX rtA w6 ρ4 0 (.slice ad nd qd) (fD B n7)) := hid ⟨⟨h4.lw, h4.fr.keep HW7.out.1.sn HW7.out.1.s0 rfl, by rw [h4.fr.old _ HW7.out.1.sn.lt]; exact HW7.out.1.s0, HW7.out.1.sb, HW7.out.1.lo⟩, h4.fr.keep HW7.out.2.1 HW7.out.2.2.1 rfl, HW7.out.2.2.2.1.fr h4.fr rfl, HW7.out.2.2.2.2.fr h4.fr rfl⟩
  have HInv := hid HW7.out.1.lw.inv
  clear h4 HW7
  obtain ⟨ccd, hcc⟩ : ∃ x, (playS G B o).1.1 = x := ⟨_, rfl⟩
  obtain ⟨vv, hvv⟩ : ∃ x, (playS G B o).1.2 = x := ⟨_, rfl⟩
  rw [hcc, hvv]
  clear hcc hvv
  obtain ⟨r, hr⟩ : ∃ r, w6.heap.size = r := ⟨_, rfl⟩
  have hbz := Blk.new w6 (rzC 0 0) 38
  rw [hr] at hbz
  have HZ := hid hbz
  have HOne := hid (rzH_one (c := ccd) (v := vv) HP4.out.rw)
  have Hr := hid hr
  clear hbz
  go_upto_region 18 with (refine wpList_store_blk rfl 38 _ _ rfl r rfl (rzH ccd vv V) rfl HZ.out rfl I0.out HOne.out ?_; intro w9 HB9 HU9)
  have HP9 : Hid (EfS w' wB sN (i + 1) ρ4 L4 T4 (playS G B o).2.2.1 (playS G B o).2.2.2 atp w9 ∧ Blk w9 ob 31 (opC o) ∧ (∀ j, j < 8 → ∃ ja jq, V j = .slice ja ((playS G B o).2.1 j).length jq ∧ RdA w9 ja ((playS G B o).2.1 j).length ((playS G B o).2.1 j)) ∧ RowX rtA w9 ρ4 0 (.slice ai ni qi) (fI G B n7) ∧ RowX rtA w9 ρ4 0 (.slice ad nd qd) (fD B n7)) := hid (by
    have hn := nbel w6 (.cells (rzC 0 0).toArray 38)
    have hlt := Hr.out
    have hb9 : Below w6.heap.size w6 w9 := hn.trans (HU9.out.below (by omega) hn.size)
    refine ⟨HOb4.out.1.below hb9, HOb4.out.2.1.below hb9, fun j hj => ?_, HOb4.out.2.2.1.below hb9, HOb4.out.2.2.2.below hb9⟩
    obtain ⟨ja, jq, e, hrd, _⟩ := (HP4.out.rw j hj).rdA
    exact ⟨ja, jq, e, hrd.below hb9⟩)
  clear HU9 HZ HOne HP4 HOb4 Hr hr I0 I1 HOk
  have ck : w9.cell? ⟨ob, 0, none⟩ = some (.int .u8 (o.kind : Int)) := HP9.out.2.1.cell 0
  obtain ⟨Z5, hci5⟩ := Hci.out.play HInv.out (by omega) o
  have Hci5 := hid hci5
  clear hci5
  by_cases e7 : o.kind = 7
  rotate_left
  · as_aux_lemma =>
    have d7 : ((o.kind : Int) == 7) = false := by simp; omega
    rw [if_neg e7] at Hci5
    have HE9 := hid HP9.out.1
    have HUn := hid (unlogged_walk HE9.out.lw.wm HE9.out.sn Hci5.out (fun m => by have := HE9.out.lw.inv.bo.nl m; omega) (fun m => by have := HE9.out.lw.inv.bo.nf m; omega))
    have he7 := hid e7
    clear HP9 HB9 e7 HInv Hci
    go_wp2_with fail
    refine HUn.out.mono ?_
    rintro e wx ⟨rfl, hbx⟩
    have HR : Hid (EfI w' wB sN (i + 1) wx) := hid ⟨_, _, _, _, _, _, _, HE9.out.below hbx, Hci5.out⟩
    clear HUn HE9 hbx ck
    go_wp2
    exact ⟨⟨i + 1, by omega, by go_num, HR⟩, by simp [intOf]; omega⟩
  as_aux_lemma =>
  have d7 : ((o.kind : Int) == 7) = true := by simp; omega
  obtain ⟨I, hI1, hI2⟩ := pause_facts HInv.out Hci.out
  have hp := playS_7 (G := G) (B := B) e7
  rw [hp] at HP9 Hci5
  rw [if_pos e7] at Hci5
  have hP9 := HP9.out
  dsimp only at hP9
  have hci5 := Hci5.out
  dsimp only at hci5
  clear HP9 Hci5 hp
  generalize (pauseP G B).1 = G5 at hP9 hci5 hI2
  generalize (pauseP G B).2.1 = B5 at hP9 hci5 hI2
  generalize (pauseP G B).2.2 = hv at hP9 hI2
  have HPF := hid hI2
  obtain ⟨hE9, hb9, hrows, hii9, hdd9⟩ := hP9
  obtain ⟨j2, k2, v2, rd2⟩ := hrows 0 (by decide)
  obtain ⟨j3, k3, v3, rd3⟩ := hrows 1 (by decide)
  have hf7 : fI G B n7 = hv 0 := by
    unfold fI
    rw [List.take_of_length_le (by rw [Hn7.out]; exact Nat.le_refl _), ← hI2.h0]
  have hf8 : fD B n7 = hv 1 := by
    unfold fD
    rw [List.take_of_length_le (by rw [Hn7.out]; exact Nat.le_refl _), ← hI2.h1]
  have hfl7 := fI_len G B n7
  have hfl8 := fD_len B n7
  rw [hf7] at hii9 hfl7
  rw [hf8] at hdd9 hfl8
  rw [Hn7.out] at hfl7 hfl8
  obtain ⟨a5', q5', e5, r5, _, _⟩ := hii9.rdA
  obtain ⟨a4', q4', e4, r4, _, _⟩ := hdd9.rdA
  injection e5 with e51 e52 e53
  injection e4 with e41 e42 e43
  subst e51 e53 e41 e43
  rw [← e52] at v2 rd2 r5 hfl7
  rw [← e42] at v3 rd3 r4 hfl8
  have HSb1 := hid (sameBag_walk w9 j2 ai ni k2 qi _ _ rd2 r5 (List.Perm.refl _) (by omega))
  have HSb2 := hid (fun wx (hx : Below w9.heap.size w9 wx) => sameBag_walk wx j3 ad nd k3 qd _ _ (rd3.below hx) (r4.below hx) (List.Perm.refl _) (by omega))
  have t2 : w9.cell? ⟨r, 2, none⟩ = some (V 0) := by rw [HB9.out.cell]; rfl
  rw [v2] at t2
  have HT3 : Hid (∀ wx, Below w9.heap.size w9 wx → wx.cell? ⟨r, 3, none⟩ = some (.slice j3 nd k3)) := hid (fun wx hx => by rw [(HB9.out.below hx).cell, ← v3]; rfl)
  have HE9 := hid hE9
  have Hci5 := hid hci5
  have he7 := hid e7
  clear hE9 hb9 hrows hii9 hdd9 rd2 rd3 r5 r4 v2 v3 e42 e52 hfl7 hfl8 hf7 hf8 hci5 e7 hI1 hI2 HB9 HInv Hci
  go_upto_region 19 with fail
  clear ck d7
  go_wp2_with fail
  refine HSb1.out.mono ?_
  rintro e wx ⟨rfl, hbx⟩
  have t3 := HT3.out _ hbx
  have HSb3 := hid (HSb2.out _ hbx)
  have Hbx := hid hbx
  clear hbx HSb1 HSb2 HT3 t2
  go_wp2_with fail
  refine HSb3.out.mono ?_
  rintro e wy ⟨rfl, hby⟩
  have HBy := hid (Hbx.out.trans (hby.mono Hbx.out.size))
  clear hby Hbx HSb3 t3
  have HEy := hid (HE9.out.below HBy.out)
  clear HBy HE9
  have HAL := hid (allLogs_walk HEy.out.lw.wm (fun m => by have := HEy.out.lw.inv.bo.nl m; omega))
  rw [show lgK B5 4 = [] from four_nil HPF.out.bl] at HAL
  go_wp2_with fail
  refine HAL.out.mono ?_
  rintro e wu ⟨vu, rfl, hu, hbu⟩
  obtain ⟨au, qu, rfl⟩ := hu.shape
  have HEu := hid (HEy.out.below hbu)
  clear HAL HEy hu hbu
  have c0 := HEu.out.lw.wm.cells.1
  have cl := HEu.out.lw.wm.bm.gm.hcells.2.2
  have HLg : Hid (∀ j, j < 32768 → wu.cell? ⟨L4.lB, j, none⟩ = some (.bool false)) := hid (fun j hj => by rw [HEu.out.lw.wm.bm.gm.lcell hj, HPF.out.lg j hj])
  obtain ⟨zu, hzu⟩ : ∃ z : Nat, ([] : List (Nat × Nat)).length = z := ⟨_, rfl⟩
  have hzu2 : zu = 0 := by rw [← hzu]; rfl
  rw [hzu]
  clear hzu
  subst hzu2
  go_wp2_with fail
  go_loopw [89] (fun v wr => ∃ j : Nat, j ≤ 32768 ∧ v = .int .i64 (j : Int) ∧ wr = wu) (fun v _ => 32768 - (intOf v).toNat)
  case atStart => exact ⟨0, by omega, rfl, rfl⟩
  case round =>
  obtain ⟨j, hj, rfl, rfl⟩ := hrel
  by_cases hjn : j < 32768
  · as_aux_lemma =>
    have dj : decide ((j : Int) < 32768) = true := decide_eq_true (by omega)
    have hij : (j : Int) < 32768 := by omega
    have cj := HLg.out j hjn
    clear HEu HLg c0 cl
    go_wp2
    exact ⟨⟨j + 1, by omega, by go_num, trivial⟩, by simp [intOf]; omega⟩
  as_aux_lemma =>
  have dj : decide ((j : Int) < 32768) = false := decide_eq_false (by omega)
  have HTk := hid (take_walk HEu.out.lw.wm.bm.gm HEu.out.sn)
  clear HLg cl
  go_wp2_with fail
  refine HTk.out.mono ?_
  rintro e wt ⟨rfl, hst, hut⟩
  have HEt : Hid (EfS w' wB sN (i + 1) ρ4 L4 T4 G5 B5 G5.word wt) := hid (HEu.out.take hut hst)
  clear HTk HEu hst hut c0
  have HUn := hid (unlogged_walk HEt.out.lw.wm HEt.out.sn Hci5.out (fun m => by have := HEt.out.lw.inv.bo.nl m; omega) (fun m => by have := HEt.out.lw.inv.bo.nf m; omega))
  go_wp2_with fail
  refine HUn.out.mono ?_
  rintro e wx ⟨rfl, hbx⟩
  have HR : Hid (EfI w' wB sN (i + 1) wx) := hid ⟨_, _, _, _, _, _, _, HEt.out.below hbx, Hci5.out⟩
  clear HUn HEt hbx
  go_wp2
  exact ⟨⟨i + 1, by omega, by go_num, HR⟩, by simp [intOf]; omega⟩
end Go.Proofs.Qxb6500888a
