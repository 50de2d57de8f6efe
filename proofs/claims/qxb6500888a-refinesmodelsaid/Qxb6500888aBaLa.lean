/- The law RefinesModel. -/
import Derived.Test.Qxb6500888aBaKm
import Derived.Test.Qxb6500888aBaKn
namespace Go.Proofs.Qxb6500888a
open Go.RowKit
set_option linter.unusedSimpArgs false
set_option linter.unusedVariables false
attribute [local irreducible] wdC nz

theorem RelM.zero : RelM G0 B0 (fun _ => 0) G0 M0 := ⟨⟨rfl, rfl, rfl, rfl, rfl, rfl, rfl, rfl⟩, rfl, rfl, rfl, fun x => ⟨fun h => (by cases h), fun ⟨e, he, _⟩ => (by
  have he' : e ∈ (List.range 4).flatMap B0.logs := he
  obtain ⟨m, _, hm⟩ := List.mem_flatMap.1 he'
  cases hm)⟩, fun x => ⟨fun h => (by cases h), fun hx => (by
  have hx' : x ∈ (List.range 4).flatMap B0.fresh := hx
  obtain ⟨m, _, hm⟩ := List.mem_flatMap.1 hx'
  cases hm)⟩, rfl, rfl⟩
def TmI (w0 : World) (wB mB k : Nat) (wr : World) : Prop := ∃ ρ1 L1 T1 ρ2 L2 Y G B atp G2 M, TmS w0 wB k ρ1 L1 T1 ρ2 L2 Y G B atp G2 M wr ∧ Y.mB = mB
theorem TmI.below {w0 wr w' : World} {wB mB k : Nat} (h : TmI w0 wB mB k wr) (hb : Below wr.heap.size wr w') : TmI w0 wB mB k w' := by
  obtain ⟨ρ1, L1, T1, ρ2, L2, Y, G, B, atp, G2, M, h1, h2⟩ := h
  exact ⟨ρ1, L1, T1, ρ2, L2, Y, G, B, atp, G2, M, h1.below hb, h2⟩
theorem TmI.bel {w0 wr : World} {wB mB k : Nat} (h : TmI w0 wB mB k wr) : Below w0.heap.size w0 wr := by
  obtain ⟨ρ1, L1, T1, ρ2, L2, Y, G, B, atp, G2, M, h1, h2⟩ := h
  exact h1.a.bel
/-- What sameGround reads. -/
theorem TmI.ground {w0 wr : World} {wB mB k : Nat} (h : TmI w0 wB mB k wr) : ∃ h1 h2 s1 s2 c1 c2 : Nat, ∀ w', Below wr.heap.size wr w' →
    (w'.cell? ⟨wB, 0, none⟩ = some (.pointer (some ⟨h1, 0, none⟩)) ∧ w'.cell? ⟨mB, 0, none⟩ = some (.pointer (some ⟨h2, 0, none⟩)) ∧ w'.cell? ⟨wB, 1, none⟩ = some (.pointer (some ⟨s1, 0, none⟩)) ∧ w'.cell? ⟨mB, 1, none⟩ = some (.pointer (some ⟨s2, 0, none⟩)) ∧ w'.cell? ⟨wB, 2, none⟩ = some (.pointer (some ⟨c1, 0, none⟩)) ∧ w'.cell? ⟨mB, 2, none⟩ = some (.pointer (some ⟨c2, 0, none⟩))) ∧
    Calls Try.prog 20 #[.pointer (some ⟨h1, 0, none⟩), .pointer (some ⟨h2, 0, none⟩), .pointer (some ⟨s1, 0, none⟩), .pointer (some ⟨s2, 0, none⟩), .pointer (some ⟨c1, 0, none⟩), .pointer (some ⟨c2, 0, none⟩), .bool false] w' fun e w'' => e = .returned (.bool true) ∧ Below w'.heap.size w' w'' := by
  obtain ⟨ρ1, L1, T1, ρ2, L2, Y, G, B, atp, G2, M, h1, h2⟩ := h
  refine ⟨L1.hB, L2.hB, L1.sB, L2.sB, L1.cB, L2.cB, fun w' hb => ?_⟩
  have k := h1.below hb
  have a := k.a.wm.cells
  have b := k.b.cells
  rw [h2] at b
  exact ⟨⟨a.1, b.1, a.2.1, b.2.1, a.2.2.1, b.2.2.1⟩, sameGround_walk k.a.wm.bm.gm k.b.gm false k.rl.gs.geq⟩
/-- The roots as both tell them. -/
theorem TmI.rows {w0 wr : World} {wB mB k : Nat} (h : TmI w0 wB mB k wr) {mu : Nat} (hm : mu < 4) : ∃ (xs : List Nat) (a : Option Addr) (q : Nat), xs.length ≤ 64 ∧ (∀ wx, Below wr.heap.size wr wx → Calls Try.prog 19 #[.pointer (some ⟨wB, 0, none⟩), .int .i64 (mu : Int)] wx fun e w' => OwP wx xs e w') ∧ (∀ wx, Below wr.heap.size wr wx → wx.cell? ⟨mB, 3 + mu, none⟩ = some (.slice a xs.length q)) ∧ RdA wr a xs.length xs := by
  obtain ⟨ρ1, L1, T1, ρ2, L2, Y, G, B, atp, G2, M, h1, h2⟩ := h
  have hr := (h1.b.rt mu hm)
  rw [h1.rl.rt] at hr
  obtain ⟨a, q, e, hrd, _⟩ := hr.rdA
  refine ⟨B.roots mu, a, q, ?_, fun wx hb => roots_walk (h1.below hb).a.wm hm, fun wx hb => ?_, hrd⟩
  · have := h1.b.rl mu
    rw [h1.rl.rt] at this
    exact this
  · have c := (h1.b.below hb).rcell hm
    rw [h2, e] at c
    exact c
theorem RdA.rdW {w : World} {a : Option Addr} {n : Nat} {xs : List Nat} (h : RdA w a n xs) : ∀ wx : World, Below w.heap.size w wx → ∀ (i x : Nat), xs[i]? = some x → ∃ g off, a = some ⟨g, off, none⟩ ∧ wx.cell? ⟨g, off + i, none⟩ = some (.int .u64 (x : Int)) := fun wx hb i x hx => by
  obtain ⟨g, off, e, _, c⟩ := (h.below hb).at_ i x hx
  exact ⟨g, off, e, c⟩
set_option maxRecDepth 1000000 in
set_option maxHeartbeats 16000000 in
theorem refines_walk (hnew : ∀ w, Calls Try.prog 15 #[] w fun e w' => NmP w e w') (a : Option Addr) (n c : Nat) (l : List OpP) (w : World) (hs : Script w a n c l) :
    Calls Try.prog 3 #[.slice a n c] w fun e w' => e = .returned (.bool true) ∧ Below w.heap.size w w' := by
  have HSm := hid (fun w => small_walk a n c w)
  have HS := hid hs
  have HNw := hid (fun w => newWorld_walk w)
  have HNm := hid hnew
  clear hs hnew
  by_cases hsm : n ≤ 65536
  rotate_left
  · as_aux_lemma =>
    rw [decide_eq_false hsm] at HSm
    go_enter Try.func3, Try.ntmps3
    go_wp2_with (go_at_call 13; refine (HSm.out _).mono ?_; rintro e w' ⟨rfl, rfl⟩)
    go_ret
    exact ⟨rfl, Below.refl _ _⟩
  rw [decide_eq_true hsm] at HSm
  go_enter Try.func3, Try.ntmps3
  go_wp2_with (go_at_call 13; refine (HSm.out _).mono ?_; rintro e w' ⟨rfl, rfl⟩)
  refine (HNw.out _).mono ?_
  rintro e w1 ⟨wB, ρ1, L1, T1, rfl, hW1, hl1, hb1, hwB⟩
  have HL1 : Hid (LW w' wB 0 ρ1 L1 T1 G0 B0 w1) := hid ⟨hW1, InvM.zero, hb1, hl1⟩
  clear hW1 hl1 hb1 HSm hwB HNw
  go_wp2_with fail
  refine (HNm.out _).mono ?_
  rintro e w2 ⟨mB, ρ2, L2, Y, rfl, hM2, hmB, hl2, hb2⟩
  have HLI : Hid (TmI w' wB mB 0 w2) := hid (by
    have h1 := HL1.out.bel
    refine ⟨ρ1, L1, T1, ρ2, L2, Y, G0, B0, fun _ => 0, G0, M0, ⟨HL1.out.below hb2, hM2, ⟨_, CI.zero _⟩, RelM.zero, fun g => ?_, hl2 _ HL1.out.wm.wb.lt, fun g hg => hl2 g (Nat.lt_of_lt_of_le hg h1.size)⟩, hmB⟩
    by_cases e : g < w1.heap.size
    · exact .inr (hl2 g e)
    · exact .inl (HL1.out.new0 (by omega)))
  clear HNm hM2 hmB hl2 hb2 HL1
  go_wp2_with fail
  go_loopw [18] (fun v wr => ∃ i : Nat, i ≤ n ∧ v = .int .i64 (i : Int) ∧ Hid (TmI w' wB mB i wr)) (fun v _ => n - (intOf v).toNat)
  case atStart => exact ⟨0, by omega, rfl, HLI⟩
  case round =>
  clear HLI
  obtain ⟨i, hi, rfl, HLI⟩ := hrel
  by_cases hin : i < n
  rotate_left
  · as_aux_lemma =>
    have di : decide ((i : Int) < (n : Int)) = false := decide_eq_false (by omega)
    go_upto_region 24 with fail
    obtain ⟨X, W, HTT, H0, hne, HC⟩ := class_below wr
    obtain ⟨h1, h2, s1, s2, c1, c2, hg⟩ := HLI.out.ground
    have HG := hid (fun y => (hg (W y) (HTT.out y)).2)
    have a1 := fun y => (hg (W y) (HTT.out y)).1.1
    have a2 := fun y => (hg (W y) (HTT.out y)).1.2.1
    have a3 := fun y => (hg (W y) (HTT.out y)).1.2.2.1
    have a4 := fun y => (hg (W y) (HTT.out y)).1.2.2.2.1
    have a5 := fun y => (hg (W y) (HTT.out y)).1.2.2.2.2.1
    have a6 := fun y => (hg (W y) (HTT.out y)).1.2.2.2.2.2
    have HX : Hid (∀ y, Below w'.heap.size w' (W y)) := hid (fun y => HLI.out.bel.trans ((HTT.out y).mono HLI.out.bel.size))
    clear hg
    refine wp_region_class W (by kernel_rfl) (by kernel_rfl) H0.out ?_
    repeat (go_big_quiet_step ((go_at_call 20; exact Calls.class_of HC.out (HG.out _))))
    refine wpQuiet_nil ?_
    intro z
    have HBz := hid (HX.out z)
    generalize W z = wz at HBz ⊢
    clear a1 a2 a3 a4 a5 a6 H0 HTT HC hne HX HG
    go_wp2
    go_ret
    exact ⟨rfl, HBz.out⟩
  obtain ⟨ρ1, L1, T1, ρ2, L2, Y, G, B, atp, G2, M, hE, hYm⟩ := HLI.out
  have HE := hid hE
  have HYm := hid hYm
  clear hE HLI hYm
  have di : decide ((i : Int) < (n : Int)) = true := decide_eq_true (by omega)
  have hii : (i : Int) < (n : Int) := by omega
  obtain ⟨o, ho, hok, b, off, rfl, hb, c0, c1, c2, c3, c4⟩ := (HS.out.below HE.out.a.bel).at hin
  have HOk := hid hok
  clear ho hok
  obtain ⟨ob, hob⟩ : ∃ p, wr.heap.size = p := ⟨_, rfl⟩
  go_upto_region 7 with fail
  obtain ⟨w3, hw3⟩ : ∃ w2, wr.alloc (.cells #[.int .u8 (o.kind : Int), .int .u8 (o.m : Int), .int .u64 (o.a : Int), .int .u64 (o.b : Int), .int .u64 (o.c : Int)] 31) = w2 := ⟨_, rfl⟩
  have HW3 : Hid (TmS w' wB i ρ1 L1 T1 ρ2 L2 Y G B atp G2 M w3 ∧ Blk w3 ob 31 (opC o) ∧ ρ1 ob = 0 ∧ ρ2 ob = 0) := hid (by
    rw [← hw3]
    have hbk := Blk.new wr (opC o) 31
    rw [hob] at hbk
    exact ⟨HE.out.below (nbel wr _), hbk, HE.out.a.new0 (by omega), HE.out.new2 (by omega)⟩)
  simp only [hw3]
  clear hw3 hob c0 c1 c2 c3 c4 HE
  obtain ⟨ok, om, oa, ob', oc⟩ := o
  have HS5 : Hid (∀ wx : World, Blk wx ob 31 (opC ⟨ok, om, oa, ob', oc⟩) → wx.cell? ⟨ob, 0, none⟩ = some (.int .u8 (ok : Int)) ∧ wx.cell? ⟨ob, 1, none⟩ = some (.int .u8 (om : Int)) ∧ wx.cell? ⟨ob, 2, none⟩ = some (.int .u64 (oa : Int)) ∧ wx.cell? ⟨ob, 3, none⟩ = some (.int .u64 (ob' : Int)) ∧ wx.cell? ⟨ob, 4, none⟩ = some (.int .u64 (oc : Int))) := hid (fun wx h => ⟨h.cell 0, h.cell 1, h.cell 2, h.cell 3, h.cell 4⟩)
  refine wp_region_heavy (fun wx => wx.cell? ⟨ob, 0, none⟩ = some (.int .u8 (ok : Int)) ∧ wx.cell? ⟨ob, 1, none⟩ = some (.int .u8 (om : Int)) ∧ wx.cell? ⟨ob, 2, none⟩ = some (.int .u64 (oa : Int)) ∧ wx.cell? ⟨ob, 3, none⟩ = some (.int .u64 (ob' : Int)) ∧ wx.cell? ⟨ob, 4, none⟩ = some (.int .u64 (oc : Int))) 7 [0, 1, 3, 4] [2, 5, 6] rfl (by kernel_rfl) (by kernel_rfl) (fun d _ _ _ _ h => by cases d <;> exact h) (HS5.out _ (HW3.out.2.1.below (Drew.below ⟨1, rfl⟩ _))) ?_
  apply Exists.intro
  refine ⟨?_, ?_⟩
  · intro W hW
    have e1 := fun x => (hW x).1
    have e2 := fun x => (hW x).2.1
    have e3 := fun x => (hW x).2.2.1
    have e4 := fun x => (hW x).2.2.2.1
    have e5 := fun x => (hW x).2.2.2.2
    simp only [List.take, opsAt, List.drop, List.cons_append, List.nil_append]
    repeat (go_big_quiet_step (fail))
    exact rfl
  simp only [List.take, List.drop, opsAt, List.cons_append, List.nil_append, wpHv]
  have HBd : Hid (Below w3.heap.size w3 w3.drew) := hid (Drew.below ⟨1, rfl⟩ _)
  generalize w3.drew = wd at HBd ⊢
  have HW4 : Hid (TmS w' wB i ρ1 L1 T1 ρ2 L2 Y G B atp G2 M wd ∧ Blk wd ob 31 (opC ⟨ok, om, oa, ob', oc⟩) ∧ ρ1 ob = 0 ∧ ρ2 ob = 0) := hid ⟨HW3.out.1.below HBd.out, HW3.out.2.1.below HBd.out, HW3.out.2.2⟩
  clear HBd HW3
  have HPl := hid (HW4.out.1.play (by omega) ⟨ok, om, oa, ob', oc⟩ HOk.out)
  have e0 : (opC ⟨ok, om, oa, ob', oc⟩).toArray = #[.int .u8 (ok : Int), .int .u8 (om : Int), .int .u64 (oa : Int), .int .u64 (ob' : Int), .int .u64 (oc : Int)] := rfl
  rw [e0] at HPl
  have HFa : Hid (InvM i G B ∧ (∃ Z, CI G B atp Z) ∧ RelM G B atp G2 M) := hid ⟨HW4.out.1.a.inv, HW4.out.1.ci, HW4.out.1.rl⟩
  go_wp2_with fail
  refine HPl.out.mono ?_
  rintro e4 w4 ⟨V, ρ4, L4, T4, rfl, h4, hf4⟩
  have HW5 : Hid (TmP w' wB i (playS G B ⟨ok, om, oa, ob', oc⟩) V ρ4 L4 T4 ρ2 L2 Y G2 M w4 ∧ Blk w4 ob 31 (opC ⟨ok, om, oa, ob', oc⟩) ∧ ρ4 ob = 0 ∧ ρ2 ob = 0) := hid ⟨h4, hf4.keep HW4.out.2.1 HW4.out.2.2.1 rfl, by rw [hf4.old _ HW4.out.2.1.lt]; exact HW4.out.2.2.1, HW4.out.2.2.2⟩
  clear h4 hf4 HPl HW4
  have HSt := hid (HW5.out.1.step HFa.out.1 (by omega) HFa.out.2.1 HFa.out.2.2 HOk.out)
  rw [e0, HYm.out] at HSt
  have HLn : Hid (∀ j, j < 8 → ((playS G B ⟨ok, om, oa, ob', oc⟩).2.1 j).length ≤ 1000000000000000) := hid (fun j hj => by
    obtain ⟨Z, hc⟩ := HFa.out.2.1
    exact rows_len HFa.out.1 (by omega) hc _ j hj)
  obtain ⟨res, hres⟩ : ∃ r, playS G B ⟨ok, om, oa, ob', oc⟩ = r := ⟨_, rfl⟩
  rw [hres] at HSt HLn
  simp only [hres]
  have Hres := hid hres
  obtain ⟨ra, hra⟩ : ∃ x, (rzH res.1.1 res.1.2 V).toArray = x := ⟨_, rfl⟩
  have Hra := hid hra
  simp only [hra]
  clear hres hra
  go_wp2_with fail
  refine ⟨HS5.out _ HW5.out.2.1, ?_⟩
  go_wp2_with fail
  refine HSt.out.mono ?_
  rintro e5 w5 ⟨V2, hv2, ρ5, L5, Y5, atp5, G5, M5, rfl, h5, hm5, hf5⟩
  have HW6 : Hid (TmQ w' wB i res V V2 hv2 ρ4 L4 T4 ρ5 L5 Y5 atp5 G5 M5 w5 ∧ Blk w5 ob 31 (opC ⟨ok, om, oa, ob', oc⟩) ∧ Y5.mB = mB) := hid ⟨h5, hf5.keep HW5.out.2.1 HW5.out.2.2.2 rfl, hm5⟩
  clear h5 hm5 hf5 HSt HW5 HFa HYm
  have HSr := hid (HW6.out.1.same res.1.1 res.1.2 HLn.out)
  rw [Hra.out] at HSr
  obtain ⟨ra2, hra2⟩ : ∃ x, (rzH res.1.1 res.1.2 V2).toArray = x := ⟨_, rfl⟩
  rw [hra2] at HSr
  simp only [hra2]
  clear hra2
  go_wp2_with fail
  refine ⟨HS5.out _ HW6.out.2.1, ?_⟩
  go_wp2_with fail
  refine HSr.out.mono ?_
  rintro e6 w6 ⟨rfl, hb6⟩
  have HW7 : Hid (TmI w' wB mB (i + 1) w6) := hid ⟨ρ4, L4, T4, ρ5, L5, Y5, res.2.2.1, res.2.2.2, atp5, G5, M5, HW6.out.1.s.below hb6, HW6.out.2.2⟩
  have HO7 := hid (HW6.out.2.1.below hb6)
  clear HSr HW6 hb6 HLn Hra Hres HOk e0
  go_wp2_with fail
  refine ⟨HS5.out _ HO7.out, ?_⟩
  simp only [QN]
  go_upto_region 9 with fail
  have HLJ : Hid (TmI w' wB mB (i + 1) w6 ∧ Blk w6 ob 31 (opC ⟨ok, om, oa, ob', oc⟩)) := hid ⟨HW7.out, HO7.out⟩
  clear HW7 HO7
  go_wp2_with fail
  go_loopw [7] (fun v wr => ∃ mu : Nat, mu ≤ 4 ∧ v = .int .i64 (mu : Int) ∧ Hid (TmI w' wB mB (i + 1) wr ∧ Blk wr ob 31 (opC ⟨ok, om, oa, ob', oc⟩))) (fun v _ => 4 - (intOf v).toNat)
  case atStart => exact ⟨0, by omega, rfl, HLJ⟩
  case round =>
  clear HLJ
  obtain ⟨mu, hmu, rfl, HLJ⟩ := hrel
  by_cases hm4 : mu < 4
  rotate_left
  · have dm : decide ((mu : Int) < 4) = false := decide_eq_false (by omega)
    go_upto_region 21 with fail
    obtain ⟨X, W, HTT, H0, hne, HC⟩ := class_below wr
    obtain ⟨h1, h2, s1, s2, c1, c2, hg⟩ := HLJ.out.1.ground
    have HG := hid (fun y => (hg (W y) (HTT.out y)).2)
    have a0 := fun y => (HS5.out _ (HLJ.out.2.below (HTT.out y))).1
    have a1 := fun y => (hg (W y) (HTT.out y)).1.1
    have a2 := fun y => (hg (W y) (HTT.out y)).1.2.1
    have a3 := fun y => (hg (W y) (HTT.out y)).1.2.2.1
    have a4 := fun y => (hg (W y) (HTT.out y)).1.2.2.2.1
    have a5 := fun y => (hg (W y) (HTT.out y)).1.2.2.2.2.1
    have a6 := fun y => (hg (W y) (HTT.out y)).1.2.2.2.2.2
    have HX : Hid (∀ y, TmI w' wB mB (i + 1) (W y)) := hid (fun y => HLJ.out.1.below (HTT.out y))
    clear hg HLJ
    by_cases h7 : ok = 7
    · have d7 : ((ok : Int) == 7) = true := by subst h7; rfl
      clear h7
      refine wp_region_class W (by kernel_rfl) (by kernel_rfl) H0.out ?_
      repeat (go_big_quiet_step ((go_at_call 20; exact Calls.class_of HC.out (HG.out _))))
      refine wpQuiet_nil ?_
      intro z
      have HBz := hid (HX.out z)
      generalize W z = wz at HBz ⊢
      clear a0 a1 a2 a3 a4 a5 a6 H0 HTT HC hne HX HG
      go_wp2
      exact ⟨⟨i + 1, by omega, by go_num, HBz⟩, by simp [intOf]; omega⟩
    · have d7 : ((ok : Int) == 7) = false := by
        rw [beq_eq_false_iff_ne]
        omega
      clear h7
      refine wp_region_class W (by kernel_rfl) (by kernel_rfl) H0.out ?_
      repeat (go_big_quiet_step (fail))
      refine wpQuiet_nil ?_
      intro z
      have HBz := hid (HX.out z)
      generalize W z = wz at HBz ⊢
      clear a0 a1 a2 a3 a4 a5 a6 H0 HTT HC hne HX HG
      go_wp2
      exact ⟨⟨i + 1, by omega, by go_num, HBz⟩, by simp [intOf]; omega⟩
  have dm : decide ((mu : Int) < 4) = true := decide_eq_true (by omega)
  have im : (mu : Int) < 4 := by omega
  obtain ⟨xs, a2, q2, hl, hrt, hcl, hrd⟩ := HLJ.out.1.rows hm4
  have HRt := hid hrt
  have HRd2 := hid hrd.rdW
  obtain ⟨n1, hn1⟩ : ∃ x, xs.length = x := ⟨_, rfl⟩
  rw [hn1] at hl
  simp only [hn1] at hcl
  have HCl := hid hcl
  have Hn1 := hid hn1
  have il : (n1 : Int) ≤ 64 := by omega
  clear hrt hcl hrd hl hn1
  go_upto_region 12 with fail
  refine wp_region_heavy (fun wx => wx.cell? ⟨mB, 3 + mu, none⟩ = some (.slice a2 n1 q2)) 10 [0, 1, 3, 4, 5, 6, 7, 8] [2, 9] rfl (by kernel_rfl) (by kernel_rfl) (fun d _ _ _ _ h => by cases d <;> exact h) (HCl.out _ (Drew.below ⟨1, rfl⟩ _)) ?_
  apply Exists.intro
  refine ⟨?_, ?_⟩
  · intro W hW
    simp only [List.take, opsAt, List.drop, List.cons_append, List.nil_append]
    repeat (go_big_quiet_step (fail))
    exact rfl
  simp only [List.take, List.drop, opsAt, List.cons_append, List.nil_append, wpHv]
  have HBd : Hid (Below wr.heap.size wr wr.drew) := hid (Drew.below ⟨1, rfl⟩ _)
  generalize wr.drew = wd at HBd ⊢
  have HRt2 := hid (HRt.out _ HBd.out)
  go_wp2_with fail
  refine HRt2.out.mono ?_
  rintro e8 w8 ⟨v8, rfl, hr8, hb8⟩
  have HB8 := hid (HBd.out.trans (hb8.mono HBd.out.size))
  obtain ⟨a1, q1, ea⟩ := hr8.shape
  subst ea
  have HR1 := hid hr8.rdW
  rw [Hn1.out]
  clear hr8 hb8 HRt2 HRt HBd
  go_wp2_with fail
  refine ⟨HCl.out _ HB8.out, ?_⟩
  go_wp2_with fail
  refine ⟨HCl.out _ HB8.out, ?_⟩
  simp only [QN]
  have HLK : Hid (TmI w' wB mB (i + 1) w8 ∧ Blk w8 ob 31 (opC ⟨ok, om, oa, ob', oc⟩)) := hid ⟨HLJ.out.1.below HB8.out, HLJ.out.2.below HB8.out⟩
  have HR2 : Hid (∀ wx : World, Below w8.heap.size w8 wx → ∀ (i x : Nat), xs[i]? = some x → ∃ g off, a2 = some ⟨g, off, none⟩ ∧ wx.cell? ⟨g, off + i, none⟩ = some (.int .u64 (x : Int))) := hid (fun wx hx => HRd2.out wx (HB8.out.trans (hx.mono HB8.out.size)))
  clear HLJ HRd2 HCl HB8
  have HBr : Hid (Below w8.heap.size w8 w8) := hid (Below.refl _ _)
  have e1 : (!((n1 : Int) == (n1 : Int))) = false := by simp
  go_wp2_with fail
  go_loopw [50] (fun v wr => ∃ j : Nat, j ≤ n1 ∧ v = .int .i64 (j : Int) ∧ Hid (Below w8.heap.size w8 wr)) (fun v _ => n1 - (intOf v).toNat)
  case atStart => exact ⟨0, by omega, rfl, HBr⟩
  case round =>
  clear HBr
  obtain ⟨j, hj, rfl, HBr⟩ := hrel
  by_cases hjn : j < n1
  rotate_left
  · have dj : decide ((j : Int) < (n1 : Int)) = false := decide_eq_false (by omega)
    have HZ : Hid (TmI w' wB mB (i + 1) wr ∧ Blk wr ob 31 (opC ⟨ok, om, oa, ob', oc⟩)) := hid ⟨HLK.out.1.below HBr.out, HLK.out.2.below HBr.out⟩
    clear HLK HBr HR1 HR2
    go_wp2
    exact ⟨⟨mu + 1, by omega, by go_num, HZ⟩, by simp [intOf]; omega⟩
  have dj : decide ((j : Int) < (n1 : Int)) = true := decide_eq_true (by omega)
  have hij : (j : Int) < (n1 : Int) := by omega
  obtain ⟨x, hx⟩ : ∃ x, xs[j]? = some x := ⟨xs[j]'(by rw [Hn1.out]; exact hjn), List.getElem?_eq_getElem _⟩
  obtain ⟨g1, rfl, _⟩ := HR1.out _ HBr.out j x hx
  obtain ⟨g2, off2, rfl, _⟩ := HR2.out _ HBr.out j x hx
  go_upto_region 18 with fail
  obtain ⟨X, W, HTT, H0, hne, HC⟩ := class_below wr
  have HX : Hid (∀ y, Below w8.heap.size w8 (W y)) := hid (fun y => HBr.out.trans ((HTT.out y).mono HBr.out.size))
  have y1 : ∀ y, (W y).cell? ⟨g1, j, none⟩ = some (.int .u64 (x : Int)) := fun y => by
    obtain ⟨g', e, h⟩ := HR1.out _ (HX.out y) j x hx
    cases e
    exact h
  have y2 : ∀ y, (W y).cell? ⟨g2, off2 + j, none⟩ = some (.int .u64 (x : Int)) := fun y => by
    obtain ⟨g', o', e, h⟩ := HR2.out _ (HX.out y) j x hx
    cases e
    exact h
  have dd : (!((x : Int) == (x : Int))) = false := by simp
  refine wp_region_class W (by kernel_rfl) (by kernel_rfl) H0.out ?_
  repeat (go_big_quiet_step (fail))
  refine wpQuiet_nil ?_
  intro z
  have HBz := hid (HX.out z)
  generalize W z = wz at HBz ⊢
  clear y1 y2 H0 HTT HC hne HX hx
  go_wp2
  exact ⟨⟨j + 1, by omega, by go_num, HBz⟩, by simp [intOf]; omega⟩
end Go.Proofs.Qxb6500888a
