/- ObjectsLieAsTheirHeadersSay: the walk. -/
import Derived.Test.Qxb6500887aGreatAzMa
import Derived.Deep.DeepCutAuto
namespace Go.Proofs.Qxb6500887aGreat
open Go.RowKit
set_option linter.unusedSimpArgs false
set_option linter.unusedVariables false
set_option maxRecDepth 1000000 in
set_option maxHeartbeats 8000000 in
theorem objLaw_walk (a : Option Addr) (n c : Nat) (l : List AOp) (w : World) (hs : Script w a n c l) :
    Calls Tryz.prog 8 #[.slice a n c] w fun e w' => e = .returned (.bool true) ∧ Below w.heap.size w w' := by
  have hn := hs.1.2.2.1.1
  have HS := hid hs
  clear hs
  by_cases hsm : n ≤ 65536
  rotate_left
  · have hd : decide (n ≤ 65536) = false := decide_eq_false hsm
    go_enter Tryz.func8, Tryz.ntmps8
    go_wp2_with (go_at_call 10; refine (small_walk a n c hn _).mono ?_; rintro e w' ⟨rfl, rfl⟩)
    go_ret
    exact ⟨rfl, Below.refl _ _⟩
  have hd : decide (n ≤ 65536) = true := decide_eq_true hsm
  go_enter Tryz.func8, Tryz.ntmps8
  go_wp2_with (go_at_call 10; refine (small_walk a n c hn _).mono ?_; rintro e w' ⟨rfl, rfl⟩)
  refine (LS.start _).mono ?_
  rintro e w1 ⟨L, rfl, H0⟩
  go_wp2_with fail
  go_loopw [32] (fun u wr => ∃ (k : Nat), u = .int .i64 (k : Int) ∧ k ≤ n ∧ Hid (∃ S, LS w' L S wr)) (fun u _ => n - (intOf u).toNat)
  case atStart => exact ⟨0, rfl, Nat.zero_le _, hid ⟨S0, H0.out⟩⟩
  case round =>
  clear H0
  obtain ⟨k, rfl, hk, HK⟩ := hrel
  obtain ⟨S, hsv⟩ := HK.out
  have HV := hid hsv
  clear hsv HK
  by_cases hlt : k < n
  rotate_left
  · as_aux_lemma =>
    have hkn : k = n := by omega
    subst hkn
    have HF := hid HV.out.bel
    clear HV
    go_wp2
    go_ret
    exact ⟨rfl, HF.out⟩
  obtain ⟨o, ho, hok, b, off, rfl, hb, c0, c1, c2, c3⟩ := (HS.out.below HV.out.bel).at hlt
  obtain ⟨kind, oa, ob, oc⟩ := o
  obtain ⟨k0, k1, ha, hb', hc'⟩ := hok
  dsimp only at c0 c1 c2 c3 ha hb' hc' k0 k1
  have HA := hid ha
  have HBo := hid hb'
  have HCo := hid hc'
  have HK0 := hid k0
  clear ho ha hb' hc' k0 k1
  obtain ⟨p, hp⟩ : ∃ p, wr.heap.size = p := ⟨_, rfl⟩
  have H1 : Hid (LB w' L S [(p, 31, [.int .u8 kind, .int .u64 oa, .int .u64 ob, .int .u64 oc])] (wr.alloc (.cells #[.int .u8 kind, .int .u64 oa, .int .u64 ob, .int .u64 oc] 31))) := hid ((LB.start HV.out).new hp (by decide))
  go_upto_region 7 with fail
  (try simp only [hp])
  generalize hwa : World.alloc wr _ = wa at H1 ⊢
  clear hwa c0 c1 c2 c3 hp HV hb
  have HOP := hid (fun wz (S' : AS) (hz : LB w' L S' [(p, 31, [.int .u8 kind, .int .u64 oa, .int .u64 ob, .int .u64 oc])] wz) => hz.bk _ (List.mem_singleton.2 rfl))
  have c0 : wa.cell? ⟨p, 0, none⟩ = some (.int .u8 kind) := (HOP.out wa _ H1.out).cell 0
  have c1 : wa.cell? ⟨p, 1, none⟩ = some (.int .u64 oa) := (HOP.out wa _ H1.out).cell 1
  have c2 : wa.cell? ⟨p, 2, none⟩ = some (.int .u64 ob) := (HOP.out wa _ H1.out).cell 2
  have c3 : wa.cell? ⟨p, 3, none⟩ = some (.int .u64 oc) := (HOP.out wa _ H1.out).cell 3
  have HC := hid (H1.out.ls.play kind oa ob oc HK0.out HA.out HBo.out HCo.out)
  go_wp2_with fail
  refine HC.out.mono ?_
  rintro e w2 ⟨rs, S1, rfl, HR⟩
  have H2 := hid (H1.out.step HR.out.2.1)
  clear HC HR H1 c0 c1 c2 c3 HK0
  clear S
  have c1 : w2.cell? ⟨p, 1, none⟩ = some (.int .u64 oa) := (HOP.out w2 _ H2.out).cell 1
  have HC := hid (openZ H2.out.ls.am oa)
  go_wp2_with fail
  refine HC.out.mono ?_
  rintro e w3 ⟨rfl, hb3⟩
  have H3 := hid (H2.out.below hb3)
  clear HC hb3 H2 c1
  by_cases h0 : onC S1 oa = 0
  rotate_left
  · as_aux_lemma =>
    rw [onC_no h0]
    have d0 : (onC S1 oa == 0) = false := by simp [h0]
    have d1 : (onC S1 oa != 0) = true := by simp [h0]
    have HF : Hid (∃ S, LS w' L S (w3.alloc (.cells #[.pointer none, .int .i64 0, .int .u64 0, .int .i64 0, .int .i64 0] 61))) := hid ⟨S1, H3.out.ls.below (nbel _ _)⟩
    clear h0 H3 HOP
    generalize onC S1 oa = cd at d0 d1 ⊢
    dsimp only [ob0]
    go_wp2
    exact ⟨⟨k + 1, by go_num, by omega, HF⟩, by simp [intOf]; omega⟩
  obtain ⟨q, hq⟩ : ∃ q, w3.heap.size = q := ⟨_, rfl⟩
  obtain ⟨o, hol, hvo, hro, hoa⟩ : ∃ o, onL L S1 oa = obL L o ∧ VOk o ∧ S1.W o.k = o.raw ∧ oa = 65536 + (o.k : Int) := by
    obtain ⟨h1, h2, h3, h4⟩ := onC_ok H3.out.ls.am h0
    refine ⟨_, h3, VOk.of h2 (H3.out.ls.am.wl (2 * gIx oa)) ?_, rfl, ?_⟩
    · unfold onC at h0
      rw [if_pos h1] at h0
      exact h0
    · have hh := h1
      unfold wantO at hh
      split at hh
      · rename_i hin
        split at hh
        · rename_i hev
          unfold InH at hin
          show oa = 65536 + ((2 * gIx oa : Nat) : Int)
          unfold gIx
          omega
        · omega
      · omega
  rw [h0, hol]
  subst hoa
  clear h0 hol HA
  have Hv := hid hvo
  have Hr := hid hro
  clear hvo hro
  have HQ : Hid (LB w' L S1 ([(p, 31, [.int .u8 kind, .int .u64 (65536 + (o.k : Int)), .int .u64 ob, .int .u64 oc])] ++ [(q, 61, obL L o)]) (w3.alloc (.cells (obL L o).toArray 61))) := hid (H3.out.new hq (by decide))
  dsimp only [obL] at HQ ⊢
  go_upto_region 10 with fail
  (try simp only [hq])
  generalize hwv : World.alloc w3 _ = w4 at HQ ⊢
  clear hwv hq H3 HOP
  have HBq : Hid (∀ wz bl, (q, 61, [.pointer (some ⟨L.a, 0, none⟩), .int .i64 (o.k : Int), .int .u64 (o.raw : Int), .int .i64 (o.sz : Int), .int .i64 (o.rf : Int)]) ∈ bl → LB w' L S1 bl wz → Blk wz q 61 (obL L o)) := hid (fun wz bl hm hz => hz.bk _ hm)
  have q0 : w4.cell? ⟨q, 0, none⟩ = some (.pointer (some ⟨L.a, 0, none⟩)) := (HBq.out w4 _ (by simp) HQ.out).cell 0
  have q1 : w4.cell? ⟨q, 1, none⟩ = some (.int .i64 (o.k : Int)) := (HBq.out w4 _ (by simp) HQ.out).cell 1
  have q2 : w4.cell? ⟨q, 2, none⟩ = some (.int .u64 (o.raw : Int)) := (HBq.out w4 _ (by simp) HQ.out).cell 2
  have q3 : w4.cell? ⟨q, 3, none⟩ = some (.int .i64 (o.sz : Int)) := (HBq.out w4 _ (by simp) HQ.out).cell 3
  have q4 : w4.cell? ⟨q, 4, none⟩ = some (.int .i64 (o.rf : Int)) := (HBq.out w4 _ (by simp) HQ.out).cell 4
  have HC := hid (obHeaderZ (L := L) Hv.out.ok w4)
  go_wp2_with fail
  refine HC.out.mono ?_
  rintro e w5 ⟨rfl, hb5⟩
  have HQ5 := hid (HQ.out.below hb5)
  clear HC hb5 HQ q0 q1 q2 q3 q4
  obtain ⟨h, hh⟩ : ∃ h, w5.heap.size = h := ⟨_, rfl⟩
  have HH : Hid (LB w' L S1 (([(p, 31, [.int .u8 kind, .int .u64 (65536 + (o.k : Int)), .int .u64 ob, .int .u64 oc])] ++ [(q, 61, [.pointer (some ⟨L.a, 0, none⟩), .int .i64 (o.k : Int), .int .u64 (o.raw : Int), .int .i64 (o.sz : Int), .int .i64 (o.rf : Int)])]) ++ [(h, 59, [.int .i64 (o.sz : Int), .int .i64 (o.rf : Int)])]) (w5.alloc (.cells #[.int .i64 (o.sz : Int), .int .i64 (o.rf : Int)] 59))) := hid (HQ5.out.new hh (by decide))
  go_upto_region 11 with fail
  (try simp only [hh])
  generalize hwv : World.alloc w5 _ = w6 at HH ⊢
  clear hwv hh HQ5
  have q0 : w6.cell? ⟨q, 0, none⟩ = some (.pointer (some ⟨L.a, 0, none⟩)) := (HBq.out w6 _ (by simp) HH.out).cell 0
  have q1 : w6.cell? ⟨q, 1, none⟩ = some (.int .i64 (o.k : Int)) := (HBq.out w6 _ (by simp) HH.out).cell 1
  have q2 : w6.cell? ⟨q, 2, none⟩ = some (.int .u64 (o.raw : Int)) := (HBq.out w6 _ (by simp) HH.out).cell 2
  have q3 : w6.cell? ⟨q, 3, none⟩ = some (.int .i64 (o.sz : Int)) := (HBq.out w6 _ (by simp) HH.out).cell 3
  have q4 : w6.cell? ⟨q, 4, none⟩ = some (.int .i64 (o.rf : Int)) := (HBq.out w6 _ (by simp) HH.out).cell 4
  have HC := hid (obExtentZ HH.out.ls.am Hv.out.ok)
  obtain ⟨ew, hew⟩ : ∃ x, 1 + o.sz = x := ⟨_, rfl⟩
  have h_sz := Hv.out.ok.s2
  have h_s1 := Hv.out.ok.s1
  have h_k := Hv.out.ok.k
  have h_rf := Hv.out.ok.rf
  rw [hew] at HC
  go_wp2_with fail
  refine HC.out.mono ?_
  rintro e w7 ⟨rfl, hb7⟩
  have HH7 := hid (HH.out.below hb7)
  clear HC hb7 HH q0 q1 q2 q3 q4
  obtain ⟨x, hx⟩ : ∃ x, w7.heap.size = x := ⟨_, rfl⟩
  have HE : Hid (LB w' L S1 ((([(p, 31, [.int .u8 kind, .int .u64 (65536 + (o.k : Int)), .int .u64 ob, .int .u64 oc])] ++ [(q, 61, [.pointer (some ⟨L.a, 0, none⟩), .int .i64 (o.k : Int), .int .u64 (o.raw : Int), .int .i64 (o.sz : Int), .int .i64 (o.rf : Int)])]) ++ [(h, 59, [.int .i64 (o.sz : Int), .int .i64 (o.rf : Int)])]) ++ [(x, 84, [.int .i64 (o.k : Int), .int .i64 (ew : Int)])]) (w7.alloc (.cells #[.int .i64 (o.k : Int), .int .i64 (ew : Int)] 84))) := hid (HH7.out.new hx (by decide))
  go_upto_region 12 with fail
  (try simp only [hx])
  generalize hwv : World.alloc w7 _ = w8 at HE ⊢
  clear hwv hx HH7 HBq
  obtain ⟨bl, hbl⟩ : ∃ bl : List (Nat × TypeId × List Value), [(p, 31, [.int .u8 kind, .int .u64 (65536 + (o.k : Int)), .int .u64 ob, .int .u64 oc]), (q, 61, [.pointer (some ⟨L.a, 0, none⟩), .int .i64 (o.k : Int), .int .u64 (o.raw : Int), .int .i64 (o.sz : Int), .int .i64 (o.rf : Int)]), (h, 59, [.int .i64 (o.sz : Int), .int .i64 (o.rf : Int)]), (x, 84, [.int .i64 (o.k : Int), .int .i64 (ew : Int)])] = bl := ⟨_, rfl⟩
  have HE8 : Hid (LB w' L S1 bl w8) := hid (by rw [← hbl]; exact HE.out)
  have HCE : Hid (∀ (wz : World) (S' : AS), LB w' L S' bl wz → (wz.cell? ⟨p, 1, none⟩ = some (.int .u64 (65536 + (o.k : Int))) ∧ wz.cell? ⟨p, 2, none⟩ = some (.int .u64 ob) ∧ wz.cell? ⟨p, 3, none⟩ = some (.int .u64 oc)) ∧ (wz.cell? ⟨q, 0, none⟩ = some (.pointer (some ⟨L.a, 0, none⟩)) ∧ wz.cell? ⟨q, 1, none⟩ = some (.int .i64 (o.k : Int)) ∧ wz.cell? ⟨q, 2, none⟩ = some (.int .u64 (o.raw : Int)) ∧ wz.cell? ⟨q, 3, none⟩ = some (.int .i64 (o.sz : Int)) ∧ wz.cell? ⟨q, 4, none⟩ = some (.int .i64 (o.rf : Int))) ∧ (wz.cell? ⟨h, 0, none⟩ = some (.int .i64 (o.sz : Int)) ∧ wz.cell? ⟨h, 1, none⟩ = some (.int .i64 (o.rf : Int))) ∧ wz.cell? ⟨x, 0, none⟩ = some (.int .i64 (o.k : Int)) ∧ wz.cell? ⟨x, 1, none⟩ = some (.int .i64 (ew : Int))) := hid (fun wz S' hz => by
    have k1 := hz.bk (p, 31, [.int .u8 kind, .int .u64 (65536 + (o.k : Int)), .int .u64 ob, .int .u64 oc]) (by rw [← hbl]; simp)
    have k2 := hz.bk (q, 61, [.pointer (some ⟨L.a, 0, none⟩), .int .i64 (o.k : Int), .int .u64 (o.raw : Int), .int .i64 (o.sz : Int), .int .i64 (o.rf : Int)]) (by rw [← hbl]; simp)
    have k3 := hz.bk (h, 59, [.int .i64 (o.sz : Int), .int .i64 (o.rf : Int)]) (by rw [← hbl]; simp)
    have k4 := hz.bk (x, 84, [.int .i64 (o.k : Int), .int .i64 (ew : Int)]) (by rw [← hbl]; simp)
    exact ⟨⟨k1.cell 1, k1.cell 2, k1.cell 3⟩, ⟨k2.cell 0, k2.cell 1, k2.cell 2, k2.cell 3, k2.cell 4⟩, ⟨k3.cell 0, k3.cell 1⟩, k4.cell 0, k4.cell 1⟩)
  clear hbl HE
  obtain ⟨dw, hdw⟩ : ∃ d, o.sz - o.rf = d := ⟨_, rfl⟩
  have HAd := hid (fun wz => obAddrZ (l := L) Hv.out.ok wz)
  have HSz := hid (fun wz => obSizeZ (l := L) Hv.out.ok wz)
  have HRf := hid (fun wz => obRefsZ (l := L) Hv.out.ok wz)
  have HDw := hid (fun wz => obDataWordsZ (L := L) Hv.out.ok wz)
  have HDh := hid (fun wz => hdDataZ o.sz o.rf Hv.out.ok.s2 Hv.out.ok.rf wz)
  have HWh := hid (fun wz => hdWordsZ o.sz o.rf Hv.out.ok.s2 wz)
  have HExO : Hid (ExtOk (o.k : Int) (ew : Int)) := hid ⟨by omega, by omega, by omega⟩
  obtain ⟨en, hen⟩ : ∃ x, o.k + ew = x := ⟨_, rfl⟩
  have h_en : en ≤ 32768 := by omega
  have h_dw : dw ≤ 8192 := by omega
  have e3 : (o.k : Int) + (ew : Int) = (en : Int) := by omega
  have HEa := hid (fun wz => extAddr_walk (o.k : Int) (ew : Int) HExO.out wz)
  have HEe := hid (fun wz => extEnd_walk (o.k : Int) (ew : Int) HExO.out wz)
  rw [e3] at HEe
  unfold extV at HEa HEe
  clear e3
  rw [hew] at HWh
  rw [hdw] at HDw HDh
  obtain ⟨X, W, HTT, HH0, hne, HCl⟩ := class_below w8
  have HEy := hid (fun y => HE8.out.below (HTT.out y))
  have c1 : ∀ y, (W y).cell? ⟨p, 1, none⟩ = some (.int .u64 (65536 + (o.k : Int))) := fun y => (HCE.out _ _ (HEy.out y)).1.1
  have q0 : ∀ y, (W y).cell? ⟨q, 0, none⟩ = some (.pointer (some ⟨L.a, 0, none⟩)) := fun y => (HCE.out _ _ (HEy.out y)).2.1.1
  have q1 : ∀ y, (W y).cell? ⟨q, 1, none⟩ = some (.int .i64 (o.k : Int)) := fun y => (HCE.out _ _ (HEy.out y)).2.1.2.1
  have q2 : ∀ y, (W y).cell? ⟨q, 2, none⟩ = some (.int .u64 (o.raw : Int)) := fun y => (HCE.out _ _ (HEy.out y)).2.1.2.2.1
  have q3 : ∀ y, (W y).cell? ⟨q, 3, none⟩ = some (.int .i64 (o.sz : Int)) := fun y => (HCE.out _ _ (HEy.out y)).2.1.2.2.2.1
  have q4 : ∀ y, (W y).cell? ⟨q, 4, none⟩ = some (.int .i64 (o.rf : Int)) := fun y => (HCE.out _ _ (HEy.out y)).2.1.2.2.2.2
  have h0 : ∀ y, (W y).cell? ⟨h, 0, none⟩ = some (.int .i64 (o.sz : Int)) := fun y => (HCE.out _ _ (HEy.out y)).2.2.1.1
  have h1 : ∀ y, (W y).cell? ⟨h, 1, none⟩ = some (.int .i64 (o.rf : Int)) := fun y => (HCE.out _ _ (HEy.out y)).2.2.1.2
  have HAd' := hid (fun y => HAd.out (W y))
  have HSz' := hid (fun y => HSz.out (W y))
  have HRf' := hid (fun y => HRf.out (W y))
  have HDw' := hid (fun y => HDw.out (W y))
  have HDh' := hid (fun y => HDh.out (W y))
  refine wp_region_class W (by kernel_rfl) (by kernel_rfl) HH0.out ?_
  repeat (go_big_quiet_step (first | (go_at_call 24; with_reducible exact Calls.class_of HCl.out (HAd'.out _)) | (go_at_call 38; with_reducible exact Calls.class_of HCl.out (HSz'.out _)) | (go_at_call 39; with_reducible exact Calls.class_of HCl.out (HRf'.out _)) | (go_at_call 40; with_reducible exact Calls.class_of HCl.out (HDw'.out _)) | (go_at_call 41; with_reducible exact Calls.class_of HCl.out (HDh'.out _))))
  refine wpQuiet_nil ?_
  intro y
  have HE9 := hid (HEy.out y)
  generalize W y = w9 at HE9 ⊢
  clear c1 q0 q1 q2 q3 q4 h0 h1 HAd' HSz' HRf' HDw' HDh' HH0 HTT HCl hne HEy HE8
  have e1 : (o.rf : Int) + (dw : Int) = (o.sz : Int) := by omega
  have e2 : (o.sz : Int) + 1 = (ew : Int) := by omega
  go_upto_region 14 with fail
  obtain ⟨X2, W, HTT, HH0, hne, HCl⟩ := class_below w9
  have HEy := hid (fun y => HE9.out.below (HTT.out y))
  have h0 : ∀ y, (W y).cell? ⟨h, 0, none⟩ = some (.int .i64 (o.sz : Int)) := fun y => (HCE.out _ _ (HEy.out y)).2.2.1.1
  have h1 : ∀ y, (W y).cell? ⟨h, 1, none⟩ = some (.int .i64 (o.rf : Int)) := fun y => (HCE.out _ _ (HEy.out y)).2.2.1.2
  have HDh' := hid (fun y => HDh.out (W y))
  have HWh' := hid (fun y => HWh.out (W y))
  refine wp_region_class W (by kernel_rfl) (by kernel_rfl) HH0.out ?_
  repeat (go_big_quiet_step (first | (go_at_call 41; with_reducible exact Calls.class_of HCl.out (HDh'.out _)) | (go_at_call 42; with_reducible exact Calls.class_of HCl.out (HWh'.out _))))
  refine wpQuiet_nil ?_
  intro y
  have HE10 := hid (HEy.out y)
  generalize W y = w10 at HE10 ⊢
  clear h0 h1 HDh' HWh' HH0 HTT HCl hne HEy HE9
  have de : decide ((en : Int) > 32768) = false := decide_eq_false (by omega)
  have de' : decide ((32768 : Int) < (en : Int)) = false := decide_eq_false (by omega)
  have den : decide (32768 < en) = false := decide_eq_false (by omega)
  go_upto_region 16 with fail
  obtain ⟨X3, W, HTT, HH0, hne, HCl⟩ := class_below w10
  have HEy := hid (fun y => HE10.out.below (HTT.out y))
  have q0 : ∀ y, (W y).cell? ⟨q, 0, none⟩ = some (.pointer (some ⟨L.a, 0, none⟩)) := fun y => (HCE.out _ _ (HEy.out y)).2.1.1
  have q1 : ∀ y, (W y).cell? ⟨q, 1, none⟩ = some (.int .i64 (o.k : Int)) := fun y => (HCE.out _ _ (HEy.out y)).2.1.2.1
  have q2 : ∀ y, (W y).cell? ⟨q, 2, none⟩ = some (.int .u64 (o.raw : Int)) := fun y => (HCE.out _ _ (HEy.out y)).2.1.2.2.1
  have q3 : ∀ y, (W y).cell? ⟨q, 3, none⟩ = some (.int .i64 (o.sz : Int)) := fun y => (HCE.out _ _ (HEy.out y)).2.1.2.2.2.1
  have q4 : ∀ y, (W y).cell? ⟨q, 4, none⟩ = some (.int .i64 (o.rf : Int)) := fun y => (HCE.out _ _ (HEy.out y)).2.1.2.2.2.2
  have h0 : ∀ y, (W y).cell? ⟨h, 0, none⟩ = some (.int .i64 (o.sz : Int)) := fun y => (HCE.out _ _ (HEy.out y)).2.2.1.1
  have h1 : ∀ y, (W y).cell? ⟨h, 1, none⟩ = some (.int .i64 (o.rf : Int)) := fun y => (HCE.out _ _ (HEy.out y)).2.2.1.2
  have x0 : ∀ y, (W y).cell? ⟨x, 0, none⟩ = some (.int .i64 (o.k : Int)) := fun y => (HCE.out _ _ (HEy.out y)).2.2.2.1
  have x1 : ∀ y, (W y).cell? ⟨x, 1, none⟩ = some (.int .i64 (ew : Int)) := fun y => (HCE.out _ _ (HEy.out y)).2.2.2.2
  have HAd' := hid (fun y => HAd.out (W y))
  have HEa' := hid (fun y => HEa.out (W y))
  have HEe' := hid (fun y => HEe.out (W y))
  have HWh' := hid (fun y => HWh.out (W y))
  refine wp_region_class W (by kernel_rfl) (by kernel_rfl) HH0.out ?_
  repeat (go_big_quiet_step (first | (go_at_call 43; with_reducible exact Calls.class_of HCl.out (HEa'.out _)) | (go_at_call 24; with_reducible exact Calls.class_of HCl.out (HAd'.out _)) | (go_at_call 42; with_reducible exact Calls.class_of HCl.out (HWh'.out _)) | (go_at_call 44; with_reducible exact Calls.class_of HCl.out (HEe'.out _))))
  refine wpQuiet_nil ?_
  intro y
  have HE11 := hid (HEy.out y)
  generalize W y = w11 at HE11 ⊢
  clear q0 q1 q2 q3 q4 h0 h1 x0 x1 HAd' HEa' HEe' HWh' HH0 HTT HCl hne HEy HE10
  clear e1 e2 de de' den
  go_upto_region 18 with fail
  have q0 : w11.cell? ⟨q, 0, none⟩ = some (.pointer (some ⟨L.a, 0, none⟩)) := (HCE.out _ _ HE11.out).2.1.1
  have q1 : w11.cell? ⟨q, 1, none⟩ = some (.int .i64 (o.k : Int)) := (HCE.out _ _ HE11.out).2.1.2.1
  have q2 : w11.cell? ⟨q, 2, none⟩ = some (.int .u64 (o.raw : Int)) := (HCE.out _ _ HE11.out).2.1.2.2.1
  have q3 : w11.cell? ⟨q, 3, none⟩ = some (.int .i64 (o.sz : Int)) := (HCE.out _ _ HE11.out).2.1.2.2.2.1
  have q4 : w11.cell? ⟨q, 4, none⟩ = some (.int .i64 (o.rf : Int)) := (HCE.out _ _ HE11.out).2.1.2.2.2.2
  obtain ⟨y0, hy0⟩ : ∃ y, 65536 + o.k + 1 = y := ⟨_, rfl⟩
  have ey0 : (65536 : Int) + (o.k : Int) + 1 = (y0 : Int) := by omega
  have hy1 : y0 ≤ 100000 := by omega
  go_wp2_with fail
  refine (HAd.out _).mono ?_
  rintro e w12 ⟨rfl, hb12⟩
  have HE12 := hid (HE11.out.below hb12)
  clear hb12 HE11 q0 q1 q2 q3 q4
  go_wp2_with fail
  go_loopw [10, 11] (fun v u wr => ∃ (i y : Nat), v = .int .u64 (y : Int) ∧ u = .int .i64 (i : Int) ∧ i ≤ o.rf ∧ y ≤ 100000 ∧ Hid (y = y0 + i ∧ LB w' L S1 bl wr)) (fun _ u _ => o.rf - (intOf u).toNat)
  case atStart => exact ⟨0, y0, by first | rfl | (rw [← ey0]; rfl) | simp [ey0], rfl, Nat.zero_le _, hy1, hid ⟨rfl, HE12.out⟩⟩
  case round =>
  clear HE12
  obtain ⟨i, y, rfl, rfl, hi, hyb, HI⟩ := hrel
  obtain ⟨w13, hw13⟩ : ∃ x, x = wr := ⟨_, rfl⟩
  subst hw13
  have HE13 := hid HI.out.2
  have Hy := hid HI.out.1
  clear HI
  have q0 : w13.cell? ⟨q, 0, none⟩ = some (.pointer (some ⟨L.a, 0, none⟩)) := (HCE.out _ _ HE13.out).2.1.1
  have q1 : w13.cell? ⟨q, 1, none⟩ = some (.int .i64 (o.k : Int)) := (HCE.out _ _ HE13.out).2.1.2.1
  have q2 : w13.cell? ⟨q, 2, none⟩ = some (.int .u64 (o.raw : Int)) := (HCE.out _ _ HE13.out).2.1.2.2.1
  have q3 : w13.cell? ⟨q, 3, none⟩ = some (.int .i64 (o.sz : Int)) := (HCE.out _ _ HE13.out).2.1.2.2.2.1
  have q4 : w13.cell? ⟨q, 4, none⟩ = some (.int .i64 (o.rf : Int)) := (HCE.out _ _ HE13.out).2.1.2.2.2.2
  have h1 : w13.cell? ⟨h, 1, none⟩ = some (.int .i64 (o.rf : Int)) := (HCE.out _ _ HE13.out).2.2.1.2
  by_cases hir : i < o.rf
  · have di : decide ((i : Int) < (o.rf : Int)) = true := decide_eq_true (by omega)
    have hyz : y + 1 ≤ 100000 := by have := Hy.out; omega
    have HC := hid (obFieldAddrI HE13.out.ls.am Hv.out.ok Hr.out hir)
    rw [show 65536 + o.k + 1 + i = y by rw [Hy.out, hy0]] at HC
    go_wp2_with fail
    refine HC.out.mono ?_
    rintro e w14 ⟨rfl, hb14⟩
    have HE14 := hid (HE13.out.below hb14)
    clear hb14 HC HE13 q0 q1 q2 q3 q4 h1
    go_wp2
    exact ⟨⟨i + 1, y + 1, by go_num, by go_num, by omega, by omega, hid ⟨by rw [Hy.out]; omega, HE14.out⟩⟩, by simp [intOf]; omega⟩
  have di : decide ((i : Int) < (o.rf : Int)) = false := decide_eq_false (by omega)
  have hyr : Hid (y = y0 + o.rf) := hid (by rw [Hy.out]; omega)
  clear q0 q1 q2 q3 q4 Hy
  go_wp2_with fail
  clear h1
  go_loopw [10, 14] (fun v u wr => ∃ (i y : Nat), v = .int .u64 (y : Int) ∧ u = .int .i64 (i : Int) ∧ i ≤ dw ∧ y ≤ 100000 ∧ Hid (y = y0 + o.rf + i ∧ LB w' L S1 bl wr)) (fun _ u _ => dw - (intOf u).toNat)
  case atStart => exact ⟨0, y, rfl, rfl, Nat.zero_le _, hyb, hid ⟨hyr.out, HE13.out⟩⟩
  case round =>
  clear HE13
  clear hyr hyb
  obtain ⟨j, z, rfl, rfl, hj, hzb, HI⟩ := hrel
  obtain ⟨w15, hw15⟩ : ∃ x, x = wr := ⟨_, rfl⟩
  subst hw15
  have HE15 := hid HI.out.2
  have Hz := hid HI.out.1
  clear HI
  have h0 : w15.cell? ⟨h, 0, none⟩ = some (.int .i64 (o.sz : Int)) := (HCE.out _ _ HE15.out).2.2.1.1
  have h1 : w15.cell? ⟨h, 1, none⟩ = some (.int .i64 (o.rf : Int)) := (HCE.out _ _ HE15.out).2.2.1.2
  go_wp2_with fail
  refine (HDh.out _).mono ?_
  rintro e w16 ⟨rfl, hb16⟩
  have HE16 := hid (HE15.out.below hb16)
  clear hb16 HE15 h0 h1
  have q0 : w16.cell? ⟨q, 0, none⟩ = some (.pointer (some ⟨L.a, 0, none⟩)) := (HCE.out _ _ HE16.out).2.1.1
  have q1 : w16.cell? ⟨q, 1, none⟩ = some (.int .i64 (o.k : Int)) := (HCE.out _ _ HE16.out).2.1.2.1
  have q2 : w16.cell? ⟨q, 2, none⟩ = some (.int .u64 (o.raw : Int)) := (HCE.out _ _ HE16.out).2.1.2.2.1
  have q3 : w16.cell? ⟨q, 3, none⟩ = some (.int .i64 (o.sz : Int)) := (HCE.out _ _ HE16.out).2.1.2.2.2.1
  have q4 : w16.cell? ⟨q, 4, none⟩ = some (.int .i64 (o.rf : Int)) := (HCE.out _ _ HE16.out).2.1.2.2.2.2
  by_cases hjd : j < dw
  · have dj : decide ((j : Int) < (dw : Int)) = true := decide_eq_true (by omega)
    have hzz : z + 1 ≤ 100000 := by have := Hz.out; omega
    have HC := hid (obDataAddrI HE16.out.ls.am Hv.out.ok Hr.out (show j < o.sz - o.rf by omega))
    rw [show 65536 + o.k + 1 + o.rf + j = z by rw [Hz.out, hy0]] at HC
    go_wp2_with fail
    refine HC.out.mono ?_
    rintro e w17 ⟨rfl, hb17⟩
    have HE17 := hid (HE16.out.below hb17)
    clear hb17 HC HE16 q0 q1 q2 q3 q4
    go_wp2
    exact ⟨⟨j + 1, z + 1, by go_num, by go_num, by omega, by omega, hid ⟨by rw [Hz.out]; omega, HE17.out⟩⟩, by simp [intOf]; omega⟩
  have dj : decide ((j : Int) < (dw : Int)) = false := decide_eq_false (by omega)
  have ez : (z : Int) - 65536 = (en : Int) := by have := Hz.out; omega
  clear q0 q1 q2 q3 q4 Hz
  go_upto_region 33 with fail
  have x0 : w16.cell? ⟨x, 0, none⟩ = some (.int .i64 (o.k : Int)) := (HCE.out _ _ HE16.out).2.2.2.1
  have x1 : w16.cell? ⟨x, 1, none⟩ = some (.int .i64 (ew : Int)) := (HCE.out _ _ HE16.out).2.2.2.2
  go_wp2_with fail
  refine (HEe.out _).mono ?_
  rintro e w18 ⟨rfl, hb18⟩
  have HE18 := hid (HE16.out.below hb18)
  clear hb18 HE16 x0 x1
  have c2 : w18.cell? ⟨p, 2, none⟩ = some (.int .u64 ob) := (HCE.out _ _ HE18.out).1.2.1
  have h0 : w18.cell? ⟨h, 0, none⟩ = some (.int .i64 (o.sz : Int)) := (HCE.out _ _ HE18.out).2.2.1.1
  have h1 : w18.cell? ⟨h, 1, none⟩ = some (.int .i64 (o.rf : Int)) := (HCE.out _ _ HE18.out).2.2.1.2
  go_upto_region 35 with fail
  clear ez
  obtain ⟨m, hm, hms⟩ : ∃ m : Nat, wrap64 (ob.tmod (o.sz : Int)) = (m : Int) ∧ m < o.sz := by
    have h0 := HBo.out.1
    refine ⟨ob.toNat % o.sz, ?_, Nat.mod_lt _ (by omega)⟩
    have e : ob.tmod (o.sz : Int) = ((ob.toNat % o.sz : Nat) : Int) := by
      conv => lhs; rw [show ob = (ob.toNat : Int) by omega]
      rfl
    rw [e]
    have := Nat.mod_lt ob.toNat (show 0 < o.sz by omega)
    exact IntWalk.wrap64_in _ ⟨by omega, by omega⟩
  go_upto_region 36 with fail
  simp only [hm]
  clear hm c2 h0
  by_cases hmr : m < o.rf
  · have dm : decide ((m : Int) < (o.rf : Int)) = true := decide_eq_true (by omega)
    have q0 : w18.cell? ⟨q, 0, none⟩ = some (.pointer (some ⟨L.a, 0, none⟩)) := (HCE.out _ _ HE18.out).2.1.1
    have q1 : w18.cell? ⟨q, 1, none⟩ = some (.int .i64 (o.k : Int)) := (HCE.out _ _ HE18.out).2.1.2.1
    have q2 : w18.cell? ⟨q, 2, none⟩ = some (.int .u64 (o.raw : Int)) := (HCE.out _ _ HE18.out).2.1.2.2.1
    have q3 : w18.cell? ⟨q, 3, none⟩ = some (.int .i64 (o.sz : Int)) := (HCE.out _ _ HE18.out).2.1.2.2.2.1
    have q4 : w18.cell? ⟨q, 4, none⟩ = some (.int .i64 (o.rf : Int)) := (HCE.out _ _ HE18.out).2.1.2.2.2.2
    have HC := hid (obFieldAddrI HE18.out.ls.am Hv.out.ok Hr.out hmr)
    obtain ⟨fm, hfm⟩ : ∃ f, 65536 + o.k + 1 + m = f := ⟨_, rfl⟩
    rw [hfm] at HC
    have hfm2 : fm ≤ 98304 := by omega
    go_wp2_with fail
    refine HC.out.mono ?_
    rintro e w19 ⟨rfl, hb19⟩
    have HE19 := hid (HE18.out.below hb19)
    clear hb19 HC HE18 q0 q1 q2 q3 q4 h1
    go_upto_region 38 with fail
    obtain ⟨X, W, HTT, HH0, hne, HCl⟩ := class_below w19
    have HEy := hid (fun y => HE19.out.below (HTT.out y))
    have q0 : ∀ y, (W y).cell? ⟨q, 0, none⟩ = some (.pointer (some ⟨L.a, 0, none⟩)) := fun y => (HCE.out _ _ (HEy.out y)).2.1.1
    have q1 : ∀ y, (W y).cell? ⟨q, 1, none⟩ = some (.int .i64 (o.k : Int)) := fun y => (HCE.out _ _ (HEy.out y)).2.1.2.1
    have q2 : ∀ y, (W y).cell? ⟨q, 2, none⟩ = some (.int .u64 (o.raw : Int)) := fun y => (HCE.out _ _ (HEy.out y)).2.1.2.2.1
    have q3 : ∀ y, (W y).cell? ⟨q, 3, none⟩ = some (.int .i64 (o.sz : Int)) := fun y => (HCE.out _ _ (HEy.out y)).2.1.2.2.2.1
    have q4 : ∀ y, (W y).cell? ⟨q, 4, none⟩ = some (.int .i64 (o.rf : Int)) := fun y => (HCE.out _ _ (HEy.out y)).2.1.2.2.2.2
    have HAd' := hid (fun y => HAd.out (W y))
    refine wp_region_class_tailT W 4 (by kernel_rfl) (by kernel_rfl) (by kernel_rfl) HH0.out ?_
    simp only [List.take, List.drop]
    repeat (go_big_quiet_step (first | (go_at_call 24; with_reducible exact Calls.class_of HCl.out (HAd'.out _))))
    refine wpQuiet_nil ?_
    intro y
    have HE20 := hid (HEy.out y)
    generalize W y = w20 at HE20 ⊢
    clear q0 q1 q2 q3 q4 HAd' HH0 HTT HCl hne HEy HE19
    have HC := hid (obSetRefI HE20.out.ls.am Hv.out.ok Hr.out hmr)
    go_wp2_with fail
    refine HC.out.mono ?_
    rintro e w21 ⟨rfl, HU⟩
    have HE21 := hid (HE20.out.step HU.out)
    clear HC HU HE20
    have HC := hid (loadPut HE21.out.ls.am (show o.k + 1 + m < 32768 by omega))
    rw [show 65536 + (o.k + 1 + m) = fm by omega] at HC
    go_wp2_with fail
    refine HC.out.mono ?_
    rintro e_ w_ ⟨rfl, hw_⟩
    have hs_ := hw_.symm
    clear hw_ HC
    subst hs_
    have q0 : w21.cell? ⟨q, 0, none⟩ = some (.pointer (some ⟨L.a, 0, none⟩)) := (HCE.out _ _ HE21.out).2.1.1
    have q1 : w21.cell? ⟨q, 1, none⟩ = some (.int .i64 (o.k : Int)) := (HCE.out _ _ HE21.out).2.1.2.1
    have q2 : w21.cell? ⟨q, 2, none⟩ = some (.int .u64 (o.raw : Int)) := (HCE.out _ _ HE21.out).2.1.2.2.1
    have q3 : w21.cell? ⟨q, 3, none⟩ = some (.int .i64 (o.sz : Int)) := (HCE.out _ _ HE21.out).2.1.2.2.2.1
    have q4 : w21.cell? ⟨q, 4, none⟩ = some (.int .i64 (o.rf : Int)) := (HCE.out _ _ HE21.out).2.1.2.2.2.2
    have ek : ((65536 + o.k : Nat) : Int) = 65536 + (o.k : Int) := by omega
    go_wp2_with fail
    refine (HAd.out _).mono ?_
    rintro e w22 ⟨rfl, hb22⟩
    have HF : Hid (∃ S, LS w' L S w22) := hid ⟨_, HE21.out.ls.below hb22⟩
    clear hb22 HE21 q0 q1 q2 q3 q4
    go_wp2
    exact ⟨⟨k + 1, by go_num, by omega, HF⟩, by simp [intOf]; omega⟩
  · have dm : decide ((m : Int) < (o.rf : Int)) = false := decide_eq_false (by omega)
    obtain ⟨d, hd2⟩ : ∃ d, m - o.rf = d := ⟨_, rfl⟩
    have hdd : d < o.sz - o.rf := by omega
    have ed : (m : Int) - (o.rf : Int) = (d : Int) := by omega
    have q0 : w18.cell? ⟨q, 0, none⟩ = some (.pointer (some ⟨L.a, 0, none⟩)) := (HCE.out _ _ HE18.out).2.1.1
    have q1 : w18.cell? ⟨q, 1, none⟩ = some (.int .i64 (o.k : Int)) := (HCE.out _ _ HE18.out).2.1.2.1
    have q2 : w18.cell? ⟨q, 2, none⟩ = some (.int .u64 (o.raw : Int)) := (HCE.out _ _ HE18.out).2.1.2.2.1
    have q3 : w18.cell? ⟨q, 3, none⟩ = some (.int .i64 (o.sz : Int)) := (HCE.out _ _ HE18.out).2.1.2.2.2.1
    have q4 : w18.cell? ⟨q, 4, none⟩ = some (.int .i64 (o.rf : Int)) := (HCE.out _ _ HE18.out).2.1.2.2.2.2
    have HC := hid (obDataAddrI HE18.out.ls.am Hv.out.ok Hr.out hdd)
    obtain ⟨fm, hfm⟩ : ∃ f, 65536 + o.k + 1 + o.rf + d = f := ⟨_, rfl⟩
    rw [hfm] at HC
    have hfm2 : fm ≤ 98304 := by omega
    go_wp2_with fail
    refine HC.out.mono ?_
    rintro e w19 ⟨rfl, hb19⟩
    have HE19 := hid (HE18.out.below hb19)
    clear hb19 HC HE18 q0 q1 q2 q3 q4 h1
    have c3 : w19.cell? ⟨p, 3, none⟩ = some (.int .u64 oc) := (HCE.out _ _ HE19.out).1.2.2
    have h1 : w19.cell? ⟨h, 1, none⟩ = some (.int .i64 (o.rf : Int)) := (HCE.out _ _ HE19.out).2.2.1.2
    have q0 : w19.cell? ⟨q, 0, none⟩ = some (.pointer (some ⟨L.a, 0, none⟩)) := (HCE.out _ _ HE19.out).2.1.1
    have q1 : w19.cell? ⟨q, 1, none⟩ = some (.int .i64 (o.k : Int)) := (HCE.out _ _ HE19.out).2.1.2.1
    have q2 : w19.cell? ⟨q, 2, none⟩ = some (.int .u64 (o.raw : Int)) := (HCE.out _ _ HE19.out).2.1.2.2.1
    have q3 : w19.cell? ⟨q, 3, none⟩ = some (.int .i64 (o.sz : Int)) := (HCE.out _ _ HE19.out).2.1.2.2.2.1
    have q4 : w19.cell? ⟨q, 4, none⟩ = some (.int .i64 (o.rf : Int)) := (HCE.out _ _ HE19.out).2.1.2.2.2.2
    have HC := hid (obSetDataI HE19.out.ls.am Hv.out.ok Hr.out hdd oc HCo.out)
    go_wp2_with fail
    refine HC.out.mono ?_
    rintro e w21 ⟨rfl, HU⟩
    have HE21 := hid (HE19.out.step HU.out)
    clear HC HU HE19 q0 q1 q2 q3 q4 c3 h1
    have HC := hid (loadPut HE21.out.ls.am (show o.k + 1 + o.rf + d < 32768 by omega))
    rw [show 65536 + (o.k + 1 + o.rf + d) = fm by omega, show ((oc.toNat : Nat) : Int) = oc by have := HCo.out.1; omega] at HC
    go_wp2_with fail
    refine HC.out.mono ?_
    rintro e_ w_ ⟨rfl, hw_⟩
    have hs_ := hw_.symm
    clear hw_ HC
    subst hs_
    have c3 : w21.cell? ⟨p, 3, none⟩ = some (.int .u64 oc) := (HCE.out _ _ HE21.out).1.2.2
    have HF : Hid (∃ S, LS w' L S w21) := hid ⟨_, HE21.out.ls⟩
    clear HE21
    go_wp2
    exact ⟨⟨k + 1, by go_num, by omega, HF⟩, by simp [intOf]; omega⟩
end Go.Proofs.Qxb6500887aGreat
