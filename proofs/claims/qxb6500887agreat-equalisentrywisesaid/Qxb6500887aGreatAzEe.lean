/- EqualIsEntrywise: the walk. -/
import Derived.Test.Qxb6500887aGreatAzEd
import Derived.Deep.DeepCutAuto
namespace Go.Proofs.Qxb6500887aGreat
open Go.RowKit
set_option linter.unusedSimpArgs false
set_option linter.unusedVariables false
/-- The arenas of the law behind k steps: the second lacks one, the third the last. -/
structure EqI (w0 : World) (l1 l2 l3 : AL) (ops : List AOp) (n k : Nat) (w : World) : Prop where
  ex : ∃ Sa Sb Sc, LN w0 [(l1, Sa), (l2, Sb), (l3, Sc)] [] w ∧ (k < n → Sa = Sc) ∧ (k = n → ∃ o rs, ops[n - 1]? = some o ∧ PlR Sc o.kind.toNat o.a o.b o.c rs Sa)
set_option maxRecDepth 1000000 in
set_option maxHeartbeats 8000000 in
theorem equalLaw_walk (a : Option Addr) (n c : Nat) (l : List AOp) (w : World) (hs : Script w a n c l) :
    Calls Tryz.prog 7 #[.slice a n c] w fun e w' => e = .returned (.bool true) ∧ Below w.heap.size w w' := by
  have hn := hs.1.2.2.1.1
  have HS := hid hs
  clear hs
  by_cases hsm : n ≤ 65536
  rotate_left
  · have hd : decide (n ≤ 65536) = false := decide_eq_false hsm
    go_enter Tryz.func7, Tryz.ntmps7
    go_wp2_with (go_at_call 10; refine (small_walk a n c hn _).mono ?_; rintro e w' ⟨rfl, rfl⟩)
    go_ret
    exact ⟨rfl, Below.refl _ _⟩
  have hd : decide (n ≤ 65536) = true := decide_eq_true hsm
  by_cases hn0 : n = 0
  · have hz : ((n : Int) == 0) = true := by simp [hn0]
    clear hn0
    go_enter Tryz.func7, Tryz.ntmps7
    go_wp2_with (go_at_call 10; refine (small_walk a n c hn _).mono ?_; rintro e w' ⟨rfl, rfl⟩)
    refine (LN.start _).arena.mono ?_
    rintro e w1 ⟨l1, rfl, H1⟩
    have HC := hid H1.out.arena
    go_wp2_with fail
    refine HC.out.mono ?_
    rintro e w2 ⟨l2, rfl, H2⟩
    clear HC H1
    have HC := hid (equalZ (H2.out.ls (l1, S0) (by simp)).am (H2.out.ls (l2, S0) (by simp)).am)
    go_wp2_with fail
    refine HC.out.mono ?_
    rintro e w3 ⟨r, rfl, HE⟩
    have hr : r = true := HE.out.1.2 (Sm.refl S0)
    subst hr
    have HF := hid (H2.out.below HE.out.2).bel
    clear HC HE H2
    go_wp2
    go_ret
    exact ⟨rfl, HF.out⟩
  have hz : ((n : Int) == 0) = false := by simp [hn0]
  have hn1 : 1 ≤ n := by omega
  obtain ⟨o, ho, hok, b, off, rfl, hb, c0, c1, c2, c3⟩ := HS.out.at (show 0 < n by omega)
  obtain ⟨kind, oa, ob, oc⟩ := o
  obtain ⟨k0, k1, ha, hb', hc'⟩ := hok
  dsimp only at c0 c1 c2 c3 ha hb' hc' k0 k1
  obtain ⟨sk, hsk, hskn⟩ : ∃ x : Nat, wrap64 (ob.tmod (n : Int)) = (x : Int) ∧ x < n := by
    have h0 := hb'.1
    refine ⟨ob.toNat % n, ?_, Nat.mod_lt _ (by omega)⟩
    have e : ob.tmod (n : Int) = ((ob.toNat % n : Nat) : Int) := by
      conv => lhs; rw [show ob = (ob.toNat : Int) by omega]
      rfl
    rw [e]
    have := Nat.mod_lt ob.toNat (show 0 < n by omega)
    exact IntWalk.wrap64_in _ ⟨by omega, by omega⟩
  rw [show off + 0 * 4 + 2 = off + 2 by omega] at c2
  clear ho ha hb' hc' k0 k1 c0 c1 c3 hn0
  go_enter Tryz.func7, Tryz.ntmps7
  have Hsk := hid hsk
  clear hsk
  go_upto_region 6 with (go_at_call 10; refine (small_walk _ n c hn _).mono ?_; rintro e w' ⟨rfl, rfl⟩)
  simp only [Hsk.out]
  clear Hsk c2
  generalize ob.tmod (n : Int) = obm
  go_wp2_with fail
  refine (LN.start _).arena.mono ?_
  rintro e w1 ⟨l1, rfl, H1⟩
  have HC := hid H1.out.arena
  go_wp2_with fail
  refine HC.out.mono ?_
  rintro e w2 ⟨l2, rfl, H2⟩
  clear HC H1
  have HC := hid H2.out.arena
  go_wp2_with fail
  refine HC.out.mono ?_
  rintro e w3 ⟨l3, rfl, H3⟩
  clear HC H2
  have H0 : Hid (EqI w' l1 l2 l3 l n 0 w3) := hid ⟨S0, S0, S0, H3.out, fun _ => rfl, fun h => by omega⟩
  clear H3
  go_wp2_with fail
  go_loopw [38] (fun u wr => ∃ (k : Nat), u = .int .i64 (k : Int) ∧ k ≤ n ∧ Hid (EqI w' l1 l2 l3 l n k wr)) (fun u _ => n - (intOf u).toNat)
  case atStart => exact ⟨0, rfl, Nat.zero_le _, H0⟩
  case round =>
  clear H0
  obtain ⟨k, rfl, hk, HK⟩ := hrel
  obtain ⟨Sa, Sb, Sc, hln, he1, he2⟩ := HK.out.ex
  have HV := hid hln
  have HE1 := hid he1
  have HE2 := hid he2
  clear hln he1 he2 HK
  by_cases hlt : k < n
  · have hac := HE1.out hlt
    subst hac
    clear HE1 HE2
    obtain ⟨o, ho, hok, b', off', hab, hb2, c0, c1, c2, c3⟩ := (HS.out.below HV.out.bel).at hlt
    injection hab with hab
    injection hab with e1 e2
    subst e1 e2
    obtain ⟨kind, oa, ob, oc⟩ := o
    obtain ⟨k0, k1, ha, hb', hc'⟩ := hok
    dsimp only at c0 c1 c2 c3 ha hb' hc' k0 k1
    have HA := hid ha
    have HBo := hid hb'
    have HCo := hid hc'
    have HK0 := hid k0
    have Hho := hid ho
    clear ho ha hb' hc' k0 k1
    obtain ⟨p, hp⟩ : ∃ p, wr.heap.size = p := ⟨_, rfl⟩
    have H1 : Hid (LN w' [(l1, Sa), (l2, Sb), (l3, Sa)] [(p, 31, [.int .u8 kind, .int .u64 oa, .int .u64 ob, .int .u64 oc])] (wr.alloc (.cells #[.int .u8 kind, .int .u64 oa, .int .u64 ob, .int .u64 oc] 31))) := hid (HV.out.new hp (by decide))
    go_upto_region 10 with fail
    (try simp only [hp])
    generalize hwa : World.alloc wr _ = wa at H1 ⊢
    clear hwa c0 c1 c2 c3 hp HV hb2
    have HOP : Hid (∀ (wz : World) zs, LN w' zs [(p, 31, [.int .u8 kind, .int .u64 oa, .int .u64 ob, .int .u64 oc])] wz → wz.cell? ⟨p, 0, none⟩ = some (.int .u8 kind) ∧ wz.cell? ⟨p, 1, none⟩ = some (.int .u64 oa) ∧ wz.cell? ⟨p, 2, none⟩ = some (.int .u64 ob) ∧ wz.cell? ⟨p, 3, none⟩ = some (.int .u64 oc)) := hid (fun wz zs hz => ⟨(hz.bk _ (List.mem_singleton.2 rfl)).cell 0, (hz.bk _ (List.mem_singleton.2 rfl)).cell 1, (hz.bk _ (List.mem_singleton.2 rfl)).cell 2, (hz.bk _ (List.mem_singleton.2 rfl)).cell 3⟩)
    obtain ⟨c0, c1, c2, c3⟩ := HOP.out _ _ H1.out
    have HC := hid ((H1.out.ls (l1, Sa) (by simp)).play kind oa ob oc HK0.out HA.out HBo.out HCo.out)
    go_wp2_with fail
    refine HC.out.mono ?_
    rintro e w4 ⟨rs, S1, rfl, HR⟩
    have H2 : Hid (LN w' [(l1, S1), (l2, Sb), (l3, Sa)] [(p, 31, [.int .u8 kind, .int .u64 oa, .int .u64 ob, .int .u64 oc])] w4) := hid (H1.out.step (xs := []) HR.out.2.1)
    have HPl := hid HR.out.2.2
    clear HC HR H1 c0 c1 c2 c3
    obtain ⟨bs, hbs⟩ : ∃ b, ((k : Int) != (sk : Int)) = b := ⟨_, rfl⟩
    go_upto_if 48 with fail
    go_cut [] from 49 to 51 (fun wd => Hid (∃ Sb', LN w' [(l1, S1), (l2, Sb'), (l3, Sa)] [(p, 31, [.int .u8 kind, .int .u64 oa, .int .u64 ob, .int .u64 oc])] wd))
    case first =>
      cases bs with
      | true =>
        obtain ⟨c0, c1, c2, c3⟩ := HOP.out _ _ H2.out
        have HC := hid ((H2.out.ls (l2, Sb) (by simp)).play kind oa ob oc HK0.out HA.out HBo.out HCo.out)
        go_wp2_with fail
        refine HC.out.mono ?_
        rintro e w5 ⟨rs2, S2, rfl, HR⟩
        have HF : Hid (∃ Sb', LN w' [(l1, S1), (l2, Sb'), (l3, Sa)] [(p, 31, [.int .u8 kind, .int .u64 oa, .int .u64 ob, .int .u64 oc])] w5) := hid ⟨S2, H2.out.step (xs := [_]) HR.out.2.1⟩
        clear HC HR H2 c0 c1 c2 c3
        go_wp2
        go_meet
        case rel => exact HF
      | false =>
        have HF : Hid (∃ Sb', LN w' [(l1, S1), (l2, Sb'), (l3, Sa)] [(p, 31, [.int .u8 kind, .int .u64 oa, .int .u64 ob, .int .u64 oc])] w4) := hid ⟨Sb, H2.out⟩
        clear H2
        go_wp2
        go_meet
        case rel => exact HF
    case rest =>
    obtain ⟨Sb', hsb⟩ := hcut.out
    have H3 := hid hsb
    clear hcut hsb H2
    by_cases hkl : k = n - 1
    · as_aux_lemma =>
      have en : (n : Int) - 1 = ((n - 1 : Nat) : Int) := by omega
      have hne : ((k : Int) != ((n - 1 : Nat) : Int)) = false := by simp; omega
      have hne' : ((k : Int) != (n : Int) - 1) = false := by rw [en]; exact hne
      have HF : Hid (EqI w' l1 l2 l3 l n (k + 1) wc) := hid ⟨S1, Sb', Sa, H3.out.drop (fun x hx => by cases hx), fun h => by omega, fun _ => ⟨⟨kind, oa, ob, oc⟩, rs, by rw [← hkl]; exact Hho.out, HPl.out⟩⟩
      clear H3 HPl Hho HOP en hkl
      go_wp2
      exact ⟨⟨k + 1, by go_num, by omega, HF⟩, by simp [intOf]; omega⟩
    · have en : (n : Int) - 1 = ((n - 1 : Nat) : Int) := by omega
      have hne : ((k : Int) != ((n - 1 : Nat) : Int)) = true := by simp; omega
      have hne' : ((k : Int) != (n : Int) - 1) = true := by rw [en]; exact hne
      clear en
      obtain ⟨c0, c1, c2, c3⟩ := HOP.out _ _ H3.out
      have HC := hid ((H3.out.ls (l3, Sa) (by simp)).play kind oa ob oc HK0.out HA.out HBo.out HCo.out)
      go_wp2_with fail
      refine HC.out.mono ?_
      rintro e w5 ⟨rs2, S2, rfl, HR⟩
      have hS12 : S1 = S2 := HPl.out.det HR.out.2.2
      subst hS12
      have HF : Hid (EqI w' l1 l2 l3 l n (k + 1) w5) := hid ⟨S1, Sb', S1, (H3.out.step (xs := [_, _]) HR.out.2.1).drop (fun x hx => by cases hx), fun _ => rfl, fun h => by omega⟩
      clear HC HR H3 c0 c1 c2 c3 HPl Hho HOP
      go_wp2
      exact ⟨⟨k + 1, by go_num, by omega, HF⟩, by simp [intOf]; omega⟩
  have hkn : k = n := by omega
  obtain ⟨o, rs, hol, hpl⟩ := HE2.out hkn
  have Hol := hid hol
  have HPl := hid hpl
  clear HE1 HE2 hol hpl
  subst hkn
  clear hlt hk
  -- the two judgements
  have HC := hid (judgedZ (HV.out.ls (l1, Sa) (by simp)).am (HV.out.ls (l2, Sb) (by simp)).am)
  go_wp2_with fail
  refine HC.out.mono ?_
  rintro e w4 ⟨rfl, hb4⟩
  have H4 := hid (HV.out.below hb4)
  clear HC hb4 HV
  have HC := hid (judgedZ (H4.out.ls (l1, Sa) (by simp)).am (H4.out.ls (l3, Sc) (by simp)).am)
  go_wp2_with fail
  refine HC.out.mono ?_
  rintro e w5 ⟨rfl, hb5⟩
  have H5 := hid (H4.out.below hb5)
  clear HC hb5 H4
  -- the first difference, the clone
  have HC := hid (fdZ (H5.out.ls (l1, Sa) (by simp)).am (H5.out.ls (l3, Sc) (by simp)).am)
  go_wp2_with fail
  refine HC.out.mono ?_
  rintro e w6 ⟨fp, fi, rfl, HF⟩
  have H6 := hid (H5.out.below HF.out.2)
  have HFd := hid HF.out.1
  clear HC HF H5
  have HC := hid (H6.out.clone (l := l3) (S := Sc) (by simp))
  go_wp2_with fail
  refine HC.out.mono ?_
  rintro e w7 ⟨l4, rfl, HN⟩
  have H7 : Hid (LN w' [(l1, Sa), (l2, Sb), (l3, Sc), (l4, Sc)] [] w7) := hid HN.out
  clear HC HN H6
  have HC := hid (equalZ (H7.out.ls (l4, Sc) (by simp)).am (H7.out.ls (l3, Sc) (by simp)).am)
  go_wp2_with fail
  refine HC.out.mono ?_
  rintro e w8 ⟨r, rfl, HE⟩
  have hr : r = true := HE.out.1.2 (Sm.refl Sc)
  subst hr
  have H8 := hid (H7.out.below HE.out.2)
  clear HC HE H7
  obtain ⟨vc, hvc⟩ : ∃ v, ((Sc.v : Nat) : Int) = v := ⟨_, rfl⟩
  have HC := hid (versionZ (H8.out.ls (l4, Sc) (by simp)).am)
  have HC2 := hid (versionZ (H8.out.ls (l3, Sc) (by simp)).am)
  rw [hvc] at HC HC2
  clear hvc
  go_wp2_with fail
  refine HC.out.mono ?_
  rintro e_ w_ ⟨rfl, hw_⟩
  have hs_ := hw_.symm
  clear hw_ HC
  subst hs_
  go_wp2_with fail
  refine HC2.out.mono ?_
  rintro e_ w_ ⟨rfl, hw_⟩
  have hs_ := hw_.symm
  clear hw_ HC2
  subst hs_
  -- the clone plays the last step
  obtain ⟨kl, hkl⟩ : ∃ x, k - 1 = x := ⟨_, rfl⟩
  have ekl : (k : Int) - 1 = (kl : Int) := by omega
  obtain ⟨o', ho', hok, b', off', hab, hb2, c0, c1, c2, c3⟩ := (HS.out.below H8.out.bel).at (show kl < k by omega)
  injection hab with hab
  injection hab with e1 e2
  subst e1 e2
  have hoo : o' = o := by
    have := Hol.out
    rw [hkl, ho'] at this
    injection this
  subst hoo
  obtain ⟨kind, oa, ob1, oc⟩ := o'
  obtain ⟨k0, k1, ha, hb', hc'⟩ := hok
  dsimp only at c0 c1 c2 c3 ha hb' hc' k0 k1 HPl
  have HC := hid ((H8.out.ls (l4, Sc) (by simp)).play kind oa ob1 oc k0 ha hb' hc')
  clear ho' ha hb' hc' k0 k1 hb2
  have hkl2 : kl < k := by omega
  have hkl3 : (kl : Int) < (k : Int) := by omega
  clear hkl Hol
  go_wp2_with fail
  refine HC.out.mono ?_
  rintro e w9 ⟨rs2, S2, rfl, HR⟩
  have hS : Sa = S2 := HPl.out.det HR.out.2.2
  subst hS
  have H9 : Hid (LN w' [(l1, Sa), (l2, Sb), (l3, Sc), (l4, Sa)] [] w9) := hid (H8.out.step (xs := [_, _, _]) HR.out.2.1)
  clear HC HR H8 c0 c1 c2 c3 HPl ekl
  have HC := hid (equalZ (H9.out.ls (l4, Sa) (by simp)).am (H9.out.ls (l1, Sa) (by simp)).am)
  go_wp2_with fail
  refine HC.out.mono ?_
  rintro e w10 ⟨r, rfl, HE⟩
  have hr : r = true := HE.out.1.2 (Sm.refl Sa)
  subst hr
  have H10 := hid (H9.out.below HE.out.2)
  clear HC HE H9
  have HC := hid (fdZ (H10.out.ls (l1, Sa) (by simp)).am (H10.out.ls (l3, Sc) (by simp)).am)
  go_wp2_with fail
  refine HC.out.mono ?_
  rintro e w11 ⟨fp', fi', rfl, HF⟩
  have H11 := hid (H10.out.below HF.out.2)
  obtain ⟨hp, hi⟩ := HFd.out.uniq HF.out.1
  subst hp hi
  clear HC HF H10 HFd
  -- CopyFrom
  have HC := hid (versionZ (H11.out.ls (l2, Sb) (by simp)).am)
  have hvb := (H11.out.ls (l2, Sb) (by simp)).am.vl
  have HE : Hid (IntKind.u64.wrap ((Sb.v : Int) + 1) = (((Sb.v + 1) % 18446744073709551616 : Nat) : Int)) := hid (by rw [IntKind.wrap_u64]; omega)
  go_wp2_with fail
  refine HC.out.mono ?_
  rintro e_ w_ ⟨rfl, hw_⟩
  have hs_ := hw_.symm
  clear hw_ HC
  subst hs_
  have hdj : ∀ g ∈ l1.all, g ∉ l2.all := (List.pairwise_cons.1 H11.out.dj).1 (l2, Sb) (by simp)
  have HC := hid (arCopyFromZ (H11.out.ls (l2, Sb) (by simp)).am (H11.out.ls (l1, Sa) (by simp)).am hdj)
  clear hdj
  go_wp2_with fail
  refine HC.out.mono ?_
  rintro e w12 ⟨rfl, HU⟩
  have H12 : Hid (LN w' [(l1, Sa), (l2, cpS Sb Sa), (l3, Sc), (l4, Sa)] [] w12) := hid (H11.out.step (xs := [_]) HU.out)
  clear HC HU H11
  have HC := hid (equalZ (H12.out.ls (l2, cpS Sb Sa) (by simp)).am (H12.out.ls (l1, Sa) (by simp)).am)
  go_wp2_with fail
  refine HC.out.mono ?_
  rintro e w13 ⟨r, rfl, HE2⟩
  have hr : r = true := HE2.out.1.2 (Sm.cp Sb Sa)
  subst hr
  have H13 := hid (H12.out.below HE2.out.2)
  clear HC HE2 H12
  have HC := hid (versionZ (H13.out.ls (l2, cpS Sb Sa) (by simp)).am)
  rw [show (((cpS Sb Sa).v : Nat) : Int) = IntKind.u64.wrap ((Sb.v : Int) + 1) from HE.out.symm] at HC
  clear HE
  go_wp2_with fail
  refine HC.out.mono ?_
  rintro e_ w_ ⟨rfl, hw_⟩
  have hs_ := hw_.symm
  clear hw_ HC
  subst hs_
  -- Reset
  have HC := hid (resetZ (H13.out.ls (l1, Sa) (by simp)).am)
  go_wp2_with fail
  refine HC.out.mono ?_
  rintro e w14 ⟨rfl, HU⟩
  have H14 : Hid (LN w' [(l1, resetA Sa), (l2, cpS Sb Sa), (l3, Sc), (l4, Sa)] [] w14) := hid (H13.out.step (xs := []) HU.out)
  clear HC HU H13
  have HC := hid H14.out.arena
  go_wp2_with fail
  refine HC.out.mono ?_
  rintro e w15 ⟨l5, rfl, HN⟩
  have H15 : Hid (LN w' [(l1, resetA Sa), (l2, cpS Sb Sa), (l3, Sc), (l4, Sa), (l5, S0)] [] w15) := hid HN.out
  clear HC HN H14
  have HC := hid (equalZ (H15.out.ls (l1, resetA Sa) (by simp)).am (H15.out.ls (l5, S0) (by simp)).am)
  go_wp2_with fail
  refine HC.out.mono ?_
  rintro e w16 ⟨r, rfl, HE2⟩
  have hr : r = true := HE2.out.1.2 (Sm.reset Sa)
  subst hr
  have H16 := hid (H15.out.below HE2.out.2)
  clear HC HE2 H15
  have HC := hid (equalZ (H16.out.ls (l2, cpS Sb Sa) (by simp)).am (H16.out.ls (l4, Sa) (by simp)).am)
  go_wp2_with fail
  refine HC.out.mono ?_
  rintro e w17 ⟨r, rfl, HE2⟩
  have hr : r = true := HE2.out.1.2 (Sm.cp Sb Sa)
  subst hr
  have HF := hid (H16.out.below HE2.out.2).bel
  clear HC HE2 H16
  go_wp2
  go_ret
  exact ⟨rfl, HF.out⟩
end Go.Proofs.Qxb6500887aGreat
