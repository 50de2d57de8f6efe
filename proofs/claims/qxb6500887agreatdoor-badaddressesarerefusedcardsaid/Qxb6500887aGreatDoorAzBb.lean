/- BadAddressesAreRefused: the walk. -/
import Derived.Test.Qxb6500887aGreatDoorAzBa
import Derived.Deep.DeepCutAuto
namespace Go.Proofs.Qxb6500887aGreatDoor
open Go.RowKit
set_option linter.unusedSimpArgs false
set_option linter.unusedVariables false
/-- Arenas, own blocks and a row of words beside them. -/
structure LX (w0 : World) (zs : List (AL × AS)) (bl : List (Nat × TypeId × List Value)) (g : Nat) (xs : List Int) (w : World) : Prop where
  ln : LN w0 zs bl w
  xb : Blk w g 27 (xs.map (Value.int .u64))
  xn : ∀ x ∈ zs, g ∉ x.1.all
section
variable {w0 w w' : World} {l : AL} {S S' : AS} {zs xs ys : List (AL × AS)} {bl : List (Nat × TypeId × List Value)} {g : Nat} {vs : List Int}
theorem LX.below (h : LX w0 zs bl g vs w) (hb : Below w.heap.size w w') : LX w0 zs bl g vs w' := ⟨h.ln.below hb, h.xb.below hb, h.xn⟩
theorem LX.step (h : LX w0 (xs ++ (l, S) :: ys) bl g vs w) (hu : AU l w S' w') : LX w0 (xs ++ (l, S') :: ys) bl g vs w' := ⟨h.ln.step hu, hu.u.blk h.xb (fun hw => h.xn (l, S) (by simp) (AL.wr_all hw)), fun x hx => by
  rcases List.mem_append.1 hx with c | c
  · exact h.xn x (List.mem_append_left _ c)
  · rcases List.mem_cons.1 c with c | c
    · rw [c]; exact h.xn (l, S) (by simp)
    · exact h.xn x (List.mem_append_right _ (List.mem_cons_of_mem _ c))⟩
theorem LX.cell (h : LX w0 zs bl g vs w) {i : Nat} {v : Int} (hv : vs[i]? = some v) : w.cell? ⟨g, i, none⟩ = some (.int .u64 v) := by
  rw [h.xb.cell i, List.getElem?_map, hv]
  rfl
theorem wpList_bs6 {ops : Array Oper} {rest : List Oper} {o : Oper} {a : Act} {Q : Exit → Act → World → Prop} (hg : o.guard = none) (x0 x1 x2 x3 x4 x5 : Operand) (ho : o.op = .buildSlice 46 6 #[(0, x0), (1, x1), (2, x2), (3, x3), (4, x4), (5, x5)])
    (v0 v1 v2 v3 v4 v5 : Int) (h0 : a.eval x0 = .int .u64 v0) (h1 : a.eval x1 = .int .u64 v1) (h2 : a.eval x2 = .int .u64 v2) (h3 : a.eval x3 = .int .u64 v3) (h4 : a.eval x4 = .int .u64 v4) (h5 : a.eval x5 = .int .u64 v5)
    (h : ∀ g w', w.heap.size = g → w.alloc (.cells #[.int .u64 v0, .int .u64 v1, .int .u64 v2, .int .u64 v3, .int .u64 v4, .int .u64 v5] 27) = w' → wpList Tryz.prog ops Q rest (a.put o.dst (.slice (some ⟨g, 0, none⟩) 6 6)) w') : wpList Tryz.prog ops Q (o :: rest) a w := by
  obtain ⟨i, hi, he⟩ := Option.map_eq_some_iff.1 info_u64
  simp only [Prod.mk.injEq] at he
  obtain ⟨e1, e2, e3⟩ := he
  refine wpList_buildSlice hg 46 27 6 _ ho #[.int .u64 v0, .int .u64 v1, .int .u64 v2, .int .u64 v3, .int .u64 v4, .int .u64 v5] i (.int .u64 0) Tryz.underlying46 hi e1 (by rw [e2]; decide) (by rw [e2]; decide) ?_ (h _ _ rfl rfl)
  rw [e2]
  simp only [List.map_toArray, List.map_cons, List.map_nil, h0, h1, h2, h3, h4, h5]
  kernel_rfl
/-- refusedAs inside the law. -/
theorem refusedX {gk : Nat} {ks : List Nat} {gb go gc m : Nat} (h : LX w0 (xs ++ (l, S) :: ys) bl g vs w) (hK : KRow gk ks w0 gb go gc) (hm : ks.length = m) (hks : ks.length ≤ 100) (hk8 : ∀ k ∈ ks, k < 256) (x kd a b c want : Int) (hx : U64 x) (hb : U64 b) (hc : U64 c)
    (hbad : ∀ k ∈ ks, ∀ rs S', PlR S k x b c rs S' → rs = rsC want 0 0 ∧ S' = S) :
    Calls Tryz.prog 8 #[.pointer (some ⟨l.a, 0, none⟩), .slice (some ⟨gb, go, none⟩) m gc, .int .u64 x, .agg #[.int .u8 kd, .int .u64 a, .int .u64 b, .int .u64 c], .int .u8 want] w fun e w' => e = .returned (.bool true) ∧ Hid (LX w0 (xs ++ (l, S) :: ys) bl g vs w') := by
  subst hm
  exact (refusedAsZ h.ln hK hks hk8 x kd a b c want hx hb hc hbad).mono (by
    rintro e w1 ⟨rfl, H⟩
    exact ⟨rfl, hid ⟨H.out.1, H.out.2.blk h.xb (fun hw => h.xn (l, S) (by simp) (AL.wr_all hw)), h.xn⟩⟩)
theorem wordKs_small : ∀ k ∈ wordKs, k < 256 := by decide
theorem objKs_small : ∀ k ∈ objKs, k < 256 := by decide
theorem wantO_range {x : Int} (h : wantO x = 1) : ¬ InH x := by
  intro hi
  unfold wantO at h
  rw [if_pos hi] at h
  split at h <;> cases h
theorem rf_bad {x : Int} (h : wantO x ≠ 0) (h0 : x ≠ 0) : ¬ rfOk x := fun h1 => by
  rcases h1 with c | c
  · exact h0 c
  · exact h c
end
set_option maxRecDepth 1000000 in
set_option maxHeartbeats 8000000 in
theorem badLaw_walk (a : Option Addr) (n c : Nat) (l : List AOp) (w : World) (wb wo wc' qb qo qc : Nat) (hs : Script w a n c l) (hKw : KRow 0 wordKs w wb wo wc') (hKo : KRow 1 objKs w qb qo qc) :
    Calls Tryz.prog 3 #[.slice a n c] w fun e w' => e = .returned (.bool true) ∧ Below w.heap.size w w' := by
  have hn := hs.1.2.2.1.1
  have HS := hid hs
  have HKW := hid hKw
  have HKO := hid hKo
  clear hs hKw hKo
  by_cases hsm : n ≤ 65536
  rotate_left
  · have hd : decide (n ≤ 65536) = false := decide_eq_false hsm
    go_enter Tryz.func3, Tryz.ntmps3
    go_wp2_with (go_at_call 4; refine (small_walk a n c hn _).mono ?_; rintro e w' ⟨rfl, rfl⟩)
    go_ret
    exact ⟨rfl, Below.refl _ _⟩
  have hd : decide (n ≤ 65536) = true := decide_eq_true hsm
  go_enter Tryz.func3, Tryz.ntmps3
  go_wp2_with (go_at_call 4; refine (small_walk a n c hn _).mono ?_; rintro e w' ⟨rfl, rfl⟩)
  refine (LN.start _).arena.mono ?_
  rintro e w1 ⟨l1, rfl, H1⟩
  have HC := hid H1.out.arena
  go_wp2_with fail
  refine HC.out.mono ?_
  rintro e w2 ⟨l2, rfl, H2⟩
  clear HC H1
  have H0 : Hid (∃ S, LN w' [(l1, S), (l2, S)] [] w2) := hid ⟨S0, H2.out⟩
  clear H2
  go_wp2_with fail
  go_loopw [18] (fun u wr => ∃ (k : Nat), u = .int .i64 (k : Int) ∧ k ≤ n ∧ Hid (∃ S, LN w' [(l1, S), (l2, S)] [] wr)) (fun u _ => n - (intOf u).toNat)
  case atStart => exact ⟨0, rfl, Nat.zero_le _, H0⟩
  case round =>
  clear H0
  obtain ⟨k, rfl, hk, HK⟩ := hrel
  obtain ⟨S, hsv⟩ := HK.out
  have HV := hid hsv
  clear hsv HK
  by_cases hlt : k < n
  rotate_left
  · as_aux_lemma =>
    have hkn : k = n := by omega
    subst hkn
    have HC := hid (equalZ (HV.out.ls (l1, S) (by simp)).am (HV.out.ls (l2, S) (by simp)).am)
    have HF := hid HV.out.bel
    clear HV
    go_wp2_with fail
    refine HC.out.mono ?_
    rintro e w3 ⟨r, rfl, HE⟩
    have hr : r = true := HE.out.1.2 (Sm.refl S)
    subst hr
    go_wp2
    go_ret
    exact ⟨rfl, HF.out.trans (HE.out.2.mono HF.out.size)⟩
  obtain ⟨o, ho, hok, b, off, rfl, hb, c0, c1, c2, c3⟩ := (HS.out.below HV.out.bel).at hlt
  obtain ⟨kind, oa, ob, oc⟩ := o
  obtain ⟨k0, k1, ha, hb', hc'⟩ := hok
  dsimp only at c0 c1 c2 c3 ha hb' hc' k0 k1
  have HA := hid ha
  have HBo := hid hb'
  have HCo := hid hc'
  have HK0 := hid k0
  clear ho ha hb' hc' k0 k1
  obtain ⟨p, hp⟩ : ∃ p, wr.heap.size = p := ⟨_, rfl⟩
  have H1 : Hid (LN w' [(l1, S), (l2, S)] [(p, 29, [.int .u8 kind, .int .u64 oa, .int .u64 ob, .int .u64 oc])] (wr.alloc (.cells #[.int .u8 kind, .int .u64 oa, .int .u64 ob, .int .u64 oc] 29))) := hid (HV.out.new hp (by decide))
  go_upto_region 7 with fail
  (try simp only [hp])
  generalize hwa : World.alloc wr _ = wa at H1 ⊢
  clear hwa c0 c1 c2 c3 hp HV hb
  have HOP : Hid (∀ (wz : World) zs, LN w' zs [(p, 29, [.int .u8 kind, .int .u64 oa, .int .u64 ob, .int .u64 oc])] wz → wz.cell? ⟨p, 0, none⟩ = some (.int .u8 kind) ∧ wz.cell? ⟨p, 1, none⟩ = some (.int .u64 oa) ∧ wz.cell? ⟨p, 2, none⟩ = some (.int .u64 ob) ∧ wz.cell? ⟨p, 3, none⟩ = some (.int .u64 oc)) := hid (fun wz zs hz => ⟨(hz.bk _ (List.mem_singleton.2 rfl)).cell 0, (hz.bk _ (List.mem_singleton.2 rfl)).cell 1, (hz.bk _ (List.mem_singleton.2 rfl)).cell 2, (hz.bk _ (List.mem_singleton.2 rfl)).cell 3⟩)
  obtain ⟨c0, c1, c2, c3⟩ := HOP.out _ _ H1.out
  have HC := hid ((H1.out.ls (l1, S) (by simp)).play kind oa ob oc HK0.out HA.out HBo.out HCo.out)
  go_wp2_with fail
  refine HC.out.mono ?_
  rintro e w2 ⟨rs, S1, rfl, HR⟩
  have H2 : Hid (LN w' [(l1, S1), (l2, S)] [(p, 29, [.int .u8 kind, .int .u64 oa, .int .u64 ob, .int .u64 oc])] w2) := hid (H1.out.step (xs := []) HR.out.2.1)
  have HPl := hid HR.out.2.2
  clear HC HR H1 c0 c1 c2 c3
  obtain ⟨c0, c1, c2, c3⟩ := HOP.out _ _ H2.out
  have HC := hid ((H2.out.ls (l2, S) (by simp)).play kind oa ob oc HK0.out HA.out HBo.out HCo.out)
  go_wp2_with fail
  refine HC.out.mono ?_
  rintro e w3 ⟨rs2, S2, rfl, HR⟩
  have hS12 : S1 = S2 := HPl.out.det HR.out.2.2
  subst hS12
  have H3 : Hid (LN w' [(l1, S1), (l2, S1)] [(p, 29, [.int .u8 kind, .int .u64 oa, .int .u64 ob, .int .u64 oc])] w3) := hid (H2.out.step (xs := [_]) HR.out.2.1)
  clear HC HR H2 HPl c0 c1 c2 c3
  obtain ⟨c0, c1, c2, c3⟩ := HOP.out _ _ H3.out
  go_wp2_with (refine wpList_bs6 rfl _ _ _ _ _ _ rfl _ _ _ _ _ _ rfl rfl rfl rfl rfl rfl ?_; intro xg w4 hxg hw4)
  obtain ⟨vs, hvs⟩ : ∃ vs : List Int, [oa, ob, oc, IntKind.u64.wrap (oa + 1), IntKind.u64.wrap (oa + 32768), IntKind.u64.wrap (oa - 32768)] = vs := ⟨_, rfl⟩
  have H4 : Hid (LX w' [(l1, S1), (l2, S1)] [(p, 29, [.int .u8 kind, .int .u64 oa, .int .u64 ob, .int .u64 oc])] xg vs w4) := hid (by
    have kk := Blk.new w3 (vs.map (Value.int .u64)) 27
    have hb : Below w3.heap.size w3 w4 := by rw [← hw4]; exact nbel _ _
    rw [← hvs] at kk ⊢
    refine ⟨H3.out.below hb, ?_, fun x hx hg => ?_⟩
    · rw [← hw4, ← hxg]; exact kk
    · have := (H3.out.ls x hx).am.lts _ hg
      omega)
  have HVU : Hid (vs.length = 6 ∧ ∀ v ∈ vs, U64 v) := hid (by
    rw [← hvs]
    refine ⟨rfl, fun v hv => ?_⟩
    have h1 := HA.out
    have h2 := HBo.out
    have h3 := HCo.out
    simp only [List.mem_cons, List.not_mem_nil, or_false] at hv
    rcases hv with rfl | rfl | rfl | rfl | rfl | rfl
    · exact h1
    · exact h2
    · exact h3
    · rw [IntKind.wrap_u64]; unfold U64; omega
    · rw [IntKind.wrap_u64]; unfold U64; omega
    · rw [IntKind.wrap_u64]; unfold U64; omega)
  clear hvs hw4 hxg H3 c0 c1 c2 c3
  go_loopw [45] (fun u wr => ∃ (i : Nat), u = .int .i64 (i : Int) ∧ i ≤ 6 ∧ Hid (LX w' [(l1, S1), (l2, S1)] [(p, 29, [.int .u8 kind, .int .u64 oa, .int .u64 ob, .int .u64 oc])] xg vs wr)) (fun u _ => 6 - (intOf u).toNat)
  case atStart => exact ⟨0, rfl, Nat.zero_le _, H4⟩
  case round =>
  clear H4
  obtain ⟨i, rfl, hi, H5⟩ := hrel
  obtain ⟨w5, hw5⟩ : ∃ x, x = wr := ⟨_, rfl⟩
  subst hw5
  by_cases hi6 : i < 6
  rotate_left
  · have di : decide ((i : Int) < 6) = false := decide_eq_false (by omega)
    have din : decide (i < 6) = false := decide_eq_false hi6
    obtain ⟨vv, hvv⟩ : ∃ v, ((S1.v : Nat) : Int) = v := ⟨_, rfl⟩
    have HC1 := hid (versionZ (H5.out.ln.ls (l1, S1) (by simp)).am)
    have HC2 := hid (versionZ (H5.out.ln.ls (l2, S1) (by simp)).am)
    rw [hvv] at HC1 HC2
    clear hvv
    go_wp2_with fail
    refine HC1.out.mono ?_
    rintro e_ w_ ⟨rfl, hw_⟩
    have hs_ := hw_.symm
    clear hw_ HC1
    subst hs_
    go_wp2_with fail
    refine HC2.out.mono ?_
    rintro e_ w_ ⟨rfl, hw_⟩
    have hs_ := hw_.symm
    clear hw_ HC2
    subst hs_
    have HF : Hid (∃ S, LN w' [(l1, S), (l2, S)] [] w5) := hid ⟨S1, H5.out.ln.drop (fun x hx => by cases hx)⟩
    clear H5 HVU HOP
    go_wp2
    exact ⟨⟨k + 1, by go_num, by omega, HF⟩, by simp [intOf]; omega⟩
  have di : decide ((i : Int) < 6) = true := decide_eq_true (by omega)
  have din : decide (i < 6) = true := decide_eq_true hi6
  obtain ⟨x, hx⟩ : ∃ x, vs[i]? = some x := ⟨_, List.getElem?_eq_getElem (by rw [HVU.out.1]; exact hi6)⟩
  have Hx := hid (HVU.out.2 x (List.mem_of_getElem? hx))
  have cx := H5.out.cell hx
  clear hx
  have ii6 : (i : Int) < 6 := by omega
  have HWo := hid (fun wz => wantObject_walk x wz)
  obtain ⟨wo', hwo⟩ : ∃ v, wantO x = v := ⟨_, rfl⟩
  rw [hwo] at HWo
  go_upto_region 13 with (go_at_call 7; refine (HWo.out _).mono ?_; rintro e_ w_ ⟨rfl, hw_⟩; have hs_ := hw_.symm; clear hw_; subst hs_)
  clear HWo cx
  rcases wantO_cases x with hw0 | hw1 | hw2
  · as_aux_lemma =>
    have e0 : wo' = 0 := by rw [← hwo]; exact hw0
    subst e0
    clear hwo hw0
    go_wp2
    exact ⟨⟨i + 1, by go_num, by omega, H5⟩, by simp [intOf]; omega⟩
  · as_aux_lemma =>
    have e0 : wo' = 1 := by rw [← hwo]; exact hw1
    subst e0
    clear hwo
    have hwx : wantO x ≠ 0 := by rw [hw1]; decide
    obtain ⟨c0, c1, c2, c3⟩ := HOP.out _ _ H5.out.ln
    have g0 : w5.cell? ⟨0, 0, none⟩ = some (.slice (some ⟨wb, wo, none⟩) 12 wc') := (HKW.out.below H5.out.ln.bel).var
    have HC := hid (refusedX (xs := []) (l := l1) (S := S1) (ys := [(l2, S1)]) H5.out HKW.out (m := 12) rfl (by decide) wordKs_small x kind oa ob oc 1 Hx.out HBo.out HCo.out (bad_word (wantO_range hw1)))
    go_wp2_with fail
    refine HC.out.mono ?_
    rintro e w6 ⟨rfl, HXX⟩
    have H6 : Hid (LX w' [(l1, S1), (l2, S1)] [(p, 29, [.int .u8 kind, .int .u64 oa, .int .u64 ob, .int .u64 oc])] xg vs w6) := hid HXX.out
    clear HC HXX H5 c0 c1 c2 c3 g0
    obtain ⟨c0, c1, c2, c3⟩ := HOP.out _ _ H6.out.ln
    have g0 : w6.cell? ⟨1, 0, none⟩ = some (.slice (some ⟨qb, qo, none⟩) 20 qc) := (HKO.out.below H6.out.ln.bel).var
    have HC := hid (refusedX (xs := []) (l := l1) (S := S1) (ys := [(l2, S1)]) H6.out HKO.out (m := 20) rfl (by decide) objKs_small x kind oa ob oc 1 Hx.out HBo.out HCo.out (by have := bad_obj (S := S1) (b := ob) (c := oc) hwx; rwa [hw1] at this))
    go_wp2_with fail
    refine HC.out.mono ?_
    rintro e w7 ⟨rfl, HXX⟩
    have HW : Hid (LX w' [(l1, S1), (l2, S1)] [(p, 29, [.int .u8 kind, .int .u64 oa, .int .u64 ob, .int .u64 oc])] xg vs w7) := hid HXX.out
    clear HC HXX H6 c0 c1 c2 c3 g0
    by_cases hx0 : x = 0
    · as_aux_lemma =>
      have dx : (x == 0) = true := by simp [hx0]
      clear hx0
      go_wp2
      exact ⟨⟨i + 1, by go_num, by omega, HW⟩, by simp [intOf]; omega⟩
    have dx : (x == 0) = false := by simp [hx0]
    have hrf := rf_bad hwx hx0
    have HC := hid (fun wz => checkRefZ x wz)
    rw [if_neg hrf, if_neg hrf] at HC
    go_wp2_with fail
    refine (HC.out _).mono ?_
    rintro e_ w_ ⟨rfl, hw_⟩
    have hs_ := hw_.symm
    clear hw_ HC
    subst hs_
    have HC := hid (setRefAtZ (HW.out.ln.ls (l1, S1) (by simp)).am 65536 x Hx.out)
    have hsr : setRefAtA S1 65536 x = (9, S1) := by
      unfold setRefAtA
      rw [if_pos (by unfold InH; omega), if_neg hrf]
    rw [hsr] at HC
    clear hsr hrf
    go_wp2_with fail
    refine HC.out.mono ?_
    rintro e w9 ⟨rfl, HU⟩
    have H9 : Hid (LX w' [(l1, S1), (l2, S1)] [(p, 29, [.int .u8 kind, .int .u64 oa, .int .u64 ob, .int .u64 oc])] xg vs w9) := hid (HW.out.step (xs := []) HU.out)
    clear HC HU HW
    go_wp2
    exact ⟨⟨i + 1, by go_num, by omega, H9⟩, by simp [intOf]; omega⟩
  · as_aux_lemma =>
    have e0 : wo' = 2 := by rw [← hwo]; exact hw2
    subst e0
    clear hwo
    have hwx : wantO x ≠ 0 := by rw [hw2]; decide
    obtain ⟨c0, c1, c2, c3⟩ := HOP.out _ _ H5.out.ln
    have g0 : w5.cell? ⟨1, 0, none⟩ = some (.slice (some ⟨qb, qo, none⟩) 20 qc) := (HKO.out.below H5.out.ln.bel).var
    have HC := hid (refusedX (xs := []) (l := l1) (S := S1) (ys := [(l2, S1)]) H5.out HKO.out (m := 20) rfl (by decide) objKs_small x kind oa ob oc 2 Hx.out HBo.out HCo.out (by have := bad_obj (S := S1) (b := ob) (c := oc) hwx; rwa [hw2] at this))
    go_wp2_with fail
    refine HC.out.mono ?_
    rintro e w7 ⟨rfl, HXX⟩
    have HW : Hid (LX w' [(l1, S1), (l2, S1)] [(p, 29, [.int .u8 kind, .int .u64 oa, .int .u64 ob, .int .u64 oc])] xg vs w7) := hid HXX.out
    clear HC HXX H5 c0 c1 c2 c3 g0
    by_cases hx0 : x = 0
    · as_aux_lemma =>
      have dx : (x == 0) = true := by simp [hx0]
      clear hx0
      go_wp2
      exact ⟨⟨i + 1, by go_num, by omega, HW⟩, by simp [intOf]; omega⟩
    have dx : (x == 0) = false := by simp [hx0]
    have hrf := rf_bad hwx hx0
    have HC := hid (fun wz => checkRefZ x wz)
    rw [if_neg hrf, if_neg hrf] at HC
    go_wp2_with fail
    refine (HC.out _).mono ?_
    rintro e_ w_ ⟨rfl, hw_⟩
    have hs_ := hw_.symm
    clear hw_ HC
    subst hs_
    have HC := hid (setRefAtZ (HW.out.ln.ls (l1, S1) (by simp)).am 65536 x Hx.out)
    have hsr : setRefAtA S1 65536 x = (9, S1) := by
      unfold setRefAtA
      rw [if_pos (by unfold InH; omega), if_neg hrf]
    rw [hsr] at HC
    clear hsr hrf
    go_wp2_with fail
    refine HC.out.mono ?_
    rintro e w9 ⟨rfl, HU⟩
    have H9 : Hid (LX w' [(l1, S1), (l2, S1)] [(p, 29, [.int .u8 kind, .int .u64 oa, .int .u64 ob, .int .u64 oc])] xg vs w9) := hid (HW.out.step (xs := []) HU.out)
    clear HC HU HW
    go_wp2
    exact ⟨⟨i + 1, by go_num, by omega, H9⟩, by simp [intOf]; omega⟩
end Go.Proofs.Qxb6500887aGreatDoor
