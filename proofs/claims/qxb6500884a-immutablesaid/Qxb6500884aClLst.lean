/- LeastMember: the law. -/
import Derived.Test.Qxb6500884aClMR
import Derived.Test.Qxb6500884aClLstP
namespace Go.Proofs.Qxb6500884a
open Go.RowKit
set_option linter.unusedSimpArgs false
set_option linter.unusedVariables false

/-- The machine and the registers that a step has pushed. -/
structure LP (w0 : World) (mb : Nat) (a : Option Addr) (S : List (Nat × List (Int × Int))) (pa : Option Addr) (pn pc : Nat) (ps : List (Nat × List (Int × Int))) (w : World) : Prop where
  mw : MW w0 mb a S w
  fl : Fl w 38 pa pn pc (ps.map ptV)
  reg : ∀ p ∈ ps, RegOk w p.1 p.2
  fr : ∀ p ∈ ps, w0.heap.size ≤ p.1
theorem LP.below {w0 w w' : World} {mb : Nat} {a : Option Addr} {S : List (Nat × List (Int × Int))} {pa : Option Addr} {pn pc : Nat} {ps : List (Nat × List (Int × Int))} (h : LP w0 mb a S pa pn pc ps w) (hb : Below w.heap.size w w') : LP w0 mb a S pa pn pc ps w' :=
  ⟨h.mw.below hb, h.fl.below hb, fun p hp => (h.reg p hp).below hb, h.fr⟩
theorem LP.memb {w0 w w' : World} {mb : Nat} {a : Option Addr} {S : List (Nat × List (Int × Int))} {pa : Option Addr} {pn pc : Nat} {ps : List (Nat × List (Int × Int))} (h : LP w0 mb a S pa pn pc ps w) {r : Nat} {l : List (Int × Int)} (hr : RegOk w r l) (hr' : RegOk w' r l) (hu : Upd r w w') (hw : w0.heap.size ≤ r) : LP w0 mb a S pa pn pc ps w' := by
  obtain ⟨_, _, _, _, b1, _⟩ := hr.out
  exact ⟨h.mw.memb hr hr' hu hw, h.fl.updT b1 (by decide) hu, fun p hp => hr.memb hr' hu (h.reg p hp), h.fr⟩
theorem LP.at {w0 w : World} {mb : Nat} {a : Option Addr} {S : List (Nat × List (Int × Int))} {pa : Option Addr} {pn pc : Nat} {ps : List (Nat × List (Int × Int))} (h : LP w0 mb a S pa pn pc ps w) {k : Nat} (hk : k < pn) : ∃ p g off, ps[k]? = some p ∧ RegOk w p.1 p.2 ∧ w0.heap.size ≤ p.1 ∧ pa = some ⟨g, off, none⟩ ∧ w.cell? ⟨g, off + k, none⟩ = some (.pointer (some ⟨p.1, 0, none⟩)) := by
  obtain ⟨g, off, h1, h2⟩ := h.fl.cell hk
  have hl := h.fl.len
  rw [List.length_map] at hl
  have hp : ps[k]? = some (ps[k]'(by omega)) := List.getElem?_eq_getElem (by omega)
  refine ⟨ps[k]'(by omega), g, off, hp, h.reg _ (List.mem_of_getElem? hp), h.fr _ (List.mem_of_getElem? hp), h1, ?_⟩
  rw [h2, List.getElem?_map, hp]
  rfl
theorem MWs.lp {w0 w w' : World} {mb : Nat} {a a' : Option Addr} {S : List (Nat × List (Int × Int))} {o : COp} {res : List Value} {pa : Option Addr} {pn pc : Nat} {ps : List (Nat × List (Int × Int))} (h : MWs w0 mb a S o w res pa pn pc ps a' w') (hb : Below w0.heap.size w0 w) : LP w0 mb a' (ps.foldl push12 S) pa pn pc ps w' :=
  ⟨h.mw, h.fl, h.reg, fun p hp => Nat.le_trans hb.size (h.fr p hp)⟩
set_option maxRecDepth 100000 in
set_option maxHeartbeats 4000000 in
theorem leastLaw_walk (a : Option Addr) (n c : Nat) (l : List COp) (w : World) (hs : Script w a n c l) :
    Calls Try.prog 7 #[.slice a n c] w fun e w' => e = .returned (.bool true) ∧ Below w.heap.size w w' := by
  have HS := hid hs
  have hl := hs.1.1
  clear hs
  go_enter Try.func7, Try.ntmps7
  go_wp2_with fail
  refine (small_walk a n c l _ HS.out).mono ?_
  rintro e w' ⟨r, rfl, rfl, hr⟩
  cases r with
  | false =>
    go_wp2
    go_ret
    exact ⟨rfl, Below.refl _ _⟩
  | true =>
  obtain ⟨hsm, hob⟩ := hr rfl
  have HOb := hid hob
  clear hr hob
  obtain ⟨mb, hmb⟩ : ∃ mb, w'.heap.size = mb := ⟨_, rfl⟩
  have HM0 := hid (MW.start w' hmb)
  go_upto_region 5 with fail
  generalize w'.alloc (.cells #[.slice none 0 0] 46) = w1 at HM0 ⊢
  have Hmb := hid hmb
  clear hmb
  go_loopw [26] (fun i wr => ∃ (k : Nat) (ma : Option Addr) (S : List (Nat × List (Int × Int))), k ≤ n ∧ i = .int .i64 k ∧ Hid (MW w' mb ma S wr)) (fun i _ => n - (intOf i).toNat)
  case atStart => exact ⟨0, none, [], Nat.zero_le _, rfl, HM0⟩
  case round =>
    clear HM0
    obtain ⟨k, ma, S, hk, rfl, HM⟩ := hrel
    by_cases hlt : k < n
    · as_aux_lemma =>
      obtain ⟨o, ho, hok, b, off, rfl, hb, c0, c1, c2, c3, c4⟩ := (HS.out.below HM.out.bel).at hlt
      have hob := HOb.out o (List.mem_of_getElem? ho)
      obtain ⟨kind, oa, ob, ia, inn, ic, iv, ra, rn, rc, rg⟩ := o
      dsimp only at c0 c1 c2 c3 c4 hob
      have dk : decide ((k : Int) < (n : Int)) = true := decide_eq_true (by omega)
      have i1 : (k : Int) < (n : Int) := by omega
      obtain ⟨pO, hpO⟩ : ∃ pO, wr.heap.size = pO := ⟨_, rfl⟩
      have HM2 : Hid (MW w' mb ma S (wr.alloc (.cells #[Value.int .i64 kind, .int .i64 oa, .int .i64 ob, .slice ia inn ic, .slice ra rn rc] 28)) ∧ Blk (wr.alloc (.cells #[Value.int .i64 kind, .int .i64 oa, .int .i64 ob, .slice ia inn ic, .slice ra rn rc] 28)) pO 28 [Value.int .i64 kind, .int .i64 oa, .int .i64 ob, .slice ia inn ic, .slice ra rn rc] ∧ OpOk (wr.alloc (.cells #[Value.int .i64 kind, .int .i64 oa, .int .i64 ob, .slice ia inn ic, .slice ra rn rc] 28)) ⟨kind, oa, ob, ia, inn, ic, iv, ra, rn, rc, rg⟩) := hid ⟨HM.out.below (nbel wr _), by
        have := Blk.new wr [Value.int .i64 kind, .int .i64 oa, .int .i64 ob, .slice ia inn ic, .slice ra rn rc] 28
        rw [hpO] at this
        exact this, hok.below (nbel wr _)⟩
      clear ho hok
      go_upto_region 7 with fail
      generalize wr.alloc (.cells #[Value.int .i64 kind, .int .i64 oa, .int .i64 ob, .slice ia inn ic, .slice ra rn rc] 28) = w2 at HM2 ⊢
      clear c0 c1 c2 c3 c4
      have o0 : w2.cell? ⟨pO, 0, none⟩ = some (.int .i64 kind) := HM2.out.2.1.cell 0
      have o1 : w2.cell? ⟨pO, 1, none⟩ = some (.int .i64 oa) := HM2.out.2.1.cell 1
      have o2 : w2.cell? ⟨pO, 2, none⟩ = some (.int .i64 ob) := HM2.out.2.1.cell 2
      have o3 : w2.cell? ⟨pO, 3, none⟩ = some (.slice ia inn ic) := HM2.out.2.1.cell 3
      have o4 : w2.cell? ⟨pO, 4, none⟩ = some (.slice ra rn rc) := HM2.out.2.1.cell 4
      have HSt := hid (step_walk mb ma S ⟨kind, oa, ob, ia, inn, ic, iv, ra, rn, rc, rg⟩ w2 HM2.out.1.mach HM2.out.2.2 hob.1 hob.2)
      go_wp2_with fail
      refine HSt.out.mono ?_
      rintro e w3 hp
      obtain ⟨res, pa, pn, pc, ps, a', rfl, hms⟩ := HM2.out.1.step hp
      have HM3 := hid (hms.lp HM2.out.1.bel)
      obtain ⟨rp, rok, rv, hres⟩ := hms.st.isRes
      subst hres
      have hpn : pn ≤ 196608 := by have h1 := hms.len; have h2 := hms.fl.len; rw [List.length_map] at h2; omega
      clear hp hms HSt HM2 o0 o1 o2 o3 o4
      generalize ps.foldl push12 S = S' at HM3
      have HM4 : Hid (LP w' mb a' S' pa pn pc ps (w3.alloc (.cells #[.int .i64 rp, .bool rok, .int .i64 rv] 51))) := hid (HM3.out.below (nbel w3 _))
      unfold resC
      go_upto_region 9 with fail
      generalize w3.alloc (.cells #[.int .i64 rp, .bool rok, .int .i64 rv] 51) = w4 at HM4 ⊢
      clear HM3 dk
      go_loopw [38] (fun i wr2 => ∃ (i1 : Nat), i1 ≤ pn ∧ i = .int .i64 i1 ∧ Hid (LP w' mb a' S' pa pn pc ps wr2)) (fun i _ => pn - (intOf i).toNat)
      case atStart => exact ⟨0, Nat.zero_le _, rfl, HM4⟩
      case round =>
        clear HM4
        obtain ⟨k1, hk1, rfl, HL⟩ := hrel
        by_cases hlt1 : k1 < pn
        rotate_left
        · as_aux_lemma =>
          have d1 : decide ((k1 : Int) < (pn : Int)) = false := decide_eq_false (by omega)
          have HLw := hid HL.out.mw
          go_wp2
          exact ⟨⟨k + 1, a', S', by omega, by go_num, HLw⟩, by simp [intOf]; omega⟩
        have d1 : decide ((k1 : Int) < (pn : Int)) = true := decide_eq_true (by omega)
        have j1 : (k1 : Int) < (pn : Int) := by omega
        obtain ⟨p, g, off', hp, hr, hw, hpa, ce⟩ := HL.out.at hlt1
        subst hpa
        have HP := hid hp
        have HR := hid hr
        have HW := hid hw
        clear hp hr hw
        go_upto_region 12 with fail
        clear ce d1
        go_wp2_with fail
        refine (members_reg p.1 p.2 _ HR.out).mono ?_
        rintro e wB ⟨g1, rfl, t1, u1, r1⟩
        have HL1 := hid (HL.out.memb HR.out r1 u1 HW.out)
        have HT1 := hid t1
        have HR1 := hid r1
        clear t1 u1 r1 HR HL
        go_upto_region 13 with fail
        go_loopw [10, 11, 12, 45] (fun lv gv cv i wr2 => wr2 = wB ∧ ∃ (x : Nat), x ≤ 196608 ∧ i = .int .i64 x ∧ lv = .int .i64 (lstA (fun i => memB p.2 (i : Int)) x) ∧ gv = .int .i64 (grtA (fun i => memB p.2 (i : Int)) x) ∧ cv = .int .i64 (cntA (fun i => memB p.2 (i : Int)) x)) (fun _ _ _ i _ => 196608 - (intOf i).toNat)
        case atStart => exact ⟨rfl, 0, by omega, rfl, rfl, rfl, rfl⟩
        case round =>
          obtain ⟨rfl, x, hx, rfl, rfl, rfl, rfl⟩ := hrel
          by_cases hlt3 : x < 196608
          · as_aux_lemma =>
            have d3 : decide ((x : Int) < 196608) = true := decide_eq_true (by omega)
            have j3 : (x : Int) < 196608 := by omega
            obtain ⟨b1, hb1⟩ : ∃ b, memB p.2 (x : Int) = b := ⟨_, rfl⟩
            have k1 : wr.cell? ⟨g1, x, none⟩ = some (.bool b1) := by rw [HT1.out.cell, ← hb1]; exact tabL_get _ hlt3
            have Q1 : Hid (lstA (fun i => memB p.2 (i : Int)) (x + 1) = (if b1 = true then (if lstA (fun i => memB p.2 (i : Int)) x = -1 then (x : Int) else lstA (fun i => memB p.2 (i : Int)) x) else lstA (fun i => memB p.2 (i : Int)) x)) := hid (by rw [lstA, hb1])
            have Q2 : Hid (grtA (fun i => memB p.2 (i : Int)) (x + 1) = (if b1 = true then (x : Int) else grtA (fun i => memB p.2 (i : Int)) x)) := hid (by rw [grtA, hb1])
            have Q3 : Hid (cntA (fun i => memB p.2 (i : Int)) (x + 1) = (if b1 = true then cntA (fun i => memB p.2 (i : Int)) x + 1 else cntA (fun i => memB p.2 (i : Int)) x)) := hid (by rw [cntA, hb1])
            obtain ⟨hc0, hc1⟩ := cntA_rng (fun i => memB p.2 (i : Int)) x
            clear hb1
            have Hfin : Hid (∀ (i : Value) (v1 v2 v3 : Int), i = Value.int .i64 ((x + 1 : Nat) : Int) → v1 = lstA (fun i => memB p.2 (i : Int)) (x + 1) → v2 = grtA (fun i => memB p.2 (i : Int)) (x + 1) → v3 = cntA (fun i => memB p.2 (i : Int)) (x + 1) → (True ∧ ∃ (y : Nat), y ≤ 196608 ∧ i = .int .i64 y ∧ Value.int .i64 v1 = .int .i64 (lstA (fun i => memB p.2 (i : Int)) y) ∧ Value.int .i64 v2 = .int .i64 (grtA (fun i => memB p.2 (i : Int)) y) ∧ Value.int .i64 v3 = .int .i64 (cntA (fun i => memB p.2 (i : Int)) y)) ∧ 196608 - (intOf i).toNat < 196608 - (intOf (.int .i64 (x : Int))).toNat) := hid (fun i v1 v2 v3 hi h1 h2 h3 => by
              subst hi h1 h2 h3
              exact ⟨⟨trivial, x + 1, by omega, rfl, rfl, rfl, rfl⟩, by simp [intOf]; omega⟩)
            generalize lstA (fun i => memB p.2 (i : Int)) x = v1 at Q1 ⊢
            generalize grtA (fun i => memB p.2 (i : Int)) x = v2 at Q2 ⊢
            generalize cntA (fun i => memB p.2 (i : Int)) x = v3 at Q3 hc0 hc1 ⊢
            cases b1 with
            | false =>
              go_wp2
              refine Hfin.out _ _ _ _ (by go_num) ?_ ?_ ?_
              · rw [Q1.out]; rfl
              · rw [Q2.out]; rfl
              · rw [Q3.out]; rfl
            | true =>
              by_cases hv : v1 = -1
              · have dv : (v1 == -1) = true := by simp [hv]
                have Hv := hid hv
                clear hv
                go_wp2
                refine Hfin.out _ _ _ _ (by go_num) ?_ ?_ ?_
                · rw [Q1.out, if_pos rfl, if_pos Hv.out]
                · rw [Q2.out]; rfl
                · rw [Q3.out]; rfl
              · have dv : (v1 == -1) = false := by simp [hv]
                have Hv := hid hv
                clear hv
                go_wp2
                refine Hfin.out _ _ _ _ (by go_num) ?_ ?_ ?_
                · rw [Q1.out, if_pos rfl, if_neg Hv.out]
                · rw [Q2.out]; rfl
                · rw [Q3.out]; rfl
          as_aux_lemma =>
          have d3 : decide ((x : Int) < 196608) = false := decide_eq_false (by omega)
          have hx' : x = 196608 := by omega
          subst hx'
          obtain ⟨xa, xn, xc, tb1, z1, z2, z3, _⟩ := HR1.out.out
          have hn := HR1.out.nrm
          have q1 := empty_cnt hn
          have q2 := all_cnt hn
          have hc := cnt_all p.2 hn
          rw [hc]
          have hmm : p.2 ≠ [] → lstA (fun i => memB p.2 (i : Int)) 196608 = minL p.2 ∧ grtA (fun i => memB p.2 (i : Int)) 196608 = maxL p.2 := fun h => ⟨least_eq hn h, great_eq hn h⟩
          have hcr : 0 ≤ countL p.2 ∧ countL p.2 ≤ 196608 := by rw [← hc]; exact cntA_rng _ _
          generalize lstA (fun i => memB p.2 (i : Int)) 196608 = v1 at hmm ⊢
          generalize grtA (fun i => memB p.2 (i : Int)) 196608 = v2 at hmm ⊢
          obtain ⟨m1, hm1⟩ : ∃ m, minL p.2 = m := ⟨_, rfl⟩
          obtain ⟨m2, hm2⟩ : ∃ m, maxL p.2 = m := ⟨_, rfl⟩
          obtain ⟨C, hC⟩ : ∃ m, countL p.2 = m := ⟨_, rfl⟩
          obtain ⟨BE, hBE⟩ : ∃ m, p.2.isEmpty = m := ⟨_, rfl⟩
          obtain ⟨BA, hBA⟩ : ∃ m, allB p.2 = m := ⟨_, rfl⟩
          have hmm2 : BE = false → v1 = m1 ∧ v2 = m2 := fun h => by rw [← hm1, ← hm2]; exact hmm (fun e => by rw [e] at hBE; rw [h] at hBE; cases hBE)
          rw [hC] at hcr q1 q2
          rw [hBE] at q1
          rw [hBA] at q2
          rw [hC]
          have HC1 : Hid (∀ w2 : World, Below wr.heap.size wr w2 → w2.cell? ⟨p.1, 0, none⟩ = some (.slice xa xn xc)) := hid (fun w2 hb => (z1.below hb).cell 0)
          have c0 := HC1.out wr (Below.refl _ _)
          have HKmin : Hid (∀ w2 : World, Below wr.heap.size wr w2 → Calls Try.prog 26 #[.agg #[.slice xa xn xc]] w2 fun e w3 => e = .returned (.tuple #[.int .i64 m1, .bool (!BE)]) ∧ Below w2.heap.size w2 w3) := hid (fun w2 hb => by rw [← hm1, ← hBE]; exact min_walk xa xn xc p.2 w2 (z2.below hb))
          have HKmax : Hid (∀ w2 : World, Below wr.heap.size wr w2 → Calls Try.prog 27 #[.agg #[.slice xa xn xc]] w2 fun e w3 => e = .returned (.tuple #[.int .i64 m2, .bool (!BE)]) ∧ Below w2.heap.size w2 w3) := hid (fun w2 hb => by rw [← hm2, ← hBE]; exact max_walk xa xn xc p.2 w2 (z2.below hb))
          have HKemp : Hid (∀ w2 : World, Below wr.heap.size wr w2 → Calls Try.prog 23 #[.agg #[.slice xa xn xc]] w2 fun e w3 => e = .returned (.bool BE) ∧ Below w2.heap.size w2 w3) := hid (fun w2 hb => by rw [← hBE]; exact isEmpty_walk xa xn xc p.2 w2 (z2.below hb))
          have HKall : Hid (∀ w2 : World, Below wr.heap.size wr w2 → Calls Try.prog 29 #[.agg #[.slice xa xn xc]] w2 fun e w3 => e = .returned (.bool BA) ∧ Below w2.heap.size w2 w3) := hid (fun w2 hb => by rw [← hBA]; exact isAll_walk xa xn xc p.2 w2 (z2.below hb))
          have HKcnt : Hid (∀ w2 : World, Below wr.heap.size wr w2 → Calls Try.prog 28 #[.agg #[.slice xa xn xc]] w2 fun e w3 => e = .returned (.int .i64 C) ∧ Below w2.heap.size w2 w3) := hid (fun w2 hb => by rw [← hC]; exact count_walk xa xn xc p.2 w2 (z2.below hb) hn)
          clear z1 z2 z3 hm1 hm2 hC hBE hBA hmm hc hn
          have Q1 := hid q1
          have Q2 := hid q2
          have Hmm := hid hmm2
          have Hcr := hid hcr
          clear q1 q2 hmm2 hcr HT1 HR1
          go_upto_region 21 with fail
          clear d3
          go_wp2_with fail
          refine (HKmin.out _ (Below.refl _ _)).mono ?_
          rintro e wC ⟨rfl, hbC⟩
          have HbC := hid hbC
          clear hbC
          have c1 := HC1.out wC HbC.out
          go_wp2_with fail
          refine (HKmax.out _ HbC.out).mono ?_
          rintro e wD ⟨rfl, hbD⟩
          have HbD := hid (HbC.out.trans (hbD.mono HbC.out.size))
          clear hbD c0 c1 HbC
          have c1 := HC1.out wD HbD.out
          go_wp2_with fail
          refine (HKemp.out _ HbD.out).mono ?_
          rintro e wE ⟨rfl, hbE⟩
          have HbE := hid (HbD.out.trans (hbE.mono HbD.out.size))
          clear hbE c1 HbD
          have c1 := HC1.out wE HbE.out
          cases BE with
          | true =>
            have hC : C = 0 := by have := Q1.out; simpa using this.symm
            subst hC
            have hA : BA = false := by have := Q2.out; simpa using this
            subst hA
            go_wp2_with fail
            refine (HKcnt.out _ HbE.out).mono ?_
            rintro e wF ⟨rfl, hbF⟩
            have HbF := hid (HbE.out.trans (hbF.mono HbE.out.size))
            clear hbF c1 HbE
            have c1 := HC1.out wF HbF.out
            go_wp2_with fail
            refine (HKall.out _ HbF.out).mono ?_
            rintro e wG ⟨rfl, hbG⟩
            have HLG := hid (HL1.out.below (HbF.out.trans (hbG.mono HbF.out.size)))
            clear hbG c1 HbF
            go_wp2
            exact ⟨⟨k1 + 1, by omega, by go_num, HLG⟩, by simp [intOf]; omega⟩
          | false =>
            have hC : ¬ C = 0 := by have := Q1.out; simpa using this
            have hC2 := Hcr.out
            obtain ⟨rfl, rfl⟩ := Hmm.out rfl
            have e1 : (C == 0) = false := by simp [hC]
            have e2 : decide (0 < C) = true := decide_eq_true (by omega)
            have e3 : (v1 != v1) = false := by simp
            have e4 : (v2 != v2) = false := by simp
            have e5 : (C != C) = false := by simp
            have e6 : (C == 196608) = BA := by have := Q2.out; rw [this]; by_cases h : C = 196608 <;> simp [h]
            have e7 : (BA != BA) = false := by simp
            clear hC hC2
            go_wp2_with fail
            refine (HKcnt.out _ HbE.out).mono ?_
            rintro e wF ⟨rfl, hbF⟩
            have HbF := hid (HbE.out.trans (hbF.mono HbE.out.size))
            clear hbF c1 HbE
            have c1 := HC1.out wF HbF.out
            go_wp2_with fail
            refine (HKall.out _ HbF.out).mono ?_
            rintro e wG ⟨rfl, hbG⟩
            have HLG := hid (HL1.out.below (HbF.out.trans (hbG.mono HbF.out.size)))
            clear hbG c1 HbF
            go_wp2
            exact ⟨⟨k1 + 1, by omega, by go_num, HLG⟩, by simp [intOf]; omega⟩
    as_aux_lemma =>
    have dk : decide ((k : Int) < (n : Int)) = false := decide_eq_false (by omega)
    go_wp2
    go_ret
    exact ⟨rfl, HM.out.bel⟩
end Go.Proofs.Qxb6500884a
