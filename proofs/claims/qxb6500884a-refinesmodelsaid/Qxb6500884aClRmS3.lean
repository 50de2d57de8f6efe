/- The model's Step, kind by kind: of and unionAll. -/
import Derived.Test.Qxb6500884aClRmB
import Derived.Test.Qxb6500884aClBld
namespace Go.Proofs.Qxb6500884a
open Go.RowKit
set_option linter.unusedSimpArgs false
set_option linter.unusedVariables false

theorem mem_take {rg : List Int} {k : Nat} {x : Int} (h : rg[k]? = some x) (z : Int) : z ∈ rg.take (k + 1) ↔ z ∈ rg.take k ∨ z = x := by
  rw [List.take_add_one, h]
  simp
set_option maxRecDepth 100000 in
set_option maxHeartbeats 2000000 in
theorem ms11_walk (mb : Nat) (a : Option Addr) (G : List (Nat × (Nat → Bool))) (oa ob : Int) (ia : Option Addr) (inn ic : Nat) (iv : List (Int × Int)) (ra : Option Addr) (rn rc : Nat) (rg : List Int) (Ls : List (List (Int × Int))) (w : World) (h : MMach mb a G w) (ho : OpOk w ⟨11, oa, ob, ia, inn, ic, iv, ra, rn, rc, rg⟩) (hR : Rel (G.map (·.2)) Ls) (hN : ∀ l ∈ Ls, Nrm l) (hrn : rn ≤ 65536) :
    Calls Try.prog 25 #[.pointer (some ⟨mb, 0, none⟩), .agg #[.int .i64 11, .int .i64 oa, .int .i64 ob, .slice ia inn ic, .slice ra rn rc]] w fun e w' => MSt mb a G ⟨11, oa, ob, ia, inn, ic, iv, ra, rn, rc, rg⟩ Ls w e w' := by
  have HM := hid h
  have HO := hid ho
  have HRl := hid hR
  have HNl := hid hN
  obtain ⟨q, hq⟩ : ∃ q, w.heap.size = q := ⟨_, rfl⟩
  obtain ⟨r, hr⟩ : ∃ r, q + 1 = r := ⟨_, rfl⟩
  have HS : Hid (S0 w q r [Value.int .i64 11, .int .i64 oa, .int .i64 ob, .slice ia inn ic, .slice ra rn rc] ((w.alloc (.cells #[Value.int .i64 11, .int .i64 oa, .int .i64 ob, .slice ia inn ic, .slice ra rn rc] 28)).alloc (.cells #[.int .i64 0, .bool false, .int .i64 0] 51))) := hid (S0.start w hq hr _)
  clear h ho hR hN
  go_enter Try.func25, Try.ntmps25
  go_upto_region 1 with fail
  generalize (w.alloc (.cells #[Value.int .i64 11, .int .i64 oa, .int .i64 ob, .slice ia inn ic, .slice ra rn rc] 28)).alloc (.cells #[.int .i64 0, .bool false, .int .i64 0] 51) = w1 at HS ⊢
  clear hq hr
  have o0 : w1.cell? ⟨q, 0, none⟩ = some (.int .i64 11) := HS.out.op.cell 0
  have o1 : w1.cell? ⟨q, 1, none⟩ = some (.int .i64 oa) := HS.out.op.cell 1
  have o2 : w1.cell? ⟨q, 2, none⟩ = some (.int .i64 ob) := HS.out.op.cell 2
  have o3 : w1.cell? ⟨q, 3, none⟩ = some (.slice ia inn ic) := HS.out.op.cell 3
  have o4x : w1.cell? ⟨q, 4, none⟩ = some (.slice ra rn rc) := HS.out.op.cell 4
  clear o4x
  obtain ⟨g, hg⟩ : ∃ g, w1.heap.size = g := ⟨_, rfl⟩
  have HNn := hid (none_walk w1)
  rw [hg] at HNn
  have HT0 : Hid (Tb w1 g (fun _ => false) (w1.alloc (.cells (tabL fun _ => false).toArray 4))) := hid ⟨nbel w1 _, by have := Blk.new w1 (tabL fun _ => false) 4; rw [hg] at this; exact this⟩
  have Hgw := hid (Nat.le_of_eq hg)
  clear hg
  go_wp2_with fail
  refine HNn.out.mono ?_
  rintro e w2 ⟨rfl, rfl⟩
  have o4 : (w1.alloc (.cells (tabL fun _ => false).toArray 4)).cell? ⟨q, 4, none⟩ = some (.slice ra rn rc) := (HS.out.below HT0.out.bel).op.cell 4
  generalize w1.alloc (.cells (tabL fun _ => false).toArray 4) = w2 at HT0 o4 ⊢
  clear HNn
  clear o0 o1 o2 o3
  go_upto_region 20 with fail
  clear o4
  go_loopw [75] (fun i wr => ∃ (k : Nat), k ≤ rn ∧ i = .int .i64 k ∧ Hid (Tb w1 g (fun x => decide ((x : Int) ∈ rg.take k)) wr)) (fun i _ => rn - (intOf i).toNat)
  case atStart => exact ⟨0, Nat.zero_le _, rfl, hid (HT0.out.ext (fun i _ => by simp))⟩
  case round =>
  clear HT0
  obtain ⟨k, hk, rfl, HTk⟩ := hrel
  have hrl := HO.out.rg.len
  dsimp only at hrl
  by_cases hlt : k < rn
  · as_aux_lemma =>
    have dk : decide ((k : Int) < (rn : Int)) = true := decide_eq_true (by omega)
    have ik : (k : Int) < (rn : Int) := by omega
    obtain ⟨x, hx, fx, b, off, hra, hb, e1⟩ := InRow.get ((HO.out.below HS.out.bel).rg.below HTk.out.bel) (k := k) hlt
    dsimp only at hx hra
    subst hra
    have Hmt := hid (mem_take hx)
    clear hx hb
    by_cases hin : 0 ≤ x ∧ x ≤ 196607
    · as_aux_lemma =>
      obtain ⟨y, hy⟩ : ∃ y : Nat, x = (y : Int) := ⟨x.toNat, by omega⟩
      subst hy
      have hyl : y < 196608 := by omega
      have iy : (y : Int) < 196608 := by omega
      have d1 : decide (0 ≤ (y : Int)) = true := decide_eq_true (by omega)
      have d2 : decide ((y : Int) ≤ 196607) = true := decide_eq_true (by omega)
      have cg : wr.cell? ⟨g, y, none⟩ = some (.bool (decide ((y : Int) ∈ rg.take k))) := by rw [HTk.out.blk.cell]; exact tabL_get _ hyl
      have fg := HTk.out.blk.frozen y
      have HT2 : Hid (Tb w1 g (fun x => decide ((x : Int) ∈ rg.take (k + 1))) (wr.setCell ⟨g, y, none⟩ (.bool true))) := hid ((HTk.out.set Hgw.out hyl true).ext (fun i hi => by
        by_cases e : i = y
        · subst e
          rw [if_pos rfl, decide_eq_true ((Hmt.out _).2 (.inr rfl))]
        · rw [if_neg e, decide_eq_decide, Hmt.out]
          exact ⟨.inl, fun h => by
            rcases h with h | h
            · exact h
            · exact absurd (by omega) e⟩))
      go_wp2
      exact ⟨⟨k + 1, by omega, by go_num, HT2⟩, by simp [intOf]; omega⟩
    as_aux_lemma =>
    have HT2 : Hid (Tb w1 g (fun x => decide ((x : Int) ∈ rg.take (k + 1))) wr) := hid (HTk.out.ext (fun i hi => by
      rw [decide_eq_decide, Hmt.out]
      exact ⟨.inl, fun h => by
        rcases h with h | h
        · exact h
        · exact absurd ⟨by omega, by omega⟩ hin⟩))
    by_cases h1 : 0 ≤ x
    · as_aux_lemma =>
      have d1 : decide (0 ≤ x) = true := decide_eq_true h1
      have d2 : decide (x ≤ 196607) = false := decide_eq_false (by omega)
      go_wp2
      exact ⟨⟨k + 1, by omega, by go_num, HT2⟩, by simp [intOf]; omega⟩
    · as_aux_lemma =>
      have d1 : decide (0 ≤ x) = false := decide_eq_false h1
      go_wp2
      exact ⟨⟨k + 1, by omega, by go_num, HT2⟩, by simp [intOf]; omega⟩
  as_aux_lemma =>
  have dk : decide ((k : Int) < (rn : Int)) = false := decide_eq_false (by omega)
  have HTe := hid (HTk.out.ext (f' := fun x => decide ((x : Int) ∈ rg)) (fun i hi => by rw [List.take_of_length_le (by omega)]))
  have HS2 := hid (HS.out.below HTe.out.bel)
  have HT := hid HTe.out.blk
  clear HTk HTe HS
  have HPu := hid (mpush_walk mb a G g (fun x => decide ((x : Int) ∈ rg)) wr (HM.out.below HS2.out.bel) HT.out)
  go_wp2_with fail
  refine HPu.out.mono ?_
  rintro e w3 hp
  have hrt := hp.ret
  subst hrt
  have HP := hid hp
  have HR3 : Hid (Blk w3 r 51 (resC 0 false 0)) := hid ((HM.out.below HS2.out.bel).blkT hp.upd HS2.out.res (by decide) (by decide))
  clear hp HPu
  have I0 : Hid ((Try.prog.info? 51).map (·.size) = some (resC 1 false 0).length) := hid info_res
  go_wp2_with (refine wpList_store_blk rfl 51 _ _ rfl r rfl (resC 1 false 0) rfl HR3.out rfl I0.out (res_one _ _ _) ?_; intro w9 HB9 HU9)
  exact bodyPost_ret (results_blk Try.results25 rfl (show AggOf Try.prog 51 (List.length (resC 1 false 0)) from aggRes) HB9.out) rfl (MSt.fin1 HS2.out.bel HP.out HS2.out.low HR3.out HU9.out (post_one rfl (fun h => by cases h) (fun x hx => (memB_dup rg (x : Int)).symm)))
theorem any_take {rg : List Int} {k : Nat} {x : Int} (h : rg[k]? = some x) (f : Int → Bool) : (rg.take (k + 1)).any f = ((rg.take k).any f || f x) := by
  rw [List.take_add_one, h, List.any_append]
  simp
set_option maxRecDepth 100000 in
set_option maxHeartbeats 2000000 in
theorem ms10_walk (mb : Nat) (a : Option Addr) (G : List (Nat × (Nat → Bool))) (oa ob : Int) (ia : Option Addr) (inn ic : Nat) (iv : List (Int × Int)) (ra : Option Addr) (rn rc : Nat) (rg : List Int) (Ls : List (List (Int × Int))) (w : World) (h : MMach mb a G w) (ho : OpOk w ⟨10, oa, ob, ia, inn, ic, iv, ra, rn, rc, rg⟩) (hR : Rel (G.map (·.2)) Ls) (hN : ∀ l ∈ Ls, Nrm l) (h0 : 0 < G.length) (hrn : rn ≤ 65536) :
    Calls Try.prog 25 #[.pointer (some ⟨mb, 0, none⟩), .agg #[.int .i64 10, .int .i64 oa, .int .i64 ob, .slice ia inn ic, .slice ra rn rc]] w fun e w' => MSt mb a G ⟨10, oa, ob, ia, inn, ic, iv, ra, rn, rc, rg⟩ Ls w e w' := by
  have HM := hid h
  have HO := hid ho
  have HRl := hid hR
  have HNl := hid hN
  obtain ⟨q, hq⟩ : ∃ q, w.heap.size = q := ⟨_, rfl⟩
  obtain ⟨r, hr⟩ : ∃ r, q + 1 = r := ⟨_, rfl⟩
  have HS : Hid (S0 w q r [Value.int .i64 10, .int .i64 oa, .int .i64 ob, .slice ia inn ic, .slice ra rn rc] ((w.alloc (.cells #[Value.int .i64 10, .int .i64 oa, .int .i64 ob, .slice ia inn ic, .slice ra rn rc] 28)).alloc (.cells #[.int .i64 0, .bool false, .int .i64 0] 51))) := hid (S0.start w hq hr _)
  clear h ho hR hN
  go_enter Try.func25, Try.ntmps25
  go_upto_region 1 with fail
  generalize (w.alloc (.cells #[Value.int .i64 10, .int .i64 oa, .int .i64 ob, .slice ia inn ic, .slice ra rn rc] 28)).alloc (.cells #[.int .i64 0, .bool false, .int .i64 0] 51) = w1 at HS ⊢
  clear hq hr
  have o0 : w1.cell? ⟨q, 0, none⟩ = some (.int .i64 10) := HS.out.op.cell 0
  have o1 : w1.cell? ⟨q, 1, none⟩ = some (.int .i64 oa) := HS.out.op.cell 1
  have o2 : w1.cell? ⟨q, 2, none⟩ = some (.int .i64 ob) := HS.out.op.cell 2
  have o3 : w1.cell? ⟨q, 3, none⟩ = some (.slice ia inn ic) := HS.out.op.cell 3
  have o4x : w1.cell? ⟨q, 4, none⟩ = some (.slice ra rn rc) := HS.out.op.cell 4
  clear o4x
  obtain ⟨N, hNN⟩ : ∃ N, G.length = N := ⟨_, rfl⟩
  obtain ⟨mc, hmc, _⟩ := (HM.out.below HS.out.bel).out
  rw [hNN] at hmc
  have cm : w1.cell? ⟨mb, 0, none⟩ = some (.slice a N mc) := hmc.cell 0
  have dN : ((N : Int) == 0) = false := by rw [beq_eq_false_iff_ne]; omega
  clear hNN hmc
  obtain ⟨g, hg⟩ : ∃ g, w1.heap.size = g := ⟨_, rfl⟩
  have HNn := hid (none_walk w1)
  rw [hg] at HNn
  have HT0 : Hid (Tb w1 g (fun _ => false) (w1.alloc (.cells (tabL fun _ => false).toArray 4))) := hid ⟨nbel w1 _, by have := Blk.new w1 (tabL fun _ => false) 4; rw [hg] at this; exact this⟩
  have Hgw := hid (Nat.le_of_eq hg)
  clear hg
  go_wp2_with fail
  refine HNn.out.mono ?_
  rintro e w2 ⟨rfl, rfl⟩
  have o4 : (w1.alloc (.cells (tabL fun _ => false).toArray 4)).cell? ⟨q, 4, none⟩ = some (.slice ra rn rc) := (HS.out.below HT0.out.bel).op.cell 4
  generalize w1.alloc (.cells (tabL fun _ => false).toArray 4) = w2 at HT0 o4 ⊢
  clear HNn
  clear o0 o1 o2 o3 cm dN
  go_upto_region 54 with fail
  clear o4
  go_loopw [16, 174] (fun v i wr => ∃ (k g : Nat), k ≤ rn ∧ i = .int .i64 k ∧ v = .slice (some ⟨g, 0, none⟩) 196608 196608 ∧ Hid (Tb w1 g (fun x => (rg.take k).any fun i => memB (regL Ls i) (x : Int)) wr)) (fun _ i _ => rn - (intOf i).toNat)
  case atStart => exact ⟨0, g, Nat.zero_le _, rfl, rfl, hid (HT0.out.ext (fun i _ => by simp))⟩
  case round =>
  clear HT0 Hgw
  obtain ⟨k, gk, hk, rfl, rfl, HTk⟩ := hrel
  have hrl := HO.out.rg.len
  dsimp only at hrl
  by_cases hlt : k < rn
  · as_aux_lemma =>
    have dk : decide ((k : Int) < (rn : Int)) = true := decide_eq_true (by omega)
    have ik : (k : Int) < (rn : Int) := by omega
    obtain ⟨x, hx, fx, b, off, hra, hb, e1⟩ := InRow.get ((HO.out.below HS.out.bel).rg.below HTk.out.bel) (k := k) hlt
    dsimp only at hx hra
    subst hra
    have Hmt := hid (any_take hx)
    obtain ⟨p1, hp1, hf1⟩ := HRl.out.reg h0 x
    have HF1 := hid hf1
    have HBw : Hid (Below w.heap.size w wr) := hid (HS.out.bel.trans (HTk.out.bel.mono HS.out.bel.size))
    have HRg := hid (mreg_walk mb a G x p1 wr (HM.out.below HBw.out) fx h0 hp1)
    have HP1 := hid (HM.out.tabs p1 (List.mem_of_getElem? hp1))
    clear hx hb hp1 hf1
    go_wp2_with fail
    refine HRg.out.mono ?_
    rintro e w3 ⟨rfl, hb3⟩
    have HT3 := hid (HTk.out.below hb3)
    have HBw3 : Hid (Below w.heap.size w w3) := hid (HBw.out.trans (hb3.mono HBw.out.size))
    clear hb3 e1
    go_wp2_with fail
    refine (comb1_walk gk p1.1 _ p1.2 w3 HT3.out.blk (HP1.out.below HBw3.out)).mono ?_
    rintro e w4 ⟨g4, rfl, hg4, hT4⟩
    have HT4 : Hid (Tb w1 g4 (fun x => (rg.take (k + 1)).any fun i => memB (regL Ls i) (x : Int)) w4) := hid (Tb.ext ⟨HT3.out.bel.trans (hT4.bel.mono HT3.out.bel.size), hT4.blk⟩ (fun i hi => by
      show ((rg.take k).any _ || p1.2 i) = _
      rw [Hmt.out, HF1.out i hi]))
    clear hT4 hg4
    go_wp2
    exact ⟨⟨k + 1, g4, by omega, by go_num, rfl, HT4⟩, by simp [intOf]; omega⟩
  as_aux_lemma =>
  have dk : decide ((k : Int) < (rn : Int)) = false := decide_eq_false (by omega)
  have HTe := hid (HTk.out.ext (f' := fun x => rg.any fun i => memB (regL Ls i) (x : Int)) (fun i hi => by rw [List.take_of_length_le (by omega)]))
  have HS2 := hid (HS.out.below HTe.out.bel)
  have HT := hid HTe.out.blk
  clear HTk HTe HS
  have HPu := hid (mpush_walk mb a G gk (fun x => rg.any fun i => memB (regL Ls i) (x : Int)) wr (HM.out.below HS2.out.bel) HT.out)
  go_wp2_with fail
  refine HPu.out.mono ?_
  rintro e w3 hp
  have hrt := hp.ret
  subst hrt
  have HP := hid hp
  have HR3 : Hid (Blk w3 r 51 (resC 0 false 0)) := hid ((HM.out.below HS2.out.bel).blkT hp.upd HS2.out.res (by decide) (by decide))
  clear hp HPu
  have I0 : Hid ((Try.prog.info? 51).map (·.size) = some (resC 1 false 0).length) := hid info_res
  go_wp2_with (refine wpList_store_blk rfl 51 _ _ rfl r rfl (resC 1 false 0) rfl HR3.out rfl I0.out (res_one _ _ _) ?_; intro w9 HB9 HU9)
  exact bodyPost_ret (results_blk Try.results25 rfl (show AggOf Try.prog 51 (List.length (resC 1 false 0)) from aggRes) HB9.out) rfl (MSt.fin1 HS2.out.bel HP.out HS2.out.low HR3.out HU9.out (post_one rfl (fun _ => HRl.out.ne h0) (fun x hx => by show _ = (famLs Ls rg).any _; unfold famLs; rw [List.any_map]; rfl)))
end Go.Proofs.Qxb6500884a
