/- The model's Step, kind by kind: minterms and blockOf. -/
import Derived.Test.Qxb6500884aClRmB
import Derived.Test.Qxb6500884aClBld
namespace Go.Proofs.Qxb6500884a
open Go.RowKit
set_option linter.unusedSimpArgs false
set_option linter.unusedVariables false

def famG (G : List (Nat × (Nat → Bool))) (ns : List Int) : List (Nat × (Nat → Bool)) := ns.map fun i => G.getD (regIx G.length i) (0, fun _ => false)
theorem famG_at {G : List (Nat × (Nat → Bool))} {i : Int} {p : Nat × (Nat → Bool)} (h : G[regIx G.length i]? = some p) : G.getD (regIx G.length i) (0, fun _ => false) = p := by rw [List.getD_eq_getElem?_getD, h]; rfl
theorem famG_take {G : List (Nat × (Nat → Bool))} {rg : List Int} {k : Nat} {x : Int} {p : Nat × (Nat → Bool)} (h : rg[k]? = some x) (hp : G[regIx G.length x]? = some p) : famG G (rg.take (k + 1)) = famG G (rg.take k) ++ [p] := by
  unfold famG
  rw [List.take_add_one, h, List.map_append]
  congr 1
  show [G.getD (regIx G.length x) (0, fun _ => false)] = [p]
  rw [famG_at hp]
theorem famG_mem {G : List (Nat × (Nat → Bool))} (h0 : 0 < G.length) {ns : List Int} {p : Nat × (Nat → Bool)} (h : p ∈ famG G ns) : p ∈ G := by
  unfold famG at h
  obtain ⟨i, _, rfl⟩ := List.mem_map.1 h
  rw [List.getD_eq_getElem?_getD, List.getElem?_eq_getElem (regIx_lt h0 i)]
  exact List.getElem_mem _
theorem Rel.fam {G : List (Nat × (Nat → Bool))} {Ls : List (List (Int × Int))} (h : Rel (G.map (·.2)) Ls) (h0 : 0 < G.length) (ns : List Int) : Rel ((famG G ns).map (·.2)) (famLs Ls ns) := by
  refine ⟨by unfold famG famLs; simp, fun i f l hf hl x hx => ?_⟩
  unfold famG at hf
  unfold famLs at hl
  rw [List.getElem?_map, List.getElem?_map] at hf
  rw [List.getElem?_map] at hl
  cases hn : ns[i]? with
  | none => rw [hn] at hl; cases hl
  | some j =>
    rw [hn] at hf hl
    obtain ⟨p, hp, hq⟩ := h.reg h0 j
    simp only [Option.map_some] at hf hl
    rw [famG_at hp] at hf
    injection hf with hf
    injection hl with hl
    subst hf
    subst hl
    exact hq x hx
/-- The pushes of the model under way. -/
structure MPL (mb : Nat) (a : Option Addr) (G : List (Nat × (Nat → Bool))) (w : World) (q r : Nat) (Q : List Nat) (F : Nat → Nat → Bool) (pa : Option Addr) (pn pc k : Nat) (a' : Option Addr) (w' : World) : Prop where
  mach : MMach mb a' (((List.range k).map fun b => (Q.getD b 0, F b)).foldl pushG G) w'
  upd : UpdM mb (blkO a) w w'
  ab : blkO a' = blkO a ∨ ∃ g, blkO a' = some g ∧ w.heap.size ≤ g
  fl : Fl w' 35 pa pn pc (Q.map (slV 196608))
  tabs : ∀ b q, Q[b]? = some q → Blk w' q 4 (tabL (F b))
  sep : ∀ g, blkO pa = some g → blkO a' ≠ some g
  res : Blk w' r 51 (resC 0 false 0)
  low : w.heap.size ≤ r
theorem MPL.step {mb : Nat} {a : Option Addr} {G : List (Nat × (Nat → Bool))} {w : World} {q r : Nat} {Q : List Nat} {F : Nat → Nat → Bool} {pa : Option Addr} {pn pc k : Nat} {a' : Option Addr} {w1 w2 : World} {e : Ending} {x : Nat}
    (h : MPL mb a G w q r Q F pa pn pc k a' w1) (hx : Q[k]? = some x) (hp : MPushP mb a' (((List.range k).map fun b => (Q.getD b 0, F b)).foldl pushG G) (x, F k) w1 e w2) : ∃ a2, MPL mb a G w q r Q F pa pn pc (k + 1) a2 w2 := by
  obtain ⟨a2, hm, hab⟩ := hp.out
  have hu := hp.upd
  obtain ⟨c, m1, m2⟩ := h.mach.out
  have e1 : ((List.range (k + 1)).map fun b => (Q.getD b 0, F b)).foldl pushG G = pushG (((List.range k).map fun b => (Q.getD b 0, F b)).foldl pushG G) (x, F k) := by
    rw [List.range_succ, List.map_append, List.foldl_append]
    simp only [List.map_cons, List.map_nil, List.foldl_cons, List.foldl_nil]
    rw [List.getD_eq_getElem?_getD, hx]
    rfl
  refine ⟨a2, by rw [e1]; exact hm, h.upd.trans hu (fun y hy => ?_), ?_, h.fl.of (fun g cs hg hb => ?_), fun b q hq => h.mach.blkT hu (h.tabs b q hq) (by decide) (by decide), fun g hg e2 => ?_, h.mach.blkT hu h.res (by decide) (by decide), h.low⟩
  · rcases h.ab with h1 | ⟨g, h1, h2⟩
    · exact .inl (by rw [← h1]; exact hy)
    · rw [h1] at hy
      cases hy
      exact .inr h2
  · rcases hab with h1 | ⟨g, h1, h2⟩
    · rw [h1]
      exact h.ab
    · exact .inr ⟨g, h1, by have := h.upd.size; omega⟩
  · unfold Blk
    rw [hu.block g hb.lt (fun e => ?_) (h.sep g hg)]
    · exact hb
    · subst e
      exact absurd (hb.inj2 m1).1 (by decide)
  · obtain ⟨cs, hb⟩ := h.fl.ty g hg
    rcases hab with h1 | ⟨g', h1, h2⟩
    · rw [h1] at e2
      exact h.sep g hg e2
    · rw [h1] at e2
      cases e2
      have := hb.lt
      omega
theorem MPL.start {mb : Nat} {a : Option Addr} {G : List (Nat × (Nat → Bool))} {w w5 : World} {q r : Nat} {Q : List Nat} {F : Nat → Nat → Bool} {pa : Option Addr} {pn pc : Nat} {cs : List Value} (hm : MMach mb a G w) (hs : S0 w q r cs w5) (hf : Fl w5 35 pa pn pc (Q.map (slV 196608))) (ht : ∀ b q, Q[b]? = some q → Blk w5 q 4 (tabL (F b))) (hl : ∀ g, blkO pa = some g → w.heap.size ≤ g) : MPL mb a G w q r Q F pa pn pc 0 a w5 := by
  refine ⟨hm.below hs.bel, UpdM.ofBelow hs.bel, .inl rfl, hf, ht, fun g hg e => ?_, hs.res, hs.low⟩
  obtain ⟨c, _, m2⟩ := hm.out
  obtain ⟨ds, hd⟩ := m2.ty g e
  have := hd.lt
  have := hl g hg
  omega
set_option maxRecDepth 100000 in
set_option maxHeartbeats 2000000 in
theorem ms12_walk (mb : Nat) (a : Option Addr) (G : List (Nat × (Nat → Bool))) (oa ob : Int) (ia : Option Addr) (inn ic : Nat) (iv : List (Int × Int)) (ra : Option Addr) (rn rc : Nat) (rg : List Int) (Ls : List (List (Int × Int))) (w : World) (h : MMach mb a G w) (ho : OpOk w ⟨12, oa, ob, ia, inn, ic, iv, ra, rn, rc, rg⟩) (hR : Rel (G.map (·.2)) Ls) (hN : ∀ l ∈ Ls, Nrm l) (h0 : 0 < G.length) (hrn : rn ≤ 65536) :
    Calls Try.prog 25 #[.pointer (some ⟨mb, 0, none⟩), .agg #[.int .i64 12, .int .i64 oa, .int .i64 ob, .slice ia inn ic, .slice ra rn rc]] w fun e w' => MSt mb a G ⟨12, oa, ob, ia, inn, ic, iv, ra, rn, rc, rg⟩ Ls w e w' := by
  have HM := hid h
  have HO := hid ho
  have HRl := hid hR
  have HNl := hid hN
  obtain ⟨q, hq⟩ : ∃ q, w.heap.size = q := ⟨_, rfl⟩
  obtain ⟨r, hr⟩ : ∃ r, q + 1 = r := ⟨_, rfl⟩
  have HS : Hid (S0 w q r [Value.int .i64 12, .int .i64 oa, .int .i64 ob, .slice ia inn ic, .slice ra rn rc] ((w.alloc (.cells #[Value.int .i64 12, .int .i64 oa, .int .i64 ob, .slice ia inn ic, .slice ra rn rc] 28)).alloc (.cells #[.int .i64 0, .bool false, .int .i64 0] 51))) := hid (S0.start w hq hr _)
  clear h ho hR hN
  go_enter Try.func25, Try.ntmps25
  go_upto_region 1 with fail
  generalize (w.alloc (.cells #[Value.int .i64 12, .int .i64 oa, .int .i64 ob, .slice ia inn ic, .slice ra rn rc] 28)).alloc (.cells #[.int .i64 0, .bool false, .int .i64 0] 51) = w1 at HS ⊢
  clear hq hr
  have o0 : w1.cell? ⟨q, 0, none⟩ = some (.int .i64 12) := HS.out.op.cell 0
  have o1 : w1.cell? ⟨q, 1, none⟩ = some (.int .i64 oa) := HS.out.op.cell 1
  have o2 : w1.cell? ⟨q, 2, none⟩ = some (.int .i64 ob) := HS.out.op.cell 2
  have o3 : w1.cell? ⟨q, 3, none⟩ = some (.slice ia inn ic) := HS.out.op.cell 3
  have o4 : w1.cell? ⟨q, 4, none⟩ = some (.slice ra rn rc) := HS.out.op.cell 4
  obtain ⟨N, hNN⟩ : ∃ N, G.length = N := ⟨_, rfl⟩
  obtain ⟨mc, hmc, _⟩ := (HM.out.below HS.out.bel).out
  rw [hNN] at hmc
  have cm : w1.cell? ⟨mb, 0, none⟩ = some (.slice a N mc) := hmc.cell 0
  have dN : ((N : Int) == 0) = false := by rw [beq_eq_false_iff_ne]; omega
  clear hNN hmc
  have q12 : ((12 : Int) == 12) = true := rfl
  obtain ⟨i0, hi, hz0, hz1, hz2⟩ := info_set
  have HI := hid (And.intro hi (And.intro hz0 (And.intro hz1 hz2)))
  clear hi hz0 hz1 hz2
  obtain ⟨g0, hg0⟩ : ∃ g0, w1.heap.size = g0 := ⟨_, rfl⟩
  have HS1 : Hid (S0 w q r [Value.int .i64 12, .int .i64 oa, .int .i64 ob, .slice ia inn ic, .slice ra rn rc] (w1.alloc (.cells #[] 35)) ∧ Fl (w1.alloc (.cells #[] 35)) 35 (some ⟨g0, 0, none⟩) 0 0 [] ∧ w1.heap.size ≤ g0) := hid ⟨HS.out.below (nbel w1 _), by
    have hb := Blk.new w1 [] 35
    rw [hg0] at hb
    exact Fl.made hb rfl (by unfold maxLen; omega), by omega⟩
  have o4b : (w1.alloc (.cells #[] 35)).cell? ⟨q, 4, none⟩ = some (.slice ra rn rc) := HS1.out.1.op.cell 4
  go_upto_region 32 with fail
  generalize w1.alloc (.cells #[] 35) = w2 at HS1 o4b ⊢
  clear o0 o1 o2 o3 o4 o4b cm dN hg0
  go_loopw [8, 112] (fun v i wr => ∃ (k : Nat) (fa : Option Addr) (fc : Nat), k ≤ rn ∧ i = .int .i64 k ∧ v = .slice fa k fc ∧ Hid (S0 w q r [Value.int .i64 12, .int .i64 oa, .int .i64 ob, .slice ia inn ic, .slice ra rn rc] wr ∧ Fl wr 35 fa k fc ((famG G (rg.take k)).map stV) ∧ ∀ g, blkO fa = some g → w.heap.size ≤ g)) (fun _ i _ => rn - (intOf i).toNat)
  case atStart => exact ⟨0, some ⟨g0, 0, none⟩, 0, Nat.zero_le _, rfl, rfl, hid ⟨HS1.out.1, HS1.out.2.1, fun g hg => by have hgg : g0 = g := Option.some.inj hg; have := HS.out.bel.size; have := HS1.out.2.2; omega⟩⟩
  case round =>
  clear HS1 HS
  obtain ⟨k, fa, fc, hk, rfl, rfl, HX⟩ := hrel
  have hrl := HO.out.rg.len
  dsimp only at hrl
  by_cases hlt : k < rn
  · as_aux_lemma =>
    have dk : decide ((k : Int) < (rn : Int)) = true := decide_eq_true (by omega)
    have ik : (k : Int) < (rn : Int) := by omega
    obtain ⟨x, hx, fx, b, off, hra, hb, e1⟩ := InRow.get (HO.out.below HX.out.1.bel).rg (k := k) hlt
    dsimp only at hx hra
    subst hra
    obtain ⟨p1, hp1, _⟩ := HRl.out.reg h0 x
    have HRg := hid (mreg_walk mb a G x p1 wr (HM.out.below HX.out.1.bel) fx h0 hp1)
    have HTk := hid (famG_take hx hp1)
    clear hx hb hp1
    go_wp2_with fail
    refine HRg.out.mono ?_
    rintro e w3 ⟨rfl, hb3⟩
    have HX3 : Hid (S0 w q r [Value.int .i64 12, .int .i64 oa, .int .i64 ob, .slice ia inn ic, .slice (some ⟨b, off, none⟩) rn rc] w3 ∧ Fl w3 35 fa k fc ((famG G (rg.take k)).map stV) ∧ ∀ g, blkO fa = some g → w.heap.size ≤ g) := hid ⟨HX.out.1.below hb3, HX.out.2.1.below hb3, HX.out.2.2⟩
    clear hb3 e1 HRg HX
    obtain ⟨g5, hg5⟩ : ∃ g5, w3.heap.size = g5 := ⟨_, rfl⟩
    have HF5 : Hid (Fl (w3.alloc (.cells #[.slice (some ⟨p1.1, 0, none⟩) 196608 196608] 35)) 35 fa k fc ((famG G (rg.take k)).map stV)) := hid (HX3.out.2.1.below (nbel w3 _))
    have HS5 : Hid (S0 w q r [Value.int .i64 12, .int .i64 oa, .int .i64 ob, .slice ia inn ic, .slice (some ⟨b, off, none⟩) rn rc] (w3.alloc (.cells #[.slice (some ⟨p1.1, 0, none⟩) 196608 196608] 35))) := hid (HX3.out.1.below (nbel w3 _))
    have Hcg : Hid ((w3.alloc (.cells #[.slice (some ⟨p1.1, 0, none⟩) 196608 196608] 35)).cell? ⟨g5, 0, none⟩ = some (.slice (some ⟨p1.1, 0, none⟩) 196608 196608)) := hid (by
      have hb := Blk.new w3 [.slice (some ⟨p1.1, 0, none⟩) 196608 196608] 35
      rw [hg5] at hb
      exact hb.cell 0)
    have hby : (k + 1) * 24 ≤ 140737488355328 := by omega
    have HFin : Hid (∀ (a6 : Option Addr) (c6 : Nat) (w6 : World), Fl w6 35 a6 (k + 1) c6 ((famG G (rg.take k)).map stV ++ [.slice (some ⟨p1.1, 0, none⟩) 196608 196608]) → UpdO (blkO fa) (w3.alloc (.cells #[.slice (some ⟨p1.1, 0, none⟩) 196608 196608] 35)) w6 → (blkO a6 = blkO fa ∨ blkO a6 = some (w3.alloc (.cells #[.slice (some ⟨p1.1, 0, none⟩) 196608 196608] 35)).heap.size) → Hid (S0 w q r [Value.int .i64 12, .int .i64 oa, .int .i64 ob, .slice ia inn ic, .slice (some ⟨b, off, none⟩) rn rc] w6 ∧ Fl w6 35 a6 (k + 1) c6 ((famG G (rg.take (k + 1))).map stV) ∧ ∀ g, blkO a6 = some g → w.heap.size ≤ g)) := hid (fun a6 c6 w6 hf hu hb => by
      have hut : UT (ofT 35) _ w6 := UT.updO hu HF5.out.ty
      refine hid ⟨⟨HS5.out.bel.trans (hu.below HS5.out.bel.size HX3.out.2.2), HS5.out.op.ut hut (notT (by decide)), HS5.out.res.ut hut (notT (by decide)), HS5.out.low⟩, by rw [HTk.out, List.map_append]; exact hf, fun g hg => ?_⟩
      rcases hb with h1 | h1
      · exact HX3.out.2.2 g (by rw [← h1]; exact hg)
      · rw [h1] at hg
        cases hg
        exact HS5.out.bel.size)
    clear HX3 HS5
    go_wp2_with (at_builtin; refine wpList_append_file rfl (.tmp 116) (.tmp 120) 57 rfl 35 i0 (.slice none 0 0) 24 Try.underlying57 HI.out.1 HI.out.2.1 HI.out.2.2.1 HI.out.2.2.2 rfl fa k fc _ rfl HF5.out g5 1 (.slice (some ⟨p1.1, 0, none⟩) 196608 196608) rfl Hcg.out rfl hby (by decide) ?_; intro a6 c6 w6 hf6 hu6 hb6 hn6; have HX6 := HFin.out a6 c6 w6 hf6 hu6 hb6; clear hf6 hu6 hb6 hn6)
    exact ⟨⟨k + 1, a6, c6, by omega, by go_num, by go_num, HX6⟩, by simp [intOf]; omega⟩
  as_aux_lemma =>
  have dk : decide ((k : Int) < (rn : Int)) = false := decide_eq_false (by omega)
  have hkr : k = rn := by omega
  subst hkr
  have HXf : Hid (S0 w q r [Value.int .i64 12, .int .i64 oa, .int .i64 ob, .slice ia inn ic, .slice ra k rc] wr ∧ Fl wr 35 fa k fc ((famG G rg).map stV)) := hid ⟨HX.out.1, by have h := HX.out.2.1; rw [List.take_of_length_le (by omega)] at h; exact h⟩
  have HMi := hid (mmint_walk fa k fc (famG G rg) wr HXf.out.2 (fun p hp => (HM.out.tabs p (famG_mem h0 hp)).below HXf.out.1.bel) hrn)
  have HGf := hid (HRl.out.fam h0 rg)
  have Hws := hid HXf.out.1.bel.size
  clear HX
  go_wp2_with fail
  refine HMi.out.mono ?_
  rintro e w5 hmp
  obtain ⟨pa, pc, Q, rfl, hfl, htb, hql, hlo⟩ := hmp.out
  have HS5 := hid (HXf.out.1.below hmp.bel)
  have HB5 := hid hmp.bel
  obtain ⟨pn, hpn⟩ : ∃ pn, Q.length = pn := ⟨_, rfl⟩
  rw [hpn] at hfl hql ⊢
  have HPt := hid (And.intro hfl (And.intro htb (And.intro hql hlo)))
  have Hpn := hid hpn
  have hpl : pn ≤ 196608 := by rw [hql]; exact mpats_len _ _
  clear hmp hfl htb hql hlo hpn HMi dk HXf
  have o0 : w5.cell? ⟨q, 0, none⟩ = some (.int .i64 12) := HS5.out.op.cell 0
  have o2 : w5.cell? ⟨q, 2, none⟩ = some (.int .i64 ob) := HS5.out.op.cell 2
  have HPL0 : Hid (MPL mb a G w q r Q (FM (patM (famG G rg)) 196608) pa pn pc 0 a w5) := hid (MPL.start HM.out HS5.out HPt.out.1 HPt.out.2.1 (fun g hg => by have h1 := HPt.out.2.2.2 g hg; have h2 := Hws.out; omega))
  go_upto_region 39 with fail
  clear o0 o2
  go_loopw [130] (fun i wr => ∃ (k2 : Nat) (a' : Option Addr), k2 ≤ pn ∧ i = .int .i64 k2 ∧ Hid (MPL mb a G w q r Q (FM (patM (famG G rg)) 196608) pa pn pc k2 a' wr)) (fun i _ => pn - (intOf i).toNat)
  case atStart => exact ⟨0, a, Nat.zero_le _, rfl, HPL0⟩
  case round =>
  clear HPL0
  obtain ⟨k2, a', hk2, rfl, HPL⟩ := hrel
  by_cases hlt2 : k2 < pn
  · as_aux_lemma =>
    have dk : decide ((k2 : Int) < (pn : Int)) = true := decide_eq_true (by omega)
    have ik : (k2 : Int) < (pn : Int) := by omega
    obtain ⟨x, hx⟩ : ∃ x, Q[k2]? = some x := ⟨Q[k2]'(by rw [Hpn.out]; exact hlt2), List.getElem?_eq_getElem _⟩
    obtain ⟨gp, op, hpa, cp⟩ := HPL.out.fl.cell hlt2
    subst hpa
    have cp' : wr.cell? ⟨gp, op + k2, none⟩ = some (.slice (some ⟨x, 0, none⟩) 196608 196608) := by rw [cp, List.getElem?_map, hx]; rfl
    have HPu := hid (mpush_walk mb a' _ x _ wr HPL.out.mach (HPL.out.tabs k2 x hx))
    have Hx := hid hx
    clear cp hx
    go_wp2_with fail
    refine HPu.out.mono ?_
    rintro e w6 hp
    have hrt := hp.ret
    subst hrt
    obtain ⟨a2, h2⟩ := HPL.out.step Hx.out hp
    have HP2 := hid h2
    clear h2 hp HPu
    go_wp2
    exact ⟨⟨k2 + 1, a2, by omega, by go_num, HP2⟩, by simp [intOf]; omega⟩
  as_aux_lemma =>
  have dk : decide ((k2 : Int) < (pn : Int)) = false := decide_eq_false (by omega)
  have hkp : k2 = pn := by omega
  subst hkp
  have HR9 := hid HPL.out.res
  have I0 : Hid ((Try.prog.info? 51).map (·.size) = some (resC (k2 : Int) false 0).length) := hid info_res
  go_wp2_with (refine wpList_store_blk rfl 51 _ _ rfl r rfl (resC (k2 : Int) false 0) rfl HR9.out rfl I0.out (res_one _ _ _) ?_; intro w9 HB9 HU9)
  exact bodyPost_ret (results_blk Try.results25 rfl (show AggOf Try.prog 51 (List.length (resC (k2 : Int) false 0)) from aggRes) HB9.out) rfl (⟨⟨_, (List.range k2).map fun b => (Q.getD b 0, FM (patM (famG G rg)) 196608 b), a', rfl, HPL.out.mach.res HR9.out HU9.out, by rw [List.map_map]; exact post_many rfl (HRl.out.ne h0) HGf.out HPt.out.2.2.1.symm, HPL.out.ab⟩, HPL.out.upd.own HU9.out HPL.out.low⟩)
set_option maxRecDepth 100000 in
set_option maxHeartbeats 2000000 in
theorem ms22_walk (mb : Nat) (a : Option Addr) (G : List (Nat × (Nat → Bool))) (oa ob : Int) (ia : Option Addr) (inn ic : Nat) (iv : List (Int × Int)) (ra : Option Addr) (rn rc : Nat) (rg : List Int) (Ls : List (List (Int × Int))) (w : World) (h : MMach mb a G w) (ho : OpOk w ⟨22, oa, ob, ia, inn, ic, iv, ra, rn, rc, rg⟩) (hR : Rel (G.map (·.2)) Ls) (hN : ∀ l ∈ Ls, Nrm l) (h0 : 0 < G.length) (hrn : rn ≤ 65536) :
    Calls Try.prog 25 #[.pointer (some ⟨mb, 0, none⟩), .agg #[.int .i64 22, .int .i64 oa, .int .i64 ob, .slice ia inn ic, .slice ra rn rc]] w fun e w' => MSt mb a G ⟨22, oa, ob, ia, inn, ic, iv, ra, rn, rc, rg⟩ Ls w e w' := by
  have HM := hid h
  have HO := hid ho
  have HRl := hid hR
  have HNl := hid hN
  obtain ⟨q, hq⟩ : ∃ q, w.heap.size = q := ⟨_, rfl⟩
  obtain ⟨r, hr⟩ : ∃ r, q + 1 = r := ⟨_, rfl⟩
  have HS : Hid (S0 w q r [Value.int .i64 22, .int .i64 oa, .int .i64 ob, .slice ia inn ic, .slice ra rn rc] ((w.alloc (.cells #[Value.int .i64 22, .int .i64 oa, .int .i64 ob, .slice ia inn ic, .slice ra rn rc] 28)).alloc (.cells #[.int .i64 0, .bool false, .int .i64 0] 51))) := hid (S0.start w hq hr _)
  clear h ho hR hN
  go_enter Try.func25, Try.ntmps25
  go_upto_region 1 with fail
  generalize (w.alloc (.cells #[Value.int .i64 22, .int .i64 oa, .int .i64 ob, .slice ia inn ic, .slice ra rn rc] 28)).alloc (.cells #[.int .i64 0, .bool false, .int .i64 0] 51) = w1 at HS ⊢
  clear hq hr
  have o0 : w1.cell? ⟨q, 0, none⟩ = some (.int .i64 22) := HS.out.op.cell 0
  have o1 : w1.cell? ⟨q, 1, none⟩ = some (.int .i64 oa) := HS.out.op.cell 1
  have o2 : w1.cell? ⟨q, 2, none⟩ = some (.int .i64 ob) := HS.out.op.cell 2
  have o3 : w1.cell? ⟨q, 3, none⟩ = some (.slice ia inn ic) := HS.out.op.cell 3
  have o4 : w1.cell? ⟨q, 4, none⟩ = some (.slice ra rn rc) := HS.out.op.cell 4
  obtain ⟨N, hNN⟩ : ∃ N, G.length = N := ⟨_, rfl⟩
  obtain ⟨mc, hmc, _⟩ := (HM.out.below HS.out.bel).out
  rw [hNN] at hmc
  have cm : w1.cell? ⟨mb, 0, none⟩ = some (.slice a N mc) := hmc.cell 0
  have dN : ((N : Int) == 0) = false := by rw [beq_eq_false_iff_ne]; omega
  clear hNN hmc
  have q12 : ((22 : Int) == 22) = true := rfl
  obtain ⟨i0, hi, hz0, hz1, hz2⟩ := info_set
  have HI := hid (And.intro hi (And.intro hz0 (And.intro hz1 hz2)))
  clear hi hz0 hz1 hz2
  obtain ⟨g0, hg0⟩ : ∃ g0, w1.heap.size = g0 := ⟨_, rfl⟩
  have HS1 : Hid (S0 w q r [Value.int .i64 22, .int .i64 oa, .int .i64 ob, .slice ia inn ic, .slice ra rn rc] (w1.alloc (.cells #[] 35)) ∧ Fl (w1.alloc (.cells #[] 35)) 35 (some ⟨g0, 0, none⟩) 0 0 [] ∧ w1.heap.size ≤ g0) := hid ⟨HS.out.below (nbel w1 _), by
    have hb := Blk.new w1 [] 35
    rw [hg0] at hb
    exact Fl.made hb rfl (by unfold maxLen; omega), by omega⟩
  have o4b : (w1.alloc (.cells #[] 35)).cell? ⟨q, 4, none⟩ = some (.slice ra rn rc) := HS1.out.1.op.cell 4
  go_upto_region 32 with fail
  generalize w1.alloc (.cells #[] 35) = w2 at HS1 o4b ⊢
  clear o0 o1 o2 o3 o4 o4b cm dN hg0
  go_loopw [8, 112] (fun v i wr => ∃ (k : Nat) (fa : Option Addr) (fc : Nat), k ≤ rn ∧ i = .int .i64 k ∧ v = .slice fa k fc ∧ Hid (S0 w q r [Value.int .i64 22, .int .i64 oa, .int .i64 ob, .slice ia inn ic, .slice ra rn rc] wr ∧ Fl wr 35 fa k fc ((famG G (rg.take k)).map stV) ∧ ∀ g, blkO fa = some g → w.heap.size ≤ g)) (fun _ i _ => rn - (intOf i).toNat)
  case atStart => exact ⟨0, some ⟨g0, 0, none⟩, 0, Nat.zero_le _, rfl, rfl, hid ⟨HS1.out.1, HS1.out.2.1, fun g hg => by have hgg : g0 = g := Option.some.inj hg; have := HS.out.bel.size; have := HS1.out.2.2; omega⟩⟩
  case round =>
  clear HS1 HS
  obtain ⟨k, fa, fc, hk, rfl, rfl, HX⟩ := hrel
  have hrl := HO.out.rg.len
  dsimp only at hrl
  by_cases hlt : k < rn
  · as_aux_lemma =>
    have dk : decide ((k : Int) < (rn : Int)) = true := decide_eq_true (by omega)
    have ik : (k : Int) < (rn : Int) := by omega
    obtain ⟨x, hx, fx, b, off, hra, hb, e1⟩ := InRow.get (HO.out.below HX.out.1.bel).rg (k := k) hlt
    dsimp only at hx hra
    subst hra
    obtain ⟨p1, hp1, _⟩ := HRl.out.reg h0 x
    have HRg := hid (mreg_walk mb a G x p1 wr (HM.out.below HX.out.1.bel) fx h0 hp1)
    have HTk := hid (famG_take hx hp1)
    clear hx hb hp1
    go_wp2_with fail
    refine HRg.out.mono ?_
    rintro e w3 ⟨rfl, hb3⟩
    have HX3 : Hid (S0 w q r [Value.int .i64 22, .int .i64 oa, .int .i64 ob, .slice ia inn ic, .slice (some ⟨b, off, none⟩) rn rc] w3 ∧ Fl w3 35 fa k fc ((famG G (rg.take k)).map stV) ∧ ∀ g, blkO fa = some g → w.heap.size ≤ g) := hid ⟨HX.out.1.below hb3, HX.out.2.1.below hb3, HX.out.2.2⟩
    clear hb3 e1 HRg HX
    obtain ⟨g5, hg5⟩ : ∃ g5, w3.heap.size = g5 := ⟨_, rfl⟩
    have HF5 : Hid (Fl (w3.alloc (.cells #[.slice (some ⟨p1.1, 0, none⟩) 196608 196608] 35)) 35 fa k fc ((famG G (rg.take k)).map stV)) := hid (HX3.out.2.1.below (nbel w3 _))
    have HS5 : Hid (S0 w q r [Value.int .i64 22, .int .i64 oa, .int .i64 ob, .slice ia inn ic, .slice (some ⟨b, off, none⟩) rn rc] (w3.alloc (.cells #[.slice (some ⟨p1.1, 0, none⟩) 196608 196608] 35))) := hid (HX3.out.1.below (nbel w3 _))
    have Hcg : Hid ((w3.alloc (.cells #[.slice (some ⟨p1.1, 0, none⟩) 196608 196608] 35)).cell? ⟨g5, 0, none⟩ = some (.slice (some ⟨p1.1, 0, none⟩) 196608 196608)) := hid (by
      have hb := Blk.new w3 [.slice (some ⟨p1.1, 0, none⟩) 196608 196608] 35
      rw [hg5] at hb
      exact hb.cell 0)
    have hby : (k + 1) * 24 ≤ 140737488355328 := by omega
    have HFin : Hid (∀ (a6 : Option Addr) (c6 : Nat) (w6 : World), Fl w6 35 a6 (k + 1) c6 ((famG G (rg.take k)).map stV ++ [.slice (some ⟨p1.1, 0, none⟩) 196608 196608]) → UpdO (blkO fa) (w3.alloc (.cells #[.slice (some ⟨p1.1, 0, none⟩) 196608 196608] 35)) w6 → (blkO a6 = blkO fa ∨ blkO a6 = some (w3.alloc (.cells #[.slice (some ⟨p1.1, 0, none⟩) 196608 196608] 35)).heap.size) → Hid (S0 w q r [Value.int .i64 22, .int .i64 oa, .int .i64 ob, .slice ia inn ic, .slice (some ⟨b, off, none⟩) rn rc] w6 ∧ Fl w6 35 a6 (k + 1) c6 ((famG G (rg.take (k + 1))).map stV) ∧ ∀ g, blkO a6 = some g → w.heap.size ≤ g)) := hid (fun a6 c6 w6 hf hu hb => by
      have hut : UT (ofT 35) _ w6 := UT.updO hu HF5.out.ty
      refine hid ⟨⟨HS5.out.bel.trans (hu.below HS5.out.bel.size HX3.out.2.2), HS5.out.op.ut hut (notT (by decide)), HS5.out.res.ut hut (notT (by decide)), HS5.out.low⟩, by rw [HTk.out, List.map_append]; exact hf, fun g hg => ?_⟩
      rcases hb with h1 | h1
      · exact HX3.out.2.2 g (by rw [← h1]; exact hg)
      · rw [h1] at hg
        cases hg
        exact HS5.out.bel.size)
    clear HX3 HS5
    go_wp2_with (at_builtin; refine wpList_append_file rfl (.tmp 116) (.tmp 120) 57 rfl 35 i0 (.slice none 0 0) 24 Try.underlying57 HI.out.1 HI.out.2.1 HI.out.2.2.1 HI.out.2.2.2 rfl fa k fc _ rfl HF5.out g5 1 (.slice (some ⟨p1.1, 0, none⟩) 196608 196608) rfl Hcg.out rfl hby (by decide) ?_; intro a6 c6 w6 hf6 hu6 hb6 hn6; have HX6 := HFin.out a6 c6 w6 hf6 hu6 hb6; clear hf6 hu6 hb6 hn6)
    exact ⟨⟨k + 1, a6, c6, by omega, by go_num, by go_num, HX6⟩, by simp [intOf]; omega⟩
  as_aux_lemma =>
  have dk : decide ((k : Int) < (rn : Int)) = false := decide_eq_false (by omega)
  have hkr : k = rn := by omega
  subst hkr
  have HXf : Hid (S0 w q r [Value.int .i64 22, .int .i64 oa, .int .i64 ob, .slice ia inn ic, .slice ra k rc] wr ∧ Fl wr 35 fa k fc ((famG G rg).map stV)) := hid ⟨HX.out.1, by have h := HX.out.2.1; rw [List.take_of_length_le (by omega)] at h; exact h⟩
  have HMi := hid (mmint_walk fa k fc (famG G rg) wr HXf.out.2 (fun p hp => (HM.out.tabs p (famG_mem h0 hp)).below HXf.out.1.bel) hrn)
  have HGf := hid (HRl.out.fam h0 rg)
  have Hws := hid HXf.out.1.bel.size
  clear HX
  go_wp2_with fail
  refine HMi.out.mono ?_
  rintro e w5 hmp
  obtain ⟨pa, pc, Q, rfl, hfl, htb, hql, hlo⟩ := hmp.out
  have HS5 := hid (HXf.out.1.below hmp.bel)
  have HB5 := hid hmp.bel
  obtain ⟨pn, hpn⟩ : ∃ pn, Q.length = pn := ⟨_, rfl⟩
  rw [hpn] at hfl hql ⊢
  have HPt := hid (And.intro hfl (And.intro htb (And.intro hql hlo)))
  have Hpn := hid hpn
  have hpl : pn ≤ 196608 := by rw [hql]; exact mpats_len _ _
  clear hmp hfl htb hql hlo hpn HMi dk HXf
  have o0 : w5.cell? ⟨q, 0, none⟩ = some (.int .i64 22) := HS5.out.op.cell 0
  have o2 : w5.cell? ⟨q, 2, none⟩ = some (.int .i64 ob) := HS5.out.op.cell 2
  go_upto_region 45 with fail
  clear o0 o2
  go_loopw [143] (fun i wr => wr = w5 ∧ ∃ (k2 : Nat), k2 ≤ pn ∧ i = .int .i64 k2 ∧ Hid (∀ (b x : Nat), b < k2 → x < 196608 → ob = (x : Int) → FM (patM (famG G rg)) 196608 b x = false)) (fun i _ => pn - (intOf i).toNat)
  case atStart => exact ⟨rfl, 0, Nat.zero_le _, rfl, hid (fun b x hb => by omega)⟩
  case round =>
  obtain ⟨hwr, k2, hk2, rfl, HE⟩ := hrel
  have hwr' := hwr.symm
  clear hwr
  subst hwr'
  have o2 : w5.cell? ⟨q, 2, none⟩ = some (.int .i64 ob) := HS5.out.op.cell 2
  have HS2 := HS5
  by_cases hlt2 : k2 < pn
  · as_aux_lemma =>
    have dk : decide ((k2 : Int) < (pn : Int)) = true := decide_eq_true (by omega)
    have ik : (k2 : Int) < (pn : Int) := by omega
    obtain ⟨x, hx⟩ : ∃ x, Q[k2]? = some x := ⟨Q[k2]'(by rw [Hpn.out]; exact hlt2), List.getElem?_eq_getElem _⟩
    obtain ⟨gp, op, hpa, cp⟩ := HPt.out.1.cell hlt2
    subst hpa
    have cp' : w5.cell? ⟨gp, op + k2, none⟩ = some (.slice (some ⟨x, 0, none⟩) 196608 196608) := by rw [cp, List.getElem?_map, hx]; rfl
    have Hx := hid hx
    clear cp hx
    by_cases hin : 0 ≤ ob ∧ ob ≤ 196607
    · as_aux_lemma =>
      obtain ⟨y, hy⟩ : ∃ y : Nat, ob = (y : Int) := ⟨ob.toNat, by omega⟩
      subst hy
      have hyl : y < 196608 := by omega
      have iy : (y : Int) < 196608 := by omega
      have d1 : decide (0 ≤ (y : Int)) = true := decide_eq_true (by omega)
      have d2 : decide ((y : Int) ≤ 196607) = true := decide_eq_true (by omega)
      obtain ⟨B, hB⟩ : ∃ B, FM (patM (famG G rg)) 196608 k2 y = B := ⟨_, rfl⟩
      have cx : w5.cell? ⟨x, y, none⟩ = some (.bool B) := by rw [(HPt.out.2.1 k2 x Hx.out).cell, tabL_get _ hyl, hB]
      have HBv := hid hB
      clear hB
      cases B with
      | true =>
        have I0 : Hid ((Try.prog.info? 51).map (·.size) = some (resC 0 true (k2 : Int)).length) := hid info_res
        go_wp2_with (refine wpList_store_blk rfl 51 _ _ rfl r rfl (resC 0 true (k2 : Int)) rfl HS2.out.res rfl I0.out (res_one _ _ _) ?_; intro w9 HB9 HU9)
        exact bodyPost_ret (results_blk Try.results25 rfl (show AggOf Try.prog 51 (List.length (resC 0 true (k2 : Int))) from aggRes) HB9.out) rfl (MSt.fin0 HM.out (HS2.out.bel.trans (HU9.out.below HS2.out.low HS2.out.bel.size)) (post_idx rfl (HRl.out.ne h0) HGf.out (.inl ⟨k2, y, by rw [← HPt.out.2.2.1]; exact hlt2, hyl, rfl, HBv.out, rfl⟩)))
      | false =>
        have HE2 : Hid (∀ (b x : Nat), b < k2 + 1 → x < 196608 → (y : Int) = (x : Int) → FM (patM (famG G rg)) 196608 b x = false) := hid (fun b z hb hz e => by
          by_cases e2 : b = k2
          · have : z = y := by omega
            rw [e2, this]
            exact HBv.out
          · exact HE.out b z (by omega) hz e)
        go_wp2
        exact ⟨⟨trivial, k2 + 1, by omega, by go_num, HE2⟩, by simp [intOf]; omega⟩
    as_aux_lemma =>
    have HE2 : Hid (∀ (b x : Nat), b < k2 + 1 → x < 196608 → ob = (x : Int) → FM (patM (famG G rg)) 196608 b x = false) := hid (fun b z hb hz e => absurd ⟨by omega, by omega⟩ hin)
    by_cases h1 : 0 ≤ ob
    · as_aux_lemma =>
      have d1 : decide (0 ≤ ob) = true := decide_eq_true h1
      have d2 : decide (ob ≤ 196607) = false := decide_eq_false (by omega)
      go_wp2
      exact ⟨⟨trivial, k2 + 1, by omega, by go_num, HE2⟩, by simp [intOf]; omega⟩
    · as_aux_lemma =>
      have d1 : decide (0 ≤ ob) = false := decide_eq_false h1
      go_wp2
      exact ⟨⟨trivial, k2 + 1, by omega, by go_num, HE2⟩, by simp [intOf]; omega⟩
  as_aux_lemma =>
  have dk : decide ((k2 : Int) < (pn : Int)) = false := decide_eq_false (by omega)
  have I0 : Hid ((Try.prog.info? 51).map (·.size) = some (resC 0 false 0).length) := hid info_res
  go_wp2_with (refine wpList_store_blk rfl 51 _ _ rfl r rfl (resC 0 false 0) rfl HS2.out.res rfl I0.out (res_one _ _ _) ?_; intro w9 HB9 HU9)
  exact bodyPost_ret (results_blk Try.results25 rfl (show AggOf Try.prog 51 (List.length (resC 0 false 0)) from aggRes) HB9.out) rfl (MSt.fin0 HM.out (HS2.out.bel.trans (HU9.out.below HS2.out.low HS2.out.bel.size)) (post_idx rfl (HRl.out.ne h0) HGf.out (.inr ⟨rfl, fun b x hb hx e => HE.out b x (by rw [← HPt.out.2.2.1] at hb; omega) hx e⟩)))
end Go.Proofs.Qxb6500884a
