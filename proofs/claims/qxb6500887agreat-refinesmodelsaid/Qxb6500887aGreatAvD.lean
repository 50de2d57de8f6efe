/- RefinesModel: the walk. -/
import Derived.Test.Qxb6500887aGreatAvC
import Derived.Test.Qxb6500887aGreatAzIb
import Derived.Test.Qxb6500887aGreatAzPc
import Derived.Test.Qxb6500887aGreatTree
import Derived.Deep.DeepCutAuto
namespace Go.Proofs.Qxb6500887aGreat
open Go.RowKit
set_option linter.unusedSimpArgs false
set_option linter.unusedVariables false
section
variable {w0 w w' : World} {l : AL} {lm : ML} {S S' : AS} {E E' : ES} {p : Nat} {oc : List Value}
/-- Arena and model side by side. -/
structure RfB (w0 : World) (l : AL) (lm : ML) (S : AS) (E : ES) (w : World) : Prop where
  ls : LS w0 l S w
  mm : MM lm E w
  ab : lm.above w0.heap.size
  dj : ∀ g ∈ l.all, g ∉ lm.all
theorem RfB.below (h : RfB w0 l lm S E w) (hb : Below w.heap.size w w') : RfB w0 l lm S E w' := ⟨h.ls.below hb, h.mm.below hb, h.ab, h.dj⟩
/-- And the step at hand. -/
structure RfO (w0 : World) (l : AL) (lm : ML) (S : AS) (E : ES) (p : Nat) (oc : List Value) (w : World) : Prop where
  rb : RfB w0 l lm S E w
  op : Blk w p 31 oc
  pa : p ∉ l.all ∧ p ∉ lm.all
theorem RfO.below (h : RfO w0 l lm S E p oc w) (hb : Below w.heap.size w w') : RfO w0 l lm S E p oc w' := ⟨h.rb.below hb, h.op.below hb, h.pa⟩
theorem RfO.start (h : RfB w0 l lm S E w) (hp : w.heap.size = p) : RfO w0 l lm S E p oc (w.alloc (.cells oc.toArray 31)) := by
  have kk := Blk.new w oc 31
  rw [hp] at kk
  refine ⟨h.below (nbel w _), kk, fun hm => ?_, fun hm => ?_⟩
  · have := h.ls.am.lts p hm; omega
  · have := h.mm.lts p hm; omega
theorem RfO.play (h : RfO w0 l lm S E p oc w) (hu : AU l w S' w') : RfO w0 l lm S' E p oc w' :=
  ⟨⟨h.rb.ls.step hu, h.rb.mm.of (fun g hg hlt => hu.u.block g hlt (fun hw => h.rb.dj g (AL.wr_all hw) hg)), h.rb.ab, h.rb.dj⟩, hu.u.blk h.op (fun hw => h.pa.1 (AL.wr_all hw)), h.pa⟩
theorem RfO.stepM (h : RfO w0 l lm S E p oc w) (hr : MR w lm E' w') : ∃ lm' : ML, lm'.m = lm.m ∧ RfO w0 l lm' S E' p oc w' := by
  obtain ⟨l', h1, h2, h3, h4⟩ := hr
  refine ⟨l', h1, ⟨⟨⟨h.rb.ls.am.of (fun g hg hlt => h3.block g hlt (fun hw => h.rb.dj g hg hw)), h.rb.ls.bel.trans (h3.below h.rb.ls.bel.size h.rb.ab), h.rb.ls.ab⟩, h2, fun g hg => ?_, fun g hg hg2 => ?_⟩, h3.blk h.op h.pa.2, h.pa.1, fun hm => ?_⟩⟩
  · rcases h4 g hg with c | c
    · exact h.rb.ab g c
    · have := h.rb.ls.bel.size; omega
  · rcases h4 g hg2 with c | c
    · exact h.rb.dj g hg c
    · have := h.rb.ls.am.lts g hg; omega
  · rcases h4 p hm with c | c
    · exact h.pa.2 c
    · have := h.op.lt; omega
theorem RfB.agr (h : RfB w0 l lm S E w) (ha : Agr E (abE S)) : RfB w0 l lm S (abE S) w := ⟨h.ls, h.mm.agr ha h.ls.am.wl (abE_C S) (abE_T S), h.ab, h.dj⟩
theorem agr0 : Agr E0 (abE S0) := by
  have hz : ∀ wd per i, eN wd per z0 i = 0 := fun wd per i => eN_z0 wd per i
  refine ⟨fun _ _ => rfl, fun i _ => (hz 2 32 i).symm, fun i _ => ?_, fun i _ => ?_, fun i _ => (hz 4 16 i).symm, rfl⟩
  · show false = !(eN 1 64 z0 i == 0)
    rw [hz]; rfl
  · show false = !(eN 1 64 z0 i == 0)
    rw [hz]; rfl
end
set_option maxRecDepth 1000000 in
set_option maxHeartbeats 8000000 in
theorem refinesLaw_walk (a : Option Addr) (n c : Nat) (l : List AOp) (w : World) (hs : Script w a n c l) :
    Calls Tryz.prog 3 #[.slice a n c] w fun e w' => e = .returned (.bool true) ∧ Below w.heap.size w w' := by
  have hn := hs.1.2.2.1.1
  have HS := hid hs
  clear hs
  by_cases hsm : n ≤ 65536
  rotate_left
  · have hd : decide (n ≤ 65536) = false := decide_eq_false hsm
    go_enter Tryz.func3, Tryz.ntmps3
    go_wp2_with (go_at_call 10; refine (small_walk a n c hn _).mono ?_; rintro e w' ⟨rfl, rfl⟩)
    go_ret
    exact ⟨rfl, Below.refl _ _⟩
  have hd : decide (n ≤ 65536) = true := decide_eq_true hsm
  go_enter Tryz.func3, Tryz.ntmps3
  go_wp2_with (go_at_call 10; refine (small_walk a n c hn _).mono ?_; rintro e w' ⟨rfl, rfl⟩)
  refine (LS.start _).mono ?_
  rintro e w1 ⟨l1, rfl, H1⟩
  have HC := hid (modelNewM w1)
  go_wp2_with fail
  refine HC.out.mono ?_
  rintro e w2 ⟨lm, rfl, H2⟩
  obtain ⟨m, hm⟩ : ∃ m, lm.m = m := ⟨_, rfl⟩
  have H0 : Hid (∃ S lm, lm.m = m ∧ RfB w' l1 lm S (abE S) w2) := hid ⟨S0, lm, hm, RfB.agr ⟨H1.out.below H2.out.2.1, H2.out.1, fun g hg => Nat.le_trans H1.out.bel.size (H2.out.2.2 g hg), fun g hg hg2 => by have := H1.out.am.lts g hg; have := H2.out.2.2 g hg2; omega⟩ agr0⟩
  rw [hm]
  clear HC H1 H2 hm lm
  go_wp2_with fail
  go_loopw [14] (fun u wr => ∃ (k : Nat), u = .int .i64 (k : Int) ∧ k ≤ n ∧ Hid (∃ S lm, lm.m = m ∧ RfB w' l1 lm S (abE S) wr)) (fun u _ => n - (intOf u).toNat)
  case atStart => exact ⟨0, rfl, Nat.zero_le _, H0⟩
  case round =>
  clear H0
  obtain ⟨k, rfl, hk, HK⟩ := hrel
  obtain ⟨S, lm, hlm, hsv⟩ := HK.out
  have HV := hid hsv
  have Hlm := hid hlm
  clear hsv HK hlm
  by_cases hlt : k < n
  rotate_left
  · as_aux_lemma =>
    have hkn : k = n := by omega
    subst hkn
    have HC := hid (soundZ HV.out.ls.am)
    go_wp2_with fail
    refine HC.out.mono ?_
    rintro e w3 ⟨rfl, hb3⟩
    have H3 := hid (HV.out.below hb3)
    clear HC hb3 HV
    have HC := hid (sameX H3.out.ls.am H3.out.mm)
    rw [Hlm.out] at HC
    go_wp2_with fail
    refine HC.out.mono ?_
    rintro e w4 ⟨rfl, hb4⟩
    have HF := hid (H3.out.ls.bel.trans (hb4.out.mono H3.out.ls.bel.size))
    clear HC H3 hb4
    go_wp2
    go_ret
    exact ⟨rfl, HF.out⟩
  obtain ⟨o, ho, hok, b, off, rfl, hb, c0, c1, c2, c3⟩ := (HS.out.below HV.out.ls.bel).at hlt
  obtain ⟨kind, oa, ob, oc⟩ := o
  obtain ⟨k0, k1, ha, hb', hc'⟩ := hok
  dsimp only at c0 c1 c2 c3 ha hb' hc' k0 k1
  have HA := hid ha
  have HBo := hid hb'
  have HCo := hid hc'
  obtain ⟨kn, rfl⟩ : ∃ kn : Nat, kind = (kn : Int) := ⟨kind.toNat, by omega⟩
  clear ho ha hb' hc' k0 k1
  obtain ⟨p, hp⟩ : ∃ p, wr.heap.size = p := ⟨_, rfl⟩
  have H1 : Hid (RfO w' l1 lm S (abE S) p [.int .u8 (kn : Int), .int .u64 oa, .int .u64 ob, .int .u64 oc] (wr.alloc (.cells #[.int .u8 (kn : Int), .int .u64 oa, .int .u64 ob, .int .u64 oc] 31))) := hid (RfO.start HV.out hp)
  go_upto_region 7 with fail
  (try simp only [hp])
  generalize hwa : World.alloc wr _ = wa at H1 ⊢
  clear hwa c0 c1 c2 c3 hp HV hb
  refine wp_region_tree (fun wz => Blk wz p 31 [.int .u8 (kn : Int), .int .u64 oa, .int .u64 ob, .int .u64 oc]) 7 [0, 1, 3, 4] (.one 2 (.one 5 (.one 6 .leaf))) rfl (by kernel_rfl) (by kernel_rfl) (fun d _ _ _ _ h => by cases d <;> exact h) (H1.out.below (Drew.below ⟨1, rfl⟩ _)).op ?_
  apply Exists.intro
  refine ⟨?_, ?_⟩
  · intro W hW
    have c0 : ∀ u, (W u).cell? ⟨p, 0, none⟩ = some (.int .u8 (kn : Int)) := fun u => (hW u).cell 0
    have c1 : ∀ u, (W u).cell? ⟨p, 1, none⟩ = some (.int .u64 oa) := fun u => (hW u).cell 1
    have c2 : ∀ u, (W u).cell? ⟨p, 2, none⟩ = some (.int .u64 ob) := fun u => (hW u).cell 2
    have c3 : ∀ u, (W u).cell? ⟨p, 3, none⟩ = some (.int .u64 oc) := fun u => (hW u).cell 3
    clear hW
    simp only [List.take, opsAt, List.drop, List.cons_append, List.nil_append]
    repeat (go_big_quiet_step (fail))
    exact rfl
  simp only [List.take, List.drop, opsAt, List.cons_append, List.nil_append, wpTr]
  have H2 : Hid (RfO w' l1 lm S (abE S) p [.int .u8 (kn : Int), .int .u64 oa, .int .u64 ob, .int .u64 oc] wa.drew) := hid (H1.out.below (Drew.below ⟨1, rfl⟩ _))
  generalize wa.drew = wd at H2 ⊢
  clear H1
  have HC := hid (playE H2.out.rb.ls.am kn oa ob oc HA.out HBo.out HCo.out)
  go_wp2_with fail
  refine HC.out.mono ?_
  rintro e w3 ⟨rs, S1, rfl, HR⟩
  have H3 : Hid (RfO w' l1 lm S1 (abE S) p [.int .u8 (kn : Int), .int .u64 oa, .int .u64 ob, .int .u64 oc] w3) := hid (H2.out.play HR.out.2.1)
  have HRs := hid HR.out.2.2
  clear HC HR H2
  go_wp2_with fail
  refine ⟨H3.out.op, ?_⟩
  simp only [wpTr, opsAt, List.take, List.drop, List.cons_append, List.nil_append]
  have HC := hid (stepM H3.out.rb.mm kn oa ob oc HA.out HBo.out HCo.out)
  rw [Hlm.out, ← HRs.out.1] at HC
  go_wp2_with fail
  refine HC.out.mono ?_
  rintro e w4 ⟨rfl, HM⟩
  obtain ⟨lm', hlm', h4⟩ := H3.out.stepM HM.out
  have H4 := hid h4
  have Hlm2 : Hid (lm'.m = m) := hid (hlm'.trans Hlm.out)
  clear hlm' h4 HC HM H3 Hlm
  have hne : ∀ wz, (binOp .neq 46 (.agg rs.toArray) (.agg rs.toArray)).run Tryz.prog wz = .ok (.bool false) wz := fun wz => RsF.neq (by rw [HRs.out.1]; exact stR_f _ _ _ _ _) wz
  have HF : Hid (∃ S lm, lm.m = m ∧ RfB w' l1 lm S (abE S) w4) := hid ⟨S1, lm', Hlm2.out, H4.out.rb.agr HRs.out.2⟩
  generalize rs.toArray = ra at hne ⊢
  go_wp2_with fail
  refine ⟨H4.out.op, ?_⟩
  simp only [wpTr, opsAt, List.take, List.drop, List.cons_append, List.nil_append]
  go_wp2_with fail
  refine ⟨H4.out.op, ?_⟩
  simp only [wpTr, QN]
  clear H4 hne HRs
  go_wp2
  exact ⟨⟨k + 1, by go_num, by omega, HF⟩, by simp [intOf]; omega⟩
end Go.Proofs.Qxb6500887aGreat
