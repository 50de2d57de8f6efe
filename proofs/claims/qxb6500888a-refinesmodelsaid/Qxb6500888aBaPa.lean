/- The barrier: Pause, the walk. -/
import Derived.Test.Qxb6500888aBaP9
namespace Go.Proofs.Qxb6500888a
open Go.RowKit
set_option linter.unusedSimpArgs false
set_option linter.unusedVariables false

theorem incs_keep {β : Type} (f : GS → β) (hf : ∀ G o, f (incG G o) = f G) : ∀ (l : List Nat) (p : GS × (Nat → List Nat)), f (incs p l).1 = f p.1
  | [], p => rfl
  | o :: l, p => by
    show f (incs (incP p o) l).1 = _
    rw [incs_keep f hf l]
    exact hf _ _
theorem births_keep {β : Type} (f : GS → β) (hf : ∀ G o, f (incG G o) = f G) : ∀ (n k : Nat) (p : GS × (Nat → List Nat)), f (births n k p).1 = f p.1
  | 0, _, _ => rfl
  | n + 1, k, p => by
    unfold births
    split
    · rw [births_keep f hf n]; exact hf _ _
    · rfl
theorem applyP_keep {β : Type} (f : GS → β) (hf : ∀ G o, f (incG G o) = f G) (p : GS × (Nat → List Nat)) : f (applyP p).1 = f p.1 := by
  unfold applyP
  rw [births_keep f hf, incs_keep f hf, incs_keep f hf]
theorem seedB_eq (B : BS) : seedB B = { B with tr := if B.tr = 1 then 2 else B.tr } := by
  unfold seedB
  split
  · rfl
  · rfl
section
variable {x : Nat} {w w' : World} {ρ ρ' : Rl} {L L' : GL} {T T' : BL} {hB : Nat} {V : Nat → Value} {G G' : GS} {B B' : BS} {hv : Nat → List Nat}
/-- What Pause leaves. -/
structure PaP (w : World) (ρ : Rl) (L : GL) (T : BL) (r : GS × BS × (Nat → List Nat)) (V' : Nat → Value) (L' : GL) (T' : BL) (ρ' : Rl) (w' : World) : Prop where
  sm : L.Same L'
  tb : T'.bB = T.bB
  bm : BM w' ρ' L' T' r.1 r.2.1
  rw : ∀ i, i < 8 → RowX rtA w' ρ' (41 + i) (V' i) (r.2.2 i)
  fr : Fr pX ρ w ρ' w'
theorem aggHv : AggOf Try.prog 36 8 := AggOf.struct Try.underlying36 (by kernel_rfl)
theorem BMx.epoch (h : BM w ρ L T G B) (n : Nat) : BM (w.setCell ⟨T.bB, 284, none⟩ (.int .u64 (n : Int))) ρ L T G { B with ep := n } ∧ Fr (fun c => c == 12) ρ w ρ (w.setCell ⟨T.bB, 284, none⟩ (.int .u64 (n : Int))) := by
  have hb := h.bb.set 284 (.int .u64 (n : Int))
  have e : (fnC 285 (bF L T B)).set 284 (.int .u64 (n : Int)) = fnC 285 (bF L T { B with ep := n }) := by
    refine bF_setE L (by decide) (by decide) rfl (fun m j _ _ => rfl) (fun i h1 h2 h3 => ?_)
    unfold eF
    rcases (by omega : i = 279 ∨ i = 280 ∨ i = 281 ∨ i = 282 ∨ i = 283) with rfl | rfl | rfl | rfl | rfl <;> rfl
  rw [e] at hb
  exact ⟨(h.own (upd1 _ _ _ _) hb rfl rfl rfl h.rl rfl).1, Fr.set _ (by show (ρ T.bB == 12) = true; rw [h.rb]; rfl)⟩
theorem fnC8 (V : Nat → Value) : fnC 8 V = [V 0, V 1, V 2, V 3, V 4, V 5, V 6, V 7] := rfl
set_option maxRecDepth 1000000 in
set_option maxHeartbeats 16000000 in
theorem pause_walk (h : BM w ρ L T G B) (hok : GOk G) {N : Nat} (hb : BOk B N) (hN : 1000 ≤ N) (hN2 : N ≤ 1000000) (hg : GB G 90000000000) :
    Calls Try.prog 44 #[.pointer (some ⟨T.bB, 0, none⟩)] w fun e w' => ∃ V' L' T' ρ', e = .returned (.agg #[V' 0, V' 1, V' 2, V' 3, V' 4, V' 5, V' 6, V' 7]) ∧ PaP w ρ L T (pauseP G B) V' L' T' ρ' w' := by
  have HO := hid hok
  have HB := hid hb
  have HN := hid (And.intro hN hN2)
  have HG := hid hg
  have HH := hid h
  obtain ⟨bB, hbB⟩ : ∃ b, T.bB = b := ⟨_, rfl⟩
  have HbB := hid hbB
  rw [hbB]
  obtain ⟨rB, hrB⟩ : ∃ g, w.heap.size = g := ⟨_, rfl⟩
  clear h hok hb hN hN2 hg hbB
  go_enter Try.func44, Try.ntmps44
  go_upto_region 2 with fail
  obtain ⟨cs, hcs⟩ : ∃ cs : Array Value, #[.slice none 0 0, .slice none 0 0, .slice none 0 0, .slice none 0 0, .slice none 0 0, .slice none 0 0, .slice none 0 0, .slice none 0 0] = cs := ⟨_, rfl⟩
  obtain ⟨wa, hwa⟩ : ∃ wa, (w.alloc (.cells cs 36)).alloc (.cells cs 36) = wa := ⟨_, rfl⟩
  have hsz : (w.alloc (.cells cs 36)).heap.size = rB + 1 := by simp [hrB]
  have HS0 : Hid (PM wa (fup ρ (rB + 1) 40) L T (rB + 1) (fun _ => .slice none 0 0) G B hv00 ∧ Fr pX ρ w (fup ρ (rB + 1) 40) wa ∧ Blk wa rB 36 [.slice none 0 0, .slice none 0 0, .slice none 0 0, .slice none 0 0, .slice none 0 0, .slice none 0 0, .slice none 0 0, .slice none 0 0] ∧ fup ρ (rB + 1) 40 rB = 0) := hid (by
    have hb1 : Below w.heap.size w (w.alloc (.cells cs 36)) := nbel w _
    have h1 := HH.out.below hb1
    have hf := Fr.alloc (fun _ => false) ρ (w.alloc (.cells cs 36)) (.cells cs 36) 40
    rw [hsz, hwa] at hf
    have hz : ρ rB = 0 := by
      by_cases e : ρ rB = 0
      · exact e
      · have := HH.out.gm.dom rB e; omega
    refine ⟨⟨h1.keep hf (fun _ _ => rfl), ⟨?_, fup_self _ _ _, fun i hi => RowX.nil _ _ _ _⟩⟩, (Fr.below hb1).trans (hf.mono (fun c hc => by cases hc)), ?_, by rw [fup_ne _ _ (by omega)]; exact hz⟩
    · rw [← hwa, ← hsz, ← hcs]
      exact Blk.new _ (fnC 8 (fun _ => .slice none 0 0)) _
    · rw [← hwa]
      refine Blk.alloc ?_ _
      rw [← hrB, ← hcs]
      exact Blk.new w [.slice none 0 0, .slice none 0 0, .slice none 0 0, .slice none 0 0, .slice none 0 0, .slice none 0 0, .slice none 0 0, .slice none 0 0] _)
  (try simp only [hcs, hsz, hwa])
  clear hwa hsz hcs HH
  obtain ⟨hB, hhB⟩ : ∃ hB, rB + 1 = hB := ⟨_, rfl⟩
  rw [hhB] at HS0
  simp only [hhB]
  have HrB := hid hrB
  clear hhB hrB
  generalize fup ρ hB 40 = ρa at HS0
  have H1 := hid (harvestLogs_walk HS0.out.1 HB.out.lf (fun i => by show ([] : List Nat).length ≤ _; simp) (fun m => by have := HB.out.nl m; have := HN.out.2; omega))
  rw [HbB.out] at H1
  go_wp2_with fail
  refine H1.out.mono ?_
  rintro e1 w1 ⟨rfl, T1, V1, ρ1, ht1, hp1, hf1⟩
  have HP1 := hid hp1
  have HT1 := hid (And.intro ht1 hp1.bm.need)
  have HF1 := hid (HS0.out.2.1.trans hf1)
  have HR1 := hid (And.intro (hf1.keep HS0.out.2.2.1 HS0.out.2.2.2 rfl) ((hf1.old _ HS0.out.2.2.1.lt).trans HS0.out.2.2.2))
  clear H1 ht1 hp1 hf1 HS0
  have H2 := hid (harvestRoots_walk HP1.out (fun i => by
    have := hvK_len G B hv00 HB.out.nl i 4
    have e : (hv00 i).length = 0 := rfl
    have := HN.out.2
    omega) (by have := HB.out.na; show B.last.length ≤ _; omega))
  rw [HT1.out.1] at H2
  go_wp2_with fail
  refine H2.out.mono ?_
  rintro e2 w2 ⟨v, V2, ρ2, rfl, hp2, hr2, hf2⟩
  obtain ⟨av, qv, hav⟩ := hr2.row.shape
  subst hav
  have HP2 := hid hp2
  have HRt2 : Hid (RtM w2 ρ2 T1.lv (.slice av (rootsK B 4).length qv) (rootsK B 4)) := hid hr2
  rw [show (rootsK (drK B 4) 4) = rootsK B 4 from rfl]
  have HF2 := hid (HF1.out.trans hf2)
  have HR2 := hid (And.intro (hf2.keep HR1.out.1 HR1.out.2 rfl) ((hf2.old _ HR1.out.1.lt).trans HR1.out.2))
  clear H2 hp2 hr2 hf2 HP1 HR1 HF1
  generalize (rootsK B 4).length = nv at HRt2 ⊢
  have H3 := hid (seed_walk HP2.out (show (drK B 4).tr ≤ 2 from HB.out.tr) (fun i => by
    have h1 := hv3_len G HB.out HN.out.1 i
    by_cases e7 : i = 7
    · subst e7
      have : hroots (drK B 4) (hvK G B hv00 4) 7 = [] := by
        unfold hroots
        rw [fup_ne _ _ (by omega), fup_ne _ _ (by omega), hvK_hi _ _ _ (by omega)]
        rfl
      rw [this]
      simp
    · rw [hv3_i G B e7] at h1
      have := HN.out.2
      omega))
  rw [HT1.out.1] at H3
  go_wp2_with fail
  refine H3.out.mono ?_
  rintro e3 w3 ⟨rfl, L3, T3, V3, ρ3, hs3, ht3, hl3, hp3, hf3⟩
  have HP3 : Hid (PMx 5 w3 ρ3 L3 T3 hB V3 G (seedB (drK B 4)) (hv3P G B)) := hid hp3
  have HT3 := hid (And.intro hs3 (And.intro (ht3.trans HT1.out.1) hl3))
  have HF3 := hid (HF2.out.trans (hf3.mono (fun c => pX_z)))
  have HRt3 := hid (HRt2.out.fr hf3 rfl)
  have HR3 := hid (And.intro (hf3.keep HR2.out.1 HR2.out.2 rfl) ((hf3.old _ HR2.out.1.lt).trans HR2.out.2))
  clear H3 hs3 ht3 hl3 hp3 hf3 HP2 HR2 HF2 HRt2 HT1
  have H4 := hid (apply_walk HP3.out (hv3_ap HO.out HB.out) (by have := HG.out.calls; omega) (fun o ho => by rw [hv3_lo G B (by decide)] at ho; exact hvK_in0 HO.out.wd HB.out.lf 4 (Nat.le_refl _) o ho) (fun o ho => by
    rw [hv3_2] at ho
    obtain ⟨m, hm, hmo⟩ := rootsK_mem ho
    exact HB.out.ro m hm o hmo) (fun i => by have h1 := hv3_len G HB.out HN.out.1 i; have := HN.out.2; omega))
  rw [HT3.out.2.1] at H4
  go_wp2_with fail
  refine H4.out.mono ?_
  rintro e4 w4 ⟨rfl, L4, V4, ρ4, C4, hC4, hp4⟩
  obtain ⟨p4, hp4e⟩ : ∃ p4, applyP (G, hv3P G B) = p4 := ⟨_, rfl⟩
  rw [hp4e] at hp4
  have Hp4e := hid hp4e
  have HP4 := hid hp4
  have HC4 : Hid (C4 ≤ 91000000000) := hid (by
    have h0 := hv3_len G HB.out HN.out.1 0
    have h2 := hv3_len G HB.out HN.out.1 2
    have := HG.out.calls
    have := HN.out.2
    omega)
  have HF4 := hid (HF3.out.trans (hp4.fr.mono (fun c => pX_z)))
  have HRt4 := hid (HRt3.out.fr hp4.fr rfl)
  have HR4 := hid (And.intro (hp4.fr.keep HR3.out.1 HR3.out.2 rfl) ((hp4.fr.old _ HR3.out.1.lt).trans HR3.out.2))
  clear H4 hp4 hp4e hC4 HP3 HR3 HF3 HRt3
  have hB4f : (seedB (drK B 4)).fresh = B.fresh := by rw [seedB_eq]; rfl
  have Hd4 : Hid (p4.1.deaths = G.deaths ∧ p4.1.pend = G.pend ∧ p4.1.errs = G.errs) := hid (by
    rw [← Hp4e.out]
    exact ⟨applyP_keep (fun G => G.deaths) (fun _ _ => rfl) _, applyP_keep (fun G => G.pend) (fun _ _ => rfl) _, applyP_keep (fun G => G.errs) (fun _ _ => rfl) _⟩)
  have H5 := hid (reap_walk HP4.out.pm HP4.out.ap.ok (N := N) (fun m => by rw [hB4f]; exact HB.out.nf m) HN.out.2 (by rw [Hd4.out.1]; have := HG.out.deaths; omega) (fun m hm o ho => by rw [hB4f] at ho; exact HB.out.fr m hm o ho) (by rw [HP4.out.ap.k 6 (by decide) (by decide), hv3_mid G B (by decide) (by decide)]; simp))
  rw [HT3.out.2.1] at H5
  clear hB4f
  go_wp2_with fail
  refine H5.out.mono ?_
  rintro e5 w5 ⟨rfl, L5, T5, V5, ρ5, hp5⟩
  obtain ⟨p5, hp5e⟩ : ∃ p5, reapK (seedB (drK B 4)) (p4.1, p4.2) 4 = p5 := ⟨_, rfl⟩
  rw [hp5e] at hp5
  have HP5 := hid hp5
  have Hp5e : Hid (reapK B (applyP (G, hv3P G B)) 4 = p5) := hid (by
    rw [Hp4e.out, ← hp5e]
    unfold reapK
    rw [show (seedB (drK B 4)).fresh = B.fresh by rw [seedB_eq]; rfl])
  have HF5 := hid (HF4.out.trans (hp5.fr.mono (fun c => pX_z)))
  have HRt5 := hid (HRt4.out.fr hp5.fr rfl)
  have HR5 := hid (And.intro (hp5.fr.keep HR4.out.1 HR4.out.2 rfl) ((hp5.fr.old _ HR4.out.1.lt).trans HR4.out.2))
  have HT5 := hid (And.intro (HT3.out.1.trans (HP4.out.sm.trans hp5.sm)) (And.intro (hp5.tb.trans HT3.out.2.1) (hp5.tl.trans HT3.out.2.2)))
  have HBd : Hid (p5.1.calls.length ≤ 91000000000 ∧ (∀ a, p5.1.pend a ≤ 90000000000) ∧ (p5.2 1).length ≤ 4000000 ∧ (p5.2 3).length ≤ 4000000) := hid (by
    refine ⟨?_, fun a => ?_, ?_, ?_⟩
    · rw [hp5.rp.c]; exact Nat.le_trans HP4.out.ap.c HC4.out
    · rw [hp5.rp.p, Hd4.out.2.1]; exact HG.out.pend a
    · rw [hp5.rp.k 1 (by decide), HP4.out.ap.k 1 (by decide) (by decide)]
      have := hv3_len G HB.out HN.out.1 1; have := HN.out.2; omega
    · rw [hp5.rp.k 3 (by decide), HP4.out.ap.k 3 (by decide) (by decide)]
      have := hv3_len G HB.out HN.out.1 3; have := HN.out.2; omega)
  clear H5 hp5 hp5e HP4 HR4 HF4 HRt4 HT3 Hd4 HC4
  obtain ⟨B5, hB5⟩ : ∃ B5, clrF (seedB (drK B 4)) 4 = B5 := ⟨_, rfl⟩
  have HB5 := hid hB5
  have HD0 : Hid (DcM w5 ρ5 L5 T5 hB p5.1 B5 p5.2 0 (decs p5.1 ((p5.2 1).take 0)) L5 V5 ρ5 w5) := hid ⟨by rw [← hB5]; exact HP5.out.pm, GL.Same.refl _, Fr.refl _ _ _, ⟨Nat.le_refl _, fun _ => Nat.le_refl _, rfl⟩⟩
  obtain ⟨a1, q1, hV1⟩ := (HP5.out.pm.hm.rw 1 (by decide)).shape
  obtain ⟨a3, q3, hV3⟩ := (HP5.out.pm.hm.rw 3 (by decide)).shape
  obtain ⟨n1, hn1⟩ : ∃ n, (p5.2 1).length = n := ⟨_, rfl⟩
  obtain ⟨n3, hn3⟩ : ∃ n, (p5.2 3).length = n := ⟨_, rfl⟩
  rw [hn1] at hV1
  rw [hn3] at hV3
  have HV := hid (And.intro hV1 hV3)
  have Hn := hid (And.intro hn1 hn3)
  have c1 := HP5.out.pm.hcell (i := 1) (by decide)
  rw [hV1] at c1
  have i1 : (n1 : Int) ≤ 4000000 := by have := HBd.out.2.2.1; omega
  have i3 : (n3 : Int) ≤ 4000000 := by have := HBd.out.2.2.2; omega
  clear hV1 hV3 hn1 hn3 hB5 HP5
  go_wp2_with fail
  clear c1
  go_loopw [22] (fun v wr => ∃ i : Nat, i ≤ n1 ∧ v = .int .i64 (i : Int) ∧ Hid (∃ L' ρ', DcM w5 ρ5 L5 T5 hB p5.1 B5 p5.2 i (decs p5.1 ((p5.2 1).take i)) L' V5 ρ' wr)) (fun v _ => n1 - (intOf v).toNat)
  case atStart => exact ⟨0, by omega, rfl, hid ⟨L5, ρ5, HD0.out⟩⟩
  case round =>
    obtain ⟨i, hi, rfl, HX⟩ := hrel
    obtain ⟨L6, ρ6, hd6⟩ := HX.out
    have HD6 := hid hd6
    clear HX hd6 HD0
    by_cases hlt : i < n1
    · as_aux_lemma =>
      have dk : decide ((i : Int) < (n1 : Int)) = true := decide_eq_true (by omega)
      have hil : i < (p5.2 1).length := by rw [Hn.out.1]; exact hlt
      obtain ⟨g, rfl, cg⟩ := HD6.out.pm.elem (by decide) HV.out.1 hil
      have htk : (p5.2 1).take (i + 1) = (p5.2 1).take i ++ [(p5.2 1).getD i 0] := by rw [List.take_add_one, List.getElem?_eq_getElem hil, List.getD_eq_getElem?_getD, List.getElem?_eq_getElem hil]; rfl
      have HI := hid (HD6.out.step ((p5.2 1).getD i 0) (by have := HBd.out.1; omega) (fun a => by have := HBd.out.2.1 a; omega))
      rw [← decs_s, ← htk] at HI
      have c2 := HD6.out.pm.bm.gcells.2.2
      rw [HT5.out.2.1] at c2
      generalize (p5.2 1).getD i 0 = o at cg HI
      clear htk hil
      have ii : (i : Int) < (n1 : Int) := by omega
      go_wp2_with fail
      refine HI.out.mono ?_
      rintro e7 w7 ⟨rfl, h7⟩
      have HX2 : Hid (∃ L' ρ', DcM w5 ρ5 L5 T5 hB p5.1 B5 p5.2 (i + 1) (decs p5.1 ((p5.2 1).take (i + 1))) L' V5 ρ' w7) := hid h7
      clear h7 HI HD6 cg c2
      go_wp2
      exact ⟨⟨i + 1, by omega, by go_num, HX2⟩, by simp [intOf]; omega⟩
    · have dk : decide ((i : Int) < (n1 : Int)) = false := decide_eq_false (by omega)
      have hin : i = n1 := by omega
      rw [hin, List.take_of_length_le (by rw [Hn.out.1]; exact Nat.le_refl _)] at HD6
      obtain ⟨G6, hG6⟩ : ∃ G6, decs p5.1 (p5.2 1) = G6 := ⟨_, rfl⟩
      rw [hG6] at HD6
      have HG6 := hid hG6
      have HE0 : Hid (DcM w5 ρ5 L5 T5 hB p5.1 B5 p5.2 (n1 + 0) (decs G6 ((p5.2 3).take 0)) L6 V5 ρ6 wr) := hid HD6.out
      have c3 := HD6.out.pm.hcell (i := 3) (by decide)
      rw [HV.out.2] at c3
      clear HD6 hin hG6
      as_aux_lemma =>
      go_wp2_with fail
      clear c3 dk
      go_loopw [36] (fun v wr => ∃ i : Nat, i ≤ n3 ∧ v = .int .i64 (i : Int) ∧ Hid (∃ L' ρ', DcM w5 ρ5 L5 T5 hB p5.1 B5 p5.2 (n1 + i) (decs G6 ((p5.2 3).take i)) L' V5 ρ' wr)) (fun v _ => n3 - (intOf v).toNat)
      case atStart => exact ⟨0, by omega, rfl, hid ⟨L6, ρ6, HE0.out⟩⟩
      case round =>
        obtain ⟨j, hj, rfl, HX⟩ := hrel
        obtain ⟨L7, ρ7, hd7⟩ := HX.out
        have HD7 := hid hd7
        clear HX hd7 HE0
        by_cases hlt3 : j < n3
        · have dk : decide ((j : Int) < (n3 : Int)) = true := decide_eq_true (by omega)
          have hil : j < (p5.2 3).length := by rw [Hn.out.2]; exact hlt3
          obtain ⟨g, rfl, cg⟩ := HD7.out.pm.elem (by decide) HV.out.2 hil
          have htk : (p5.2 3).take (j + 1) = (p5.2 3).take j ++ [(p5.2 3).getD j 0] := by rw [List.take_add_one, List.getElem?_eq_getElem hil, List.getD_eq_getElem?_getD, List.getElem?_eq_getElem hil]; rfl
          have HI := hid (HD7.out.step ((p5.2 3).getD j 0) (by have := HBd.out.1; omega) (fun a => by have := HBd.out.2.1 a; omega))
          rw [← decs_s, ← htk] at HI
          have c2 := HD7.out.pm.bm.gcells.2.2
          rw [HT5.out.2.1] at c2
          generalize (p5.2 3).getD j 0 = o at cg HI
          clear htk hil
          have ii : (j : Int) < (n3 : Int) := by omega
          go_wp2_with fail
          refine HI.out.mono ?_
          rintro e8 w8 ⟨rfl, h8⟩
          have HX2 : Hid (∃ L' ρ', DcM w5 ρ5 L5 T5 hB p5.1 B5 p5.2 (n1 + (j + 1)) (decs G6 ((p5.2 3).take (j + 1))) L' V5 ρ' w8) := hid h8
          clear h8 HI HD7 cg c2
          go_wp2
          exact ⟨⟨j + 1, by omega, by go_num, HX2⟩, by simp [intOf]; omega⟩
        · have dk : decide ((j : Int) < (n3 : Int)) = false := decide_eq_false (by omega)
          have hjn : j = n3 := by omega
          rw [hjn, List.take_of_length_le (by rw [Hn.out.2]; exact Nat.le_refl _)] at HD7
          obtain ⟨G7, hG7⟩ : ∃ G7, decs G6 (p5.2 3) = G7 := ⟨_, rfl⟩
          rw [hG7] at HD7
          have HG7 := hid hG7
          obtain ⟨al, ql, hVl⟩ := HD7.out.pm.bm.lr.shape
          obtain ⟨nl, hnl⟩ : ∃ n, B5.last.length = n := ⟨_, rfl⟩
          rw [hnl] at hVl
          have HRt7 := hid (HRt5.out.fr HD7.out.fr rfl)
          rw [← HT5.out.2.2] at HRt7
          have HSw := hid (HD7.out.pm.swap HRt7.out hVl)
          have hcap := HD7.out.pm.bm.lr
          rw [hVl] at hcap
          have icap : (ql : Int) ≤ 9223372036854775807 := by have := hcap.cap.1; unfold maxLen at this; omega
          have c81 := HD7.out.pm.bm.rcell.1
          have c82 := HD7.out.pm.bm.rcell.2
          rw [hVl] at c81
          have f81 := HD7.out.pm.bm.bb.frozen 281
          have f82 := HD7.out.pm.bm.bb.frozen 282
          obtain ⟨bT, hbT⟩ : ∃ b, T5.bB = b := ⟨_, rfl⟩
          have hbb : bT = bB := by rw [← hbT]; exact HT5.out.2.1
          rw [hbT] at c81 c82 f81 f82 HSw
          rw [hbb] at c81 c82 f81 f82 HSw
          have HHm := hid HD7.out.pm.hm
          have HF7 := hid HD7.out.fr
          have HSm := hid (HT5.out.1.trans HD7.out.sm)
          generalize T5.sv = sv0 at c82
          clear HD7 hjn hG7 hVl hnl HRt7 hcap hbT hbb
          as_aux_lemma =>
          go_upto_region 18 with fail
          clear dk
          obtain ⟨w8, hw8⟩ : ∃ w8, (wr.setCell ⟨bB, 282, none⟩ (.slice al 0 ql)).setCell ⟨bB, 281, none⟩ (.slice av nv qv) = w8 := ⟨_, rfl⟩
          rw [hw8] at HSw
          (try simp only [hw8])
          obtain ⟨T8, hT8⟩ : ∃ T8, ({ bB := bB, sg := T5.sg, fs := T5.fs, fv := T5.fv, lv := .slice av nv qv, sv := .slice al 0 ql } : BL) = T8 := ⟨_, rfl⟩
          have HT8 : Hid (T8.bB = bB) := hid (by rw [← hT8])
          rw [hT8] at HSw
          have HM8 := hid HSw.out.1
          have HF8 := hid HSw.out.2
          have HH8 := hid (HHm.out.fr HF8.out rfl (fun i hi => by show (41 + i == 12) = false; simp; omega))
          clear hw8 hT8 HSw c81 c82 f81 f82 HHm
          have c8 := HM8.out.gcells.1
          rw [HT8.out] at c8
          have HCl := hid (clearLogged_walk HM8.out.gm)
          go_wp2_with fail
          refine HCl.out.mono ?_
          rintro e9 w9 ⟨rfl, hm9, hf9⟩
          have HM9 := hid (HM8.out.ground hm9 (GL.Same.refl _) hf9)
          have HF9 := hid hf9
          have HH9 := hid (HH8.out.fr hf9 rfl (fun i hi => by unfold gX; exact decide_eq_false (by omega)))
          clear hm9 hf9 HCl c8 HH8 HM8
          have c9 := HM9.out.ecell (i := 284) (by decide) (by decide)
          rw [HT8.out, show eF T8 { B5 with last := rootsK B 4 } 284 = .int .u64 (B5.ep : Int) from rfl] at c9
          have f9 := HM9.out.bb.frozen 284
          rw [HT8.out] at f9
          have hep : B5.ep = B.ep := by rw [← HB5.out, seedB_eq]; rfl
          rw [hep] at c9
          have HEp := hid (HM9.out.epoch (B.ep + 1))
          rw [HT8.out] at HEp
          have iep : (B.ep : Int) ≤ 1000000 := by have := HB.out.ep; have := HN.out.2; omega
          have Hep := hid hep
          obtain ⟨ep, hepn⟩ : ∃ e, B.ep = e := ⟨_, rfl⟩
          rw [hepn] at c9 iep
          rw [hepn, show ((ep + 1 : Nat) : Int) = (ep : Int) + 1 by omega] at HEp
          have Hepn := hid hepn
          clear hep hepn
          go_upto_region 20 with fail
          have HMa := hid HEp.out.1
          have HFa := hid HEp.out.2
          generalize w9.setCell ⟨bB, 284, none⟩ (.int .u64 ((ep : Int) + 1)) = wA at HMa HFa ⊢
          have HHa := hid (HH9.out.fr HFa.out rfl (fun i hi => by show (41 + i == 12) = false; simp; omega))
          clear c9 f9 HEp HH9 HM9
          have HFt : Hid (Fr pX ρ5 w5 ρ7 wA) := hid ((((HF7.out.mono (fun c => pX_z)).trans (HF8.out.mono (fun c => pX_of (by decide)))).trans (HF9.out.mono (fun c hc => pX_b (bX_g hc)))).trans (HFa.out.mono (fun c => pX_of (by decide))))
          have HRa := hid (And.intro (HFt.out.keep HR5.out.1 HR5.out.2 rfl) ((HFt.out.old _ HR5.out.1.lt).trans HR5.out.2))
          clear HF7 HF8 HF9 HFa
          have hbl := HHa.out.bl
          rw [fnC8] at hbl
          have Hbl := hid hbl
          have h8s : ∀ i, i < 8 → ∃ a n q, V5 i = .slice a n q := fun i hi => by
            obtain ⟨a, q, e⟩ := (HHa.out.rw i hi).shape
            exact ⟨a, _, q, e⟩
          have hone : ∀ u ∈ [V5 0, V5 1, V5 2, V5 3, V5 4, V5 5, V5 6, V5 7], u.oneCell' = true := fun u hu => by
            simp only [List.mem_cons, List.not_mem_nil, or_false] at hu
            rcases hu with rfl | rfl | rfl | rfl | rfl | rfl | rfl | rfl
            · obtain ⟨a, n, q, e⟩ := h8s 0 (by decide); rw [e]; rfl
            · obtain ⟨a, n, q, e⟩ := h8s 1 (by decide); rw [e]; rfl
            · obtain ⟨a, n, q, e⟩ := h8s 2 (by decide); rw [e]; rfl
            · obtain ⟨a, n, q, e⟩ := h8s 3 (by decide); rw [e]; rfl
            · obtain ⟨a, n, q, e⟩ := h8s 4 (by decide); rw [e]; rfl
            · obtain ⟨a, n, q, e⟩ := h8s 5 (by decide); rw [e]; rfl
            · obtain ⟨a, n, q, e⟩ := h8s 6 (by decide); rw [e]; rfl
            · obtain ⟨a, n, q, e⟩ := h8s 7 (by decide); rw [e]; rfl
          have Hone := hid hone
          have hinf : (Try.prog.info? 36).map (·.size) = some 8 := by kernel_rfl
          have Hinf := hid hinf
          clear hbl h8s hone hinf
          go_wp2_with (first
            | (refine wpList_load_blk rfl 36 _ rfl hB rfl [V5 0, V5 1, V5 2, V5 3, V5 4, V5 5, V5 6, V5 7] Hbl.out _ Try.underlying36 rfl Hinf.out ?_)
            | (refine wpList_store_blk rfl 36 _ _ rfl rB rfl [V5 0, V5 1, V5 2, V5 3, V5 4, V5 5, V5 6, V5 7] rfl HRa.out.1 rfl Hinf.out Hone.out ?_; intro wB HBB HUB))
          have HFb : Hid (Fr (fun c => c == 0) ρ7 wA ρ7 wB) := hid (Fr.upd HUB.out (by show (ρ7 rB == 0) = true; rw [HRa.out.2]; rfl))
          have HR : Hid (PaP w ρ L T (pauseP G B) V5 L7 T8 ρ7 wB) := hid (by
            have hbm := HMa.out.keep HFb.out (fun c hc => by have := of_decide_eq_true hc; show (c == 0) = false; simp; omega)
            refine ⟨HSm.out, HT8.out.trans HbB.out.symm, ?_, fun i hi => ?_, ?_⟩
            · have e1 : (pauseP G B).1 = { G7 with lg := fillF G7.lg 0 32768 false } := by
                unfold pauseP
                dsimp only
                rw [show seedH (drK B 4) (hroots (drK B 4) (hvK G B hv00 4)) = hv3P G B from rfl, Hp5e.out, HG6.out, HG7.out]
              have e2 : (pauseP G B).2.1 = { B5 with last := rootsK B 4, ep := ep + 1 } := by
                unfold pauseP
                dsimp only
                rw [HB5.out, Hepn.out]
              rw [e1, e2]
              exact hbm
            · have e3 : (pauseP G B).2.2 = p5.2 := by
                unfold pauseP
                dsimp only
                rw [show seedH (drK B 4) (hroots (drK B 4) (hvK G B hv00 4)) = hv3P G B from rfl, Hp5e.out]
              rw [e3]
              exact (HHa.out.rw i hi).fr HFb.out (by show (41 + i == 0) = false; simp)
            · have hA := HF5.out.trans HFt.out
              exact ⟨HUB.out.os.trans hA.os, HUB.out.tape.trans hA.tape, HUB.out.output.trans hA.output, Nat.le_trans hA.size HUB.out.size, hA.old, fun g hg => hA.nw g (Nat.le_trans HUB.out.size hg), fun g hg h0 => (HUB.out.block g (Nat.lt_of_lt_of_le hg hA.size) (by have := HrB.out; omega)).trans (hA.blk g hg h0)⟩)
          clear HMa HHa HRa HFt HFb HSm
          refine bodyPost_ret (results_blk (cs := [V5 0, V5 1, V5 2, V5 3, V5 4, V5 5, V5 6, V5 7]) Try.results44 rfl aggHv HBB.out) rfl ?_
          first
          | exact ⟨V5, L7, T8, ρ7, rfl, HR.out⟩
          | exact ⟨V5, rfl, L7, T8, ρ7, HR.out⟩
end
end Go.Proofs.Qxb6500888a
