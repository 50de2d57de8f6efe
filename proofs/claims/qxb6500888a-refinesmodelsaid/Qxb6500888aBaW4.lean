/- The law's world: play. -/
import Derived.Test.Qxb6500888aBaW3
import Derived.Test.Qxb6500888aLate
namespace Go.Proofs.Qxb6500888a
open Go.RowKit
set_option linter.unusedSimpArgs false
set_option linter.unusedVariables false

section
variable {X : Nat → Bool} {w w' w'' : World} {ρ ρ' : Rl} {L L' : GL} {T T' : BL} {G G' : GS} {B B' : BS}
theorem StM.upd {wB pO rB q : Nat} {o : OpP} {wr w2 : World} (h : StM w ρ L T G B wB pO rB o L' T' ρ' wr) (hu : Upd q wr w2) (h0 : ρ' q = 0) (h1 : wB ≠ q) (h2 : pO ≠ q) (h3 : rB ≠ q) (hq : w.heap.size ≤ q) : StM w ρ L T G B wB pO rB o L' T' ρ' w2 :=
  ⟨h.bm.upd0 hu h0, h.sm, h.tb, h.fr.new hu hq, h.wb.upd hu h1, h.ob.upd hu h2, h.rb.upd hu h3, h.w0, h.o0, h.r0, h.rw⟩
/-- What a step needs. -/
structure PlN (G : GS) (B : BS) (o : OpP) (N : Nat) : Prop where
  ok : GOk G
  gb : GB G 90000000000
  bo : BOk B N
  n1 : 1000 ≤ N
  n2 : N ≤ 1000000
  kd : o.kind < 256
  m : o.m < 256
  a : o.a < 18446744073709551616
  b : o.b < 18446744073709551616
  c : o.c < 18446744073709551616
set_option maxRecDepth 1000000 in
set_option maxHeartbeats 8000000 in
theorem play_walk (h : BM w ρ L T G B) {wB : Nat} (hw : Blk w wB 52 [.pointer (some ⟨L.hB, 0, none⟩), .pointer (some ⟨L.sB, 0, none⟩), .pointer (some ⟨L.cB, 0, none⟩), .pointer (some ⟨T.bB, 0, none⟩)]) (hw0 : ρ wB = 0) (o : OpP) {N : Nat} (hn : PlN G B o N) :
    Calls Try.prog 17 #[.pointer (some ⟨wB, 0, none⟩), .agg (opC o).toArray] w fun e w' => PyP w ρ L T (playS G B o) e w' := by
  have HH := hid h
  have HW := hid (And.intro hw hw0)
  have HNn := hid hn
  have I0 := hid info_rz
  obtain ⟨kind, m, oa, ob, oc⟩ := o
  have hk256 : kind < 256 := hn.kd
  have hm256 : m < 256 := hn.m
  have ha64 : oa < 18446744073709551616 := hn.a
  have hb64 : ob < 18446744073709551616 := hn.b
  have hc64 : oc < 18446744073709551616 := hn.c
  obtain ⟨pO, hpO⟩ : ∃ g, w.heap.size = g := ⟨_, rfl⟩
  have i1 : (kind : Int) < 256 := by omega
  have i2 : (m : Int) < 256 := by omega
  clear h hw hw0 hn
  unfold opC
  dsimp only
  go_enter Try.func17, Try.ntmps17
  go_upto_region 1 with fail
  obtain ⟨wa, hwa⟩ : ∃ wa, (w.alloc (.cells (opC ⟨kind, m, oa, ob, oc⟩).toArray 31)).alloc (.cells (rzC 0 0).toArray 38) = wa := ⟨_, rfl⟩
  have hsz : (w.alloc (.cells (opC ⟨kind, m, oa, ob, oc⟩).toArray 31)).heap.size = pO + 1 := by simp [hpO]
  have hz : ∀ g, w.heap.size ≤ g → ρ g = 0 := fun g hg => by
    by_cases e : ρ g = 0
    · exact e
    · have := HH.out.gm.dom g e; omega
  have HS0 : Hid (StM w ρ L T G B wB pO (pO + 1) ⟨kind, m, oa, ob, oc⟩ L T ρ wa) := hid (by
    have hb1 : Below w.heap.size w wa := by rw [← hwa]; exact (nbel w _).trans ((nbel _ _).mono (by simp))
    refine ⟨HH.out.below hb1, GL.Same.refl _, rfl, Fr.below hb1, HW.out.1.below hb1, ?_, ?_, HW.out.2, hz _ (by omega), hz _ (by omega), by omega⟩
    · rw [← hwa]
      refine Blk.alloc ?_ _
      rw [← hpO]
      exact Blk.new w _ _
    · rw [← hwa, ← hsz]
      exact Blk.new _ _ _)
  have hwa' : (w.alloc (.cells #[.int .u8 (kind : Int), .int .u8 (m : Int), .int .u64 (oa : Int), .int .u64 (ob : Int), .int .u64 (oc : Int)] 31)).alloc (.cells #[.int .u8 0, .int .u64 0, .slice none 0 0, .slice none 0 0, .slice none 0 0, .slice none 0 0, .slice none 0 0, .slice none 0 0, .slice none 0 0, .slice none 0 0] 38) = wa := hwa
  have hsz' : (w.alloc (.cells #[.int .u8 (kind : Int), .int .u8 (m : Int), .int .u64 (oa : Int), .int .u64 (ob : Int), .int .u64 (oc : Int)] 31)).heap.size = pO + 1 := hsz
  (try simp only [hwa', hsz'])
  have Hz := hid hz
  have HwB := hid HW.out.1.lt
  clear hwa hwa' hsz hsz' HH HW hz
  have HpO := hid hpO
  clear hpO
  obtain ⟨rB, hrB⟩ : ∃ r, pO + 1 = r := ⟨_, rfl⟩
  rw [hrB] at HS0
  simp only [hrB]
  have HrB := hid hrB
  clear hrB
  obtain ⟨X, W, HTT, H0, hne, HC⟩ := class_below wa
  have e1 : ∀ y, (W y).cell? ⟨wB, 3, none⟩ = some (.pointer (some ⟨T.bB, 0, none⟩)) := fun y => (HS0.out.below (HTT.out y)).wb.cell 3
  have e2 : ∀ y, (W y).cell? ⟨pO, 1, none⟩ = some (.int .u8 (m : Int)) := fun y => (HS0.out.below (HTT.out y)).ob.cell 1
  refine wp_region_class W (by kernel_rfl) (by kernel_rfl) H0.out ?_
  repeat (go_big_quiet_step (fail))
  refine wpQuiet_nil ?_
  intro z
  have HS1 := hid (HS0.out.below (HTT.out z))
  generalize W z = wz at HS1 ⊢
  clear e1 e2 H0 HTT HC hne HS0
  have c0 : wz.cell? ⟨pO, 0, none⟩ = some (.int .u8 (kind : Int)) := HS1.out.ob.cell 0
  have c2 : wz.cell? ⟨pO, 2, none⟩ = some (.int .u64 (oa : Int)) := HS1.out.ob.cell 2
  by_cases h7 : kind = 7
  · subst h7
    have HX : Hid (playS G B ⟨7, m, oa, ob, oc⟩ = ((0, 0), (pauseP G B).2.2, (pauseP G B).1, (pauseP G B).2.1)) := hid (by unfold playS; dsimp only; rw [if_pos rfl])
    have HPa := hid (pause_walk HS1.out.bm HNn.out.ok HNn.out.bo HNn.out.n1 HNn.out.n2 HNn.out.gb)
    rw [HS1.out.tb] at HPa
    obtain ⟨⟨PG, PB, Ph⟩, hP⟩ : ∃ P, pauseP G B = P := ⟨_, rfl⟩
    rw [hP] at HPa HX
    dsimp only at HX
    clear hP
    go_wp2_with fail
    refine HPa.out.mono ?_
    rintro e2 w2 ⟨V, L2, T2, ρ2, rfl, hpa⟩
    have HPm := hid hpa
    have HRb := hid (And.intro (hpa.fr.keep HS1.out.rb HS1.out.r0 rfl) ((hpa.fr.old _ HS1.out.rb.lt).trans HS1.out.r0))
    have hone : ∀ u ∈ rzH 0 0 V, u.oneCell' = true := fun u hu => by
      have hs : ∀ i, i < 8 → (V i).oneCell' = true := fun i hi => by obtain ⟨a, q, e⟩ := (hpa.rw i hi).shape; rw [e]; rfl
      simp only [rzH, List.mem_cons, List.not_mem_nil, or_false] at hu
      rcases hu with rfl | rfl | rfl | rfl | rfl | rfl | rfl | rfl | rfl | rfl
      · rfl
      · rfl
      · exact hs 0 (by decide)
      · exact hs 1 (by decide)
      · exact hs 2 (by decide)
      · exact hs 3 (by decide)
      · exact hs 4 (by decide)
      · exact hs 5 (by decide)
      · exact hs 6 (by decide)
      · exact hs 7 (by decide)
    have Hone := hid hone
    clear HPa hpa hone c0 c2
    go_wp2_with (refine wpList_store_blk rfl 38 _ _ rfl rB rfl (rzH 0 0 V) rfl HRb.out.1 rfl I0.out Hone.out ?_; intro w9 HB9 HU9)
    refine bodyPost_ret (results_blk (cs := rzH 0 0 V) Try.results17 rfl aggRz HB9.out) rfl ?_
    have hfU : Fr (fun c => c == 0) ρ2 w2 ρ2 w9 := Fr.upd HU9.out (by show (ρ2 rB == 0) = true; rw [HRb.out.2]; rfl)
    have hbm : BM w9 ρ2 L2 T2 PG PB := BMx.upd0 HPm.out.bm HU9.out HRb.out.2
    have hrw : ∀ i, i < 8 → RowX rtA w9 ρ2 (41 + i) (V i) (Ph i) := fun i hi => RowX.fr (HPm.out.rw i hi) hfU (by show (41 + i == 0) = false; simp)
    have hfr : Fr pX ρ w ρ2 w9 := Fr.new (Fr.trans (HS1.out.fr.mono (fun c => pX_b)) HPm.out.fr) HU9.out HS1.out.rw
    have hpy : PyM w ρ L T ((0, 0), Ph, PG, PB) V L2 T2 ρ2 w9 := ⟨HS1.out.sm.trans HPm.out.sm, HPm.out.tb.trans HS1.out.tb, hbm, hrw, hfr⟩
    have hfin : PyP w ρ L T ((0, 0), Ph, PG, PB) (.returned (.agg (rzH 0 0 V).toArray)) w9 := ⟨V, L2, T2, ρ2, rfl, hpy⟩
    rw [HX.out]
    exact hfin
  have d7 : ((kind : Int) == 7) = false := by simp; omega
  by_cases h8 : kind = 8
  · have d8t : ((kind : Int) == 8) = true := by simp; omega
    have H8 := hid h8
    clear h8
    obtain ⟨n, hn⟩ : ∃ n, 1 + oa % 8 = n := ⟨_, rfl⟩
    have HX : Hid (playS G B ⟨kind, m, oa, ob, oc⟩ = ((0, (decN n G).1), hv00, (decN n G).2, B)) := hid (by unfold playS; dsimp only; rw [if_neg (by have := H8.out; omega), if_pos H8.out, hn])
    obtain ⟨r8, hr8⟩ : ∃ r, oa % 8 = r := ⟨_, rfl⟩
    have hr8' : (oa : Int).tmod 8 = (r8 : Int) := by rw [Int.tmod_eq_emod_of_nonneg (by omega)]; omega
    have hr8'' : (oa : Int) % 8 = (r8 : Int) := by omega
    have hrn : 1 + (r8 : Int) = (n : Int) := by omega
    have hn8 : n ≤ 8 := by omega
    have hcw : wz.cell? ⟨wB, 2, none⟩ = some (.pointer (some ⟨L.cB, 0, none⟩)) := HS1.out.wb.cell 2
    have HL0 : Hid (∃ L2 ρ2 G2, StM w ρ L T G2 B wB pO rB ⟨kind, m, oa, ob, oc⟩ L2 T ρ2 wz ∧ L.Same L2 ∧ GOk G2 ∧ GB G2 (90000000000 + 0 * 8192) ∧ decN n G = (0 + (decN (n - 0) G2).1, (decN (n - 0) G2).2)) := hid ⟨L, ρ, G, HS1.out, GL.Same.refl _, HNn.out.ok, HNn.out.gb, by simp⟩
    clear hn hr8 hcw HS1
    go_wp2_with fail
    clear c0 c2
    go_loopw [7] (fun v wr => ∃ j : Nat, j ≤ n ∧ v = .int .u64 (j : Int) ∧ Hid (∃ L2 ρ2 G2, StM w ρ L T G2 B wB pO rB ⟨kind, m, oa, ob, oc⟩ L2 T ρ2 wr ∧ L.Same L2 ∧ GOk G2 ∧ GB G2 (90000000000 + j * 8192) ∧ decN n G = (j + (decN (n - j) G2).1, (decN (n - j) G2).2))) (fun v _ => n - (intOf v).toNat)
    case atStart => exact ⟨0, by omega, rfl, HL0⟩
    case round =>
      obtain ⟨j, hj, rfl, HXl⟩ := hrel
      obtain ⟨L2, ρ2, G2, hs2, hl2, hok2, hgb2, hde2⟩ := HXl.out
      have HS2 := hid hs2
      have HG2 := hid (And.intro hl2 (And.intro hok2 (And.intro hgb2 hde2)))
      clear HXl hs2 hl2 hok2 hgb2 hde2 HL0
      have c2 : wr.cell? ⟨pO, 2, none⟩ = some (.int .u64 (oa : Int)) := HS2.out.ob.cell 2
      by_cases hlt : j < n
      · have dj : decide ((j : Int) < (n : Int)) = true := decide_eq_true (by omega)
        have dj2 : decide (j < n) = true := decide_eq_true hlt
        have cw : wr.cell? ⟨wB, 2, none⟩ = some (.pointer (some ⟨L2.cB, 0, none⟩)) := by rw [HG2.out.1.cB]; exact HS2.out.wb.cell 2
        have HStp := hid (step_walk HS2.out.bm.gm HG2.out.2.1 (HG2.out.2.2.1.mono (by omega)))
        go_wp2_with fail
        refine HStp.out.mono ?_
        intro e3 w3 h3
        rcases h3.fn with ⟨hsf, rfl, hgp⟩ | ⟨G3, hsf, rfl, hgp⟩
        · as_aux_lemma =>
          obtain ⟨L3, ρ3, hbm, hl3, hf3⟩ := HS2.out.bm.gp hgp
          have HSt := hid (HS2.out.step hbm hl3 rfl (hf3.mono (fun c => bX_g)))
          have HX2 : Hid (playS G B ⟨kind, m, oa, ob, oc⟩ = ((0, j), hv00, G2, B)) := hid (by
            have e : decN (n - j) G2 = (0, G2) := by
              obtain ⟨k, hk⟩ : ∃ k, n - j = k + 1 := ⟨n - j - 1, by omega⟩
              rw [hk]
              show (match stepF G2 with | none => (0, G2) | some G' => _) = _
              rw [hsf]
            rw [HX.out, HG2.out.2.2.2, e]
            rfl)
          have HX := HX2
          clear HStp hgp h3 hbm hl3 hf3 HS2 HG2 c2 cw HX2 hsf
          go_wp2_with (refine wpList_store_blk rfl 38 _ _ rfl rB rfl (rzC 0 j) rfl HSt.out.rb rfl I0.out (rz_one 0 j) ?_; intro w9 HB9 HU9)
          refine bodyPost_ret (results_blk (cs := rzC 0 j) Try.results17 rfl aggRz HB9.out) rfl ?_
          have := HSt.out.py (c := 0) (v := j) HU9.out
          rw [HX.out]
          exact this
        · as_aux_lemma =>
          obtain ⟨L3, ρ3, hbm, hl3, hf3⟩ := HS2.out.bm.gp hgp
          obtain ⟨o3, ho3, rfl⟩ := stepF_inv hsf
          have HE : Hid (∃ L2 ρ2 G2, StM w ρ L T G2 B wB pO rB ⟨kind, m, oa, ob, oc⟩ L2 T ρ2 w3 ∧ L.Same L2 ∧ GOk G2 ∧ GB G2 (90000000000 + (j + 1) * 8192) ∧ decN n G = (j + 1 + (decN (n - (j + 1)) G2).1, (decN (n - (j + 1)) G2).2)) := hid ⟨L3, ρ3, dropG G2 o3, HS2.out.step hbm hl3 rfl (hf3.mono (fun c => bX_g)), HG2.out.1.trans hl3, HG2.out.2.1.drop ho3.at_, (HG2.out.2.2.1.drop HG2.out.2.1 ho3.at_).mono (by omega), by
            obtain ⟨k, hk⟩ : ∃ k, n - j = k + 1 := ⟨n - j - 1, by omega⟩
            have e : decN (n - j) G2 = ((decN k (dropG G2 o3)).1 + 1, (decN k (dropG G2 o3)).2) := by
              rw [hk]
              show (match stepF G2 with | none => (0, G2) | some G' => _) = _
              rw [hsf]
            rw [HG2.out.2.2.2, e, show n - (j + 1) = k by omega]
            congr 1
            omega⟩
          clear HStp hgp h3 hbm hl3 hf3 HS2 HG2 c2 cw hsf ho3
          go_wp2
          exact ⟨⟨j + 1, by omega, by go_num, HE⟩, by simp [intOf]; omega⟩
      · as_aux_lemma =>
        have dj : decide ((j : Int) < (n : Int)) = false := decide_eq_false (by omega)
        have dj2 : decide (j < n) = false := decide_eq_false hlt
        have HSt := HS2
        have HX2 : Hid (playS G B ⟨kind, m, oa, ob, oc⟩ = ((0, j), hv00, G2, B)) := hid (by
          rw [HX.out, HG2.out.2.2.2, show n - j = 0 by omega]
          rfl)
        have HX := HX2
        clear HS2 HX2 HG2
        go_wp2_with (refine wpList_store_blk rfl 38 _ _ rfl rB rfl (rzC 0 j) rfl HSt.out.rb rfl I0.out (rz_one 0 j) ?_; intro w9 HB9 HU9)
        refine bodyPost_ret (results_blk (cs := rzC 0 j) Try.results17 rfl aggRz HB9.out) rfl ?_
        have := HSt.out.py (c := 0) (v := j) HU9.out
        rw [HX.out]
        exact this
  have d8 : ((kind : Int) == 8) = false := by simp; omega
  by_cases h9 : kind = 9
  · subst h9
    have HX0 : Hid (playS G B ⟨9, m, oa, ob, oc⟩ = ((0, 0), hv00, G, { B with tr := if oa = 0 then 0 else if B.tr = 0 then 1 else B.tr })) := hid (by unfold playS; dsimp only; rw [if_neg (by decide), if_neg (by decide), if_pos rfl])
    by_cases ha0 : oa = 0
    · as_aux_lemma =>
      subst ha0
      rw [if_pos rfl] at HX0
      have HX := HX0
      have c2' : wz.cell? ⟨pO, 2, none⟩ = some (.int .u64 0) := c2
      have HE := hid (endTrace_walk HS1.out.bm)
      rw [HS1.out.tb] at HE
      clear c2 HX0
      go_wp2_with fail
      refine HE.out.mono ?_
      rintro e2 w2 ⟨rfl, hb2, hf2⟩
      have HSt := hid (HS1.out.step hb2 (GL.Same.refl _) rfl hf2)
      clear HE hb2 hf2 c0 c2' HS1
      go_wp2_with (refine wpList_store_blk rfl 38 _ _ rfl rB rfl (rzC 0 0) rfl HSt.out.rb rfl I0.out (rz_one 0 0) ?_; intro w9 HB9 HU9)
      refine bodyPost_ret (results_blk (cs := rzC 0 0) Try.results17 rfl aggRz HB9.out) rfl ?_
      have := HSt.out.py (c := 0) (v := 0) HU9.out
      rw [HX.out]
      exact this
    · as_aux_lemma =>
      rw [if_neg ha0] at HX0
      have HX := HX0
      have da : ((oa : Int) == 0) = false := by simp; omega
      have HE := hid (startTrace_walk HS1.out.bm HNn.out.bo.tr)
      rw [HS1.out.tb] at HE
      clear HX0
      go_wp2_with fail
      refine HE.out.mono ?_
      rintro e2 w2 ⟨rfl, hb2, hf2⟩
      have HSt := hid (HS1.out.step hb2 (GL.Same.refl _) rfl hf2)
      clear HE hb2 hf2 c0 c2 HS1
      go_wp2_with (refine wpList_store_blk rfl 38 _ _ rfl rB rfl (rzC 0 0) rfl HSt.out.rb rfl I0.out (rz_one 0 0) ?_; intro w9 HB9 HU9)
      refine bodyPost_ret (results_blk (cs := rzC 0 0) Try.results17 rfl aggRz HB9.out) rfl ?_
      have := HSt.out.py (c := 0) (v := 0) HU9.out
      rw [HX.out]
      exact this
  have d9 : ((kind : Int) == 9) = false := by simp; omega
  by_cases h0 : kind = 0
  · have HX0 : Hid (playS G B ⟨kind, m, oa, ob, oc⟩ = if badM (m : Int) then ((1, 0), hv00, G, B) else if (B.roots m).length = 64 then ((8, 0), hv00, G, B) else (if (alocS G B (m : Int) (numX oa) (numX ob)).1.2 ≠ 0 then (((alocS G B (m : Int) (numX oa) (numX ob)).1.2, 0), hv00, (alocS G B (m : Int) (numX oa) (numX ob)).2.1, (alocS G B (m : Int) (numX oa) (numX ob)).2.2) else (giv (alocS G B (m : Int) (numX oa) (numX ob)).1.1 (pushS (alocS G B (m : Int) (numX oa) (numX ob)).2.1 (alocS G B (m : Int) (numX oa) (numX ob)).2.2 (m : Int) (alocS G B (m : Int) (numX oa) (numX ob)).1.1).1, hv00, (alocS G B (m : Int) (numX oa) (numX ob)).2.1, (pushS (alocS G B (m : Int) (numX oa) (numX ob)).2.1 (alocS G B (m : Int) (numX oa) (numX ob)).2.2 (m : Int) (alocS G B (m : Int) (numX oa) (numX ob)).1.1).2))) := hid (by unfold playS; dsimp only; rw [if_neg h7, if_neg h8, if_neg h9, if_pos h0])
    have d0t : ((kind : Int) == 0) = true := by simp; omega
    clear h0 h7 h8 h9
    by_cases hbm : badM (m : Int)
    · as_aux_lemma =>
      rw [if_pos hbm] at HX0
      have HX := HX0
      have HD := hid (depth_bad hbm T.bB wz)
      have HRf := hid (fun w => refuse_walk 1 w)
      clear HX0
      go_wp2_with fail
      refine HD.out.mono ?_
      rintro e2 w2 ⟨rfl, rfl⟩
      go_wp2_with fail
      refine (HRf.out _).mono ?_
      rintro e3 w3 ⟨rfl, hb3⟩
      have HSt := hid (HS1.out.below hb3)
      clear HD HRf hb3 c0 c2 HS1
      go_wp2_with (refine wpList_store_blk rfl 38 _ _ rfl rB rfl (rzC 1 0) rfl HSt.out.rb rfl I0.out (rz_one 1 0) ?_; intro w9 HB9 HU9)
      refine bodyPost_ret (results_blk (cs := rzC 1 0) Try.results17 rfl aggRz HB9.out) rfl ?_
      have := HSt.out.py (c := 1) (v := 0) HU9.out
      rw [HX.out]
      exact this
    rw [if_neg hbm] at HX0
    have hm4 : m < 4 := by unfold badM at hbm; omega
    have HD := hid (depth_walk HS1.out.bm hm4)
    rw [HS1.out.tb] at HD
    obtain ⟨nr, hnr⟩ : ∃ n, (B.roots m).length = n := ⟨_, rfl⟩
    rw [hnr] at HD HX0
    by_cases h64 : nr = 64
    · as_aux_lemma =>
      rw [if_pos h64] at HX0
      subst h64
      have HX := HX0
      have HRf := hid (fun w => refuse_walk 8 w)
      clear HX0 hnr
      go_wp2_with fail
      refine HD.out.mono ?_
      rintro e2 w2 ⟨rfl, rfl⟩
      go_wp2_with fail
      refine (HRf.out _).mono ?_
      rintro e3 w3 ⟨rfl, hb3⟩
      have HSt := hid (HS1.out.below hb3)
      clear HD HRf hb3 c0 c2 HS1
      go_wp2_with (refine wpList_store_blk rfl 38 _ _ rfl rB rfl (rzC 8 0) rfl HSt.out.rb rfl I0.out (rz_one 8 0) ?_; intro w9 HB9 HU9)
      refine bodyPost_ret (results_blk (cs := rzC 8 0) Try.results17 rfl aggRz HB9.out) rfl ?_
      have := HSt.out.py (c := 8) (v := 0) HU9.out
      rw [HX.out]
      exact this
    rw [if_neg h64] at HX0
    have d64 : ((nr : Int) == 64) = false := by simp; omega
    have HNa := hid (number_walk oa)
    have HNb := hid (number_walk ob)
    generalize numX oa = na at HX0 HNa
    generalize numX ob = nb at HX0 HNb
    clear hnr hbm
    as_aux_lemma =>
    go_wp2_with fail
    refine HD.out.mono ?_
    rintro e2 w2 ⟨rfl, rfl⟩
    clear HD
    go_upto_region 21 with fail
    clear d64
    refine wp_region_hlh (fun wq => Blk wq pO 31 (opC ⟨kind, m, oa, ob, oc⟩)) 13 [0, 1, 2, 3, 5, 6] [4, 7, 8] [9, 10, 11, 12] [] rfl (by kernel_rfl) (by kernel_rfl) (fun d _ _ _ _ h => by cases d <;> exact h) (HS1.out.below (Drew.below ⟨1, rfl⟩ _)).ob ?_
    apply Exists.intro
    refine ⟨?_, ?_⟩
    · intro W hW
      have d2 : ∀ x, (W x).cell? ⟨pO, 2, none⟩ = some (.int .u64 (oa : Int)) := fun x => (hW x).cell 2
      have d3 : ∀ x, (W x).cell? ⟨pO, 3, none⟩ = some (.int .u64 (ob : Int)) := fun x => (hW x).cell 3
      clear hW
      simp only [List.take, opsAt, List.drop, List.cons_append, List.nil_append]
      repeat (go_big_quiet_step (fail))
      exact rfl
    simp only [List.take, List.drop, opsAt, List.cons_append, List.nil_append, wpHvK]
    have HS2 : Hid (StM w ρ L T G B wB pO rB ⟨kind, m, oa, ob, oc⟩ L T ρ w2.drew) := hid (HS1.out.below (Drew.below ⟨1, rfl⟩ _))
    generalize w2.drew = w3 at HS2 ⊢
    clear HS1 c0 c2
    have HAl := hid (alloc_walk HS2.out.bm (m : Int) na nb (fun m => by have := HNn.out.bo.nf m; have := HNn.out.n2; omega))
    rw [HS2.out.tb] at HAl
    obtain ⟨⟨⟨av, ac⟩, G4, B4⟩, hal⟩ : ∃ r, alocS G B (m : Int) na nb = r := ⟨_, rfl⟩
    rw [hal] at HAl HX0
    dsimp only at HX0
    clear hal
    go_wp2_with fail
    refine (HNa.out _).mono ?_
    rintro e wy ⟨rfl, rfl⟩
    go_wp2_with fail
    refine ⟨HS2.out.ob, ?_⟩
    go_wp2_with fail
    refine (HNb.out _).mono ?_
    rintro e wy ⟨rfl, rfl⟩
    go_wp2_with fail
    refine ⟨HS2.out.ob, ?_⟩
    go_wp2_with fail
    refine HAl.out.mono ?_
    rintro e4 w4 ⟨he4, T4, ρ4, ht4, hb4, hf4⟩
    dsimp only at he4 hb4
    subst he4
    have HS4 := hid (HS2.out.step hb4 (GL.Same.refl _) (ht4.trans HS2.out.tb.symm) hf4)
    clear HAl ht4 hb4 hf4 HS2 HNa HNb
    go_wp2_with fail
    refine ⟨HS4.out.ob, ?_⟩
    apply Exists.intro
    refine ⟨?_, ?_⟩
    · intro W hW
      clear hW
      repeat (go_big_quiet_step (fail))
      exact rfl
    simp only [wpHv]
    simp only [QN]
    by_cases hac : ac = 0
    rotate_left
    · as_aux_lemma =>
      rw [if_pos hac] at HX0
      have HX := HX0
      have dac : ((ac : Int) != 0) = true := by simp; omega
      have HRf := hid (refuse_walk ac w4)
      clear HX0
      go_wp2_with fail
      refine HRf.out.mono ?_
      rintro e5 w5 ⟨rfl, hb5⟩
      have HSt := hid (HS4.out.below hb5)
      clear HRf hb5 HS4
      go_wp2_with (refine wpList_store_blk rfl 38 _ _ rfl rB rfl (rzC ac 0) rfl HSt.out.rb rfl I0.out (rz_one ac 0) ?_; intro w9 HB9 HU9)
      refine bodyPost_ret (results_blk (cs := rzC ac 0) Try.results17 rfl aggRz HB9.out) rfl ?_
      have := HSt.out.py (c := ac) (v := 0) HU9.out
      rw [HX.out]
      exact this
    subst hac
    rw [if_neg (fun h => h rfl)] at HX0
    have HP := hid (pushRoot_walk HS4.out.bm (m : Int) av)
    rw [HS4.out.tb] at HP
    obtain ⟨⟨pc, pB⟩, hp⟩ : ∃ r, pushS G4 B4 (m : Int) av = r := ⟨_, rfl⟩
    rw [hp] at HP HX0
    dsimp only at HX0
    clear hp
    as_aux_lemma =>
    go_wp2_with fail
    refine HP.out.mono ?_
    rintro e6 w6 ⟨he6, hb6, hf6⟩
    dsimp only at he6 hb6
    subst he6
    have HS6 := hid (HS4.out.step hb6 (GL.Same.refl _) rfl hf6)
    clear HP hb6 hf6 HS4
    have HGv := hid (give_walk av pc w6)
    obtain ⟨⟨gc, gv⟩, hgv⟩ : ∃ r, giv av pc = r := ⟨_, rfl⟩
    rw [hgv] at HGv HX0
    dsimp only at HGv
    have HX := HX0
    clear hgv HX0
    go_wp2_with fail
    refine HGv.out.mono ?_
    rintro e7 w7 ⟨rfl, hb7⟩
    have HSt := hid (HS6.out.below hb7)
    clear HGv hb7 HS6
    go_wp2_with (refine wpList_store_blk rfl 38 _ _ rfl rB rfl (rzC gc gv) rfl HSt.out.rb rfl I0.out (rz_one gc gv) ?_; intro w9 HB9 HU9)
    refine bodyPost_ret (results_blk (cs := rzC gc gv) Try.results17 rfl aggRz HB9.out) rfl ?_
    have := HSt.out.py (c := gc) (v := gv) HU9.out
    rw [HX.out]
    exact this
  have d0 : ((kind : Int) == 0) = false := by simp; omega
  by_cases h4 : kind = 4
  · as_aux_lemma =>
    subst h4
    have HP := hid (popRoot_walk HS1.out.bm (m : Int))
    rw [HS1.out.tb] at HP
    have HX0 : Hid (playS G B ⟨4, m, oa, ob, oc⟩ = (giv (popS B (m : Int)).1.1 (popS B (m : Int)).1.2, hv00, G, (popS B (m : Int)).2)) := hid (by unfold playS; dsimp only; rw [if_neg (by decide), if_neg (by decide), if_neg (by decide), if_neg (by decide), if_pos rfl])
    obtain ⟨⟨⟨pv, pc⟩, pB⟩, hp⟩ : ∃ r, popS B (m : Int) = r := ⟨_, rfl⟩
    rw [hp] at HP HX0
    dsimp only at HX0
    clear hp
    go_wp2_with fail
    refine HP.out.mono ?_
    rintro e2 w2 ⟨he2, hb2, hf2⟩
    dsimp only at he2 hb2
    subst he2
    have HS2 := hid (HS1.out.step hb2 (GL.Same.refl _) rfl hf2)
    clear HP hb2 hf2 c0 c2 HS1
    have HGv := hid (give_walk pv pc w2)
    obtain ⟨⟨gc, gv⟩, hgv⟩ : ∃ r, giv pv pc = r := ⟨_, rfl⟩
    rw [hgv] at HGv HX0
    dsimp only at HGv
    have HX := HX0
    clear hgv HX0
    go_wp2_with fail
    refine HGv.out.mono ?_
    rintro e3 w3 ⟨rfl, hb3⟩
    have HSt := hid (HS2.out.below hb3)
    clear HGv hb3 HS2
    go_wp2_with (refine wpList_store_blk rfl 38 _ _ rfl rB rfl (rzC gc gv) rfl HSt.out.rb rfl I0.out (rz_one gc gv) ?_; intro w9 HB9 HU9)
    refine bodyPost_ret (results_blk (cs := rzC gc gv) Try.results17 rfl aggRz HB9.out) rfl ?_
    have := HSt.out.py (c := gc) (v := gv) HU9.out
    rw [HX.out]
    exact this
  have d4 : ((kind : Int) == 4) = false := by simp; omega
  by_cases h6 : kind = 6
  · have HX0 : Hid (playS G B ⟨kind, m, oa, ob, oc⟩ = if badM (m : Int) then ((1, 0), hv00, G, B) else if (readS G oa (numX ob)).2 = 0 ∧ ((G.head oc).isSome = true ∨ oc = 0) then ((12, 0), hv00, G, B) else (((writeS G B (m : Int) oa (numX ob) oc).1, 0), hv00, (writeS G B (m : Int) oa (numX ob) oc).2)) := hid (by unfold playS; dsimp only; rw [if_neg h7, if_neg h8, if_neg h9, if_neg h0, if_neg h4, if_pos h6])
    have d6t : ((kind : Int) == 6) = true := by simp; omega
    clear h0 h7 h8 h9 h4 h6
    by_cases hbm : badM (m : Int)
    · as_aux_lemma =>
      rw [if_pos hbm] at HX0
      have HX := HX0
      have HD := hid (depth_bad hbm T.bB wz)
      have HRf := hid (fun w => refuse_walk 1 w)
      clear HX0
      go_wp2_with fail
      refine HD.out.mono ?_
      rintro e2 w2 ⟨rfl, rfl⟩
      go_wp2_with fail
      refine (HRf.out _).mono ?_
      rintro e3 w3 ⟨rfl, hb3⟩
      have HSt := hid (HS1.out.below hb3)
      clear HD HRf hb3 c0 c2 HS1
      go_wp2_with (refine wpList_store_blk rfl 38 _ _ rfl rB rfl (rzC 1 0) rfl HSt.out.rb rfl I0.out (rz_one 1 0) ?_; intro w9 HB9 HU9)
      refine bodyPost_ret (results_blk (cs := rzC 1 0) Try.results17 rfl aggRz HB9.out) rfl ?_
      have := HSt.out.py (c := 1) (v := 0) HU9.out
      rw [HX.out]
      exact this
    rw [if_neg hbm] at HX0
    have hm4 : m < 4 := by unfold badM at hbm; omega
    have HD := hid (depth_walk HS1.out.bm hm4)
    rw [HS1.out.tb] at HD
    generalize (B.roots m).length = nr at HD
    have HNb := hid (fun w => number_walk ob w)
    generalize numX ob = nb at HX0 HNb
    clear hbm
    as_aux_lemma =>
    go_wp2_with fail
    refine HD.out.mono ?_
    rintro e2 w2 ⟨rfl, rfl⟩
    clear HD c0 c2
    go_upto_region 31 with fail
    obtain ⟨X, W, HTT, H0, hne, HC⟩ := class_below w2
    have HSy : Hid (∀ y, StM w ρ L T G B wB pO rB ⟨kind, m, oa, ob, oc⟩ L T ρ (W y)) := hid (fun y => HS1.out.below (HTT.out y))
    have k2 : ∀ y, (W y).cell? ⟨pO, 2, none⟩ = some (.int .u64 (oa : Int)) := fun y => (HSy.out y).ob.cell 2
    have k3 : ∀ y, (W y).cell? ⟨pO, 3, none⟩ = some (.int .u64 (ob : Int)) := fun y => (HSy.out y).ob.cell 3
    have HRd0 : Hid (∀ y, Calls Try.prog 55 #[.pointer (some ⟨T.bB, 0, none⟩), .int .u64 (oa : Int), .int .i64 nb] (W y) fun e w' => e = .returned (.tuple #[.int .u64 ((readS G oa nb).1 : Int), .int .u8 ((readS G oa nb).2 : Int)]) ∧ Below (W y).heap.size (W y) w') := hid (fun y => read_walk (HSy.out y).bm HNn.out.ok oa nb)
    obtain ⟨⟨rv, rc⟩, hrd⟩ : ∃ r, readS G oa nb = r := ⟨_, rfl⟩
    rw [hrd] at HX0
    have HRd : Hid (∀ y, Calls Try.prog 55 #[.pointer (some ⟨T.bB, 0, none⟩), .int .u64 (oa : Int), .int .i64 nb] (W y) fun e w' => e = .returned (.tuple #[.int .u64 (rv : Int), .int .u8 (rc : Int)]) ∧ Below (W y).heap.size (W y) w') := hid (fun y => by have := HRd0.out y; rw [hrd] at this; exact this)
    dsimp only at HX0
    clear hrd HRd0
    refine wp_region_class W (by kernel_rfl) (by kernel_rfl) H0.out ?_
    repeat (go_big_quiet_step (first
      | (go_at_call 51; exact Calls.class_same (HNb.out _))
      | (go_at_call 55; exact Calls.class_of HC.out (HRd.out _))))
    refine wpQuiet_nil ?_
    intro z
    have HS3 := hid (HSy.out z)
    generalize W z = w3 at HS3 ⊢
    clear k2 k3 H0 HTT HC hne HRd HSy HS1
    go_upto_region 32 with fail
    obtain ⟨⟨p, q⟩, hp⟩ : ∃ z, (G.head oc).getD (0, 0) = z := ⟨_, rfl⟩
    obtain ⟨bb, hbb⟩ : ∃ b, (G.head oc).isSome = b := ⟨_, rfl⟩
    rw [hbb] at HX0
    have HShp : Hid (∀ wx, StM w ρ L T G B wB pO rB ⟨kind, m, oa, ob, oc⟩ L T ρ wx → Calls Try.prog 32 #[.pointer (some ⟨L.hB, 0, none⟩), .int .u64 (oc : Int)] wx fun e w' => e = .returned (.tuple #[.agg #[.int .i64 (p : Int), .int .i64 (q : Int)], .bool bb]) ∧ Below wx.heap.size wx w') := hid (fun wx hx => by
      have := shapeOf_walk hx.bm.gm oc
      rw [hp, hbb] at this
      exact this)
    clear hp hbb
    refine wp_region_late (C := fun wx => StM w ρ L T G B wB pO rB ⟨kind, m, oa, ob, oc⟩ L T ρ wx) (n := 10) (j := 9) (B := rB + 1) (t := 73) (zs := [.int .i64 0, .int .i64 0]) (vs := [.int .i64 (p : Int), .int .i64 (q : Int)]) rfl rfl rfl (by kernel_rfl) (by kernel_rfl) (by kernel_rfl) (by kernel_rfl) (by kernel_rfl) ?hr2 (fun _ _ h hb => h.below hb) (fun _ h => h.rb.lt) HS3.out ?hx2
    case hr2 =>
      intro a w
      simp [go_sem]
    apply Exists.intro
    refine ⟨?_, ?_, ?_⟩
    · intro X W hne hX hI
      have k0 : ∀ x, (W x).cell? ⟨wB, 0, none⟩ = some (.pointer (some ⟨L.hB, 0, none⟩)) := fun x => (hX x).wb.cell 0
      have k4 : ∀ x, (W x).cell? ⟨pO, 4, none⟩ = some (.int .u64 (oc : Int)) := fun x => (hX x).ob.cell 4
      have HI := hid hI
      have HSx : Hid (∀ x, Calls Try.prog 32 #[.pointer (some ⟨L.hB, 0, none⟩), .int .u64 (oc : Int)] (W x) fun e w' => e = .returned (.tuple #[.agg #[.int .i64 (p : Int), .int .i64 (q : Int)], .bool bb]) ∧ Below (W x).heap.size (W x) w') := hid (fun x => HShp.out _ (hX x))
      clear hI hX
      dsimp only [List.take]
      repeat (go_big_quiet_step ((go_at_call 32; exact Calls.class_of HI.out (HSx.out _))))
      exact wpQuiet_nil rfl
    · intro g wx hg HSx hbl
      have k0 : wx.cell? ⟨g, 0, none⟩ = some (.int .i64 0) := hbl.cell 0
      have k1 : wx.cell? ⟨g, 1, none⟩ = some (.int .i64 0) := hbl.cell 1
      have f0 := hbl.frozen 0
      have f1 := hbl.frozen 1
      have e1 := HrB.out
      have e2 := HpO.out
      have e3 := HwB.out
      refine ⟨(wx.setCell ⟨g, 0, none⟩ (.int .i64 (p : Int))).setCell ⟨g, 1, none⟩ (.int .i64 (q : Int)), ?_, HSx.upd (upd2 g 0 1 _ _ wx) (Hz.out g (by omega)) (by omega) (by omega) (by omega) (by omega), ?_⟩
      · simp [execOp, go_sem, Act.eval, Act.put, k0, k1, f0, f1]
      · exact (hbl.set 0 _).set 1 _
    · intro g w4 hg hS4 hbl
      have HS4 := hid hS4
      dsimp only [List.drop]
      have c4 : w4.cell? ⟨pO, 4, none⟩ = some (.int .u64 (oc : Int)) := HS4.out.ob.cell 4
      clear hS4 hbl HShp HS3
      by_cases hrc : rc = 0
      · subst hrc
        by_cases hsk : bb = true ∨ oc = 0
        · rw [if_pos ⟨rfl, hsk⟩] at HX0
          have HX := HX0
          clear HX0
          have HRf := hid (refuse_walk 12 w4)
          cases bb with
          | true =>
            as_aux_lemma =>
            go_wp2_with fail
            refine HRf.out.mono ?_
            rintro e7 w7 ⟨rfl, hb7⟩
            have HSt := hid (HS4.out.below hb7)
            clear HRf hb7 HS4 c4
            go_wp2_with (refine wpList_store_blk rfl 38 _ _ rfl rB rfl (rzC 12 0) rfl HSt.out.rb rfl I0.out (rz_one 12 0) ?_; intro w9 HB9 HU9)
            refine bodyPost_ret (results_blk (cs := rzC 12 0) Try.results17 rfl aggRz HB9.out) rfl ?_
            have := HSt.out.py (c := 12) (v := 0) HU9.out
            rw [HX.out]
            exact this
          | false =>
            as_aux_lemma =>
            have hoc : oc = 0 := by rcases hsk with e | e; cases e; exact e
            subst hoc
            have c4' : w4.cell? ⟨pO, 4, none⟩ = some (.int .u64 0) := c4
            clear c4
            go_wp2_with fail
            refine HRf.out.mono ?_
            rintro e7 w7 ⟨rfl, hb7⟩
            have HSt := hid (HS4.out.below hb7)
            clear HRf hb7 HS4 c4'
            go_wp2_with (refine wpList_store_blk rfl 38 _ _ rfl rB rfl (rzC 12 0) rfl HSt.out.rb rfl I0.out (rz_one 12 0) ?_; intro w9 HB9 HU9)
            refine bodyPost_ret (results_blk (cs := rzC 12 0) Try.results17 rfl aggRz HB9.out) rfl ?_
            have := HSt.out.py (c := 12) (v := 0) HU9.out
            rw [HX.out]
            exact this
        · rw [if_neg (fun h => hsk h.2)] at HX0
          have hb0 : bb = false := by cases bb with | false => rfl | true => exact absurd (Or.inl rfl) hsk
          have hoc : oc ≠ 0 := fun e => hsk (.inr e)
          subst hb0
          have doc : ((oc : Int) == 0) = false := by simp; omega
          go_upto_region 35 with fail
          clear c4
          refine wp_region_heavy (fun wq => Blk wq pO 31 (opC ⟨kind, m, oa, ob, oc⟩)) 11 [0, 1, 2, 3, 4, 5, 7, 8] [6, 9, 10] rfl (by kernel_rfl) (by kernel_rfl) (fun d _ _ _ _ h => by cases d <;> exact h) (HS4.out.below (Drew.below ⟨1, rfl⟩ _)).ob ?_
          apply Exists.intro
          refine ⟨?_, ?_⟩
          · intro W hW
            have k2 : ∀ x, (W x).cell? ⟨pO, 2, none⟩ = some (.int .u64 (oa : Int)) := fun x => (hW x).cell 2
            have k3 : ∀ x, (W x).cell? ⟨pO, 3, none⟩ = some (.int .u64 (ob : Int)) := fun x => (hW x).cell 3
            have k4 : ∀ x, (W x).cell? ⟨pO, 4, none⟩ = some (.int .u64 (oc : Int)) := fun x => (hW x).cell 4
            clear hW
            simp only [List.take, opsAt, List.drop, List.cons_append, List.nil_append]
            repeat (go_big_quiet_step (fail))
            exact rfl
          simp only [List.take, List.drop, opsAt, List.cons_append, List.nil_append, wpHv]
          have HS5 : Hid (StM w ρ L T G B wB pO rB ⟨kind, m, oa, ob, oc⟩ L T ρ w4.drew) := hid (HS4.out.below (Drew.below ⟨1, rfl⟩ _))
          generalize w4.drew = w5 at HS5 ⊢
          clear HS4
          have HWr := hid (write_walk HS5.out.bm HNn.out.ok (m : Int) oa nb oc (by have := HNn.out.bo.md; have := HNn.out.n2; omega) (fun m => by have := HNn.out.bo.nl m; have := HNn.out.n2; omega))
          rw [HS5.out.tb] at HWr
          obtain ⟨⟨wc, G6, B6⟩, hwr⟩ : ∃ r, writeS G B (m : Int) oa nb oc = r := ⟨_, rfl⟩
          rw [hwr] at HWr HX0
          have HX := HX0
          clear hwr HX0
          go_wp2_with fail
          refine (HNb.out _).mono ?_
          rintro e wy ⟨rfl, rfl⟩
          go_wp2_with fail
          refine ⟨HS5.out.ob, ?_⟩
          go_wp2_with fail
          refine HWr.out.mono ?_
          rintro e6 w6 ⟨he6, T6, ρ6, ht6, hb6, hf6⟩
          dsimp only at he6 hb6
          subst he6
          have HS6 := hid (HS5.out.step hb6 (GL.Same.refl _) (ht6.trans HS5.out.tb.symm) hf6)
          clear HWr ht6 hb6 hf6 HS5
          go_wp2_with fail
          refine ⟨HS6.out.ob, ?_⟩
          have HRf := hid (refuse_walk wc w6)
          go_wp2_with fail
          refine HRf.out.mono ?_
          rintro e7 w7 ⟨rfl, hb7⟩
          have HSt := hid (HS6.out.below hb7)
          clear HRf hb7 HS6
          go_wp2_with fail
          refine ⟨HSt.out.ob, ?_⟩
          simp only [QN]
          go_wp2_with (refine wpList_store_blk rfl 38 _ _ rfl rB rfl (rzC wc 0) rfl HSt.out.rb rfl I0.out (rz_one wc 0) ?_; intro w9 HB9 HU9)
          refine bodyPost_ret (results_blk (cs := rzC wc 0) Try.results17 rfl aggRz HB9.out) rfl ?_
          have := HSt.out.py (c := wc) (v := 0) HU9.out
          rw [HX.out]
          exact this
      · rw [if_neg (fun h => hrc h.1)] at HX0
        have drc : ((rc : Int) == 0) = false := by simp; omega
        go_upto_region 35 with fail
        clear c4
        refine wp_region_heavy (fun wq => Blk wq pO 31 (opC ⟨kind, m, oa, ob, oc⟩)) 11 [0, 1, 2, 3, 4, 5, 7, 8] [6, 9, 10] rfl (by kernel_rfl) (by kernel_rfl) (fun d _ _ _ _ h => by cases d <;> exact h) (HS4.out.below (Drew.below ⟨1, rfl⟩ _)).ob ?_
        apply Exists.intro
        refine ⟨?_, ?_⟩
        · intro W hW
          have k2 : ∀ x, (W x).cell? ⟨pO, 2, none⟩ = some (.int .u64 (oa : Int)) := fun x => (hW x).cell 2
          have k3 : ∀ x, (W x).cell? ⟨pO, 3, none⟩ = some (.int .u64 (ob : Int)) := fun x => (hW x).cell 3
          have k4 : ∀ x, (W x).cell? ⟨pO, 4, none⟩ = some (.int .u64 (oc : Int)) := fun x => (hW x).cell 4
          clear hW
          simp only [List.take, opsAt, List.drop, List.cons_append, List.nil_append]
          repeat (go_big_quiet_step (fail))
          exact rfl
        simp only [List.take, List.drop, opsAt, List.cons_append, List.nil_append, wpHv]
        have HS5 : Hid (StM w ρ L T G B wB pO rB ⟨kind, m, oa, ob, oc⟩ L T ρ w4.drew) := hid (HS4.out.below (Drew.below ⟨1, rfl⟩ _))
        generalize w4.drew = w5 at HS5 ⊢
        clear HS4
        have HWr := hid (write_walk HS5.out.bm HNn.out.ok (m : Int) oa nb oc (by have := HNn.out.bo.md; have := HNn.out.n2; omega) (fun m => by have := HNn.out.bo.nl m; have := HNn.out.n2; omega))
        rw [HS5.out.tb] at HWr
        obtain ⟨⟨wc, G6, B6⟩, hwr⟩ : ∃ r, writeS G B (m : Int) oa nb oc = r := ⟨_, rfl⟩
        rw [hwr] at HWr HX0
        have HX := HX0
        clear hwr HX0
        go_wp2_with fail
        refine (HNb.out _).mono ?_
        rintro e wy ⟨rfl, rfl⟩
        go_wp2_with fail
        refine ⟨HS5.out.ob, ?_⟩
        go_wp2_with fail
        refine HWr.out.mono ?_
        rintro e6 w6 ⟨he6, T6, ρ6, ht6, hb6, hf6⟩
        dsimp only at he6 hb6
        subst he6
        have HS6 := hid (HS5.out.step hb6 (GL.Same.refl _) (ht6.trans HS5.out.tb.symm) hf6)
        clear HWr ht6 hb6 hf6 HS5
        go_wp2_with fail
        refine ⟨HS6.out.ob, ?_⟩
        have HRf := hid (refuse_walk wc w6)
        go_wp2_with fail
        refine HRf.out.mono ?_
        rintro e7 w7 ⟨rfl, hb7⟩
        have HSt := hid (HS6.out.below hb7)
        clear HRf hb7 HS6
        go_wp2_with fail
        refine ⟨HSt.out.ob, ?_⟩
        simp only [QN]
        go_wp2_with (refine wpList_store_blk rfl 38 _ _ rfl rB rfl (rzC wc 0) rfl HSt.out.rb rfl I0.out (rz_one wc 0) ?_; intro w9 HB9 HU9)
        refine bodyPost_ret (results_blk (cs := rzC wc 0) Try.results17 rfl aggRz HB9.out) rfl ?_
        have := HSt.out.py (c := wc) (v := 0) HU9.out
        rw [HX.out]
        exact this
  have d6 : ((kind : Int) == 6) = false := by simp; omega
  by_cases hnm : kind = 3 ∨ kind = 5 ∨ kind = 2 ∨ kind = 1
  · have HX0 : Hid (playS G B ⟨kind, m, oa, ob, oc⟩ = ((namedS G B ⟨kind, m, oa, ob, oc⟩).1, hv00, (namedS G B ⟨kind, m, oa, ob, oc⟩).2)) := hid (by unfold playS; dsimp only; rw [if_neg h7, if_neg h8, if_neg h9, if_neg h0, if_neg h4, if_neg h6, if_pos hnm])
    have HPn := hid (playNamed_walk HS1.out.bm HS1.out.wb HS1.out.w0 HNn.out.ok ⟨kind, m, oa, ob, oc⟩ ⟨hk256, hm256, ha64, hb64, hc64⟩ (by have := HNn.out.bo.md; have := HNn.out.n2; omega) (fun m => by have := HNn.out.bo.nl m; have := HNn.out.n2; omega))
    obtain ⟨⟨⟨nc, nv⟩, G2, B2⟩, hnr⟩ : ∃ r, namedS G B ⟨kind, m, oa, ob, oc⟩ = r := ⟨_, rfl⟩
    rw [hnr] at HPn HX0
    dsimp only at HX0
    unfold opC at HPn
    dsimp only at HPn
    have c1 : wz.cell? ⟨pO, 1, none⟩ = some (.int .u8 (m : Int)) := HS1.out.ob.cell 1
    have c3 : wz.cell? ⟨pO, 3, none⟩ = some (.int .u64 (ob : Int)) := HS1.out.ob.cell 3
    have c4 : wz.cell? ⟨pO, 4, none⟩ = some (.int .u64 (oc : Int)) := HS1.out.ob.cell 4
    have HX := HX0
    clear hnr HX0
    rcases hnm with rfl | rfl | rfl | rfl
    all_goals
      as_aux_lemma =>
      go_wp2_with fail
      refine HPn.out.mono ?_
      rintro e2 w2 ⟨he2, L2, T2, ρ2, hs2, ht2, hb2, hf2⟩
      dsimp only at he2 hb2
      subst he2
      have HSt := hid (HS1.out.step hb2 hs2 ht2 hf2)
      clear HPn hs2 ht2 hb2 hf2 c0 c1 c2 c3 c4 HS1
      go_wp2_with (refine wpList_store_blk rfl 38 _ _ rfl rB rfl (rzC nc nv) rfl HSt.out.rb rfl I0.out (rz_one nc nv) ?_; intro w9 HB9 HU9)
      refine bodyPost_ret (results_blk (cs := rzC nc nv) Try.results17 rfl aggRz HB9.out) rfl ?_
      have := HSt.out.py (c := nc) (v := nv) HU9.out
      rw [HX.out]
      exact this
  as_aux_lemma =>
  have dk3 : ((kind : Int) == 3) = false := by simp; omega
  have dk5 : ((kind : Int) == 5) = false := by simp; omega
  have dk2 : ((kind : Int) == 2) = false := by simp; omega
  have dk1 : ((kind : Int) == 1) = false := by simp; omega
  have HX : Hid (playS G B ⟨kind, m, oa, ob, oc⟩ = ((11, 0), hv00, G, B)) := hid (by unfold playS; dsimp only; rw [if_neg h7, if_neg h8, if_neg h9, if_neg h0, if_neg h4, if_neg h6, if_neg hnm])
  have HRf := hid (refuse_walk 11 wz)
  go_wp2_with fail
  refine HRf.out.mono ?_
  rintro e2 w2 ⟨rfl, hb2⟩
  have HSt := hid (HS1.out.below hb2)
  clear HRf hb2 c0 c2 HS1
  go_wp2_with (refine wpList_store_blk rfl 38 _ _ rfl rB rfl (rzC 11 0) rfl HSt.out.rb rfl I0.out (rz_one 11 0) ?_; intro w9 HB9 HU9)
  refine bodyPost_ret (results_blk (cs := rzC 11 0) Try.results17 rfl aggRz HB9.out) rfl ?_
  have := HSt.out.py (c := 11) (v := 0) HU9.out
  rw [HX.out]
  exact this
end
end Go.Proofs.Qxb6500888a
