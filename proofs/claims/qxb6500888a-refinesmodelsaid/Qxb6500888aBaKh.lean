/- The model's pause, walked (written by tools/mk_kh.py). -/
import Derived.Test.Qxb6500888aBaKg
namespace Go.Proofs.Qxb6500888a
open Go.RowKit
set_option linter.unusedSimpArgs false
set_option linter.unusedVariables false
attribute [local irreducible] wdC
section
variable {w w' : World} {ρ ρ' : Rl} {L L' : GL} {Y Y' : ML} {G G' : GS} {M M' : MS}
/-- What the model's pause leaves. -/
structure MpP (w : World) (ρ : Rl) (L : GL) (Y : ML) (r : GS × MS × (Nat → List Nat)) (V : Nat → Value) (L' : GL) (Y' : ML) (ρ' : Rl) (w' : World) : Prop where
  md : MdM w' ρ' L' Y' r.1 r.2.1
  mb : Y'.mB = Y.mB
  sm : L.Same L'
  fr : Fr pX ρ w ρ' w'
  rw : ∀ i, i < 8 → ∃ c, c ≠ 0 ∧ RowX rtA w' ρ' c (V i) (r.2.2 i)
/-- The written fields under way. -/
def PaA (w : World) (ρ : Rl) (L : GL) (Y : ML) (hB rB : Nat) (G : GS) (M : MS) (E : List Ent) (r : Nat) (Tk D : List Nat) (wr : World) : Prop := ∃ ρ1 V1, MPM wr ρ1 L Y hB rB rlA V1 G M (mhls G M.atp D) ∧ RgI wr ρ1 Y.mW 15 r E Tk ∧ Fr pX ρ w ρ1 wr
theorem pX_g {c : Nat} (h : gX c = true) : pX c = true := pX_b (bX_g h)
theorem rlA_ne {i : Nat} : ∀ j, j < 8 → j ≠ i → rlA j ≠ 41 + i := fun j _ h e => h (by unfold rlA at e; omega)
theorem app_60 {i : Nat} (hi : i < 8) : (60 == 41 + i || 60 == 40) = false := by simp; omega
theorem app_15 {i : Nat} (hi : i < 8) : (15 == 41 + i || 15 == 40) = false := by simp; omega
theorem pX0 : pX 0 = false := rfl
theorem RlOk.a : RlOk (fup rlA 3 13) := fun i h4 h6 => by
  unfold fup rlA
  refine ⟨by rw [if_neg (by omega)], fun j hj hne => ?_⟩
  split <;> omega
theorem RlOk.b {c : Nat} (hc : c ≤ 44) : RlOk (fup (fup rlA 3 13) 7 c) := fun i h4 h6 => by
  unfold fup rlA
  refine ⟨by rw [if_neg (by omega), if_neg (by omega)], fun j hj hne => ?_⟩
  repeat' split
  all_goals omega
/-- The model's state behind the seeds. -/
def mS1 (M : MS) : MS := { M with last := mrK M 4, st := false, tr := if M.st = true then true else M.tr }
/-- The increments ahead. -/
def PaC (w : World) (ρ : Rl) (L : GL) (Y : ML) (hB rB : Nat) (G : GS) (M : MS) (W : List Nat) (wc : World) : Prop := ∃ rl V ρ1, RlOk rl ∧ MPM wc ρ1 L Y hB rB rl V G (mS1 M) (mhv0 G M W) ∧ Fr pX ρ w ρ1 wc
/-- The increments under way. -/
def QuR (w : World) (ρ : Rl) (L : GL) (Y : ML) (hB rB : Nat) (rl : Nat → Nat) (M : MS) (R : GS × (Nat → List Nat)) (hv0 : Nat → List Nat) (Cm m : Nat) (v : Value) (wr : World) : Prop := ∃ p td a n c L1 V1 ρ1, v = .slice a n c ∧ QuP R hv0 Cm m p td ∧ MPM wr ρ1 L1 Y hB rB rl V1 p.1 M p.2 ∧ TdM wr ρ1 a n c td ∧ L.Same L1 ∧ Fr pX ρ w ρ1 wr
theorem MPM.elem {hB rB : Nat} {rl : Nat → Nat} {V : Nat → Value} {hv : Nat → List Nat} (h : MPM w ρ L Y hB rB rl V G M hv) {i : Nat} (hi : i < 8) {a : Option Addr} {n c : Nat} (hV : V i = .slice a n c) {k : Nat} (hk : k < (hv i).length) : ∃ g, a = some ⟨g, 0, none⟩ ∧ w.cell? ⟨g, k, none⟩ = some (.int .u64 (((hv i).getD k 0 : Nat) : Int)) := by
  obtain ⟨g, q, hv', hg, hc⟩ := (h.hm.rw i hi).get (by decide) (fun _ => rfl) (List.getElem?_eq_getElem hk)
  rw [hV] at hv'
  injection hv' with e1 _ _
  refine ⟨g, e1, ?_⟩
  have := hc 0 (by decide)
  rw [show k * rtA.n + 0 = k by show k * 1 + 0 = k; omega] at this
  rw [this]
  simp [rtA, List.getD, hk]
/-- The new objects under way. -/
def PaE (w : World) (ρ : Rl) (L : GL) (Y : ML) (hB rB : Nat) (rl : Nat → Nat) (M : MS) (p : GS × (Nat → List Nat)) (mF : Nat) (E : List Ent) (r : Nat) (Tk F : List Nat) (wr : World) : Prop := ∃ ρ1 L1 V1, MPM wr ρ1 L1 Y hB rB rl V1 (reaps p F).1 M (reaps p F).2 ∧ RgI wr ρ1 mF 20 r E Tk ∧ L.Same L1 ∧ Fr pX ρ w ρ1 wr ∧ RpS p.1 p.2 F.length (reaps p F).1 (reaps p F).2
/-- The decrements under way. -/
def PaD (w : World) (ρ : Rl) (L : GL) (Y : ML) (hB rB : Nat) (rl : Nat → Nat) (V : Nat → Value) (M : MS) (hv : Nat → List Nat) (G0 : GS) (D : Nat) (G : GS) (wr : World) : Prop := ∃ ρ1 L1, MPM wr ρ1 L1 Y hB rB rl V G M hv ∧ L.Same L1 ∧ Fr pX ρ w ρ1 wr ∧ DcS G0 D G
theorem PaD.push {hB rB D : Nat} {rl : Nat → Nat} {V : Nat → Value} {hv : Nat → List Nat} {wr : World} {ρ1 : Rl} {L1 : GL} {G0 : GS} (h : MPM wr ρ1 L1 Y hB rB rl V G M hv) (hs : L.Same L1) (hf : Fr pX ρ w ρ1 wr) (hd : DcS G0 D G) (o : Nat) (hc : G0.calls.length + D ≤ 1000000000000) (hp : ∀ a, G0.pend a + D ≤ 1000000000000) :
    Calls Try.prog 78 #[.pointer (some ⟨L1.cB, 0, none⟩), .int .u64 (o : Int)] wr fun e w' => e = .returned (.tuple #[]) ∧ PaD w ρ L Y hB rB rl V M hv G0 (D + 1) (decG G o) w' := by
  refine (pushDec_walk h.md.gm o (Nat.le_trans hd.c hc) (Nat.le_trans (hd.p o) (hp o))).mono ?_
  rintro e w2 ⟨he, hg⟩
  obtain ⟨L2, ρ2, h1, h2, h3⟩ := h.ground hg
  exact ⟨he, ρ2, L2, h1, hs.trans h2, hf.trans (h3.mono (fun c => pX_g)), hd.step o⟩
theorem copy_words {aB : Nat} {atp : Nat → Nat} (h : GM w ρ L G) (hs : Blk w aB 48 (wdC atp)) (ty : TypeId) : ∃ w', (Builtin.copy_ #[34, 34] ty #[.slice (some ⟨aB, 0, none⟩) 32768 32768, .slice (some ⟨L.wB, 0, none⟩) 32768 32768]).run Try.prog w = .ok (.int .i64 32768) w' ∧ Blk w' aB 48 (wdC G.word) ∧ Upd aB w w' := by
  obtain ⟨i, hi, hz⟩ := infoA1
  obtain ⟨w', h1, h2, h3⟩ := run_copy_blk (P := Try.prog) w 34 34 ty 48 i 1 Try.underlying34 hi hz (some ⟨aB, 0, none⟩) (some ⟨L.wB, 0, none⟩) 32768 32768 32768 32768 aB 0 48 (wdC atp) (wdC G.word) hs (by rw [wdC_len]; rfl) (fun _ => ⟨rfl, _, rfl, fun j v hj => by
    have hlt : j < 32768 := by
      have := (List.getElem?_eq_some_iff.1 hj).1
      rw [wdC_len] at this
      exact this
    rw [wdC_get _ hlt] at hj
    cases hj
    have := h.wcell hlt
    unfold Addr.add
    split
    · next e => subst e; exact this
    · rw [Nat.zero_add]; exact this⟩) (by rw [wdC_len, wdC_len]; omega) (wdC_one _)
  refine ⟨w', h1, ?_, h3⟩
  have e : splice (wdC atp) 0 (wdC G.word) = wdC G.word := by
    unfold splice
    rw [List.take_zero, List.nil_append, List.drop_of_length_le (by rw [wdC_len, wdC_len]; omega), List.append_nil]
  rw [e] at h2
  exact h2
def MpQ (w : World) (ρ : Rl) (L : GL) (Y : ML) (G : GS) (M : MS) (e : Ending) (w' : World) : Prop := ∃ W F V L' Y' ρ', (W.Nodup ∧ ∀ x, x ∈ W ↔ M.wr x = true) ∧ (F.Nodup ∧ ∀ x, x ∈ F ↔ M.fr x = true) ∧ e = .returned (.agg #[V 0, V 1, V 2, V 3, V 4, V 5, V 6, V 7]) ∧ MpP w ρ L Y (mpaG G M W F, mpaM G M W F, (mpa2 G M W F).2) V L' Y' ρ' w'
set_option maxRecDepth 1000000 in
set_option maxHeartbeats 16000000 in
theorem mpause_walk (h : MdM w ρ L Y G M) (ok : GOk G) (gb : GB G 90000000000) (hro : ∀ m, m < 4 → ∀ o ∈ M.roots m, 65536 ≤ o ∧ o < 98304) (hwr : ∀ x, M.wr x = true → 65536 ≤ x ∧ x < 98304) (hfr : ∀ x, M.fr x = true → 65536 ≤ x ∧ x < 98304) (hla : M.last.length ≤ 1000000) :
    Calls Try.prog 58 #[.pointer (some ⟨Y.mB, 0, none⟩)] w fun e w' => MpQ w ρ L Y G M e w' := by
  have HO := hid ok
  have HG := hid gb
  have HRo := hid hro
  have HWr := hid hwr
  have HFr := hid hfr
  have HLa := hid hla
  have HH := hid h
  obtain ⟨mB, hmB⟩ : ∃ b, Y.mB = b := ⟨_, rfl⟩
  have HmB := hid hmB
  rw [hmB]
  obtain ⟨rB, hrB⟩ : ∃ g, w.heap.size = g := ⟨_, rfl⟩
  clear h ok gb hro hwr hfr hla hmB
  go_enter Try.func58, Try.ntmps58
  go_upto_region 2 with fail
  obtain ⟨cs, hcs⟩ : ∃ cs : Array Value, #[.slice none 0 0, .slice none 0 0, .slice none 0 0, .slice none 0 0, .slice none 0 0, .slice none 0 0, .slice none 0 0, .slice none 0 0] = cs := ⟨_, rfl⟩
  obtain ⟨wa, hwa⟩ : ∃ wa, (w.alloc (.cells cs 36)).alloc (.cells cs 36) = wa := ⟨_, rfl⟩
  have hsz : (w.alloc (.cells cs 36)).heap.size = rB + 1 := by simp [hrB]
  have HS0 : Hid (MPM wa (fup ρ (rB + 1) 40) L Y (rB + 1) rB rlA (fun _ => .slice none 0 0) G M hv00 ∧ Fr pX ρ w (fup ρ (rB + 1) 40) wa) := hid (by
    have hb1 : Below w.heap.size w (w.alloc (.cells cs 36)) := nbel w _
    have h1 := HH.out.below hb1
    have hf := Fr.alloc (fun _ => false) ρ (w.alloc (.cells cs 36)) (.cells cs 36) 40
    rw [hsz, hwa] at hf
    have hz : ρ rB = 0 := by
      by_cases e : ρ rB = 0
      · exact e
      · have := HH.out.gm.dom rB e; omega
    refine ⟨⟨h1.keep hf (fun _ _ => rfl), ⟨?_, fup_self _ _ _, fun i hi => RowX.nil _ _ _ _, fun i hi => .inr (by unfold rlA; omega)⟩, ?_, by rw [fup_ne _ _ (by omega)]; exact hz⟩, (Fr.below hb1).trans (hf.mono (fun c hc => by cases hc))⟩
    · rw [← hwa, ← hsz, ← hcs]
      exact Blk.new _ (fnC 8 (fun _ => .slice none 0 0)) _
    · rw [← hwa]
      refine Blk.alloc ?_ _
      rw [← hrB, ← hcs]
      exact Blk.new w (fnC 8 (fun _ => .slice none 0 0)) _)
  (try simp only [hcs, hsz, hwa])
  clear hwa hsz hcs HH
  obtain ⟨hB, hhB⟩ : ∃ hB, rB + 1 = hB := ⟨_, rfl⟩
  rw [hhB] at HS0
  simp only [hhB]
  have HrB := hid hrB
  clear hhB hrB
  generalize fup ρ hB 40 = ρa at HS0
  obtain ⟨E, hE1, hE2, hE3⟩ := HS0.out.1.md.wm
  have HEk : Hid (∀ e ∈ E, M.wr e.k = true) := hid (fun e he => by
    have := hE2 e he
    unfold bsF at this
    split at this
    · next h => exact h
    · cases this)
  have HEa : Hid (∀ x, M.wr x = true → x ∈ E.map (·.k)) := hid (fun x hx => by
    obtain ⟨e, he, hek⟩ := hE3 x (.bool true) (by unfold bsF; rw [if_pos hx])
    exact List.mem_map.2 ⟨e, he, hek⟩)
  have HPn := hid hE1
  clear hE1 hE2 hE3
  have c9 := HS0.out.1.md.cells.2.2.2.2.2.1
  rw [HmB.out] at c9
  obtain ⟨mW, hmW⟩ : ∃ x, Y.mW = x := ⟨_, rfl⟩
  have HmW := hid hmW
  rw [hmW] at c9 HPn
  obtain ⟨r, hr⟩ : ∃ x, wa.heap.size = x := ⟨_, rfl⟩
  go_wp2_with (at_range; refine wpList_range_pn rfl (.tmp 23) 45 rfl Try.underlying45 mW E rfl HPn.out ?_; intro w2 hit2 hbe2 hsz2)
  go_frame
  have HI2 : Hid (PaA w ρ L Y hB rB G M E r (E.map (·.k)) [] w2) := hid (by
    have hit : IT w2 r mW E (E.map (·.k)) := by rw [← hr]; exact hit2
    have hf := Fr.one (X := fun _ => false) (ρ := ρa) hbe2 hr hit.lt 60
    refine ⟨fup ρa r 60, _, HS0.out.1.keep hf (fun _ _ => rfl), ?_, HS0.out.2.trans (hf.mono (fun c hc => by cases hc))⟩
    rw [HmW.out]
    refine ⟨hit, HPn.out.below hbe2, fup_self _ _ _, ?_⟩
    rw [fup_ne _ _ (by have := HPn.out.lt; omega), ← HmW.out]
    exact HS0.out.1.md.rw_)
  simp only [hr]
  clear hit2 hbe2 hsz2 c9 hr HS0 hmW HPn
  go_loopw [] (fun wr => ∃ Tk D, Hid (PaA w ρ L Y hB rB G M E r Tk D wr) ∧ Hid (DnP (E.map (·.k)) Tk D)) (fun wr => World.rangeLeft wr mW r)
  case atStart => exact ⟨_, _, HI2, hid (DnP.start _)⟩
  case round =>
  clear HI2
  obtain ⟨Tk, D, HI, HD⟩ := hrel
  obtain ⟨ρ1, V1, hm1, hr1, hf1⟩ := HI.out
  rw [HmW.out] at hr1
  have HM1 := hid hm1
  have HR1 := hid hr1
  have HF1 := hid hf1
  clear HI hm1 hr1 hf1
  go_upto_region 3 with fail
  refine wp_region_lit ?_
  refine wpList_next_pn rfl (.tmp 24) rfl r mW E Tk rfl HR1.out.pn HR1.out.it ?_ ?_
  rotate_left
  · intro e w3 he heT hpn3 hit3 hu3 hsz3 hent
    have hin := HWr.out _ (HEk.out e he)
    have hke := List.mem_map.2 ⟨e, he, (rfl : e.k = e.k)⟩
    have hf3 : Fr (fun c => c == 60) ρ1 wr ρ1 w3 := Fr.upd hu3 (by show (ρ1 r == 60) = true; rw [HR1.out.rr]; rfl)
    have HM3 : Hid (MPM w3 ρ1 L Y hB rB rlA V1 G M (mhls G M.atp D)) := hid (HM1.out.keep hf3 (fun c hc => by show (c == 60) = false; simp; omega))
    have HF3 : Hid (Fr pX ρ w ρ1 w3) := hid (HF1.out.trans (hf3.mono (fun c => pX_of (by decide))))
    have HR3 : Hid (RgI w3 ρ1 mW 15 r E (Tk.filter fun k => decide (k ≠ e.k))) := hid ⟨hit3, hpn3, HR1.out.rr, HR1.out.rc⟩
    have HMs : Hid (∀ w' ρ', RgI w' ρ' mW 15 r E (Tk.filter fun k => decide (k ≠ e.k)) → World.rangeLeft w' mW r < World.rangeLeft wr mW r) := hid (fun w' ρ' h' => HR1.out.ms he heT h')
    have HD3 := hid (HD.out.add hke heT)
    obtain ⟨x, hx⟩ : ∃ x, e.k = x := ⟨_, rfl⟩
    obtain ⟨ev, hev⟩ : ∃ ev, e.v = ev := ⟨_, rfl⟩
    rw [hx] at hin HR3 HMs HD3
    rw [hx, hev] at hent
    rw [hx, hev]
    obtain ⟨s, hs⟩ : ∃ s, offA x = s := ⟨_, rfl⟩
    have hsp := offA_in hin.1
    rw [hs] at hsp
    have Hs := hid (And.intro hs hsp)
    have hs2 : s < 32768 := by omega
    have Hs2 := hid hs2
    have i1 : (x : Int) - 65536 = (s : Int) := by omega
    have i2 : (s : Int) < 32768 := by omega
    have HDl : Hid ((D ++ [x]).length ≤ 32768) := hid (seen_len HD3.out.nd (fun y hy => HWr.out y (by
      obtain ⟨e', he', hk'⟩ := List.mem_map.1 ((HD3.out.m y).1 hy).1
      rw [← hk']; exact HEk.out e' he')))
    have c8 := HM3.out.md.cells.2.2.2.2.1
    rw [HmB.out] at c8
    have ca : w3.cell? ⟨Y.aB, s, none⟩ = some (.int .u64 (M.atp s : Int)) := by rw [HM3.out.md.ab.cell]; exact wdC_get _ hs2
    obtain ⟨av, hav⟩ : ∃ v, M.atp s = v := ⟨_, rfl⟩
    rw [hav] at ca
    have Hav := hid hav
    obtain ⟨aB, haB⟩ : ∃ v, Y.aB = v := ⟨_, rfl⟩
    rw [haB] at c8 ca
    have HLn : Hid (∀ i, (mhls G M.atp D i).length ≤ 1000000) := hid (fun i => by
      have h1 := mhls_len (G := G) (atp := M.atp) D i
      have h2 := HDl.out
      rw [List.length_append] at h2
      omega)
    obtain ⟨hv, hhv⟩ : ∃ hv, mhls G M.atp D = hv := ⟨_, rfl⟩
    rw [hhv] at HM3 HLn
    have Hhv := hid hhv
    clear he heT hpn3 hit3 hu3 hsz3 hx hev hin hs hsp hs2 hav haB HM1 HR1 HF1 HD hf3 hke hhv HDl
    as_aux_lemma =>
    go_frame
    go_upto_if 38 with fail
    clear c8 ca hent i1 i2
    generalize hbo : ((av : Int) != 0) = bo
    have Hbo := hid hbo
    clear hbo
    go_cut [] from 39 to 44 (fun wc => Hid (∃ ρ4 V4, MPM wc ρ4 L Y hB rB rlA V4 G M (hlog1 hv av) ∧ RgI wc ρ4 mW 15 r E (Tk.filter fun k => decide (k ≠ x)) ∧ Fr pX ρ w ρ4 wc))
    case first =>
      cases bo with
      | false =>
        as_aux_lemma =>
        have ho : av = 0 := by have := Hbo.out; simp at this; omega
        have HR : Hid (∃ ρ4 V4, MPM w3 ρ4 L Y hB rB rlA V4 G M (hlog1 hv av) ∧ RgI w3 ρ4 mW 15 r E (Tk.filter fun k => decide (k ≠ x)) ∧ Fr pX ρ w ρ4 w3) := hid ⟨ρ1, V1, by unfold hlog1; rw [if_pos ho]; exact HM3.out, HR3.out, HF3.out⟩
        clear Hbo
        go_wp2
        go_meet
        exact HR
      | true =>
        as_aux_lemma =>
        have ho : ¬ av = 0 := by have := Hbo.out; simp at this; omega
        clear Hbo
        obtain ⟨ao8, qo8, hV8⟩ := (HM3.out.hm.rw 1 (by decide)).shape
        obtain ⟨n8, hn8⟩ : ∃ n, (hv 1).length = n := ⟨_, rfl⟩
        have c8 := HM3.out.hcell (i := 1) (by decide)
        rw [hV8, hn8] at c8
        have HV8 := hid hV8
        have Hn8 := hid hn8
        rw [hn8] at HV8
        clear hV8 hn8
        go_wp2_with (at_builtin; refine stopHere ?_)
        intro _
        obtain ⟨kf8, hkf8⟩ : ∃ kf, w3.heap.size = kf := ⟨_, rfl⟩
        obtain ⟨wf8, hwf8⟩ : ∃ wf, w3.alloc (.cells #[.int .u64 (av : Int)] 48) = wf := ⟨_, rfl⟩
        have HBf8 : Hid (Below w3.heap.size w3 wf8) := hid (by rw [← hwf8]; exact nbel w3 _)
        have HNw8 : Hid (∀ ad, some (⟨kf8, 0, none⟩ : Addr) = some ad → ∀ j u, ([av].flatMap rtA.f)[j]? = some u → wf8.cell? (ad.add j) = some u) := hid (by rw [← hwf8]; exact newX rtA w3 av _ hkf8.symm)
        (try simp only [hwf8, hkf8])
        clear hwf8 hkf8 c8
        have HHf8 := hid (HM3.out.below HBf8.out)
        have hrf8 := HHf8.out.hm.rw 1 (by decide)
        rw [HV8.out, (rfl : rlA 1 = 41 + 1)] at hrf8
        refine wpList_app_x okA rfl _ _ hrf8 rfl [av] rfl (some ⟨kf8, 0, none⟩) 1 1 rfl rfl (fun h => by cases h) HNw8.out (by have := HLn.out 1; show ((hv 1).length + 1) * 8 ≤ _; omega) ?_
        intro v8 w8 ρ8 hr8 hf8 _ _
        obtain ⟨a8, k8, h8⟩ := hr8.out.shape
        rw [List.length_append, List.length_singleton, Hn8.out] at h8
        subst h8
        have HM8 := hid (HHf8.out.app (i := 1) (by decide) (rfl : rlA 1 = 41 + 1) rlA_ne hf8.out hr8.out)
        have hk8 : w8.heap[hB]? = wf8.heap[hB]? := hf8.out.blk _ HHf8.out.hm.bl.lt (by rw [HHf8.out.hm.ro]; rfl)
        have c8 : w8.cell? ⟨hB, 1, none⟩ = some (.slice ao8 n8 qo8) := by rw [World.cell?_of_block hk8, ← HV8.out]; exact HHf8.out.hcell (by decide)
        have f8 : w8.frozen? ⟨hB, 1, none⟩ = false := by rw [World.frozen?_of_block hk8]; exact HHf8.out.hm.bl.frozen _
        have HF8 := hid ((Fr.below HBf8.out).trans HM8.out.2)
        have HQ8 := hid HM8.out.1
        clear hrf8 hr8 hf8 hk8 HNw8 HHf8 HBf8 HM8
        have HR : Hid (∃ ρ4 V4, MPM (w8.setCell ⟨hB, 1, none⟩ (.slice a8 (n8 + 1) k8)) ρ4 L Y hB rB rlA V4 G M (hlog1 hv av) ∧ RgI (w8.setCell ⟨hB, 1, none⟩ (.slice a8 (n8 + 1) k8)) ρ4 mW 15 r E (Tk.filter fun k => decide (k ≠ x)) ∧ Fr pX ρ w ρ4 (w8.setCell ⟨hB, 1, none⟩ (.slice a8 (n8 + 1) k8))) := hid ⟨ρ8, _, by unfold hlog1 hput; rw [if_neg ho]; exact HQ8.out, HR3.out.fr HF8.out (app_60 (by decide)) (app_15 (by decide)), HF3.out.trans (HF8.out.mono (fun c => pX_app (by decide)))⟩
        clear HQ8 HF8 HM3 HR3 HF3
        go_wp2
        go_meet
        exact HR
    case rest =>
      clear HM3 HR3 HF3 Hbo
      obtain ⟨ρ4, V4, hm4, hr4, hf4⟩ := hcut.out
      have HM4 := hid hm4
      have HR4 := hid hr4
      have HF4 := hid hf4
      have HLn4 : Hid (∀ i, (hlog1 hv av i).length ≤ 1000001) := hid (fun i => by
        have h1 := HLn.out i
        unfold hlog1 hput
        by_cases e : av = 0
        · rw [if_pos e]; omega
        · rw [if_neg e]
          by_cases e1 : i = 1
          · subst e1; rw [fup_self, List.length_append, List.length_singleton]; omega
          · rw [fup_ne _ _ e1]; omega)
      have HNx : Hid (∀ h3, hlog2 (hlog1 hv av) (G.word s) = h3 → mhls G M.atp (D ++ [x]) = h3) := hid (fun h3 e => by
        rw [mhls_s, Hhv.out]
        unfold mhl
        rw [Hs.out.1, Hav.out]
        exact e)
      have HRA := hid (refAt_walk hm4.md.gm Hs.out.2 Hs2.out)
      have c0 := hm4.md.cells.1
      rw [HmB.out] at c0
      obtain ⟨hv4, hhv4⟩ : ∃ h4, hlog1 hv av = h4 := ⟨_, rfl⟩
      rw [hhv4] at HM4 HLn4 HNx
      obtain ⟨xv, hxv⟩ : ∃ v, G.word s = v := ⟨_, rfl⟩
      rw [hxv] at HRA HNx
      clear hcut hm4 hr4 hf4 hhv4 hxv HLn Hhv
      go_wp2_with fail
      refine HRA.out.mono ?_
      rintro e5 w5 ⟨rfl, hb5⟩
      have HM5 := hid (HM4.out.below hb5)
      have HR5 := hid (HR4.out.fr (X := fun _ => false) (Fr.below hb5) rfl rfl)
      have HF5 : Hid (Fr pX ρ w ρ4 w5) := hid (HF4.out.trans (Fr.below hb5))
      clear HRA hb5 c0 HM4 HR4 HF4
      by_cases hx0 : xv = 0
      · as_aux_lemma =>
        have dx : ((xv : Int) != 0) = false := by simp; omega
        have HE : Hid (PaA w ρ L Y hB rB G M E r (Tk.filter fun k => decide (k ≠ x)) (D ++ [x]) w5) := hid ⟨ρ4, V4, by rw [HNx.out _ (show hlog2 hv4 xv = hv4 by unfold hlog2; rw [if_pos hx0])]; exact HM5.out, by rw [HmW.out]; exact HR5.out, HF5.out⟩
        go_wp2
        exact ⟨⟨_, _, HE, HD3⟩, HMs.out _ _ HR5.out⟩
      · as_aux_lemma =>
        have dx : ((xv : Int) != 0) = true := by simp; omega
        obtain ⟨ao8, qo8, hV8⟩ := (HM5.out.hm.rw 0 (by decide)).shape
        obtain ⟨n8, hn8⟩ : ∃ n, (hv4 0).length = n := ⟨_, rfl⟩
        have c8 := HM5.out.hcell (i := 0) (by decide)
        rw [hV8, hn8] at c8
        have HV8 := hid hV8
        have Hn8 := hid hn8
        rw [hn8] at HV8
        clear hV8 hn8
        go_wp2_with (at_builtin; refine stopHere ?_)
        intro _
        obtain ⟨kf8, hkf8⟩ : ∃ kf, w5.heap.size = kf := ⟨_, rfl⟩
        obtain ⟨wf8, hwf8⟩ : ∃ wf, w5.alloc (.cells #[.int .u64 (xv : Int)] 48) = wf := ⟨_, rfl⟩
        have HBf8 : Hid (Below w5.heap.size w5 wf8) := hid (by rw [← hwf8]; exact nbel w5 _)
        have HNw8 : Hid (∀ ad, some (⟨kf8, 0, none⟩ : Addr) = some ad → ∀ j u, ([xv].flatMap rtA.f)[j]? = some u → wf8.cell? (ad.add j) = some u) := hid (by rw [← hwf8]; exact newX rtA w5 xv _ hkf8.symm)
        (try simp only [hwf8, hkf8])
        clear hwf8 hkf8 c8
        have HHf8 := hid (HM5.out.below HBf8.out)
        have hrf8 := HHf8.out.hm.rw 0 (by decide)
        rw [HV8.out, (rfl : rlA 0 = 41 + 0)] at hrf8
        refine wpList_app_x okA rfl _ _ hrf8 rfl [xv] rfl (some ⟨kf8, 0, none⟩) 1 1 rfl rfl (fun h => by cases h) HNw8.out (by have := HLn4.out 0; show ((hv4 0).length + 1) * 8 ≤ _; omega) ?_
        intro v8 w8 ρ8 hr8 hf8 _ _
        obtain ⟨a8, k8, h8⟩ := hr8.out.shape
        rw [List.length_append, List.length_singleton, Hn8.out] at h8
        subst h8
        have HM8 := hid (HHf8.out.app (i := 0) (by decide) (rfl : rlA 0 = 41 + 0) rlA_ne hf8.out hr8.out)
        have hk8 : w8.heap[hB]? = wf8.heap[hB]? := hf8.out.blk _ HHf8.out.hm.bl.lt (by rw [HHf8.out.hm.ro]; rfl)
        have c8 : w8.cell? ⟨hB, 0, none⟩ = some (.slice ao8 n8 qo8) := by rw [World.cell?_of_block hk8, ← HV8.out]; exact HHf8.out.hcell (by decide)
        have f8 : w8.frozen? ⟨hB, 0, none⟩ = false := by rw [World.frozen?_of_block hk8]; exact HHf8.out.hm.bl.frozen _
        have HF8 := hid ((Fr.below HBf8.out).trans HM8.out.2)
        have HQ8 := hid HM8.out.1
        clear hrf8 hr8 hf8 hk8 HNw8 HHf8 HBf8 HM8
        have HR8 := hid (HR5.out.fr HF8.out (app_60 (by decide)) (app_15 (by decide)))
        have HE : Hid (PaA w ρ L Y hB rB G M E r (Tk.filter fun k => decide (k ≠ x)) (D ++ [x]) (w8.setCell ⟨hB, 0, none⟩ (.slice a8 (n8 + 1) k8))) := hid ⟨ρ8, _, by rw [HNx.out _ (show hlog2 hv4 xv = fup hv4 0 (hv4 0 ++ [xv]) by unfold hlog2 hput; rw [if_neg hx0])]; exact HQ8.out, by rw [HmW.out]; exact HR8.out, HF5.out.trans (HF8.out.mono (fun c => pX_app (by decide)))⟩
        clear HQ8 HF8 HM5 HR5 HF5
        go_wp2
        exact ⟨⟨_, _, HE, HD3⟩, HMs.out _ _ HR8.out⟩
  · intro hT
    subst hT
    have HW : Hid (D.Nodup ∧ ∀ x, x ∈ D ↔ M.wr x = true) := hid ⟨HD.out.nd, fun x => by
      rw [HD.out.m]
      constructor
      · rintro ⟨h1, _⟩
        obtain ⟨e, he, rfl⟩ := List.mem_map.1 h1
        exact HEk.out e he
      · intro h1
        exact ⟨HEa.out x h1, by simp⟩⟩
    have HWl : Hid (D.length ≤ 32768) := hid (seen_len HW.out.1 (fun y hy => HWr.out y ((HW.out.2 y).1 hy)))
    obtain ⟨W, hWD⟩ : ∃ W, D = W := ⟨_, rfl⟩
    subst hWD
    obtain ⟨a0, q0, hv0⟩ := (HM1.out.md.rt 0 (by decide)).shape
    obtain ⟨a1, q1, hv1⟩ := (HM1.out.md.rt 1 (by decide)).shape
    obtain ⟨a2, q2, hv2⟩ := (HM1.out.md.rt 2 (by decide)).shape
    obtain ⟨a3, q3, hv3⟩ := (HM1.out.md.rt 3 (by decide)).shape
    have c0 := HM1.out.md.rcell (m := 0) (by decide)
    have c1 := HM1.out.md.rcell (m := 1) (by decide)
    have c2 := HM1.out.md.rcell (m := 2) (by decide)
    have c3 := HM1.out.md.rcell (m := 3) (by decide)
    obtain ⟨n0, hn0⟩ : ∃ n, (M.roots 0).length = n := ⟨_, rfl⟩
    obtain ⟨n1, hn1⟩ : ∃ n, (M.roots 1).length = n := ⟨_, rfl⟩
    obtain ⟨n2, hn2⟩ : ∃ n, (M.roots 2).length = n := ⟨_, rfl⟩
    obtain ⟨n3, hn3⟩ : ∃ n, (M.roots 3).length = n := ⟨_, rfl⟩
    rw [HmB.out, hv0, hn0] at c0
    rw [HmB.out, hv1, hn1] at c1
    rw [HmB.out, hv2, hn2] at c2
    rw [HmB.out, hv3, hn3] at c3
    rw [hn0] at hv0
    rw [hn1] at hv1
    rw [hn2] at hv2
    rw [hn3] at hv3
    have c0' : wr.cell? ⟨mB, 3, none⟩ = some (.slice a0 n0 q0) := c0
    have c1' : wr.cell? ⟨mB, 4, none⟩ = some (.slice a1 n1 q1) := c1
    have c2' : wr.cell? ⟨mB, 5, none⟩ = some (.slice a2 n2 q2) := c2
    have c3' : wr.cell? ⟨mB, 6, none⟩ = some (.slice a3 n3 q3) := c3
    have HRv := hid (And.intro hv0 (And.intro hv1 (And.intro hv2 hv3)))
    have HS : Hid (∃ ρ2 V2, MPM wr ρ2 L Y hB rB rlA V2 G M (fup (mhls G M.atp D) 2 (mrK M 0)) ∧ Fr pX ρ w ρ2 wr) := hid ⟨ρ1, V1, by
      have e : fup (mhls G M.atp D) 2 (mrK M 0) = mhls G M.atp D := by
        rw [show mrK M 0 = mhls G M.atp D 2 from (mhls_hi _ (by decide)).symm]
        exact fup_same _ _
      rw [e]
      exact HM1.out, HF1.out⟩
    clear hv0 hv1 hv2 hv3 hn0 hn1 hn2 hn3 c0 c1 c2 c3 HM1 HR1 HF1 HD HEk HEa
    as_aux_lemma =>
    go_frame
    go_upto_region 12 with fail
    clear c0' c1' c2' c3'
    go_loopw [63] (fun v wr => ∃ k : Nat, k ≤ 4 ∧ v = .int .i64 (k : Int) ∧ Hid (∃ ρ2 V2, MPM wr ρ2 L Y hB rB rlA V2 G M (fup (mhls G M.atp D) 2 (mrK M k)) ∧ Fr pX ρ w ρ2 wr)) (fun v _ => 4 - (intOf v).toNat)
    case atStart => exact ⟨0, by omega, rfl, HS⟩
    case round =>
    clear HS
    obtain ⟨k, hk, rfl, HS⟩ := hrel
    obtain ⟨ρ2, V2, hm2, hf2⟩ := HS.out
    have HM2 := hid hm2
    have HF2 := hid hf2
    clear HS hm2 hf2
    by_cases hk4 : k < 4
    · as_aux_lemma =>
      have dk : decide ((k : Int) < 4) = true := decide_eq_true (by omega)
      obtain ⟨ak, nk, qk, hrk, hix⟩ : ∃ ak nk qk, Y.rv k = .slice ak nk qk ∧ ∀ w, (Instr.index 44 (.agg #[.slice a0 n0 q0, .slice a1 n1 q1, .slice a2 n2 q2, .slice a3 n3 q3]) (.int .i64 (k : Int))).run Try.prog w = .ok (.slice ak nk qk) w := by
        rcases (by omega : k = 0 ∨ k = 1 ∨ k = 2 ∨ k = 3) with rfl | rfl | rfl | rfl
        · exact ⟨_, _, _, HRv.out.1, fun w => by kernel_rfl⟩
        · exact ⟨_, _, _, HRv.out.2.1, fun w => by kernel_rfl⟩
        · exact ⟨_, _, _, HRv.out.2.2.1, fun w => by kernel_rfl⟩
        · exact ⟨_, _, _, HRv.out.2.2.2, fun w => by kernel_rfl⟩
      have Hrk := hid hrk
      have Hrl := hid HM2.out.md.rl
      have hlr := mrK_len Hrl.out k
      obtain ⟨hv, hhv⟩ : ∃ hv, fup (mhls G M.atp D) 2 (mrK M k) = hv := ⟨_, rfl⟩
      have Hhv := hid hhv
      rw [hhv] at HM2
      have h2 : hv 2 = mrK M k := by rw [← hhv]; exact fup_self _ _ _
      have H2 := hid h2
      obtain ⟨ao, qo, hV⟩ := (HM2.out.hm.rw 2 (by decide)).shape
      obtain ⟨no, hno⟩ : ∃ n, (hv 2).length = n := ⟨_, rfl⟩
      have c2 := HM2.out.hcell (i := 2) (by decide)
      rw [hV, hno] at c2
      rw [hno] at hV
      have HV := hid hV
      clear hV hno hhv hrk h2
      go_wp2_with (at_builtin; refine stopHere ?_)
      intro _
      have hrf := HM2.out.hm.rw 2 (by decide)
      rw [HV.out, (rfl : rlA 2 = 41 + 2)] at hrf
      have hrs := HM2.out.md.rt k hk4
      rw [Hrk.out] at hrs
      have Hsrc := hid hrs.src
      clear hrs
      refine wpList_app_x okA rfl _ _ hrf rfl (M.roots k) rfl ak nk qk rfl Hsrc.out.2.2 Hsrc.out.2.1 Hsrc.out.1 (by have h1 := Hsrc.out.2.2; have h2 := Hrl.out k; have h3 := H2.out; show ((hv 2).length + nk) * 8 ≤ _; rw [h3]; omega) ?_
      intro v8 w8 ρ8 hr8 hf8 _ _
      obtain ⟨a8, k8, h8⟩ := hr8.out.shape
      subst h8
      have HM8 := hid (HM2.out.app (i := 2) (by decide) (rfl : rlA 2 = 41 + 2) rlA_ne hf8.out hr8.out)
      have hk8 : w8.heap[hB]? = wr.heap[hB]? := hf8.out.blk _ HM2.out.hm.bl.lt (by rw [HM2.out.hm.ro]; rfl)
      have c8 : w8.cell? ⟨hB, 2, none⟩ = some (.slice ao no qo) := by rw [World.cell?_of_block hk8]; exact c2
      have f8 : w8.frozen? ⟨hB, 2, none⟩ = false := by rw [World.frozen?_of_block hk8]; exact HM2.out.hm.bl.frozen _
      obtain ⟨n8, hn8⟩ : ∃ n, (hv 2 ++ M.roots k).length = n := ⟨_, rfl⟩
      rw [hn8] at HM8
      rw [hn8]
      have HE : Hid (∃ ρ2 V2, MPM (w8.setCell ⟨hB, 2, none⟩ (.slice a8 n8 k8)) ρ2 L Y hB rB rlA V2 G M (fup (mhls G M.atp D) 2 (mrK M (k + 1))) ∧ Fr pX ρ w ρ2 (w8.setCell ⟨hB, 2, none⟩ (.slice a8 n8 k8))) := hid ⟨ρ8, _, by
        have := HM8.out.1
        rw [H2.out, ← mrK_s, ← Hhv.out, fup_fup] at this
        exact this, HF2.out.trans (HM8.out.2.mono (fun c => pX_app (by decide)))⟩
      clear hrf hr8 hf8 hk8 c2 HM2 HF2 HM8 hix hn8 Hsrc
      go_wp2
      exact ⟨⟨k + 1, by omega, by go_num, HE⟩, by simp [intOf]; omega⟩
    have dk : decide ((k : Int) < 4) = false := decide_eq_false (by omega)
    obtain rfl : k = 4 := by omega
    clear hk hk4 HRv
    as_aux_lemma =>
    have HLn : Hid (∀ i, (fup (mhls G M.atp D) 2 (mrK M 4) i).length ≤ 1000000) := hid (fun i => by
      have h1 := mhls_len (G := G) (atp := M.atp) D i
      have h2 := HWl.out
      have h3 := mrK_len HM2.out.md.rl 4
      by_cases e : i = 2
      · subst e; rw [fup_self]; omega
      · rw [fup_ne _ _ e]; omega)
    obtain ⟨hv, hhv⟩ : ∃ hv, fup (mhls G M.atp D) 2 (mrK M 4) = hv := ⟨_, rfl⟩
    rw [hhv] at HM2 HLn
    have Hhv := hid hhv
    have h2 : hv 2 = mrK M 4 := by rw [← hhv]; exact fup_self _ _ _
    have h1 : hv 1 = mhls G M.atp D 1 := by rw [← hhv]; exact fup_ne _ _ (by decide)
    have h7 : hv 7 = [] := by rw [← hhv, fup_ne _ _ (by decide)]; exact mhls_hi _ (by decide)
    have H12 := hid (And.intro h1 (And.intro h2 h7))
    obtain ⟨al, ql, hlv⟩ := HM2.out.md.lr.shape
    obtain ⟨nl, hnl⟩ : ∃ n, M.last.length = n := ⟨_, rfl⟩
    rw [hnl] at hlv
    have c7 := HM2.out.md.cells.2.2.2.1
    rw [HmB.out, hlv] at c7
    have ch3 := HM2.out.hcell (i := 3) (by decide)
    have f3 := HM2.out.hm.bl.frozen 3
    have HM3 := hid (HM2.out.alias (i := 3) (c := 13) (by decide) (.inl rfl) HM2.out.md.lr)
    rw [hlv] at HM3
    obtain ⟨u3, hu3⟩ : ∃ u, V2 3 = u := ⟨_, rfl⟩
    rw [hu3] at ch3
    clear hlv hnl hhv h2 h1 h7 hu3 HM2 dk
    go_upto_region 17 with fail
    obtain ⟨w3, hw3⟩ : ∃ x, wr.setCell ⟨hB, 3, none⟩ (.slice al nl ql) = x := ⟨_, rfl⟩
    rw [hw3] at HM3
    have HF3 : Hid (Fr pX ρ w ρ2 w3) := hid (HF2.out.trans (HM3.out.2.mono (fun c => pX_of (by decide))))
    have HQ3 := hid HM3.out.1
    simp only [hw3]
    clear hw3 c7 ch3 f3 HM3 HF2
    obtain ⟨V3, hV3⟩ : ∃ V3, fup V2 3 (.slice al nl ql) = V3 := ⟨_, rfl⟩
    rw [hV3] at HQ3
    clear hV3
    obtain ⟨hv3, hhv3⟩ : ∃ h3, fup hv 3 M.last = h3 := ⟨_, rfl⟩
    have Hhv3 := hid hhv3
    rw [hhv3] at HQ3
    have h32 : hv3 2 = mrK M 4 := by rw [← hhv3, fup_ne _ _ (by decide)]; exact H12.out.2.1
    have h31 : hv3 1 = mhls G M.atp D 1 := by rw [← hhv3, fup_ne _ _ (by decide)]; exact H12.out.1
    have h37 : hv3 7 = [] := by rw [← hhv3, fup_ne _ _ (by decide)]; exact H12.out.2.2
    have H3 := hid (And.intro h31 (And.intro h32 h37))
    obtain ⟨ao, qo, hV⟩ := (HQ3.out.hm.rw 2 (by decide)).shape
    rw [h32] at hV
    have c2 := HQ3.out.hcell (i := 2) (by decide)
    rw [hV] at c2
    have hrs := HQ3.out.hm.rw 2 (by decide)
    rw [hV, h32] at hrs
    have Hsrc := hid hrs.src
    have hlr := mrK_len HQ3.out.md.rl 4
    obtain ⟨no, hno⟩ : ∃ n, (mrK M 4).length = n := ⟨_, rfl⟩
    rw [hno] at c2 Hsrc hlr
    have Hno := hid hno
    clear hV hrs h32 h31 h37 hhv3 hno
    go_wp2_with (at_builtin; refine stopHere ?_)
    intro _
    refine wpList_app_x okA rfl _ _ (RowX.nil rtA w3 ρ2 13) rfl (mrK M 4) rfl ao no qo rfl Hno.out Hsrc.out.2.1 Hsrc.out.1 (by show (0 + no) * 8 ≤ _; omega) ?_
    intro v8 w8 ρ8 hr8 hf8 _ hk8
    obtain ⟨a8, k8, h8⟩ := hr8.out.shape
    subst h8
    have hfn : Fr (fun _ => false) ρ2 w3 ρ8 w8 := ⟨hf8.out.os, hf8.out.tape, hf8.out.output, hf8.out.size, hf8.out.old, hf8.out.nw, fun g hg _ => hk8.out g hg (fun g' h => by cases h)⟩
    have HQ8 := hid (HQ3.out.keep hfn (fun _ _ => rfl))
    have HF8 : Hid (Fr pX ρ w ρ8 w8) := hid (HF3.out.trans (hfn.mono (fun c hc => by cases hc)))
    have hr8' : RowX rtA w8 ρ8 13 (.slice a8 (mrK M 4).length k8) (mrK M 4) := hr8.out
    have HQ9 := hid (HQ8.out.setL hr8')
    obtain ⟨Y9, hY9⟩ : ∃ x, ({ Y with lv := .slice a8 (mrK M 4).length k8 } : ML) = x := ⟨_, rfl⟩
    have HY9 : Hid (Y9.mB = mB ∧ Y9.mW = Y.mW ∧ Y9.mF = Y.mF) := hid (by rw [← hY9]; exact ⟨HmB.out, rfl, rfl⟩)
    rw [hY9] at HQ9
    have c7 := HQ8.out.md.cells.2.2.2.1
    have f7 := HQ8.out.md.mb.frozen 7
    rw [HmB.out] at c7 f7 HQ9
    obtain ⟨lv, hlv⟩ : ∃ v, Y.lv = v := ⟨_, rfl⟩
    rw [hlv] at c7
    simp only [List.nil_append]
    obtain ⟨n8, hn8⟩ : ∃ n, (mrK M 4).length = n := ⟨_, rfl⟩
    rw [hn8] at HQ9
    rw [hn8]
    clear hr8 hf8 hk8 hfn hr8' HQ3 HF3 c2 Hsrc hlr hlv hn8 hY9 Hno
    go_upto_region 18 with fail
    obtain ⟨w9, hw9⟩ : ∃ x, w8.setCell ⟨mB, 7, none⟩ (.slice a8 n8 k8) = x := ⟨_, rfl⟩
    rw [hw9] at HQ9
    have HF9 : Hid (Fr pX ρ w ρ8 w9) := hid (HF8.out.trans (HQ9.out.2.mono (fun c => pX_of (by decide))))
    have HM9 := hid HQ9.out.1
    simp only [hw9]
    clear hw9 HQ8 HF8 HQ9 c7 f7
    have cst := HM9.out.md.cells.2.2.2.2.2.2.2.1
    have ctr := HM9.out.md.cells.2.2.2.2.2.2.2.2
    rw [HY9.out.1] at cst ctr
    have cst' : w9.cell? ⟨mB, 11, none⟩ = some (.bool M.st) := cst
    have ctr' : w9.cell? ⟨mB, 12, none⟩ = some (.bool M.tr) := ctr
    have HNx : Hid (∀ x7, (if M.st = true then mrK M 4 else if M.tr = true then mhls G M.atp D 1 else []) = x7 → mhv0 G M D = fup hv3 7 x7) := hid (fun x7 e => by rw [mhv0_eq, e, ← Hhv3.out, ← Hhv.out])
    clear cst ctr H12 Hhv Hhv3
    obtain ⟨a2, q2, hV2⟩ := (HM9.out.hm.rw 2 (by decide)).shape
    obtain ⟨a1, q1, hV1⟩ := (HM9.out.hm.rw 1 (by decide)).shape
    obtain ⟨n2, hn2⟩ : ∃ n, (hv3 2).length = n := ⟨_, rfl⟩
    obtain ⟨n1, hn1⟩ : ∃ n, (hv3 1).length = n := ⟨_, rfl⟩
    rw [hn2] at hV2
    rw [hn1] at hV1
    have ch2 := HM9.out.hcell (i := 2) (by decide)
    have ch1 := HM9.out.hcell (i := 1) (by decide)
    have ch7 := HM9.out.hcell (i := 7) (by decide)
    have fh7 := HM9.out.hm.bl.frozen 7
    rw [hV2] at ch2
    rw [hV1] at ch1
    obtain ⟨u7, hu7⟩ : ∃ u, V3 7 = u := ⟨_, rfl⟩
    rw [hu7] at ch7
    have HA2 := hid (HM9.out.alias (i := 7) (c := 43) (by decide) (.inr (by decide)) (show RowX rtA w9 ρ8 43 (V3 2) (hv3 2) from HM9.out.hm.rw 2 (by decide)))
    have HA1 := hid (HM9.out.alias (i := 7) (c := 42) (by decide) (.inr (by decide)) (show RowX rtA w9 ρ8 42 (V3 1) (hv3 1) from HM9.out.hm.rw 1 (by decide)))
    rw [hV2] at HA2
    rw [hV1] at HA1
    clear hV2 hV1 hn2 hn1 hu7
    go_upto_if 86 with fail
    go_cut [] from 86 to 102 (fun wc => Hid (PaC w ρ L Y9 hB rB G M D wc))
    case first =>
      by_cases hst : M.st = true
      · as_aux_lemma =>
        have Hx7 := HNx.out (hv3 2) (by rw [if_pos hst]; exact H3.out.2.1.symm)
        have HeM : Hid ({ ({ ({ M with last := mrK M 4 } : MS) with st := false } : MS) with tr := true } = mS1 M) := hid (by unfold mS1; rw [if_pos hst])
        have Hx7' := hid Hx7
        rw [hst] at cst'
        simp only [hst]
        clear HNx H3 HA1 ch1 Hx7 hst HM9
        go_upto_region 20 with fail
        obtain ⟨w4, hw4⟩ : ∃ x, w9.setCell ⟨hB, 7, none⟩ (.slice a2 n2 q2) = x := ⟨_, rfl⟩
        rw [hw4] at HA2
        simp only [hw4]
        have HM4 := hid HA2.out.1
        have HF4 : Hid (Fr pX ρ w ρ8 w4) := hid (HF9.out.trans (HA2.out.2.mono (fun c => pX_of (by decide))))
        clear hw4 HA2 cst' ctr' ch2 ch7 fh7 HF9
        have HM5 := hid (HM4.out.setT (i := 11) (.inl rfl) false)
        have HM6 := hid (HM5.out.1.setT (i := 12) (.inr rfl) true)
        have cst := HM4.out.md.cells.2.2.2.2.2.2.2.1
        have ctr := HM5.out.1.md.cells.2.2.2.2.2.2.2.2
        have fst := HM4.out.md.mb.frozen 11
        have ftr := HM5.out.1.md.mb.frozen 12
        rw [HY9.out.1] at cst ctr fst ftr HM5 HM6
        have HR : Hid (PaC w ρ L Y9 hB rB G M D ((w4.setCell ⟨mB, 11, none⟩ (.bool false)).setCell ⟨mB, 12, none⟩ (.bool true))) := hid ⟨_, _, ρ8, RlOk.b (c := 43) (by decide), by
          rw [Hx7'.out, ← HeM.out]
          exact HM6.out.1, (HF4.out.trans (HM5.out.2.mono (fun c => pX_of (by decide)))).trans (HM6.out.2.mono (fun c => pX_of (by decide)))⟩
        clear HM4 HM5 HM6 HF4 Hx7' HeM
        go_wp2
        go_meet
        exact HR
      · have hst' : M.st = false := by cases h : M.st with | false => rfl | true => exact absurd h hst
        rw [hst'] at cst'
        simp only [hst']
        by_cases htr : M.tr = true
        · as_aux_lemma =>
          have Hx7' := hid (HNx.out (hv3 1) (by rw [if_neg hst, if_pos htr]; exact H3.out.1.symm))
          have HeM : Hid (({ M with last := mrK M 4 } : MS) = mS1 M) := hid (by unfold mS1; rw [if_neg hst, ← hst'])
          rw [htr] at ctr'
          have HR : Hid (PaC w ρ L Y9 hB rB G M D (w9.setCell ⟨hB, 7, none⟩ (.slice a1 n1 q1))) := hid ⟨_, _, ρ8, RlOk.b (c := 42) (by decide), by
            rw [Hx7'.out, ← HeM.out]
            exact HA1.out.1, HF9.out.trans (HA1.out.2.mono (fun c => pX_of (by decide)))⟩
          clear HNx H3 HA1 HA2 HM9 HF9 Hx7' HeM hst hst' htr
          go_wp2
          go_meet
          exact HR
        · as_aux_lemma =>
          have htr' : M.tr = false := by cases h : M.tr with | false => rfl | true => exact absurd h htr
          have Hx7' := hid (HNx.out [] (by rw [if_neg hst, if_neg htr]))
          have HeM : Hid (({ M with last := mrK M 4 } : MS) = mS1 M) := hid (by unfold mS1; rw [if_neg hst, ← hst'])
          rw [htr'] at ctr'
          have HR : Hid (PaC w ρ L Y9 hB rB G M D w9) := hid ⟨_, _, ρ8, RlOk.a, by
            rw [Hx7'.out, ← HeM.out, ← H3.out.2.2, fup_same]
            exact HM9.out, HF9.out⟩
          clear HNx H3 HA1 HA2 HM9 HF9 Hx7' HeM hst hst' htr htr'
          go_wp2
          go_meet
          exact HR
    case rest =>
    clear HM9 HF9 HA1 HA2 HNx H3 cst' ctr' ch2 ch1 ch7 fh7 HLn
    obtain ⟨rl, V, ρ3, hrl, hm3, hf3⟩ := hcut.out
    have HRl := hid hrl
    have HM3 := hid hm3
    have HF3 := hid hf3
    clear hcut hrl hm3 hf3
    as_aux_lemma =>
    go_upto_region 23 with fail
    obtain ⟨hv, hhv⟩ : ∃ hv, mhv0 G M D = hv := ⟨_, rfl⟩
    have HLn : Hid (∀ i, (hv i).length ≤ 1000000) := hid (fun i => by rw [← hhv]; exact mhv0_len (M := M) D HM3.out.md.rl HLa.out HWl.out i)
    have HQ0 : Hid (QuP (applyP (G, hv)) hv (G.calls.length + (hv 0 ++ hv 2).length + 400000000) ((hv 0 ++ hv 2).length + 400000000) (G, hv) (hv 0 ++ hv 2)) := hid (by
      rw [← hhv]
      refine QuP.start HO.out rfl rfl (fun o ho => ?_) (fun o ho => ?_)
      · have ho' : o ∈ wIn G D := ho
        unfold wIn at ho'
        obtain ⟨h1, h2⟩ := List.mem_filter.1 ho'
        obtain ⟨f, hf, rfl⟩ := List.mem_map.1 h1
        have hfr := HWr.out f ((HW.out.2 f).1 hf)
        have hof := offA_in hfr.1
        rcases HO.out.wd (offA f) (by omega) with h3 | h3
        · rw [h3] at h2; simp at h2
        · exact h3
      · have ho' : o ∈ (List.range 4).flatMap M.roots := ho
        obtain ⟨m, hm, hmo⟩ := List.mem_flatMap.1 ho'
        exact HRo.out m (List.mem_range.1 hm) o hmo)
    rw [hhv] at HM3
    have Hhv := hid hhv
    obtain ⟨a0, q0, hV0⟩ := (HM3.out.hm.rw 0 (by decide)).shape
    obtain ⟨a2, q2, hV2⟩ := (HM3.out.hm.rw 2 (by decide)).shape
    obtain ⟨n0, hn0⟩ : ∃ n, (hv 0).length = n := ⟨_, rfl⟩
    obtain ⟨n2, hn2⟩ : ∃ n, (hv 2).length = n := ⟨_, rfl⟩
    rw [hn0] at hV0
    rw [hn2] at hV2
    have HV := hid (And.intro hV0 hV2)
    have Hn := hid (And.intro hn0 hn2)
    have HS : Hid (∀ wx : World, ∀ ρx, Fr (fun r => r == 50) ρ3 wc ρx wx → wx.cell? ⟨hB, 0, none⟩ = some (.slice a0 n0 q0) ∧ wx.cell? ⟨hB, 2, none⟩ = some (.slice a2 n2 q2)) := hid (fun wx ρx hx => by
      have hk := HM3.out.keep hx (fun c hc => by show (c == 50) = false; simp; omega)
      exact ⟨by rw [← HV.out.1]; exact hk.hcell (by decide), by rw [← HV.out.2]; exact hk.hcell (by decide)⟩)
    clear hV0 hV2 hn0 hn2 hhv
    refine wp_region_heavy (fun wx => wx.cell? ⟨hB, 0, none⟩ = some (.slice a0 n0 q0) ∧ wx.cell? ⟨hB, 2, none⟩ = some (.slice a2 n2 q2)) 6 [0, 1, 3, 4] [2, 5] rfl (by kernel_rfl) (by kernel_rfl) (fun d _ _ _ _ h => by cases d <;> exact h) (HS.out _ ρ3 (Fr.below (Drew.below ⟨1, rfl⟩ _))) ?_
    apply Exists.intro
    refine ⟨?_, ?_⟩
    · intro W hW
      have e1 := fun x => (hW x).1
      have e2 := fun x => (hW x).2
      simp only [List.take, opsAt, List.drop, List.cons_append, List.nil_append]
      repeat (go_big_quiet_step (fail))
      exact rfl
    simp only [List.take, List.drop, opsAt, List.cons_append, List.nil_append, wpHv]
    have HBd : Hid (Below wc.heap.size wc wc.drew) := hid (Drew.below ⟨1, rfl⟩ _)
    generalize wc.drew = wd at HBd ⊢
    have HMd := hid (HM3.out.below HBd.out)
    have hr0 := HMd.out.hm.rw 0 (by decide)
    rw [HV.out.1] at hr0
    have Hs0 := hid hr0.src
    clear hr0
    refine wpList_app_x okA rfl (.const (.slice none 0 0)) (.tmp 104) (RowX.nil rtA wd ρ3 50) rfl (hv 0) rfl a0 n0 q0 (by simp [Act.eval, Act.put]; done) Hs0.out.2.2 Hs0.out.2.1 Hs0.out.1 (by have h1 := HLn.out 0; have h2 := Hn.out.1; show (0 + n0) * 8 ≤ _; omega) ?_
    intro v5 w5 ρ5 hr5 hf5 _ _
    obtain ⟨a5, k5, h5⟩ := hr5.out.shape
    subst h5
    refine ⟨HS.out _ ρ5 ((Fr.below HBd.out).trans hf5.out), ?_⟩
    have HM5 := hid (HMd.out.keep hf5.out (fun c hc => by show (c == 50) = false; simp; omega))
    have hr2 := HM5.out.hm.rw 2 (by decide)
    rw [HV.out.2] at hr2
    have Hs2 := hid hr2.src
    clear hr2
    refine wpList_app_x okA rfl (.tmp 105) (.tmp 107) hr5.out rfl (hv 2) (by simp [Act.eval, Act.put]; done) a2 n2 q2 (by simp [Act.eval, Act.put]; done) Hs2.out.2.2 Hs2.out.2.1 Hs2.out.1 (by have h1 := HLn.out 0; have h3 := HLn.out 2; have h2 := Hn.out.2; show (([] ++ hv 0).length + n2) * 8 ≤ _; rw [List.nil_append]; omega) ?_
    intro v6 w6 ρ6 hr6 hf6 _ _
    obtain ⟨a6, k6, h6⟩ := hr6.out.shape
    subst h6
    have HM6 := hid (HM5.out.keep hf6.out (fun c hc => by show (c == 50) = false; simp; omega))
    have s6 := HS.out _ ρ6 (((Fr.below HBd.out).trans hf5.out).trans hf6.out)
    have HF6 : Hid (Fr pX ρ w ρ6 w6) := hid (HF3.out.trans ((((Fr.below HBd.out).trans hf5.out).trans hf6.out).mono (fun c => pX_of (by decide))))
    obtain ⟨n6, hn6⟩ : ∃ n, ([] ++ hv 0 ++ hv 2).length = n := ⟨_, rfl⟩
    have HT6 : Hid (TdM w6 ρ6 a6 n6 k6 (hv 0 ++ hv 2)) := hid (by
      have h1 := hr6.out
      rw [hn6] at h1
      exact TdM.of_row (v := .slice a6 n6 k6) h1)
    rw [hn6]
    have HS7 : Hid (QuR w ρ L Y9 hB rB rl (mS1 M) (applyP (G, hv)) hv (G.calls.length + (hv 0 ++ hv 2).length + 400000000) ((hv 0 ++ hv 2).length + 400000000) (.slice a6 n6 k6) w6) := hid ⟨(G, hv), _, a6, n6, k6, L, V, ρ6, rfl, HQ0.out, HM6.out, HT6.out, GL.Same.refl _, HF6.out⟩
    have HCm : Hid (G.calls.length + (hv 0 ++ hv 2).length + 400000000 ≤ 100000000000) := hid (by
      have h1 := HLn.out 0
      have h2 := HLn.out 2
      have h3 := HG.out.calls
      rw [List.length_append]
      omega)
    generalize G.calls.length + (hv 0 ++ hv 2).length + 400000000 = Cm at HS7 HCm
    clear hr5 hf5 hr6 hf6 hn6 HM5 HM6 HMd HBd HS HT6 HF6 HQ0 Hs0 Hs2 HV Hn HM3 HF3
    go_wp2_with fail
    refine ⟨s6, ?_⟩
    simp only [QN]
    go_upto_region 24 with fail
    clear s6
    as_aux_lemma =>
    go_loopw [9] (fun v wr => Hid (∃ m, QuR w ρ L Y9 hB rB rl (mS1 M) (applyP (G, hv)) hv Cm m v wr)) (fun v wr => leastN (fun m => QuR w ρ L Y9 hB rB rl (mS1 M) (applyP (G, hv)) hv Cm m v wr))
    case atStart => exact hid ⟨_, HS7.out⟩
    case round =>
    have Hsp := hid (leastN_spec hrel.out)
    clear hrel HS7
    obtain ⟨p, td, a, n, c, L1, V1, ρ1, rfl, hq, hm, ht, hsm, hfr1⟩ := Hsp.out
    obtain ⟨N, hN⟩ : ∃ N, leastN (fun m => QuR w ρ L Y9 hB rB rl (mS1 M) (applyP (G, hv)) hv Cm m (.slice a n c) wr) = N := ⟨_, rfl⟩
    rw [hN] at hq
    have HN := hid hN
    have HQ := hid hq
    have HM := hid hm
    have HT := hid ht
    have HSm := hid hsm
    have HF := hid hfr1
    clear Hsp hN hq hm ht hsm hfr1
    have hlen : td.length = n := by have := HT.out.fl.len; simpa using this
    have hcn : n ≤ c := HT.out.fl.le
    have hcx : c ≤ maxLen := HT.out.fl.mx
    have ic : (c : Int) ≤ 9223372036854775807 := by unfold maxLen at hcx; omega
    clear hcx
    cases td with
    | cons o td =>
      as_aux_lemma =>
      rw [List.length_cons] at hlen
      obtain ⟨n', rfl⟩ : ∃ n', n = n' + 1 := ⟨n - 1, by omega⟩
      have hlen' : td.length = n' := by omega
      obtain ⟨g, off, rfl, cg⟩ := HT.out.fl.cell (i := 0) (by omega)
      have cg' : wr.cell? ⟨g, off, none⟩ = some (.int .u64 (o : Int)) := cg
      obtain ⟨a2, ha2⟩ : ∃ a2 : Option Addr, (if c = 1 then some ⟨g, off, none⟩ else some ⟨g, off + 1, none⟩) = a2 := ⟨_, rfl⟩
      have HT2 : Hid (TdM wr ρ1 a2 n' (c - 1) td) := hid (by
        by_cases hc1 : c = 1
        · rw [if_pos hc1] at ha2
          subst ha2
          have hn0 : n' = 0 := by omega
          have ht0 : td = [] := by cases td with | nil => rfl | cons y l => simp at hlen'; omega
          subst hn0 ht0 hc1
          refine ⟨?_, fun k hk => HT.out.ro k hk⟩
          rcases HT.out.fl.out with ⟨h4, _⟩ | ⟨g', off', cs, he, hb, h5, h6⟩
          · cases h4
          · cases he
            exact ⟨rfl, Nat.le_refl _, by unfold maxLen; omega, .inr ⟨g, off, cs, rfl, hb, by omega, fun i hi => by omega⟩⟩
        · rw [if_neg hc1] at ha2
          subst ha2
          exact ⟨HT.out.fl.tail, fun k hk => HT.out.ro k hk⟩)
      obtain ⟨hin, hpos, hq2, ⟨C, hC, hap⟩, htl⟩ := HQ.out.head
      have HIn := hid hin
      have HQ2 := hid hq2
      have HAp := hid hap
      have HCC : Hid (C ≤ 100000000000 ∧ td.length ≤ 200000000000) := hid (by have := HCm.out; omega)
      have Hpos := hid hpos
      have Hlen := hid hlen'
      have HI := hid (inc_walk HM.out.md.gm o (by have := HAp.out.c; have := HCC.out; omega) (HAp.out.ok.ct o))
      have c2 := HM.out.md.cells.2.2.1
      rw [HY9.out.1] at c2
      obtain ⟨c', hc'⟩ : ∃ c', c - 1 = c' := ⟨_, rfl⟩
      rw [hc'] at HT2
      have ic1 : ((n' + 1 : Nat) : Int) ≤ (c : Int) := by omega
      have ic2 : (c : Int) - 1 = (c' : Int) := by omega
      have ic3 : ((n' + 1 : Nat) : Int) - 1 = (n' : Int) := by omega
      have ic4 : (1 : Int) ≤ ((n' + 1 : Nat) : Int) := by omega
      obtain ⟨cn, hcnt⟩ : ∃ c, p.1.cnt o = c := ⟨_, rfl⟩
      have Hcn := hid hcnt
      rw [hcnt] at HI
      clear hin hpos hq2 hC hap htl hlen hlen' hcn cg HT HQ hcnt
      go_upto_region 26 with fail
      go_cut [9] from 115 to 116 (fun u9 wc => u9 = .slice a2 n' c' ∧ wc = wr)
      case first =>
        as_aux_lemma =>
        by_cases hc1 : c = 1
        · have h1 : n' = 0 := by omega
          have h2 : c' = 0 := by omega
          rw [if_pos hc1] at ha2
          subst hc1 h1 h2 ha2
          clear c2 HI HT2 HM HQ2 HAp hc'
          go_wp2
          go_meet
          exact ⟨rfl, rfl⟩
        · obtain ⟨c2', rfl⟩ : ∃ k, c' = k + 1 := ⟨c' - 1, by omega⟩
          obtain rfl : c = c2' + 2 := by omega
          rw [if_neg hc1] at ha2
          subst ha2
          clear c2 HI HT2 HM HQ2 HAp hc1 hc' ic2
          go_wp2
          go_meet
          exact ⟨rfl, rfl⟩
      case rest =>
      obtain ⟨rfl, rfl⟩ := hcut
      clear cg' ic ic1 ic2 ic3 ic4 ha2 hc'
      go_wp2_with fail
      refine HI.out.mono ?_
      rintro e1 w1 ⟨rfl, hg1⟩
      obtain ⟨L2, ρ2, hm2, hs2, hf2⟩ := HM.out.ground hg1
      have HM2 := hid hm2
      have HS2 := hid (HSm.out.trans hs2)
      have HF2 := hid (HF.out.trans (hf2.mono (fun c => pX_g)))
      have HT3 := hid (HT2.out.fr hf2 rfl)
      clear HI hg1 hm2 hs2 hf2 c2 HM HF HT2 HSm
      by_cases hc0 : cn = 0
      rotate_left
      · as_aux_lemma =>
        have dc : decide ((cn : Int) > 0) = true := decide_eq_true (by omega)
        have dc2 : decide ((0 : Int) < (cn : Int)) = true := decide_eq_true (by omega)
        have dc3 : (0 : Int) < (cn : Int) := by omega
        have HE : Hid (QuR w ρ L Y9 hB rB rl (mS1 M) (applyP (G, hv)) hv Cm (N - 1) (.slice a2 n' c') w1) := hid (by
          have h1 := HQ2.out
          have hne : ¬ p.1.cnt o = 0 := by rw [Hcn.out]; exact hc0
          rw [if_neg hne, List.append_nil] at h1
          have e2 : (incP p o).2 = p.2 := by show incH p.1 p.2 o = p.2; unfold incH; rw [if_neg hne]
          refine ⟨incP p o, td, a2, n', c', L2, V1, ρ2, rfl, h1, ?_, HT3.out, HS2.out, HF2.out⟩
          rw [e2]
          exact HM2.out)
        clear HQ2 HM2 HT3 HS2 HF2 HAp
        go_wp2
        refine ⟨hid ⟨N - 1, HE.out⟩, ?_⟩
        rw [HN.out]
        exact Nat.lt_of_le_of_lt (leastN_le HE.out) (by have := Hpos.out; omega)
      subst hc0
      as_aux_lemma =>
      have HLp : Hid (∀ i, (p.2 i).length ≤ 1000000000) := hid (fun i => by
        have hz := nz_le p.1.cnt
        by_cases e4 : i = 4
        · subst e4; have := HAp.out.b4; omega
        · by_cases e5 : i = 5
          · subst e5; have := HAp.out.b5; omega
          · rw [HAp.out.k i e4 e5]; have := HLn.out i; omega)
      obtain ⟨ao8, qo8, hV8⟩ := (HM2.out.hm.rw 5 (by decide)).shape
      obtain ⟨n8, hn8⟩ : ∃ n, (p.2 5).length = n := ⟨_, rfl⟩
      have c8 := HM2.out.hcell (i := 5) (by decide)
      rw [hV8, hn8] at c8
      have HV8 := hid hV8
      have Hn8 := hid hn8
      rw [hn8] at HV8
      clear hV8 hn8
      go_wp2_with (at_builtin; refine stopHere ?_)
      intro _
      obtain ⟨kf8, hkf8⟩ : ∃ kf, w1.heap.size = kf := ⟨_, rfl⟩
      obtain ⟨wf8, hwf8⟩ : ∃ wf, w1.alloc (.cells #[.int .u64 (o : Int)] 48) = wf := ⟨_, rfl⟩
      have HBf8 : Hid (Below w1.heap.size w1 wf8) := hid (by rw [← hwf8]; exact nbel w1 _)
      have HNw8 : Hid (∀ ad, some (⟨kf8, 0, none⟩ : Addr) = some ad → ∀ j u, ([o].flatMap rtA.f)[j]? = some u → wf8.cell? (ad.add j) = some u) := hid (by rw [← hwf8]; exact newX rtA w1 o _ hkf8.symm)
      (try simp only [hwf8, hkf8])
      clear hwf8 hkf8 c8
      have HHf8 := hid (HM2.out.below HBf8.out)
      have hrf8 := HHf8.out.hm.rw 5 (by decide)
      rw [HV8.out, (HRl.out 5 (by decide) (by decide)).1] at hrf8
      refine wpList_app_x okA rfl _ _ hrf8 rfl [o] rfl (some ⟨kf8, 0, none⟩) 1 1 rfl rfl (fun h => by cases h) HNw8.out (by have := HLp.out 5; show ((p.2 5).length + 1) * 8 ≤ _; omega) ?_
      intro v8 w8 ρ8 hr8 hf8 _ _
      obtain ⟨a8, k8, h8⟩ := hr8.out.shape
      rw [List.length_append, List.length_singleton, Hn8.out] at h8
      subst h8
      have HM8 := hid (HHf8.out.app (i := 5) (by decide) (HRl.out 5 (by decide) (by decide)).1 (HRl.out 5 (by decide) (by decide)).2 hf8.out hr8.out)
      have hk8 : w8.heap[hB]? = wf8.heap[hB]? := hf8.out.blk _ HHf8.out.hm.bl.lt (by rw [HHf8.out.hm.ro]; rfl)
      have c8 : w8.cell? ⟨hB, 5, none⟩ = some (.slice ao8 n8 qo8) := by rw [World.cell?_of_block hk8, ← HV8.out]; exact HHf8.out.hcell (by decide)
      have f8 : w8.frozen? ⟨hB, 5, none⟩ = false := by rw [World.frozen?_of_block hk8]; exact HHf8.out.hm.bl.frozen _
      have HF8 := hid ((Fr.below HBf8.out).trans HM8.out.2)
      have HQ8 := hid HM8.out.1
      clear hrf8 hr8 hf8 hk8 HNw8 HHf8 HBf8 HM8
      have HT8 := hid (HT3.out.fr HF8.out rfl)
      go_upto_region 29 with fail
      obtain ⟨w9, hw9⟩ : ∃ x, w8.setCell ⟨hB, 5, none⟩ (.slice a8 (n8 + 1) k8) = x := ⟨_, rfl⟩
      rw [hw9] at HQ8 HF8 HT8
      simp only [hw9]
      have HF9 : Hid (Fr pX ρ w ρ8 w9) := hid (HF2.out.trans (HF8.out.mono (fun c => pX_app (by decide))))
      obtain ⟨V9, hV9⟩ : ∃ V9, fup V1 5 (.slice a8 (n8 + 1) k8) = V9 := ⟨_, rfl⟩
      rw [hV9] at HQ8
      clear c8 f8 hw9 hV9 HF8 HF2 HT3 HM2
      have hsz := HAp.out.ok.sz HIn.out.1 HIn.out.2
      obtain ⟨sn, hsn⟩ : ∃ n, szOf p.1 o = n := ⟨_, rfl⟩
      obtain ⟨q, hq⟩ : ∃ q, rfOf p.1 o = q := ⟨_, rfl⟩
      have Hnq := hid (And.intro hsn hq)
      have hsh : (p.1.head o).getD (0, 0) = (sn, q) := Prod.ext hsn hq
      rw [hsn, hq] at hsz
      have Hsz := hid hsz
      have H1 := hid (shapeOf_walk HQ8.out.md.gm o)
      rw [incG_head, hsh] at H1
      unfold shV at H1
      dsimp only at H1
      generalize (p.1.head o).isSome = bb at H1
      have c0 := HQ8.out.md.cells.1
      rw [HY9.out.1] at c0
      have hq1 : q ≤ 8192 := by omega
      clear hsz hsn hq hsh
      go_wp2_with fail
      refine H1.out.mono ?_
      rintro e4 w4 ⟨rfl, hb4⟩
      have HM4 := hid (HQ8.out.below hb4)
      have HF4 : Hid (Fr pX ρ w ρ8 w4) := hid (HF9.out.trans (Fr.below hb4))
      have HT4 := hid (HT8.out.fr (X := fun _ => false) (Fr.below hb4) rfl)
      clear H1 c0 hb4 HQ8 HF9 HT8
      obtain ⟨g, hg⟩ : ∃ g, w4.heap.size = g := ⟨_, rfl⟩
      have hbz := Blk.new w4 [.int .i64 0, .int .i64 0] 73
      rw [hg] at hbz
      have HZ := hid hbz
      have I0 : Hid ((Try.prog.info? 73).map (·.size) = some 2) := hid info_sh
      have HOne : Hid (∀ u ∈ [(.int .i64 (sn : Int) : Value), .int .i64 (q : Int)], u.oneCell' = true) := hid (fun u hu => by
        simp only [List.mem_cons, List.not_mem_nil, or_false] at hu
        rcases hu with rfl | rfl <;> rfl)
      clear hbz
      go_upto_region 30 with (refine wpList_store_blk rfl 73 _ _ rfl g rfl [.int .i64 (sn : Int), .int .i64 (q : Int)] rfl HZ.out rfl I0.out HOne.out ?_; intro w5 HB5 HU5)
      have HBl : Hid (Below w4.heap.size w4 w5) := hid (by
        have h1 := nbel w4 (.cells #[.int .i64 0, .int .i64 0] 73)
        exact h1.trans (HU5.out.below (B := w4.heap.size) (by omega) h1.size))
      have Hg0 : Hid (ρ8 g = 0) := hid (by
        by_cases e : ρ8 g = 0
        · exact e
        · have := HM4.out.md.gm.dom g e
          omega)
      have HJ : Hid (∃ V' ρ', MPM w5 ρ' L2 Y9 hB rB rl V' (incG p.1 o) (mS1 M) (fup (hput p.2 5 o) 4 (p.2 4 ++ refP p.1 o 0)) ∧ TdM w5 ρ' a2 n' c' (td ++ refP p.1 o 0) ∧ Blk w5 g 73 [.int .i64 (sn : Int), .int .i64 (q : Int)] ∧ ρ' g = 0 ∧ Fr pX ρ w ρ' w5) := hid ⟨V9, ρ8, by
        have e : fup (hput p.2 5 o) 4 (p.2 4 ++ refP p.1 o 0) = hput p.2 5 o := by
          rw [refP_0, List.append_nil]
          have : p.2 4 = hput p.2 5 o 4 := by unfold hput; rw [fup_ne _ _ (by decide)]
          rw [this, fup_same]
        rw [e]
        exact HM4.out.below HBl.out, by rw [refP_0, List.append_nil]; exact HT4.out.fr (X := fun _ => false) (Fr.below HBl.out) rfl, HB5.out, Hg0.out, HF4.out.trans (Fr.below HBl.out)⟩
      clear HM4 HF4 HT4 HB5 HU5 HZ I0 HOne HBl Hg0 hg
      go_upto_region 31 with fail
      go_loopw [9, 13] (fun u9 u13 wr => ∃ (i n' c' : Nat) (a2 : Option Addr), i ≤ q ∧ u13 = .int .i64 (i : Int) ∧ u9 = .slice a2 n' c' ∧ Hid (∃ V' ρ', MPM wr ρ' L2 Y9 hB rB rl V' (incG p.1 o) (mS1 M) (fup (hput p.2 5 o) 4 (p.2 4 ++ refP p.1 o i)) ∧ TdM wr ρ' a2 n' c' (td ++ refP p.1 o i) ∧ Blk wr g 73 [.int .i64 (sn : Int), .int .i64 (q : Int)] ∧ ρ' g = 0 ∧ Fr pX ρ w ρ' wr)) (fun _ v _ => q - (intOf v).toNat)
      case atStart => exact ⟨0, n', c', a2, by omega, rfl, rfl, HJ⟩
      case round =>
      clear HJ
      obtain ⟨i, n1, c1, a1, hi, rfl, rfl, HJ⟩ := hrel
      obtain ⟨V6, ρ6, hm6, ht6, hn6, hg6, hf6⟩ := HJ.out
      have HM6 := hid hm6
      have HT6 := hid ht6
      have HN6 := hid hn6
      have Hg6 := hid hg6
      have HF6 := hid hf6
      clear HJ hm6 ht6 hn6 hg6 hf6
      have cq := HN6.out.cell 1
      simp only [List.getElem?_cons_zero, List.getElem?_cons_succ] at cq
      by_cases hlt : i < q
      · as_aux_lemma =>
        have dk : decide ((i : Int) < (q : Int)) = true := decide_eq_true (by omega)
        go_upto_region 33 with fail
        clear cq dk
        obtain ⟨X, W, HTT, H0, hne, HC⟩ := class_below wr
        have c1' : ∀ y, (W y).cell? ⟨mB, 0, none⟩ = some (.pointer (some ⟨L2.hB, 0, none⟩)) := fun y => by
          have := (HM6.out.below (HTT.out y)).md.cells.1
          rw [HY9.out.1] at this
          exact this
        obtain ⟨s, hs⟩ : ∃ s, offA o = s := ⟨_, rfl⟩
        have hsp := offA_in HIn.out.1
        have hb1 : s + sn < 32768 := by rw [← hs]; exact Hsz.out.1
        have hb2 : q ≤ sn := Hsz.out.2.1
        rw [hs] at hsp
        obtain ⟨fa, hfa⟩ : ∃ fa, o + 1 + i = fa := ⟨_, rfl⟩
        have HFA : Hid (∀ w, Calls Try.prog 35 #[.int .u64 (o : Int), .int .i64 (i : Int)] w fun e w' => e = .returned (.int .u64 (fa : Int)) ∧ w' = w) := hid (fun w => field_walk hfa (by omega) (by omega) w)
        have HRA : Hid (∀ y, Calls Try.prog 26 #[.pointer (some ⟨L2.hB, 0, none⟩), .int .u64 (fa : Int)] (W y) fun e w' => e = .returned (.int .u64 (p.1.word (s + 1 + i) : Int)) ∧ Below (W y).heap.size (W y) w') := hid (fun y => refAt_walk (HM6.out.below (HTT.out y)).md.gm (a := fa) (s := s + 1 + i) (by omega) (by omega))
        have HRp : Hid (refP p.1 o (i + 1) = refP p.1 o i ++ (if p.1.word (s + 1 + i) = 0 then [] else [p.1.word (s + 1 + i)])) := hid (by rw [refP_s, hs])
        have hrl : (refP p.1 o i).length ≤ 8192 := by
          have := refP_len p.1 o i
          omega
        have Hrl := hid hrl
        clear hsp hfa hs hrl hb1 hb2
        generalize p.1.word (s + 1 + i) = v at HRA HRp
        refine wp_region_class W (by kernel_rfl) (by kernel_rfl) H0.out ?_
        repeat (go_big_quiet_step (first
          | (go_at_call 35; exact Calls.class_same (HFA.out _))
          | (go_at_call 26; exact Calls.class_of HC.out (HRA.out _))))
        refine wpQuiet_nil ?_
        intro z
        have HZ := hid (HTT.out z)
        generalize W z = wz at HZ ⊢
        have HM7 := hid (HM6.out.below HZ.out)
        have HF7 : Hid (Fr pX ρ w ρ6 wz) := hid (HF6.out.trans (Fr.below HZ.out))
        have HN7 := hid (HN6.out.below HZ.out)
        have HT7 := hid (HT6.out.fr (X := fun _ => false) (Fr.below HZ.out) rfl)
        clear c1' H0 HTT HC hne HFA HRA HM6 HF6 HN6 HT6
        by_cases hv0 : v = 0
        · as_aux_lemma =>
          subst hv0
          rw [if_pos rfl, List.append_nil] at HRp
          rw [← HRp.out] at HM7 HT7
          go_wp2
          exact ⟨⟨i + 1, n1, c1, a1, by omega, by go_num, rfl, hid ⟨V6, ρ6, HM7.out, HT7.out, HN7.out, Hg6.out, HF7.out⟩⟩, by simp [intOf]; omega⟩
        · as_aux_lemma =>
          have dv : ((v : Int) != 0) = true := by simp; omega
          rw [if_neg hv0] at HRp
          obtain ⟨hq, hhq⟩ : ∃ h, fup (hput p.2 5 o) 4 (p.2 4 ++ refP p.1 o i) = h := ⟨_, rfl⟩
          have h44 : hq 4 = p.2 4 ++ refP p.1 o i := by rw [← hhq]; exact fup_self _ _ _
          rw [hhq] at HM7
          have Hhq := hid hhq
          have H44 := hid h44
          have HL4 : Hid ((hq 4).length ≤ 1000010000) := hid (by rw [h44, List.length_append]; have := HLp.out 4; have := Hrl.out; omega)
          clear hhq h44
          obtain ⟨ao8, qo8, hV8⟩ := (HM7.out.hm.rw 4 (by decide)).shape
          obtain ⟨n8, hn8⟩ : ∃ n, (hq 4).length = n := ⟨_, rfl⟩
          have c8 := HM7.out.hcell (i := 4) (by decide)
          rw [hV8, hn8] at c8
          have HV8 := hid hV8
          have Hn8 := hid hn8
          rw [hn8] at HV8
          clear hV8 hn8
          go_wp2_with (at_builtin; refine stopHere ?_)
          intro _
          obtain ⟨kf8, hkf8⟩ : ∃ kf, wz.heap.size = kf := ⟨_, rfl⟩
          obtain ⟨wf8, hwf8⟩ : ∃ wf, wz.alloc (.cells #[.int .u64 (v : Int)] 48) = wf := ⟨_, rfl⟩
          have HBf8 : Hid (Below wz.heap.size wz wf8) := hid (by rw [← hwf8]; exact nbel wz _)
          have HNw8 : Hid (∀ ad, some (⟨kf8, 0, none⟩ : Addr) = some ad → ∀ j u, ([v].flatMap rtA.f)[j]? = some u → wf8.cell? (ad.add j) = some u) := hid (by rw [← hwf8]; exact newX rtA wz v _ hkf8.symm)
          (try simp only [hwf8, hkf8])
          clear hwf8 hkf8 c8
          have HHf8 := hid (HM7.out.below HBf8.out)
          have hrf8 := HHf8.out.hm.rw 4 (by decide)
          rw [HV8.out, (HRl.out 4 (by decide) (by decide)).1] at hrf8
          refine wpList_app_x okA rfl _ _ hrf8 rfl [v] rfl (some ⟨kf8, 0, none⟩) 1 1 rfl rfl (fun h => by cases h) HNw8.out (by have := HL4.out; show ((hq 4).length + 1) * 8 ≤ _; omega) ?_
          intro v8 w8 ρ8 hr8 hf8 _ _
          obtain ⟨a8, k8, h8⟩ := hr8.out.shape
          rw [List.length_append, List.length_singleton, Hn8.out] at h8
          subst h8
          have HM8 := hid (HHf8.out.app (i := 4) (by decide) (HRl.out 4 (by decide) (by decide)).1 (HRl.out 4 (by decide) (by decide)).2 hf8.out hr8.out)
          have hk8 : w8.heap[hB]? = wf8.heap[hB]? := hf8.out.blk _ HHf8.out.hm.bl.lt (by rw [HHf8.out.hm.ro]; rfl)
          have c8 : w8.cell? ⟨hB, 4, none⟩ = some (.slice ao8 n8 qo8) := by rw [World.cell?_of_block hk8, ← HV8.out]; exact HHf8.out.hcell (by decide)
          have f8 : w8.frozen? ⟨hB, 4, none⟩ = false := by rw [World.frozen?_of_block hk8]; exact HHf8.out.hm.bl.frozen _
          have HF8 := hid ((Fr.below HBf8.out).trans HM8.out.2)
          have HQ8 := hid HM8.out.1
          clear hrf8 hr8 hf8 hk8 HNw8 HHf8 HBf8 HM8
          have HT8 := hid (HT7.out.fr HF8.out rfl)
          have HN8 := hid (HF8.out.keep HN7.out Hg6.out rfl)
          have Hg8 : Hid (ρ8 g = 0) := hid (by rw [HF8.out.old _ HN7.out.lt]; exact Hg6.out)
          have HF9 : Hid (Fr pX ρ w ρ8 _) := hid (HF7.out.trans (HF8.out.mono (fun c => pX_app (by decide))))
          go_upto_region 36 with fail
          obtain ⟨w9, hw9⟩ : ∃ x, w8.setCell ⟨hB, 4, none⟩ (.slice a8 (n8 + 1) k8) = x := ⟨_, rfl⟩
          rw [hw9] at HQ8 HF9 HT8 HN8
          simp only [hw9]
          obtain ⟨V9, hV9⟩ : ∃ V9, fup V6 4 (.slice a8 (n8 + 1) k8) = V9 := ⟨_, rfl⟩
          rw [hV9] at HQ8
          clear c8 f8 hw9 hV9 HF8 HF7 HT7 HM7 HN7
          go_wp2_with (at_builtin; refine stopHere ?_)
          intro _
          obtain ⟨kf, hkf⟩ : ∃ kf, w9.heap.size = kf := ⟨_, rfl⟩
          obtain ⟨wf, hwf⟩ : ∃ wf, w9.alloc (.cells #[.int .u64 (v : Int)] 48) = wf := ⟨_, rfl⟩
          have HBf : Hid (Below w9.heap.size w9 wf) := hid (by rw [← hwf]; exact nbel w9 _)
          have HNw : Hid (wf.cell? ⟨kf, 0, none⟩ = some (.int .u64 (v : Int))) := hid (by rw [← hwf, ← hkf]; exact (Blk.new w9 [.int .u64 (v : Int)] 48).cell 0)
          (try simp only [hwf, hkf])
          clear hwf hkf
          have HMf := hid (HQ8.out.below HBf.out)
          have HTf := hid (HT8.out.fr (X := fun _ => false) (Fr.below HBf.out) rfl)
          have HNf := hid (HN8.out.below HBf.out)
          have HFf : Hid (Fr pX ρ w ρ8 wf) := hid (HF9.out.trans (Fr.below HBf.out))
          have hln : n1 ≤ 200000010000 := by
            have h1 := HTf.out.fl.len
            rw [List.length_map, List.length_append] at h1
            have := HCC.out
            have := Hrl.out
            omega
          clear HQ8 HT8 HN8 HF9
          obtain ⟨i0, z0, hi0, hz0, hz1, hz2, hz3⟩ := okA.info
          refine wpList_append_file rfl _ _ 34 rfl 48 i0 z0 8 Try.underlying34 hi0 hz0 hz1 hz2 hz3 a1 n1 c1 _ rfl HTf.out.fl kf 1 (.int .u64 (v : Int)) rfl HNw.out rfl (by omega) (by decide) ?_
          intro a5 c5 w5 hF5 hu5 hb5 _
          obtain ⟨ρ5, ht5, hf5⟩ := HTf.out.app v hF5 hu5 hb5
          have HE : Hid (∃ V' ρ', MPM w5 ρ' L2 Y9 hB rB rl V' (incG p.1 o) (mS1 M) (fup (hput p.2 5 o) 4 (p.2 4 ++ refP p.1 o (i + 1))) ∧ TdM w5 ρ' a5 (n1 + 1) c5 (td ++ refP p.1 o (i + 1)) ∧ Blk w5 g 73 [.int .i64 (sn : Int), .int .i64 (q : Int)] ∧ ρ' g = 0 ∧ Fr pX ρ w ρ' w5) := hid ⟨V9, ρ5, by
            have h1 := HMf.out.keep hf5 (fun c hc => by show (c == 50) = false; simp; omega)
            rw [H44.out, ← Hhq.out, fup_fup, List.append_assoc, ← HRp.out] at h1
            exact h1, by
            rw [List.append_assoc, ← HRp.out] at ht5
            exact ht5, hf5.keep HNf.out Hg8.out rfl, by rw [hf5.old _ HNf.out.lt]; exact Hg8.out, HFf.out.trans (hf5.mono (fun c => pX_of (by decide)))⟩
          clear hF5 hu5 hb5 ht5 hf5 HMf HTf HNf HFf HNw HBf hi0 hz0 hz1 hz2 hz3 hln
          go_wp2
          exact ⟨⟨i + 1, n1 + 1, c5, a5, by omega, by go_num, rfl, HE⟩, by simp [intOf]; omega⟩
      · as_aux_lemma =>
        have dk : decide ((i : Int) < (q : Int)) = false := decide_eq_false (by omega)
        obtain rfl : i = q := by omega
        have HE : Hid (QuR w ρ L Y9 hB rB rl (mS1 M) (applyP (G, hv)) hv Cm (N - 1) (.slice a1 n1 c1) wr) := hid (by
          have h1 := HQ2.out
          rw [if_pos Hcn.out] at h1
          have e2 : (incP p o).2 = fup (hput p.2 5 o) 4 (p.2 4 ++ refP p.1 o i) := by
            show incH p.1 p.2 o = _
            unfold incH refL
            rw [if_pos Hcn.out, Hnq.out.2]
          refine ⟨incP p o, _, a1, n1, c1, L2, V6, ρ6, rfl, h1, ?_, ?_, HS2.out, HF6.out⟩
          · rw [e2]
            exact HM6.out
          · unfold refL
            rw [Hnq.out.2]
            exact HT6.out)
        clear HQ2 HM6 HT6 HS2 HF6 HAp HN6
        go_wp2
        refine ⟨hid ⟨N - 1, HE.out⟩, ?_⟩
        rw [HN.out]
        exact Nat.lt_of_le_of_lt (leastN_le HE.out) (by have := Hpos.out; omega)
    | nil =>
      as_aux_lemma =>
      obtain rfl : n = 0 := by simpa using hlen.symm
      obtain ⟨hpR, C, hC, hap⟩ := HQ.out.done
      have HC : Hid (C ≤ 100000000000) := hid (by have := HCm.out; omega)
      have Hpd : Hid (p.1.pend = G.pend ∧ p.1.deaths = G.deaths) := hid (by
        rw [hpR]
        exact ⟨applyP_keep (fun G => G.pend) (fun _ _ => rfl) _, applyP_keep (fun G => G.deaths) (fun _ _ => rfl) _⟩)
      have HpR := hid hpR
      have HAp := hid hap
      clear hpR hap hC HQ HT HN hlen hcn ic HCm
      obtain ⟨E2, hE1, hE2, hE3⟩ := HM.out.md.fm
      have HEk : Hid (∀ e ∈ E2, M.fr e.k = true) := hid (fun e he => by
        have := hE2 e he
        unfold bsF at this
        split at this
        · next h => exact h
        · cases this)
      have HEa : Hid (∀ x, M.fr x = true → x ∈ E2.map (·.k)) := hid (fun x hx => by
        obtain ⟨e, he, hek⟩ := hE3 x (.bool true) (by unfold bsF; rw [if_pos (show (mS1 M).fr x = true from hx)])
        exact List.mem_map.2 ⟨e, he, hek⟩)
      have HPn := hid hE1
      clear hE1 hE2 hE3
      have c10 := HM.out.md.cells.2.2.2.2.2.2.1
      rw [HY9.out.1] at c10
      obtain ⟨mF, hmF⟩ : ∃ x, Y9.mF = x := ⟨_, rfl⟩
      have HmF := hid hmF
      rw [hmF] at c10 HPn
      obtain ⟨r2, hr2⟩ : ∃ x, wr.heap.size = x := ⟨_, rfl⟩
      go_wp2_with (at_range; refine wpList_range_pn rfl (.tmp 168) 45 rfl Try.underlying45 mF E2 rfl HPn.out ?_; intro w2 hit2 hbe2 hsz2)
      go_frame
      have HI2 : Hid (PaE w ρ L Y9 hB rB rl (mS1 M) p mF E2 r2 (E2.map (·.k)) [] w2) := hid (by
        have hit : IT w2 r2 mF E2 (E2.map (·.k)) := by rw [← hr2]; exact hit2
        have hf := Fr.one (X := fun _ => false) (ρ := ρ1) hbe2 hr2 hit.lt 60
        refine ⟨fup ρ1 r2 60, L1, V1, HM.out.keep hf (fun _ _ => rfl), ⟨hit, HPn.out.below hbe2, fup_self _ _ _, ?_⟩, HSm.out, HF.out.trans (hf.mono (fun c hc => by cases hc)), ⟨HAp.out.ok, by simp [reaps], rfl, rfl, rfl, fun _ _ => rfl, by simp [reaps]⟩⟩
        rw [fup_ne _ _ (by have := HPn.out.lt; omega), ← HmF.out]
        exact HM.out.md.rf)
      simp only [hr2]
      clear hit2 hbe2 hsz2 c10 hr2 HM HF HSm hmF HPn
      go_loopw [] (fun wr => ∃ Tk F, Hid (PaE w ρ L Y9 hB rB rl (mS1 M) p mF E2 r2 Tk F wr) ∧ Hid (DnP (E2.map (·.k)) Tk F)) (fun wr => World.rangeLeft wr mF r2)
      case atStart => exact ⟨_, _, HI2, hid (DnP.start _)⟩
      case round =>
      clear HI2
      obtain ⟨Tk, F, HI, HD⟩ := hrel
      obtain ⟨ρ5, L5, V5, hm5, hr5, hs5, hf5, hp5⟩ := HI.out
      have HM5 := hid hm5
      have HR5 := hid hr5
      have HS5 := hid hs5
      have HF5 := hid hf5
      have HP5 := hid hp5
      clear HI hm5 hr5 hs5 hf5 hp5
      have HFl : Hid (F.length ≤ 32768) := hid (seen_len HD.out.nd (fun y hy => HFr.out y (by
        obtain ⟨e', he', hk'⟩ := List.mem_map.1 ((HD.out.m y).1 hy).1
        rw [← hk']; exact HEk.out e' he')))
      go_upto_region 38 with fail
      refine wp_region_lit ?_
      refine wpList_next_pn rfl (.tmp 169) rfl r2 mF E2 Tk rfl HR5.out.pn HR5.out.it ?_ ?_
      rotate_left
      · intro e w3 he heT hpn3 hit3 hu3 hsz3 hent
        have hin := HFr.out _ (HEk.out e he)
        have hke := List.mem_map.2 ⟨e, he, (rfl : e.k = e.k)⟩
        have hf3 : Fr (fun c => c == 60) ρ5 wr ρ5 w3 := Fr.upd hu3 (by show (ρ5 r2 == 60) = true; rw [HR5.out.rr]; rfl)
        have HM3 := hid (HM5.out.keep hf3 (fun c hc => by show (c == 60) = false; simp; omega))
        have HF3 : Hid (Fr pX ρ w ρ5 w3) := hid (HF5.out.trans (hf3.mono (fun c => pX_of (by decide))))
        have HR3 : Hid (RgI w3 ρ5 mF 20 r2 E2 (Tk.filter fun k => decide (k ≠ e.k))) := hid ⟨hit3, hpn3, HR5.out.rr, HR5.out.rc⟩
        have HMs : Hid (∀ w' ρ', RgI w' ρ' mF 20 r2 E2 (Tk.filter fun k => decide (k ≠ e.k)) → World.rangeLeft w' mF r2 < World.rangeLeft wr mF r2) := hid (fun w' ρ' h' => HR5.out.ms he heT h')
        have HD3 := hid (HD.out.add hke heT)
        obtain ⟨x, hx⟩ : ∃ x, e.k = x := ⟨_, rfl⟩
        obtain ⟨ev, hev⟩ : ∃ ev, e.v = ev := ⟨_, rfl⟩
        rw [hx] at hin HR3 HMs HD3
        rw [hx, hev] at hent
        rw [hx, hev]
        have HPx := hid (HP5.out.step x)
        have HNx := hid (reaps_s p F x)
        obtain ⟨pf, hpf⟩ : ∃ pf, reaps p F = pf := ⟨_, rfl⟩
        rw [hpf] at HM3 HP5 HPx HNx
        have HCo := hid (countOf_walk HM3.out.md.gm x)
        obtain ⟨cx, hcx⟩ : ∃ c, pf.1.cnt x = c := ⟨_, rfl⟩
        rw [hcx] at HCo
        have Hcx := hid hcx
        have Hin := hid hin
        have c2 := HM3.out.md.cells.2.2.1
        rw [HY9.out.1] at c2
        clear he heT hpn3 hit3 hu3 hsz3 hx hev hin hpf hcx HM5 HR5 HF5 HD hf3 hke
        as_aux_lemma =>
        go_frame
        go_wp2_with fail
        refine HCo.out.mono ?_
        rintro e4 w4 ⟨rfl, rfl⟩
        clear HCo hent
        by_cases hc0 : cx = 0
        rotate_left
        · as_aux_lemma =>
          have dc : ((cx : Int) == 0) = false := by simp; omega
          have HE : Hid (PaE w ρ L Y9 hB rB rl (mS1 M) p mF E2 r2 (Tk.filter fun k => decide (k ≠ x)) (F ++ [x]) w4) := hid (by
            have e1 : reaps p (F ++ [x]) = pf := by rw [HNx.out]; unfold reap1; rw [if_neg (by rw [Hcx.out]; exact hc0)]
            refine ⟨ρ5, L5, V5, by rw [e1]; exact HM3.out, HR3.out, HS5.out, HF3.out, ?_⟩
            rw [List.length_append, List.length_singleton, HNx.out]
            exact HPx.out)
          have HLt := hid (HMs.out _ _ HR3.out)
          clear HM3 HR3 HF3 HPx HNx HP5
          go_wp2
          exact ⟨⟨_, _, HE, HD3⟩, HLt.out⟩
        · as_aux_lemma =>
          subst hc0
          obtain ⟨s, hs⟩ : ∃ s, offA x = s := ⟨_, rfl⟩
          have hsp := offA_in Hin.out.1
          have hsz := HP5.out.ok.sz Hin.out.1 Hin.out.2
          rw [hs] at hsp hsz
          have HFe := hid (rfree_walk HM3.out.md.gm hsp rfl hsz.1 (by
            have h1 := HP5.out.d
            have h2 := HFl.out
            have h3 := Hpd.out.2
            have h4 := HG.out.deaths
            rw [h3] at h1
            omega))
          clear hs hsp hsz
          go_wp2_with fail
          refine HFe.out.mono ?_
          rintro e5 w5 ⟨rfl, hg5⟩
          obtain ⟨L6, ρ6, hm6, hs6, hf6⟩ := HM3.out.ground hg5
          have HM6 := hid hm6
          have HS6 := hid (HS5.out.trans hs6)
          have HF6 := hid (HF3.out.trans (hf6.mono (fun c => pX_g)))
          have HR6 := hid (HR3.out.fr hf6 rfl rfl)
          have HL6 : Hid ((pf.2 6).length ≤ 2000000) := hid (by
            have h1 := HP5.out.f
            have h2 := HFl.out
            have h3 := HAp.out.k 6 (by decide) (by decide)
            have h4 := HLn.out 6
            rw [h3] at h1
            omega)
          clear HFe hg5 hm6 hs6 hf6 HM3 HS5 HF3 HR3 c2 HP5
          obtain ⟨ao8, qo8, hV8⟩ := (HM6.out.hm.rw 6 (by decide)).shape
          obtain ⟨n8, hn8⟩ : ∃ n, (pf.2 6).length = n := ⟨_, rfl⟩
          have c8 := HM6.out.hcell (i := 6) (by decide)
          rw [hV8, hn8] at c8
          have HV8 := hid hV8
          have Hn8 := hid hn8
          rw [hn8] at HV8
          clear hV8 hn8
          go_wp2_with (at_builtin; refine stopHere ?_)
          intro _
          obtain ⟨kf8, hkf8⟩ : ∃ kf, w5.heap.size = kf := ⟨_, rfl⟩
          obtain ⟨wf8, hwf8⟩ : ∃ wf, w5.alloc (.cells #[.int .u64 (x : Int)] 48) = wf := ⟨_, rfl⟩
          have HBf8 : Hid (Below w5.heap.size w5 wf8) := hid (by rw [← hwf8]; exact nbel w5 _)
          have HNw8 : Hid (∀ ad, some (⟨kf8, 0, none⟩ : Addr) = some ad → ∀ j u, ([x].flatMap rtA.f)[j]? = some u → wf8.cell? (ad.add j) = some u) := hid (by rw [← hwf8]; exact newX rtA w5 x _ hkf8.symm)
          (try simp only [hwf8, hkf8])
          clear hwf8 hkf8 c8
          have HHf8 := hid (HM6.out.below HBf8.out)
          have hrf8 := HHf8.out.hm.rw 6 (by decide)
          rw [HV8.out, (HRl.out 6 (by decide) (by decide)).1] at hrf8
          refine wpList_app_x okA rfl _ _ hrf8 rfl [x] rfl (some ⟨kf8, 0, none⟩) 1 1 rfl rfl (fun h => by cases h) HNw8.out (by have := HL6.out; show ((pf.2 6).length + 1) * 8 ≤ _; omega) ?_
          intro v8 w8 ρ8 hr8 hf8 _ _
          obtain ⟨a8, k8, h8⟩ := hr8.out.shape
          rw [List.length_append, List.length_singleton, Hn8.out] at h8
          subst h8
          have HM8 := hid (HHf8.out.app (i := 6) (by decide) (HRl.out 6 (by decide) (by decide)).1 (HRl.out 6 (by decide) (by decide)).2 hf8.out hr8.out)
          have hk8 : w8.heap[hB]? = wf8.heap[hB]? := hf8.out.blk _ HHf8.out.hm.bl.lt (by rw [HHf8.out.hm.ro]; rfl)
          have c8 : w8.cell? ⟨hB, 6, none⟩ = some (.slice ao8 n8 qo8) := by rw [World.cell?_of_block hk8, ← HV8.out]; exact HHf8.out.hcell (by decide)
          have f8 : w8.frozen? ⟨hB, 6, none⟩ = false := by rw [World.frozen?_of_block hk8]; exact HHf8.out.hm.bl.frozen _
          have HF8 := hid ((Fr.below HBf8.out).trans HM8.out.2)
          have HQ8 := hid HM8.out.1
          clear hrf8 hr8 hf8 hk8 HNw8 HHf8 HBf8 HM8
          have HR8 := hid (HR6.out.fr HF8.out rfl rfl)
          have HE : Hid (PaE w ρ L Y9 hB rB rl (mS1 M) p mF E2 r2 (Tk.filter fun k => decide (k ≠ x)) (F ++ [x]) (w8.setCell ⟨hB, 6, none⟩ (.slice a8 (n8 + 1) k8))) := hid (by
            have e1 : reaps p (F ++ [x]) = (freeG pf.1 x, hput pf.2 6 x) := by rw [HNx.out]; unfold reap1; rw [if_pos Hcx.out]
            refine ⟨ρ8, L6, _, by rw [e1]; exact HQ8.out, HR8.out, HS6.out, HF6.out.trans (HF8.out.mono (fun c => pX_app (by decide))), ?_⟩
            rw [List.length_append, List.length_singleton, HNx.out]
            exact HPx.out)
          have HLt := hid (HMs.out _ _ HR8.out)
          clear HQ8 HF8 HM6 HR6 HF6 HR8 HPx HNx
          go_wp2
          exact ⟨⟨_, _, HE, HD3⟩, HLt.out⟩
      · intro hT
        subst hT
        have HFF : Hid (F.Nodup ∧ ∀ x, x ∈ F ↔ M.fr x = true) := hid ⟨HD.out.nd, fun x => by
          rw [HD.out.m]
          constructor
          · rintro ⟨h1, _⟩
            obtain ⟨e, he, rfl⟩ := List.mem_map.1 h1
            exact HEk.out e he
          · intro h1
            exact ⟨HEa.out x h1, by simp⟩⟩
        have Hmp : Hid (mpa2 G M D F = reaps p F) := hid (by unfold mpa2; rw [Hhv.out, ← HpR.out])
        clear HD HEk HEa HR5
        obtain ⟨pf, hpf⟩ : ∃ pf, reaps p F = pf := ⟨_, rfl⟩
        rw [hpf] at HM5 HP5 Hmp
        have HCp : Hid (pf.1.calls.length ≤ 100000000000 ∧ ∀ a, pf.1.pend a ≤ 90000000000) := hid ⟨by
          rw [HP5.out.c]
          exact Nat.le_trans HAp.out.c HC.out, fun a => by
          rw [HP5.out.p, Hpd.out.1]
          exact HG.out.pend a⟩
        have HLf : Hid ((pf.2 1).length ≤ 1000000 ∧ (pf.2 3).length ≤ 1000000) := hid ⟨by
          rw [HP5.out.k 1 (by decide), HAp.out.k 1 (by decide) (by decide)]
          exact HLn.out 1, by
          rw [HP5.out.k 3 (by decide), HAp.out.k 3 (by decide) (by decide)]
          exact HLn.out 3⟩
        clear hpf HP5 HAp HpR HC Hpd HLn HFl
        as_aux_lemma =>
        go_frame
        obtain ⟨l1, hl1⟩ : ∃ l, pf.2 1 = l := ⟨_, rfl⟩
        obtain ⟨l3, hl3⟩ : ∃ l, pf.2 3 = l := ⟨_, rfl⟩
        have Hl1 := hid hl1
        have Hl3 := hid hl3
        rw [hl1, hl3] at HLf
        obtain ⟨ar1, qr1, hV1⟩ := (HM5.out.hm.rw 1 (by decide)).shape
        obtain ⟨ar3, qr3, hV3⟩ := (HM5.out.hm.rw 3 (by decide)).shape
        have cr1 := HM5.out.hcell (i := 1) (by decide)
        obtain ⟨n1, hn1⟩ : ∃ n, l1.length = n := ⟨_, rfl⟩
        obtain ⟨n3, hn3⟩ : ∃ n, l3.length = n := ⟨_, rfl⟩
        rw [hl1, hn1] at hV1
        rw [hl3, hn3] at hV3
        rw [hV1] at cr1
        have HV13 := hid (And.intro hV1 hV3)
        have Hn13 := hid (And.intro hn1 hn3)
        have in1 : (n1 : Int) ≤ 1000000 := by have := HLf.out.1; omega
        have in3 : (n3 : Int) ≤ 1000000 := by have := HLf.out.2; omega
        have HJ : Hid (PaD w ρ L Y9 hB rB rl V5 (mS1 M) pf.2 pf.1 0 (decs pf.1 (l1.take 0)) wr) := hid ⟨ρ5, L5, HM5.out, HS5.out, HF5.out, ⟨Nat.le_refl _, fun a => Nat.le_refl _, rfl⟩⟩
        clear hV1 hV3 hn1 hn3 hl1 hl3 HM5 HS5 HF5
        go_wp2_with fail
        clear cr1
        go_loopw [196] (fun v wr => ∃ i : Nat, i ≤ n1 ∧ v = .int .i64 (i : Int) ∧ Hid (PaD w ρ L Y9 hB rB rl V5 (mS1 M) pf.2 pf.1 i (decs pf.1 (l1.take i)) wr)) (fun v _ => n1 - (intOf v).toNat)
        case atStart => exact ⟨0, by omega, rfl, HJ⟩
        case round =>
        clear HJ
        obtain ⟨i, hi, rfl, HJ⟩ := hrel
        by_cases hlt : i < n1
        · as_aux_lemma =>
          obtain ⟨ρ6, L6, hm6, hs6, hf6, hd6⟩ := HJ.out
          have dk : decide ((i : Int) < (n1 : Int)) = true := decide_eq_true (by omega)
          have ii : (i : Int) < (n1 : Int) := by omega
          have hil : i < (pf.2 1).length := by rw [Hl1.out, Hn13.out.1]; exact hlt
          obtain ⟨g, rfl, cg⟩ := hm6.elem (by decide) HV13.out.1 hil
          rw [Hl1.out] at cg hil
          have htk : l1.take (i + 1) = l1.take i ++ [l1.getD i 0] := by rw [List.take_add_one, List.getElem?_eq_getElem hil, List.getD_eq_getElem?_getD, List.getElem?_eq_getElem hil]; rfl
          have HI := hid (PaD.push hm6 hs6 hf6 hd6 (l1.getD i 0) (by have := HCp.out.1; omega) (fun a => by have := HCp.out.2 a; omega))
          rw [← decs_s, ← htk] at HI
          have c2 := hm6.md.cells.2.2.1
          rw [HY9.out.1] at c2
          generalize l1.getD i 0 = o at cg HI
          clear hm6 hs6 hf6 hd6 hil htk HJ
          go_wp2_with fail
          refine HI.out.mono ?_
          rintro e2 w2 ⟨rfl, h3⟩
          have HX2 := hid h3
          clear h3 HI cg c2
          go_wp2
          exact ⟨⟨i + 1, by omega, by go_num, HX2⟩, by simp [intOf]; omega⟩
        have dk : decide ((i : Int) < (n1 : Int)) = false := decide_eq_false (by omega)
        have hin : i = n1 := by omega
        rw [hin, List.take_of_length_le (by rw [Hn13.out.1]; exact Nat.le_refl _)] at HJ
        clear hin
        obtain ⟨G6, hG6⟩ : ∃ g, decs pf.1 l1 = g := ⟨_, rfl⟩
        have HG6 := hid hG6
        have HJ3 : Hid (PaD w ρ L Y9 hB rB rl V5 (mS1 M) pf.2 pf.1 (n1 + 0) (decs G6 (l3.take 0)) wr) := hid (by rw [← hG6]; exact HJ.out)
        have cr3 : wr.cell? ⟨hB, 3, none⟩ = some (.slice ar3 n3 qr3) := by
          obtain ⟨ρ6, L6, hm6, _⟩ := HJ.out
          rw [← HV13.out.2]
          exact hm6.hcell (by decide)
        clear HJ hG6
        as_aux_lemma =>
        go_wp2_with fail
        clear cr3 dk hi hlt
        go_loopw [210] (fun v wr => ∃ i : Nat, i ≤ n3 ∧ v = .int .i64 (i : Int) ∧ Hid (PaD w ρ L Y9 hB rB rl V5 (mS1 M) pf.2 pf.1 (n1 + i) (decs G6 (l3.take i)) wr)) (fun v _ => n3 - (intOf v).toNat)
        case atStart => exact ⟨0, by omega, rfl, HJ3⟩
        case round =>
        clear HJ3
        obtain ⟨i, hi, rfl, HJ⟩ := hrel
        by_cases hlt : i < n3
        · as_aux_lemma =>
          obtain ⟨ρ6, L6, hm6, hs6, hf6, hd6⟩ := HJ.out
          have dk : decide ((i : Int) < (n3 : Int)) = true := decide_eq_true (by omega)
          have ii : (i : Int) < (n3 : Int) := by omega
          have hil : i < (pf.2 3).length := by rw [Hl3.out, Hn13.out.2]; exact hlt
          obtain ⟨g, rfl, cg⟩ := hm6.elem (by decide) HV13.out.2 hil
          rw [Hl3.out] at cg hil
          have htk : l3.take (i + 1) = l3.take i ++ [l3.getD i 0] := by rw [List.take_add_one, List.getElem?_eq_getElem hil, List.getD_eq_getElem?_getD, List.getElem?_eq_getElem hil]; rfl
          have HI := hid (PaD.push hm6 hs6 hf6 hd6 (l3.getD i 0) (by have := HCp.out.1; omega) (fun a => by have := HCp.out.2 a; omega))
          rw [← decs_s, ← htk] at HI
          have c2 := hm6.md.cells.2.2.1
          rw [HY9.out.1] at c2
          generalize l3.getD i 0 = o at cg HI
          clear hm6 hs6 hf6 hd6 hil htk HJ
          go_wp2_with fail
          refine HI.out.mono ?_
          rintro e2 w2 ⟨rfl, h3⟩
          have HX2 := hid h3
          clear h3 HI cg c2
          go_wp2
          exact ⟨⟨i + 1, by omega, by go_num, HX2⟩, by simp [intOf]; omega⟩
        have dk : decide ((i : Int) < (n3 : Int)) = false := decide_eq_false (by omega)
        have hin : i = n3 := by omega
        rw [hin, List.take_of_length_le (by rw [Hn13.out.2]; exact Nat.le_refl _)] at HJ
        have HGe : Hid (decs G6 l3 = mpaG G M D F) := hid (by
          unfold mpaG
          rw [Hmp.out, Hl1.out, Hl3.out, HG6.out])
        rw [HGe.out] at HJ
        have Hm2 : Hid ((mpa2 G M D F).2 = pf.2) := hid (by rw [Hmp.out])
        clear hin HG6 Hl1 Hl3 HV13 Hn13 HLf HCp in1 in3 HGe
        obtain ⟨ρ6, L6, hm6, hs6, hf6, _⟩ := HJ.out
        have HM6 := hid hm6
        have HS6 := hid hs6
        have HF6 := hid hf6
        clear HJ hm6 hs6 hf6
        as_aux_lemma =>
        go_upto_region 53 with fail
        clear dk hi hlt
        have hmk := @run_makeMap Try.prog
        obtain ⟨m1, hm1⟩ : ∃ x, wr.heap.size = x := ⟨_, rfl⟩
        have hA1 := HM6.out.below (nbel wr (.map #[] 0))
        have c9 := hA1.md.cells.2.2.2.2.2.1
        have f9 := hA1.md.mb.frozen 9
        have HN1 := hid (HM6.out.newW hm1)
        obtain ⟨Y1, hY1⟩ : ∃ x, ({ Y9 with mW := m1 } : ML) = x := ⟨_, rfl⟩
        have HY1 : Hid (Y1.mB = mB ∧ Y1.mF = Y9.mF) := hid (by rw [← hY1]; exact ⟨HY9.out.1, rfl⟩)
        rw [hY1] at HN1
        rw [HY9.out.1] at c9 f9 HN1
        generalize Y9.mW = mWo at c9
        clear hA1 hY1
        go_upto_region 54 with fail
        (try simp only [hm1])
        obtain ⟨w7, hw7⟩ : ∃ x, (wr.alloc (.map #[] 0)).setCell ⟨mB, 9, none⟩ (.map (some m1)) = x := ⟨_, rfl⟩
        rw [hw7] at HN1
        simp only [hw7]
        have HM7 := hid HN1.out.1
        have HF7 : Hid (Fr pX ρ w _ w7) := hid (HF6.out.trans (HN1.out.2.mono (fun c => pX_of (by decide))))
        generalize fup ρ6 m1 15 = ρ7 at HM7 HF7
        clear hw7 hm1 HN1 c9 f9 HM6 HF6
        obtain ⟨m2, hm2⟩ : ∃ x, w7.heap.size = x := ⟨_, rfl⟩
        have hA1 := HM7.out.below (nbel w7 (.map #[] 0))
        have c10 := hA1.md.cells.2.2.2.2.2.2.1
        have f10 := hA1.md.mb.frozen 10
        have HN2 := hid (HM7.out.newF hm2)
        obtain ⟨Y2, hY2⟩ : ∃ x, ({ Y1 with mF := m2 } : ML) = x := ⟨_, rfl⟩
        have HY2 : Hid (Y2.mB = mB) := hid (by rw [← hY2]; exact HY1.out.1)
        rw [hY2] at HN2
        rw [HY1.out.1] at c10 f10 HN2
        generalize Y1.mF = mFo at c10
        clear hA1 hY2
        go_upto_region 55 with fail
        (try simp only [hm2])
        obtain ⟨w8, hw8⟩ : ∃ x, (w7.alloc (.map #[] 0)).setCell ⟨mB, 10, none⟩ (.map (some m2)) = x := ⟨_, rfl⟩
        rw [hw8] at HN2
        simp only [hw8]
        have HM8 := hid HN2.out.1
        have HF8 : Hid (Fr pX ρ w _ w8) := hid (HF7.out.trans (HN2.out.2.mono (fun c => pX_of (by decide))))
        generalize fup ρ7 m2 20 = ρ8 at HM8 HF8
        clear hw8 hm2 HN2 c10 f10 HM7 HF7 hmk
        obtain ⟨X, W, HTT, H0, hne, HC⟩ := class_below w8
        have e1 : ∀ y, (W y).cell? ⟨mB, 8, none⟩ = some (.slice (some ⟨Y2.aB, 0, none⟩) 32768 32768) := fun y => by
          have := (HM8.out.below (HTT.out y)).md.cells.2.2.2.2.1
          rw [HY2.out] at this
          exact this
        have e2 : ∀ y, (W y).cell? ⟨mB, 0, none⟩ = some (.pointer (some ⟨L6.hB, 0, none⟩)) := fun y => by
          have := (HM8.out.below (HTT.out y)).md.cells.1
          rw [HY2.out] at this
          exact this
        have e3 : ∀ y, (W y).cell? ⟨L6.hB, 1, none⟩ = some (.slice (some ⟨L6.wB, 0, none⟩) 32768 32768) := fun y => (HM8.out.below (HTT.out y)).md.gm.hcells.2.1
        refine wp_region_class_lastT W rfl (by kernel_rfl) (by kernel_rfl) (by kernel_rfl) H0.out ?_
        dsimp only [List.dropLast]
        repeat (go_big_quiet_step (fail))
        refine wpQuiet_nil ?_
        intro z
        have HMz := hid (HM8.out.below (HTT.out z))
        have HFz : Hid (Fr pX ρ w ρ8 (W z)) := hid (HF8.out.trans (Fr.below (HTT.out z)))
        generalize W z = wz at HMz HFz ⊢
        clear e1 e2 e3 H0 HTT HC hne HM8 HF8
        obtain ⟨w9, hcp, hb9, hu9⟩ := copy_words HMz.out.md.gm HMz.out.md.ab 3
        have HQ9 := hid (HMz.out.setA hu9 hb9)
        have HM9 := hid HQ9.out.1
        have HF9 : Hid (Fr pX ρ w ρ8 w9) := hid (HFz.out.trans (HQ9.out.2.mono (fun c => pX_of (by decide))))
        clear hb9 hu9 HQ9 HMz HFz
        have hbl := HM9.out.hm.bl
        rw [fnC8] at hbl
        have Hbl := hid hbl
        have h8s : ∀ i, i < 8 → ∃ a n q, V5 i = .slice a n q := fun i hi => by
          obtain ⟨a, q, e⟩ := (HM9.out.hm.rw i hi).shape
          exact ⟨a, _, q, e⟩
        have hone : ∀ u ∈ [V5 0, V5 1, V5 2, V5 3, V5 4, V5 5, V5 6, V5 7], u.oneCell' = true := fun u hu => by
          simp only [List.mem_cons, List.not_mem_nil, or_false] at hu
          rcases hu with rfl | rfl | rfl | rfl | rfl | rfl | rfl | rfl
          · obtain ⟨a, n, q, e⟩ := h8s 0 (by decide); rw [e]; rfl
          · obtain ⟨a, n, q, e⟩ := h8s 1 (by decide); rw [e]; rfl
          · obtain ⟨a, n, q, e⟩ := h8s 2 (by decide); rw [e]; rfl
          · obtain ⟨a, n, q, e⟩ := h8s 3 (by decide); rw [e]; rfl
          · obtain ⟨a, n, q, e⟩ := h8s 4 (by decide); rw [e]; rfl
          · obtain ⟨a, n, q, e⟩ := h8s 5 (by decide); rw [e]; rfl
          · obtain ⟨a, n, q, e⟩ := h8s 6 (by decide); rw [e]; rfl
          · obtain ⟨a, n, q, e⟩ := h8s 7 (by decide); rw [e]; rfl
        have Hone := hid hone
        have hinf : (Try.prog.info? 36).map (·.size) = some 8 := by kernel_rfl
        have Hinf := hid hinf
        have hrb := HM9.out.rb
        have Hrb := hid hrb
        clear hbl h8s hone hinf hrb
        go_wp2_with (first
          | (refine wpList_load_blk rfl 36 _ rfl hB rfl [V5 0, V5 1, V5 2, V5 3, V5 4, V5 5, V5 6, V5 7] Hbl.out _ Try.underlying36 rfl Hinf.out ?_)
          | (refine wpList_store_blk rfl 36 _ _ rfl rB rfl [V5 0, V5 1, V5 2, V5 3, V5 4, V5 5, V5 6, V5 7] rfl Hrb.out rfl Hinf.out Hone.out ?_; intro wB HBB HUB))
        have HFb : Hid (Fr (fun c => c == 0) ρ8 w9 ρ8 wB) := hid (Fr.upd HUB.out (by show (ρ8 rB == 0) = true; rw [HM9.out.rr]; rfl))
        have HR : Hid (MpP w ρ L Y (mpaG G M D F, mpaM G M D F, (mpa2 G M D F).2) V5 L6 Y2 ρ8 wB) := hid (by
          have hbm := HM9.out.md.keep HFb.out (fun c hc => by have := of_decide_eq_true hc; show (c == 0) = false; simp; omega)
          refine ⟨hbm, HY2.out.trans HmB.out.symm, HS6.out, ?_, fun i hi => ?_⟩
          · have hA := HF9.out
            exact ⟨HUB.out.os.trans hA.os, HUB.out.tape.trans hA.tape, HUB.out.output.trans hA.output, Nat.le_trans hA.size HUB.out.size, hA.old, fun g hg => hA.nw g (Nat.le_trans HUB.out.size hg), fun g hg h0 => (HUB.out.block g (Nat.lt_of_lt_of_le hg hA.size) (by have := HrB.out; omega)).trans (hA.blk g hg h0)⟩
          · show ∃ c, c ≠ 0 ∧ RowX rtA wB ρ8 c (V5 i) ((mpa2 G M D F).2 i)
            rw [Hm2.out]
            have hlo := HM9.out.hm.lo i hi
            exact ⟨rl i, by omega, (HM9.out.hm.rw i hi).fr HFb.out (by show (rl i == 0) = false; simp; omega)⟩)
        clear HM9 HFb HF9 HS6
        refine bodyPost_ret (results_blk (cs := [V5 0, V5 1, V5 2, V5 3, V5 4, V5 5, V5 6, V5 7]) Try.results58 rfl aggHv HBB.out) rfl ?_
        exact ⟨D, F, V5, L6, Y2, ρ8, HW.out, HFF.out, rfl, HR.out⟩
end
end Go.Proofs.Qxb6500888a
