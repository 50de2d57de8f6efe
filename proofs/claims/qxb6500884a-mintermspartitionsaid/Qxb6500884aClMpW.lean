/- The law partitions: the walk. -/
import Derived.Test.Qxb6500884aClMpA
namespace Go.Proofs.Qxb6500884a
open Go.RowKit
set_option linter.unusedSimpArgs false
set_option linter.unusedVariables false

set_option maxRecDepth 100000 in
set_option maxHeartbeats 4000000 in
theorem partitions_walk (fa : Option Addr) (fn fc : Nat) (R : List (Nat × List (Int × Int))) (w0 w : World) (hF : Fl w 38 fa fn fc (R.map ptV)) (hR : ∀ p ∈ R, RegOk w p.1 p.2) (hw : ∀ p ∈ R, w0.heap.size ≤ p.1) (hn : fn ≤ 65536) :
    Calls Try.prog 24 #[.slice fa fn fc] w fun e w' => e = .returned (.bool true) ∧ Mild w0 w w' := by
  have HF := hid hF
  have HR := hid hR
  have Hw := hid hw
  have hRl : R.length = fn := by have := hF.len; simpa using this
  have HRl := hid hRl
  clear hF hR hw hRl
  go_enter Try.func24, Try.ntmps24
  go_wp2_with fail
  refine (classes_walk fa fn fc R w HF.out HR.out hn).mono ?_
  rintro e wa ⟨gc, T0, rfl, hgc, hbc, hcl, hba⟩
  have HC0 : Hid (Fl wa 30 (some ⟨gc, 0, none⟩) fn fn (T0.map clV) ∧ ClsOk wa T0 (R.map (·.2)) ∧ Below w.heap.size w wa) := hid ⟨Fl.made hbc (by rw [List.length_map, hcl.len, List.length_map]; exact HRl.out) (by unfold maxLen; omega), hcl, hba⟩
  clear hgc hbc hcl hba
  go_wp2_with fail
  refine (newPart_walk (some ⟨gc, 0, none⟩) fn fn T0 (R.map (·.2)) wa HC0.out.1 HC0.out.2.1 hn).mono ?_
  rintro e wb hp
  obtain ⟨pb, g, T, P, pt, sa, sc, oa, oc, rfl, hv⟩ := hp.v
  have HV0 : Hid (PartV (R.map (·.2)) pb g T P pt sa sc oa oc wb ∧ Below w.heap.size w wb) := hid ⟨hv, HC0.out.2.2.trans (hp.bel.mono HC0.out.2.2.size)⟩
  obtain ⟨N, hN⟩ : ∃ N, P.lists.length = N := ⟨_, rfl⟩
  have hN2 := (hv.pi.bounds (by omega)).1
  rw [hN] at hN2
  clear hp hv HC0
  go_wp2_with fail
  refine (blocks_walk (R.map (·.2)) pb g T P pt sa sc oa oc wb HV0.out.1).mono ?_
  rintro e wc ⟨ka, kc, he, hfl, hbk⟩
  rw [hN] at he hfl
  subst he
  have HV : Hid (PartV (R.map (·.2)) pb g T P pt sa sc oa oc wc ∧ Below w.heap.size w wc ∧ Fl wc 30 ka N kc (T.map clV)) := hid ⟨HV0.out.1.below hbk, HV0.out.2.trans (hbk.mono HV0.out.2.size), hfl⟩
  clear hfl hbk HV0
  have HLn : Hid (Calls Try.prog 59 #[.pointer (some ⟨pb, 0, none⟩)] wc fun e w' => e = .returned (.int .i64 (N : Int)) ∧ w' = wc) := hid (by have := len_walk (R.map (·.2)) pb g T P pt sa sc oa oc wc HV.out.1; rw [hN] at this; exact this)
  have HN := hid hN
  have HPi := hid HV.out.1.pi
  have HSem := hid HV.out.1.sem
  clear hN
  go_wp2_with fail
  refine HLn.out.mono ?_
  rintro e wd ⟨rfl, hwd⟩
  have hwd' := hwd.symm
  clear hwd
  subst hwd'
  clear HLn
  have dn : ((N : Int) != (N : Int)) = false := by simp
  have hmk : ∀ w : World, (Instr.makeSlice 26 (.int .i64 196608) (.int .i64 196608)).run Try.prog w = .ok (.slice (some ⟨w.heap.size, 0, none⟩) 196608 196608) (w.alloc (.cells (intL 196608 fun _ => 0).toArray 3)) := make_ints 196608 (by omega)
  obtain ⟨go, hgo⟩ : ∃ go, wc.heap.size = go := ⟨_, rfl⟩
  have HO0 : Hid (PtO wc go (fun i => if i < 0 then -1 else 0) (wc.alloc (.cells (intL 196608 fun _ => 0).toArray 3))) := hid (by
    have hb := Blk.new wc (intL 196608 fun _ => 0) 3
    rw [hgo] at hb
    have h1 : PtO wc go (fun _ => 0) (wc.alloc (.cells (intL 196608 fun _ => 0).toArray 3)) := ⟨nbel wc _, hb⟩
    exact h1.ext (fun i hi => by rw [if_neg (by omega)]))
  have Hgo := hid (Nat.le_of_eq hgo)
  go_upto_region 7 with fail
  generalize wc.alloc (.cells (intL 196608 fun _ => 0).toArray 3) = w1 at HO0 ⊢
  clear hgo hmk dn
  go_loopw [43] (fun i wr => ∃ (k : Nat), k ≤ 196608 ∧ i = .int .i64 k ∧ Hid (PtO wc go (fun i => if i < k then -1 else 0) wr)) (fun i _ => 196608 - (intOf i).toNat)
  case atStart => exact ⟨0, Nat.zero_le _, rfl, HO0⟩
  case round =>
  clear HO0
  obtain ⟨k, hk, rfl, HO⟩ := hrel
  by_cases hlt : k < 196608
  · as_aux_lemma =>
    have dk : decide ((k : Int) < 196608) = true := decide_eq_true (by omega)
    have i1 : (k : Int) < 196608 := by omega
    have cg : wr.cell? ⟨go, k, none⟩ = some (.int .i64 (if k < k then -1 else 0)) := by rw [HO.out.ow.cell]; exact intL_get _ hlt
    have fg := HO.out.ow.frozen k
    have HO2 : Hid (PtO wc go (fun i => if i < k + 1 then -1 else 0) (wr.setCell ⟨go, k, none⟩ (.int .i64 (-1)))) := hid ((HO.out.set Hgo.out hlt (-1)).ext (fun i hi => by
      by_cases e : i = k
      · rw [if_pos e, if_pos (by omega)]
      · rw [if_neg e]
        by_cases h2 : i < k
        · rw [if_pos h2, if_pos (by omega)]
        · rw [if_neg h2, if_neg (by omega)]))
    go_wp2
    exact ⟨⟨k + 1, by omega, by go_num, HO2⟩, by simp [intOf]; omega⟩
  have dk : decide ((k : Int) < 196608) = false := decide_eq_false (by omega)
  have hmk := make_ints N (by omega)
  obtain ⟨gl, hgl⟩ : ∃ gl, wr.heap.size = gl := ⟨_, rfl⟩
  obtain ⟨f, hf⟩ : ∃ f, ownN P pt = f := ⟨_, rfl⟩
  have HA0 : Hid (PtA wc go gl N (owV f 0 196608) (fun j => if j < 0 then leaN P j else 0) (wr.alloc (.cells (intL N fun _ => 0).toArray 3)) ∧ wc.heap.size ≤ gl ∧ go ≠ gl) := hid (by
    have hb := Blk.new wr (intL N fun _ => 0) 3
    rw [hgl] at hb
    have hnb := nbel wr (.cells (intL N fun _ => 0).toArray 3)
    have h1 := HO.out.ow.lt
    have h2 : PtA wc go gl N (fun i => if i < k then -1 else 0) (fun _ => 0) (wr.alloc (.cells (intL N fun _ => 0).toArray 3)) := ⟨HO.out.bel.trans (hnb.mono HO.out.bel.size), HO.out.ow.below hnb, hb⟩
    exact ⟨h2.ext (fun i hi => by rw [if_pos (by omega), owV_start f hi]) (fun i hi => by rw [if_neg (by omega)]), by rw [← hgl]; exact HO.out.bel.size, by omega⟩)
  have Hf := hid hf
  go_upto_region 13 with fail
  generalize wr.alloc (.cells (intL N fun _ => 0).toArray 3) = w2 at HA0 ⊢
  clear hgl hmk dk HO hlt hf hk
  have Hgl := hid HA0.out.2
  go_loopw [55] (fun i wr => ∃ (b : Nat), b ≤ N ∧ i = .int .i64 b ∧ Hid (PtA wc go gl N (owV f b 196608) (fun j => if j < b then leaN P j else 0) wr)) (fun i _ => N - (intOf i).toNat)
  case atStart => exact ⟨0, Nat.zero_le _, rfl, hid HA0.out.1⟩
  case round =>
  clear HA0
  obtain ⟨b, hb, rfl, HA⟩ := hrel
  by_cases hlt : b < N
  · as_aux_lemma =>
    have db : decide ((b : Int) < (N : Int)) = true := decide_eq_true (by omega)
    have ib : (b : Int) < (N : Int) := by omega
    obtain ⟨⟨xa, xn, xc⟩, l, hT, hl, hrow, hnl, hty⟩ := HV.out.1.cls.at (i := b) (by rw [HN.out]; exact hlt)
    dsimp only at hrow hty
    obtain ⟨gk, ok, hka, ck⟩ := (HV.out.2.2.below HA.out.bel).cell hlt
    subst hka
    have ck' : wr.cell? ⟨gk, ok + b, none⟩ = some (.slice xa xn xc) := by rw [ck, List.getElem?_map, hT]; rfl
    have HT := hid hT
    have HL := hid hl
    have HRow := hid hrow
    have HNl := hid hnl
    obtain ⟨q, hq⟩ : ∃ q, wr.heap.size = q := ⟨_, rfl⟩
    have HA2 : Hid (PtA wc go gl N (owV f b 196608) (fun j => if j < b then leaN P j else 0) (wr.alloc (.cells #[.slice xa xn xc] 30)) ∧ Blk (wr.alloc (.cells #[.slice xa xn xc] 30)) q 30 [.slice xa xn xc]) := hid ⟨HA.out.below (nbel wr _), by
      have := Blk.new wr [.slice xa xn xc] 30
      rw [hq] at this
      exact this⟩
    clear ck hT hl hrow hnl hty HA
    go_upto_region 15 with fail
    generalize wr.alloc (.cells #[.slice xa xn xc] 30) = w2 at HA2 ⊢
    clear ck' hq db
    have cl : w2.cell? ⟨gl, b, none⟩ = some (.int .i64 (if b < b then leaN P b else 0)) := by rw [HA2.out.1.le.cell]; exact intL_get _ hlt
    have fl := HA2.out.1.le.frozen b
    have HA3 : Hid (PtA wc go gl N (owV f b 196608) (fun j => if j = b then -1 else if j < b then leaN P j else 0) (w2.setCell ⟨gl, b, none⟩ (.int .i64 (-1))) ∧ Blk (w2.setCell ⟨gl, b, none⟩ (.int .i64 (-1))) q 30 [.slice xa xn xc]) := hid ⟨HA2.out.1.setL Hgl.out.1 Hgl.out.2 hlt (-1), HA2.out.2.updT HA2.out.1.le (by decide) ((Upd.refl gl w2).setCell rfl _)⟩
    go_upto_region 17 with fail
    generalize w2.setCell ⟨gl, b, none⟩ (.int .i64 (-1)) = w3 at HA3 ⊢
    clear cl fl HA2
    go_loopw [10] (fun i wr => ∃ (k : Nat) (x : Int), k ≤ 196608 ∧ x = (k : Int) - 1 ∧ i = .int .i64 x ∧ Hid (∃ v, PtA wc go gl N (owV f b k) (fun j => if j = b then v else if j < b then leaN P j else 0) wr ∧ Blk wr q 30 [.slice xa xn xc] ∧ LeD f b k v)) (fun i _ => (intOf i + 1).toNat)
    case atStart => exact ⟨196608, 196607, by omega, by omega, rfl, hid ⟨-1, HA3.out.1, HA3.out.2, LeD.zero f b⟩⟩
    case round =>
    clear HA3
    obtain ⟨k, x, hk, hx, rfl, HX⟩ := hrel
    rcases Nat.eq_zero_or_pos k with hk0 | hk0
    rotate_left
    · as_aux_lemma =>
      obtain ⟨y, rfl⟩ : ∃ y, k = y + 1 := ⟨k - 1, by omega⟩
      have hxy : x = (y : Int) := by omega
      subst hxy
      have hy : y < 196608 := by omega
      have hyi : (y : Int) < 196608 := by omega
      have dx : decide ((y : Int) ≥ 0) = true := decide_eq_true (by omega)
      have dx2 : decide (0 ≤ (y : Int)) = true := decide_eq_true (by omega)
      obtain ⟨v, hpa, hqb, hle⟩ := HX.out
      have HXa := hid (And.intro hpa (And.intro hqb hle))
      have cq : wr.cell? ⟨q, 0, none⟩ = some (.slice xa xn xc) := hqb.cell 0
      have hmo : memB l (y : Int) = decide (f y = b) := by rw [← Hf.out]; exact HPi.out.memOwn HL.out hy
      have HCo : Hid (Calls Try.prog 18 #[.agg #[.slice xa xn xc], .int .i64 (y : Int)] wr fun e w' => e = .returned (.bool (decide (f y = b))) ∧ Below wr.heap.size wr w') := hid (by rw [← hmo]; exact contains_walk xa xn xc l (y : Int) wr (HRow.out.below hpa.bel) HNl.out)
      clear hpa hqb hle hx hmo HX
      by_cases hfy : f y = b
      · as_aux_lemma =>
        rw [decide_eq_true hfy] at HCo
        go_wp2_with fail
        refine HCo.out.mono ?_
        rintro e w4 ⟨rfl, hb4⟩
        have HY : Hid (PtA wc go gl N (owV f b (y + 1)) (fun j => if j = b then v else if j < b then leaN P j else 0) w4 ∧ Blk w4 q 30 [.slice xa xn xc]) := hid ⟨HXa.out.1.below hb4, HXa.out.2.1.below hb4⟩
        clear hb4 HCo cq HXa
        have co : w4.cell? ⟨go, y, none⟩ = some (.int .i64 (-1)) := by rw [HY.out.1.ow.cell, intL_get _ hy, owV_at f hfy]
        have fo := HY.out.1.ow.frozen y
        have dm : ((-1 : Int) != -1) = false := by decide
        have HY2 : Hid (PtA wc go gl N (owV f b y) (fun j => if j = b then v else if j < b then leaN P j else 0) (w4.setCell ⟨go, y, none⟩ (.int .i64 (b : Int))) ∧ Blk (w4.setCell ⟨go, y, none⟩ (.int .i64 (b : Int))) q 30 [.slice xa xn xc]) := hid ⟨(HY.out.1.setO Hgo.out Hgl.out.2 hy (b : Int)).ext (fun i hi => owV_hit f hfy i) (fun _ _ => rfl), HY.out.2.updT HY.out.1.ow (by decide) ((Upd.refl go w4).setCell rfl _)⟩
        go_upto_region 23 with fail
        generalize w4.setCell ⟨go, y, none⟩ (.int .i64 (b : Int)) = w5 at HY2 ⊢
        clear co fo HY dm dx dx2
        have cl : w5.cell? ⟨gl, b, none⟩ = some (.int .i64 (if b = b then v else if b < b then leaN P b else 0)) := by rw [HY2.out.1.le.cell]; exact intL_get _ hlt
        have fl := HY2.out.1.le.frozen b
        have HY3 : Hid (∃ v, PtA wc go gl N (owV f b y) (fun j => if j = b then v else if j < b then leaN P j else 0) (w5.setCell ⟨gl, b, none⟩ (.int .i64 (y : Int))) ∧ Blk (w5.setCell ⟨gl, b, none⟩ (.int .i64 (y : Int))) q 30 [.slice xa xn xc] ∧ LeD f b y v) := hid ⟨(y : Int), (HY2.out.1.setL Hgl.out.1 Hgl.out.2 hlt (y : Int)).ext (fun _ _ => rfl) (fun i hi => by
          by_cases e : i = b
          · rw [if_pos e, if_pos e]
          · rw [if_neg e, if_neg e, if_neg e]), HY2.out.2.updT HY2.out.1.le (by decide) ((Upd.refl gl w5).setCell rfl _), LeD.hit (v := v) hy hfy⟩
        go_wp2
        exact ⟨⟨y, (y : Int) - 1, by omega, rfl, by go_num, HY3⟩, by simp [intOf]⟩
      · as_aux_lemma =>
        rw [decide_eq_false hfy] at HCo
        go_wp2_with fail
        refine HCo.out.mono ?_
        rintro e w4 ⟨rfl, hb4⟩
        have HY : Hid (∃ v, PtA wc go gl N (owV f b y) (fun j => if j = b then v else if j < b then leaN P j else 0) w4 ∧ Blk w4 q 30 [.slice xa xn xc] ∧ LeD f b y v) := hid ⟨v, (HXa.out.1.below hb4).ext (fun i hi => owV_miss f hfy i) (fun _ _ => rfl), HXa.out.2.1.below hb4, HXa.out.2.2.miss hfy⟩
        clear hb4 HCo cq HXa
        go_wp2
        exact ⟨⟨y, (y : Int) - 1, by omega, rfl, by go_num, HY⟩, by simp [intOf]⟩
    as_aux_lemma =>
    subst hk0
    have hx1 : x = -1 := by omega
    subst hx1
    have dx : decide ((-1 : Int) ≥ 0) = false := by decide
    have dx2 : decide (0 ≤ (-1 : Int)) = false := by decide
    obtain ⟨v, hpa, hqb, hle⟩ := HX.out
    have hbl : b < P.lists.length := by rw [HN.out]; exact hlt
    obtain ⟨y, hy, hyv, _, _⟩ := HPi.out.leaOwn hbl
    have hv : v = (y : Int) := by rw [← hyv]; exact HPi.out.leD hbl (by rw [Hf.out]; exact hle)
    subst hv
    have HZ : Hid (PtA wc go gl N (owV f (b + 1) 196608) (fun j => if j < b + 1 then leaN P j else 0) wr ∧ Blk wr q 30 [.slice xa xn xc]) := hid ⟨hpa.ext (fun i hi => owV_next f b hi) (fun i hi => by
      by_cases e : i = b
      · rw [if_pos e, if_pos (by omega), e, hyv]
      · rw [if_neg e]
        congr 1
        simp only [eq_iff_iff]
        omega), hqb⟩
    have Hyv := hid hyv
    clear hpa hqb hle hx hk hyv HX
    have Hcl : Hid (∀ w2, PtA wc go gl N (owV f (b + 1) 196608) (fun j => if j < b + 1 then leaN P j else 0) w2 → w2.cell? ⟨gl, b, none⟩ = some (.int .i64 (y : Int))) := hid (fun w2 h => by rw [h.le.cell, intL_get _ hlt, if_pos (by omega), Hyv.out])
    have cl := Hcl.out wr HZ.out.1
    have dm : ((y : Int) == -1) = false := by rw [beq_eq_false_iff_ne]; omega
    go_upto_region 26 with fail
    clear cl dm dx dx2
    obtain ⟨X, W, hTT, hI⟩ := class_mk (fun w2 => PtA wc go gl N (owV f (b + 1) 196608) (fun j => if j < b + 1 then leaN P j else 0) w2 ∧ Blk w2 q 30 [.slice xa xn xc])
    have HCl : Hid (∀ x w2, Below (W x).heap.size (W x) w2 → ∃ y, w2 = W y) := hid (fun x w2 hb => hI _ ⟨(hTT x).1.below hb, (hTT x).2.below hb⟩)
    have H0 : Hid (∃ x, wr.drew = W x) := hid (hI _ ⟨HZ.out.1.below (Drew.below ⟨1, rfl⟩ _), HZ.out.2.below (Drew.below ⟨1, rfl⟩ _)⟩)
    have hne : Nonempty X := ⟨H0.out.choose⟩
    have e1 : ∀ x, (W x).cell? ⟨gl, b, none⟩ = some (.int .i64 (y : Int)) := fun x => Hcl.out _ (hTT x).1
    have e2 : ∀ x, (W x).cell? ⟨q, 0, none⟩ = some (.slice xa xn xc) := fun x => (hTT x).2.cell 0
    have HRp : Hid (∀ x, Calls Try.prog 60 #[.pointer (some ⟨pb, 0, none⟩), .int .i64 (b : Int)] (W x) fun e w3 => e = .returned (.int .i64 (y : Int)) ∧ w3 = W x) := hid (fun x => by rw [← Hyv.out]; exact repr_walk (R.map (·.2)) pb g T P pt sa sc oa oc b (W x) (HV.out.1.below (hTT x).1.bel) hbl)
    have HBk : Hid (∀ x, Calls Try.prog 61 #[.pointer (some ⟨pb, 0, none⟩), .int .i64 (b : Int)] (W x) fun e w3 => e = .returned (.agg #[.slice xa xn xc]) ∧ Below (W x).heap.size (W x) w3) := hid (fun x => block_walk (R.map (·.2)) pb g T P pt sa sc oa oc b xn xc xa (W x) (HV.out.1.below (hTT x).1.bel) HT.out)
    have HEq : Hid (∀ x, Calls Try.prog 34 #[.agg #[.slice xa xn xc], .agg #[.slice xa xn xc]] (W x) fun e w3 => e = .returned (.bool true) ∧ Below (W x).heap.size (W x) w3) := hid (fun x => by
      have := equal_walk xa xn xc l xa xn xc l (W x) (HRow.out.below (hTT x).1.bel) (HRow.out.below (hTT x).1.bel)
      rw [decide_eq_true rfl] at this
      exact this)
    have HTT := hid hTT
    have dy : ((y : Int) != (y : Int)) = false := by simp
    clear hTT hI
    refine wp_region_class W rfl (by kernel_rfl) H0.out ?_
    repeat (go_big_quiet_step (first | (go_at_call 60; with_reducible exact Calls.class_same (HRp.out _)) | (go_at_call 61; with_reducible exact Calls.class_of HCl.out (HBk.out _)) | (go_at_call 34; with_reducible exact Calls.class_of HCl.out (HEq.out _))))
    refine wpQuiet_nil ?_
    intro z
    have HZ2 := hid (HTT.out z).1
    generalize W z = wz at HZ2 ⊢
    clear e1 e2 HCl H0 HTT HRp HBk HEq hne HZ
    by_cases hb0 : b = 0
    · as_aux_lemma =>
      subst hb0
      have dg : decide (((0 : Nat) : Int) > 0) = false := by decide
      go_upto_region 28 with fail
      go_quiet (fail)
      have HZ3 := hid (HZ2.out.below (Drew.below ⟨nq, rfl⟩ _ : Below wz.heap.size wz (wz.drewN nq)))
      generalize wz.drewN nq = w6 at HZ3 ⊢
      go_wp2
      exact ⟨⟨1, by omega, by go_num, HZ3⟩, by simp [intOf]; omega⟩
    as_aux_lemma =>
    obtain ⟨c, rfl⟩ : ∃ c, b = c + 1 := ⟨b - 1, by omega⟩
    have dg : decide (((c + 1 : Nat) : Int) > 0) = true := decide_eq_true (by omega)
    have dg2 : decide (0 < ((c + 1 : Nat) : Int)) = true := decide_eq_true (by omega)
    have dg3 : decide (0 < (c : Int) + 1) = true := decide_eq_true (by omega)
    have ic : (c : Int) < (N : Int) := by omega
    have hasc := HPi.out.leaAsc (show c < c + 1 by omega) hbl
    obtain ⟨z, hz⟩ : ∃ z, leaN P c = z := ⟨_, rfl⟩
    rw [hz, Hyv.out] at hasc
    have e1 : ∀ nn, (wz.drewN nn).cell? ⟨gl, c + 1, none⟩ = some (.int .i64 (y : Int)) := fun nn => Hcl.out _ (HZ2.out.below (Drew.below ⟨nn, rfl⟩ _))
    have e2 : ∀ nn, (wz.drewN nn).cell? ⟨gl, c, none⟩ = some (.int .i64 z) := fun nn => by
      have h := HZ2.out.below (Drew.below ⟨nn, rfl⟩ _ : Below wz.heap.size wz (wz.drewN nn))
      rw [h.le.cell, intL_get _ (show c < N by omega), if_pos (by omega), hz]
    have dz : decide (z ≥ (y : Int)) = false := decide_eq_false (by omega)
    have dz2 : decide ((y : Int) ≤ z) = false := decide_eq_false (by omega)
    clear hz
    go_upto_region 28 with fail
    go_quiet (fail)
    have HZ3 := hid (HZ2.out.below (Drew.below ⟨nq, rfl⟩ _ : Below wz.heap.size wz (wz.drewN nq)))
    generalize wz.drewN nq = w6 at HZ3 ⊢
    clear e1 e2
    go_wp2
    exact ⟨⟨c + 1 + 1, by omega, by go_num, HZ3⟩, by simp [intOf]; omega⟩
  have db : decide ((b : Int) < (N : Int)) = false := decide_eq_false (by omega)
  have HA1 : Hid (PtA wc go gl N (fun i => (f i : Int)) (leaN P) wr) := hid (HA.out.ext (fun i hi => owV_all f (by have := HPi.out.ownLt hi; rw [Hf.out, HN.out] at this; omega) _) (fun i hi => by rw [if_pos (by omega)]))
  clear HA
  go_upto_region 32 with fail
  clear db hlt hb
  go_loopw [122] (fun i wr => ∃ (k : Nat), k ≤ 196608 ∧ i = .int .i64 k ∧ Hid (PtA wc go gl N (fun i => (f i : Int)) (leaN P) wr)) (fun i _ => 196608 - (intOf i).toNat)
  case atStart => exact ⟨0, Nat.zero_le _, rfl, HA1⟩
  case round =>
  clear HA1
  obtain ⟨k, hk, rfl, HA⟩ := hrel
  by_cases hlt : k < 196608
  · as_aux_lemma =>
    have dk : decide ((k : Int) < 196608) = true := decide_eq_true (by omega)
    have i1 : (k : Int) < 196608 := by omega
    obtain ⟨fk, hfk⟩ : ∃ fk, f k = fk := ⟨_, rfl⟩
    have cg : wr.cell? ⟨go, k, none⟩ = some (.int .i64 (fk : Int)) := by rw [HA.out.ow.cell, intL_get _ hlt, hfk]
    have dm : ((fk : Int) == -1) = false := by rw [beq_eq_false_iff_ne]; omega
    have dq : ((fk : Int) != (fk : Int)) = false := by simp
    have HIx : Hid (Calls Try.prog 56 #[.pointer (some ⟨pb, 0, none⟩), .int .i64 (k : Int)] wr fun e w' => e = .returned (.tuple #[.int .i64 (fk : Int), .bool true]) ∧ Below wr.heap.size wr w') := hid ((index_walk (R.map (·.2)) pb g T P pt sa sc oa oc (k : Int) wr (HV.out.1.below HA.out.bel)).mono (fun e w' h => by
      obtain ⟨v, ok, he, hi⟩ := h.out
      refine ⟨?_, h.bel⟩
      rcases hi with ⟨h1, _, _, b, h2, h3⟩ | ⟨_, _, h4⟩
      · have h5 := (HPi.out.ownIff hlt).1 h3
        rw [Hf.out, hfk] at h5
        rw [he, h1, h2, h5]
      · exact absurd ⟨by omega, by omega⟩ h4))
    clear hfk
    go_wp2_with fail
    refine HIx.out.mono ?_
    rintro e w4 ⟨rfl, hb4⟩
    have HA4 := hid (HA.out.below hb4)
    clear hb4 HIx cg HA
    go_wp2
    exact ⟨⟨k + 1, by omega, by go_num, HA4⟩, by simp [intOf]; omega⟩
  have dk : decide ((k : Int) < 196608) = false := decide_eq_false (by omega)
  have HIm : Hid (∀ (x : Int) (w2 : World), (x < 0 ∨ 196607 < x) → PtA wc go gl N (fun i => (f i : Int)) (leaN P) w2 → Calls Try.prog 56 #[.pointer (some ⟨pb, 0, none⟩), .int .i64 x] w2 fun e w' => e = .returned (.tuple #[.int .i64 0, .bool false]) ∧ Below w2.heap.size w2 w') := hid (fun x w2 hx hA => (index_walk (R.map (·.2)) pb g T P pt sa sc oa oc x w2 (HV.out.1.below hA.bel)).mono (fun e w' h => by
    obtain ⟨v, ok, he, hi⟩ := h.out
    refine ⟨?_, h.bel⟩
    rcases hi with ⟨h1, h0, h2, _⟩ | ⟨h1, h2, _⟩
    · omega
    · rw [he, h1, h2]))
  go_wp2_with fail
  refine (HIm.out (-1) wr (.inl (by omega)) HA.out).mono ?_
  rintro e w4 ⟨rfl, hb4⟩
  have HA4 := hid (HA.out.below hb4)
  clear hb4 HA dk hlt hk
  go_wp2_with fail
  refine (HIm.out 196608 w4 (.inr (by omega)) HA4.out).mono ?_
  rintro e w5 ⟨rfl, hb5⟩
  have HA5 := hid (HA4.out.below hb5)
  clear hb5 HA4 HIm
  have hmk := make_rows N (by omega)
  obtain ⟨Z, hZ⟩ : ∃ Z, List.replicate N (Value.slice none 0 0) = Z := ⟨_, rfl⟩
  rw [hZ] at hmk
  obtain ⟨gp, hgp⟩ : ∃ gp, w5.heap.size = gp := ⟨_, rfl⟩
  obtain ⟨F, hF⟩ : ∃ F : Nat → Nat → Bool, F = fun j i => memB ((R.map (·.2)).getD i []) (leaN P j) := ⟨_, rfl⟩
  have HB0 : Hid (PtB w0 w go gl gp N fn (fun i => (f i : Int)) (leaN P) [] F (w5.alloc (.cells Z.toArray 34))) := hid (by
    have hb := Blk.new w5 Z 34
    rw [hgp] at hb
    have hnb := nbel w5 (.cells Z.toArray 34)
    have h1 := HA5.out.bel
    have h2 := HV.out.2.1
    have h3 := h2.trans (h1.mono h2.size)
    exact PtB.start F (h3.trans (hnb.mono h3.size)) (HA5.out.ow.below hnb) (HA5.out.le.below hnb) (by rw [hZ]; exact hb) (by rw [← hgp]; exact h3.size))
  have HFe := hid hF
  go_upto_region 48 with fail
  clear hZ
  generalize w5.alloc (.cells Z.toArray 34) = w6 at HB0 ⊢
  clear hgp hmk HA5 hF
  have HFl : Hid (∀ w2, Mild w0 w w2 → Fl w2 38 fa fn fc (R.map ptV)) := hid (fun w2 hm => HF.out.mild (by decide) hm)
  go_loopw [160] (fun i wr => ∃ (b : Nat) (Q : List Nat), b ≤ N ∧ i = .int .i64 b ∧ Hid (Q.length = b ∧ PtB w0 w go gl gp N fn (fun i => (f i : Int)) (leaN P) Q F wr)) (fun i _ => N - (intOf i).toNat)
  case atStart => exact ⟨0, [], Nat.zero_le _, rfl, hid ⟨rfl, HB0.out⟩⟩
  case round =>
  clear HB0
  obtain ⟨b, Q, hb, rfl, HB⟩ := hrel
  by_cases hlt : b < N
  · as_aux_lemma =>
    have db : decide ((b : Int) < (N : Int)) = true := decide_eq_true (by omega)
    have ib : (b : Int) < (N : Int) := by omega
    have hmk := make_bols fn (by omega)
    obtain ⟨q, hq⟩ : ∃ q, wr.heap.size = q := ⟨_, rfl⟩
    have cg : wr.cell? ⟨gp, b, none⟩ = some (.slice none 0 0) := by
      rw [HB.out.2.pg.cell, List.getElem?_append_right (by rw [List.length_map, HB.out.1]; exact Nat.le_refl _), List.length_map, HB.out.1, List.getElem?_replicate, if_pos (by omega)]
    have fg := ((HB.out.2.below (nbel wr (.cells (bolL fn fun _ => false).toArray 4))).pg).frozen b
    have cg2 : (wr.alloc (.cells (bolL fn fun _ => false).toArray 4)).cell? ⟨gp, b, none⟩ = some (.slice none 0 0) := by
      rw [(HB.out.2.below (nbel wr _)).pg.cell, List.getElem?_append_right (by rw [List.length_map, HB.out.1]; exact Nat.le_refl _), List.length_map, HB.out.1, List.getElem?_replicate, if_pos (by omega)]
    have HB1 : Hid (PtB w0 w go gl gp N fn (fun i => (f i : Int)) (leaN P) (Q ++ [q]) (fun j i => if j < b then F j i else decide (i < 0) && F j i) ((wr.alloc (.cells (bolL fn fun _ => false).toArray 4)).setCell ⟨gp, b, none⟩ (.slice (some ⟨q, 0, none⟩) fn fn))) := hid ((HB.out.2.ext (F' := fun j i => if j < b then F j i else decide (i < 0) && F j i) (fun j i hj hi => by rw [if_pos (by have := HB.out.1; omega)])).row HB.out.1 hlt (fun i hi => by rw [if_neg (by omega)]; simp) hq)
    have HQl : Hid ((Q ++ [q])[b]? = some q ∧ (Q ++ [q]).length = b + 1) := hid (by
      rw [← HB.out.1]
      simp)
    go_upto_region 52 with fail
    generalize (wr.alloc (.cells (bolL fn fun _ => false).toArray 4)).setCell ⟨gp, b, none⟩ (.slice (some ⟨q, 0, none⟩) fn fn) = w7 at HB1 ⊢
    clear cg cg2 fg hmk db HB hq
    go_loopw [171] (fun i wr => ∃ (k : Nat), k ≤ fn ∧ i = .int .i64 k ∧ Hid (PtB w0 w go gl gp N fn (fun i => (f i : Int)) (leaN P) (Q ++ [q]) (fun j i => if j < b then F j i else decide (i < k) && F j i) wr)) (fun i _ => fn - (intOf i).toNat)
    case atStart => exact ⟨0, Nat.zero_le _, rfl, HB1⟩
    case round =>
    clear HB1
    obtain ⟨k, hk, rfl, HBk⟩ := hrel
    by_cases hltk : k < fn
    · as_aux_lemma =>
      have dk : decide ((k : Int) < (fn : Int)) = true := decide_eq_true (by omega)
      have ik : (k : Int) < (fn : Int) := by omega
      obtain ⟨p, hp⟩ : ∃ p, R[k]? = some p := ⟨R[k]'(by rw [HRl.out]; exact hltk), List.getElem?_eq_getElem _⟩
      obtain ⟨gf, of', hfa, cf⟩ := (HFl.out wr HBk.out.mild).cell hltk
      subst hfa
      have cf' : wr.cell? ⟨gf, of' + k, none⟩ = some (.pointer (some ⟨p.1, 0, none⟩)) := by rw [cf, List.getElem?_map, hp]; rfl
      obtain ⟨y, hy, hyv, _, _⟩ := HPi.out.leaOwn (b := b) (by rw [HN.out]; exact hlt)
      have Hyv := hid hyv
      have HRk := hid (HR.out p (List.mem_of_getElem? hp))
      have Hwk := hid (Hw.out p (List.mem_of_getElem? hp))
      obtain ⟨B, hB⟩ : ∃ B, memB p.2 (y : Int) = B := ⟨_, rfl⟩
      have HBv := hid hB
      have HFk : Hid (F b k = B) := hid (by
        rw [HFe.out, ← hB]
        show memB ((R.map (·.2)).getD k []) (leaN P b) = _
        rw [hyv, List.getD_eq_getElem?_getD, List.getElem?_map, hp]
        rfl)
      have HS0 : Hid (PtB w0 w go gl gp N fn (fun i => (f i : Int)) (leaN P) (Q ++ [q]) (fun j i => if j < b then F j i else decide (i < k) && F j i) wr.drew) := hid (HBk.out.below (Drew.below ⟨1, rfl⟩ _))
      have hyi : (y : Int) < 196608 := by omega
      clear hyv hp cf hB
      go_upto_region 54 with fail
      clear cf' dk
      refine wp_region_heavy (fun w3 => PtB w0 w go gl gp N fn (fun i => (f i : Int)) (leaN P) (Q ++ [q]) (fun j i => if j < b then F j i else decide (i < k) && F j i) w3) 13 [0, 1, 2, 3, 4, 5, 7, 8, 9, 10] [6, 11, 12] rfl (by kernel_rfl) (by kernel_rfl) (fun d _ _ _ _ h => by cases d <;> exact h) HS0.out ?_
      apply Exists.intro
      refine ⟨?_, ?_⟩
      · intro W hW
        have e0 : ∀ x, (W x).cell? ⟨gp, b, none⟩ = some (.slice (some ⟨q, 0, none⟩) fn fn) := fun x => (hW x).rowAt HQl.out.1
        have e1 : ∀ x, (W x).cell? ⟨gl, b, none⟩ = some (.int .i64 (y : Int)) := fun x => by rw [(hW x).le.cell, intL_get _ hlt, Hyv.out]
        clear hW
        simp only [List.take, opsAt, List.drop, List.cons_append, List.nil_append]
        repeat (go_big_quiet_step (fail))
        exact rfl
      simp only [List.take, List.drop, opsAt, List.cons_append, List.nil_append, wpHv]
      generalize wr.drew = wd at HS0 ⊢
      have HRa := hid (HS0.out.mreg p.1 p.2 HRk.out).1
      go_wp2_with fail
      refine (members_tbl p.1 p.2 _ HRa.out).mono ?_
      rintro e w3 ⟨gm, ⟨rfl, t1, u1, r1⟩, ht⟩
      have HS3 := hid (HS0.out.memb HRk.out Hwk.out r1 u1 ht)
      have ct : w3.cell? ⟨gm, y, none⟩ = some (.bool B) := by rw [t1.cell, tabL_get _ hy, HBv.out]
      clear t1 u1 r1 ht HRa
      go_wp2_with fail
      refine ⟨HS3.out, ?_⟩
      go_wp2_with fail
      refine ⟨HS3.out, ?_⟩
      go_wp2_with fail
      refine ⟨HS3.out, ?_⟩
      simp only [QN]
      have hqB := HS3.out.pq b q HQl.out.1
      have cq : w3.cell? ⟨q, k, none⟩ = some (.bool (if b < b then F b k else decide (k < k) && F b k)) := by rw [hqB.cell]; exact bolL_get _ hltk
      have fq := hqB.frozen k
      have HS4 : Hid (PtB w0 w go gl gp N fn (fun i => (f i : Int)) (leaN P) (Q ++ [q]) (fun j i => if j < b then F j i else decide (i < k + 1) && F j i) (w3.setCell ⟨q, k, none⟩ (.bool B))) := hid ((HS3.out.put HQl.out.1 hltk B).ext (fun j i hj hi => by
        rw [HQl.out.2] at hj
        by_cases e : j = b ∧ i = k
        · obtain ⟨rfl, rfl⟩ := e
          rw [if_pos ⟨rfl, rfl⟩, if_neg (by omega), decide_eq_true (by omega), Bool.true_and, HFk.out]
        · rw [if_neg e]
          by_cases e2 : j < b
          · rw [if_pos e2, if_pos e2]
          · rw [if_neg e2, if_neg e2]
            have hik : i ≠ k := fun h => e ⟨by omega, h⟩
            have : decide (i < k) = decide (i < k + 1) := by rw [decide_eq_decide]; omega
            rw [this]))
      clear hqB
      go_wp2
      exact ⟨⟨k + 1, by omega, by go_num, HS4⟩, by simp [intOf]; omega⟩
    as_aux_lemma =>
    have dk : decide ((k : Int) < (fn : Int)) = false := decide_eq_false (by omega)
    have HBe : Hid ((Q ++ [q]).length = b + 1 ∧ PtB w0 w go gl gp N fn (fun i => (f i : Int)) (leaN P) (Q ++ [q]) F wr) := hid ⟨HQl.out.2, HBk.out.ext (fun j i hj hi => by
      by_cases e2 : j < b
      · rw [if_pos e2]
      · rw [if_neg e2, decide_eq_true (by omega), Bool.true_and])⟩
    go_wp2
    exact ⟨⟨b + 1, Q ++ [q], by omega, by go_num, HBe⟩, by simp [intOf]; omega⟩
  have db : decide ((b : Int) < (N : Int)) = false := decide_eq_false (by omega)
  have HQn : Hid (Q.length = N) := hid (by have := HB.out.1; omega)
  have HBq := hid HB.out.2
  clear HB
  go_upto_region 58 with fail
  clear db hlt hb
  go_loopw [194] (fun i wr => ∃ (k : Nat), k ≤ fn ∧ i = .int .i64 k ∧ Hid (PtB w0 w go gl gp N fn (fun i => (f i : Int)) (leaN P) Q F wr)) (fun i _ => fn - (intOf i).toNat)
  case atStart => exact ⟨0, Nat.zero_le _, rfl, HBq⟩
  case round =>
  clear HBq
  obtain ⟨k, hk, rfl, HB⟩ := hrel
  by_cases hlt : k < fn
  · as_aux_lemma =>
    have dk : decide ((k : Int) < (fn : Int)) = true := decide_eq_true (by omega)
    have ik : (k : Int) < (fn : Int) := by omega
    obtain ⟨p, hp⟩ : ∃ p, R[k]? = some p := ⟨R[k]'(by rw [HRl.out]; exact hlt), List.getElem?_eq_getElem _⟩
    obtain ⟨gf, of', hfa, cf⟩ := (HFl.out wr HB.out.mild).cell hlt
    subst hfa
    have cf' : wr.cell? ⟨gf, of' + k, none⟩ = some (.pointer (some ⟨p.1, 0, none⟩)) := by rw [cf, List.getElem?_map, hp]; rfl
    have HRk := hid (HR.out p (List.mem_of_getElem? hp))
    have Hwk := hid (Hw.out p (List.mem_of_getElem? hp))
    have HFk : Hid (∀ x, x < 196608 → F (f x) k = memB p.2 (x : Int)) := hid (fun x hx => by
      rw [HFe.out]
      show memB ((R.map (·.2)).getD k []) (leaN P (f x)) = _
      rw [List.getD_eq_getElem?_getD, List.getElem?_map, hp, ← Hf.out]
      exact (HPi.out.wholly HSem.out (List.mem_map_of_mem (List.mem_of_getElem? hp)) hx).symm)
    have HRa := hid (HB.out.mreg p.1 p.2 HRk.out).1
    clear cf hp
    go_wp2_with fail
    refine (members_tbl p.1 p.2 _ HRa.out).mono ?_
    rintro e w3 ⟨gm, ⟨rfl, t1, u1, r1⟩, ht⟩
    have HS3 := hid (HB.out.memb HRk.out Hwk.out r1 u1 ht)
    have HTb := hid t1
    clear t1 u1 r1 ht HRa HB
    go_upto_region 62 with fail
    clear cf' dk
    go_loopw [203] (fun i wr => ∃ (x : Nat), x ≤ 196608 ∧ i = .int .i64 x ∧ Hid (Below w3.heap.size w3 wr)) (fun i _ => 196608 - (intOf i).toNat)
    case atStart => exact ⟨0, Nat.zero_le _, rfl, hid (Below.refl _ _)⟩
    case round =>
    obtain ⟨x, hx, rfl, HBx⟩ := hrel
    by_cases hltx : x < 196608
    · as_aux_lemma =>
      have dx : decide ((x : Int) < 196608) = true := decide_eq_true (by omega)
      have ix : (x : Int) < 196608 := by omega
      obtain ⟨fx, hfx⟩ : ∃ fx, f x = fx := ⟨_, rfl⟩
      have hfN : fx < N := by have := HPi.out.ownLt hltx; rw [Hf.out, HN.out, hfx] at this; exact this
      have ifx : (fx : Int) < (N : Int) := by omega
      obtain ⟨q, hq⟩ : ∃ q, Q[fx]? = some q := ⟨Q[fx]'(by rw [HQn.out]; exact hfN), List.getElem?_eq_getElem _⟩
      obtain ⟨B, hB⟩ : ∃ B, memB p.2 (x : Int) = B := ⟨_, rfl⟩
      have HSr := hid (HS3.out.below HBx.out)
      have cg : wr.cell? ⟨go, x, none⟩ = some (.int .i64 (fx : Int)) := by rw [HSr.out.ow.cell, intL_get _ hltx, hfx]
      have e0 : ∀ nn, (wr.drewN nn).cell? ⟨gm, x, none⟩ = some (.bool B) := fun nn => by
        have h := (HTb.out.below HBx.out).cell x
        rw [tabL_get _ hltx, hB] at h
        exact h
      have e1 : ∀ nn, (wr.drewN nn).cell? ⟨gp, fx, none⟩ = some (.slice (some ⟨q, 0, none⟩) fn fn) := fun nn => HSr.out.rowAt hq
      have e2 : ∀ nn, (wr.drewN nn).cell? ⟨q, k, none⟩ = some (.bool B) := fun nn => by
        have h := (HSr.out.pq fx q hq).cell k
        have h2 := HFk.out x hltx
        rw [hfx, hB] at h2
        rw [bolL_get _ hlt, h2] at h
        exact h
      have dB : (B != B) = false := by simp
      clear hfx hq hB
      go_upto_region 64 with fail
      go_quiet (fail)
      have HBy := hid (HBx.out.trans ((Drew.below ⟨nq, rfl⟩ _ : Below wr.heap.size wr (wr.drewN nq)).mono HBx.out.size))
      generalize wr.drewN nq = w6 at HBy ⊢
      clear e0 e1 e2 cg
      go_wp2
      exact ⟨⟨x + 1, by omega, by go_num, HBy⟩, by simp [intOf]; omega⟩
    as_aux_lemma =>
    have dx : decide ((x : Int) < 196608) = false := decide_eq_false (by omega)
    have HSe := hid (HS3.out.below HBx.out)
    go_wp2
    exact ⟨⟨k + 1, by omega, by go_num, HSe⟩, by simp [intOf]; omega⟩
  have dk : decide ((k : Int) < (fn : Int)) = false := decide_eq_false (by omega)
  have HAp : Hid (∀ b d, b < N → d < b → ∃ i, i < fn ∧ F b i ≠ F d i) := hid (fun b d hb hd => by
    obtain ⟨l, hl, hne⟩ := HPi.out.apart HSem.out (by rw [HN.out]; exact hb) hd
    obtain ⟨i, hi⟩ := List.mem_iff_getElem?.1 hl
    refine ⟨i, by have := (List.getElem?_eq_some_iff.1 hi).1; rw [List.length_map, HRl.out] at this; exact this, ?_⟩
    rw [HFe.out]
    show memB ((R.map (·.2)).getD i []) (leaN P b) ≠ memB ((R.map (·.2)).getD i []) (leaN P d)
    rw [List.getD_eq_getElem?_getD, hi]
    exact hne)
  go_upto_region 69 with fail
  clear dk hlt hk
  go_loopw [224] (fun i wr => ∃ (b : Nat), b ≤ N ∧ i = .int .i64 b ∧ Hid (PtB w0 w go gl gp N fn (fun i => (f i : Int)) (leaN P) Q F wr)) (fun i _ => N - (intOf i).toNat)
  case atStart => exact ⟨0, Nat.zero_le _, rfl, HB⟩
  case round =>
  clear HB
  obtain ⟨b, hb, rfl, HB⟩ := hrel
  by_cases hlt : b < N
  · as_aux_lemma =>
    have db : decide ((b : Int) < (N : Int)) = true := decide_eq_true (by omega)
    have ib : (b : Int) < (N : Int) := by omega
    go_upto_region 72 with fail
    clear db
    go_loopw [29] (fun i wr => ∃ (d : Nat), d ≤ b ∧ i = .int .i64 d ∧ Hid (PtB w0 w go gl gp N fn (fun i => (f i : Int)) (leaN P) Q F wr)) (fun i _ => b - (intOf i).toNat)
    case atStart => exact ⟨0, Nat.zero_le _, rfl, HB⟩
    case round =>
    clear HB
    obtain ⟨d, hd, rfl, HB⟩ := hrel
    by_cases hltd : d < b
    · as_aux_lemma =>
      have dd : decide ((d : Int) < (b : Int)) = true := decide_eq_true (by omega)
      have idn : (d : Int) < (N : Int) := by omega
      obtain ⟨q1, hq1⟩ : ∃ q, Q[b]? = some q := ⟨Q[b]'(by rw [HQn.out]; exact hlt), List.getElem?_eq_getElem _⟩
      obtain ⟨q2, hq2⟩ : ∃ q, Q[d]? = some q := ⟨Q[d]'(by rw [HQn.out]; omega), List.getElem?_eq_getElem _⟩
      have HQ1 := hid hq1
      have HQ2 := hid hq2
      have HS0 : Hid (PtB w0 w go gl gp N fn (fun i => (f i : Int)) (leaN P) Q F wr.drew) := hid (HB.out.below (Drew.below ⟨1, rfl⟩ _))
      clear hq1 hq2
      go_upto_region 74 with fail
      refine wp_region_heavy (fun w3 => PtB w0 w go gl gp N fn (fun i => (f i : Int)) (leaN P) Q F w3) 9 [0, 1, 2, 3, 4, 5, 6, 7] [8] rfl (by kernel_rfl) (by kernel_rfl) (fun d _ _ _ _ h => by cases d <;> exact h) HS0.out ?_
      apply Exists.intro
      refine ⟨?_, ?_⟩
      · intro W hW
        have e0 : ∀ x, (W x).cell? ⟨gp, b, none⟩ = some (.slice (some ⟨q1, 0, none⟩) fn fn) := fun x => (hW x).rowAt HQ1.out
        have e1 : ∀ x, (W x).cell? ⟨gp, d, none⟩ = some (.slice (some ⟨q2, 0, none⟩) fn fn) := fun x => (hW x).rowAt HQ2.out
        clear hW
        simp only [List.take, opsAt, List.drop, List.cons_append, List.nil_append]
        repeat (go_big_quiet_step (fail))
        exact rfl
      simp only [List.take, List.drop, opsAt, List.cons_append, List.nil_append, wpHv]
      generalize wr.drew = wd at HS0 ⊢
      go_wp2_with fail
      refine (sameTab2_walk q1 q2 fn (F b) (F d) wd (HS0.out.pq b q1 HQ1.out) (HS0.out.pq d q2 HQ2.out) (by omega)).mono ?_
      rintro e w3 ⟨B, rfl, hb3, hB⟩
      have hBf : B = false := by
        cases B with
        | false => rfl
        | true =>
          obtain ⟨i, h1, h2⟩ := HAp.out b d hlt hltd
          exact absurd (hB.1 rfl i h1) h2
      subst hBf
      have HS3 := hid (HS0.out.below hb3)
      clear hb3 hB HS0
      go_wp2_with fail
      refine ⟨HS3.out, ?_⟩
      simp only [QN]
      go_wp2
      exact ⟨⟨d + 1, by omega, by go_num, HS3⟩, by simp [intOf]; omega⟩
    as_aux_lemma =>
    have dd : decide ((d : Int) < (b : Int)) = false := decide_eq_false (by omega)
    go_wp2
    exact ⟨⟨b + 1, by omega, by go_num, HB⟩, by simp [intOf]; omega⟩
  as_aux_lemma =>
  have db : decide ((b : Int) < (N : Int)) = false := decide_eq_false (by omega)
  go_wp2
  go_ret
  exact ⟨rfl, HB.out.mild⟩
end Go.Proofs.Qxb6500884a
