/- The law RootsAreDeferred (written by tools/mk_l4.py). -/
import Derived.Test.Qxb6500888aBaL3
import Derived.Test.Qxb6500888aBaL1
namespace Go.Proofs.Qxb6500888a
open Go.RowKit
set_option linter.unusedSimpArgs false
set_option linter.unusedVariables false

theorem Mv.calls {G G' : GS} {B B' : BS} (h : Mv G B G' B') : G'.calls = G.calls ∧ B'.last = B.last := by
  cases h with
  | same => exact ⟨rfl, rfl⟩
  | push => exact ⟨rfl, rfl⟩
  | pop => exact ⟨rfl, rfl⟩
  | write =>
    refine ⟨rfl, ?_⟩
    unfold wrB
    split <;> rfl
  | aloc => exact ⟨rfl, rfl⟩
theorem dropG_calls (G : GS) (o : Nat) : (dropG G o).calls = G.calls := by
  unfold dropG
  split
  · rfl
  · split
    · rfl
    · split
      · rfl
      · rfl
theorem decN_calls : ∀ (n : Nat) (G : GS), (decN n G).2.calls = G.calls
  | 0, G => rfl
  | n + 1, G => by
    unfold decN
    cases e : stepF G with
    | none => rfl
    | some G' =>
      show (decN n G').2.calls = _
      rw [decN_calls n G']
      unfold stepF at e
      split at e
      · cases e; exact dropG_calls _ _
      · cases e
theorem play_calls {t : Nat} {G : GS} {B : BS} (h : InvM t G B) {o : OpP} (h7 : o.kind ≠ 7) : (playS G B o).2.2.1.calls = G.calls ∧ (playS G B o).2.2.2.last = B.last := by
  by_cases h8 : o.kind = 8
  · rw [playS_8 h8]
    exact ⟨decN_calls _ _, rfl⟩
  · by_cases h9 : o.kind = 9
    · rw [playS_9 h9]
      exact ⟨rfl, rfl⟩
    · exact (playS_mv h.ok h.bo.nr o h7 h8 h9).calls
theorem OwR.rx0 {α : Type} {K : RK α} {w : World} {ρ : Rl} {n0 : Nat} {v : Value} {xs : List α} (h : OwR K n0 w v xs) (hz : ∀ g, n0 ≤ g → ρ g = 0) : RowX K w ρ 0 v xs := ⟨h.rx.own, fun g hg => hz g (h.hi g hg)⟩
theorem RowX.below {α : Type} {K : RK α} {w w' : World} {ρ : Rl} {c : Nat} {v : Value} {xs : List α} (h : RowX K w ρ c v xs) (hb : Below w.heap.size w w') : RowX K w' ρ c v xs := h.fr (X := fun _ => false) (Fr.below hb) rfl
/-- A pause's calls: increments first. -/
theorem calls_at {I D : List Nat} {j : Nat} {p : Bool × Nat} (h : (I.map (fun x => (true, x)) ++ D.map (fun x => (false, x)))[j]? = some p) : p.1 = decide (j < I.length) := by
  by_cases e : j < I.length
  · rw [List.getElem?_append_left (by rw [List.length_map]; exact e), List.getElem?_map] at h
    obtain ⟨x, _, rfl⟩ := Option.map_eq_some_iff.1 h
    exact (decide_eq_true e).symm
  · rw [List.getElem?_append_right (by rw [List.length_map]; omega), List.getElem?_map] at h
    obtain ⟨x, _, rfl⟩ := Option.map_eq_some_iff.1 h
    exact (decide_eq_false e).symm
def RdI (w0 : World) (wB k : Nat) (v : Value) (wr : World) : Prop := ∃ ρ L T G B atp Z, LW w0 wB k ρ L T G B wr ∧ CI G B atp Z ∧ RowX rtA wr ρ 0 v B.last
set_option maxRecDepth 1000000 in
set_option maxHeartbeats 8000000 in
theorem deferred_walk (a : Option Addr) (n c : Nat) (l : List OpP) (w : World) (hs : Script w a n c l) :
    Calls Try.prog 7 #[.slice a n c] w fun e w' => e = .returned (.bool true) ∧ Below w.heap.size w w' := by
  have HSm := hid (fun w => small_walk a n c w)
  have HS := hid hs
  have HNw := hid (fun w => newWorld_walk w)
  clear hs
  by_cases hsm : n ≤ 65536
  rotate_left
  · as_aux_lemma =>
    rw [decide_eq_false hsm] at HSm
    go_enter Try.func7, Try.ntmps7
    go_wp2_with (go_at_call 13; refine (HSm.out _).mono ?_; rintro e w' ⟨rfl, rfl⟩)
    go_ret
    exact ⟨rfl, Below.refl _ _⟩
  rw [decide_eq_true hsm] at HSm
  go_enter Try.func7, Try.ntmps7
  go_wp2_with (go_at_call 13; refine (HSm.out _).mono ?_; rintro e w' ⟨rfl, rfl⟩)
  refine (HNw.out _).mono ?_
  rintro e w1 ⟨wB, ρ1, L1, T1, rfl, hW1, hl1, hb1, hwB⟩
  have HLI : Hid (RdI w' wB 0 (.slice none 0 0) w1) := hid ⟨ρ1, L1, T1, G0, B0, fun _ => 0, _, ⟨hW1, InvM.zero, hb1, hl1⟩, CI.zero _, RowX.nil _ _ _ _⟩
  have HwB := hid hwB
  clear hW1 hl1 hb1 HNw HSm hwB
  go_wp2_with fail
  go_loopw [24, 4] (fun v s wr => ∃ i : Nat, i ≤ n ∧ v = .int .i64 (i : Int) ∧ ∃ a4 n4 c4, s = .slice a4 n4 c4 ∧ Hid (RdI w' wB i (.slice a4 n4 c4) wr)) (fun v _ _ => n - (intOf v).toNat)
  case atStart => exact ⟨0, by omega, rfl, none, 0, 0, rfl, HLI⟩
  case round =>
  clear HLI
  obtain ⟨i, hi, rfl, a4, n4, c4, rfl, HLI⟩ := hrel
  obtain ⟨ρ, L, T, G, B, atp, Z, hLW, hci, hla⟩ := HLI.out
  have HLW := hid hLW
  have Hci := hid hci
  have Hla := hid hla
  clear hLW hci hla HLI
  by_cases hin : i < n
  rotate_left
  · as_aux_lemma =>
    have di : decide ((i : Int) < (n : Int)) = false := decide_eq_false (by omega)
    go_wp2
    go_ret
    exact ⟨rfl, HLW.out.bel⟩
  have di : decide ((i : Int) < (n : Int)) = true := decide_eq_true (by omega)
  have hii : (i : Int) < (n : Int) := by omega
  obtain ⟨o, ho, hok, b, off, rfl, hb, c0, c1, c2, c3, c4'⟩ := (HS.out.below HLW.out.bel).at hin
  have HOk := hid hok
  clear ho hok
  obtain ⟨ob, hob⟩ : ∃ p, wr.heap.size = p := ⟨_, rfl⟩
  go_upto_region 8 with fail
  obtain ⟨w3, hw3⟩ : ∃ w2, wr.alloc (.cells #[.int .u8 (o.kind : Int), .int .u8 (o.m : Int), .int .u64 (o.a : Int), .int .u64 (o.b : Int), .int .u64 (o.c : Int)] 31) = w2 := ⟨_, rfl⟩
  have HW3 : Hid (LW w' wB i ρ L T G B w3 ∧ Blk w3 ob 31 (opC o) ∧ ρ ob = 0 ∧ RowX rtA w3 ρ 0 (.slice a4 n4 c4) B.last) := hid (by
    rw [← hw3]
    have hbk := Blk.new wr (opC o) 31
    rw [hob] at hbk
    exact ⟨HLW.out.below (nbel wr _), hbk, HLW.out.new0 (by omega), Hla.out.below (nbel wr _)⟩)
  simp only [hw3]
  clear hw3 hob c0 c1 c2 c3 c4' Hla
  have HAR := hid (allRoots_walk HW3.out.1.wm)
  go_wp2_with fail
  refine HAR.out.mono ?_
  rintro e w5 ⟨v5, rfl, h5, hb5⟩
  have HW5 : Hid (LW w' wB i ρ L T G B w5 ∧ Blk w5 ob 31 (opC o) ∧ ρ ob = 0 ∧ RowX rtA w5 ρ 0 (.slice a4 n4 c4) B.last ∧ RowX rtA w5 ρ 0 v5 (rootsK B 4)) := hid ⟨HW3.out.1.below hb5, HW3.out.2.1.below hb5, HW3.out.2.2.1, HW3.out.2.2.2.below hb5, h5.rx0 (fun g hg => HW3.out.1.new0 hg)⟩
  clear HAR h5 hb5 HW3 HLW
  have hcl := HW5.out.1.wm.bm.gm.cl rfl
  obtain ⟨ac, qc, hcv⟩ := hcl.shape
  obtain ⟨kc, hkc⟩ : ∃ k, G.calls.length = k := ⟨_, rfl⟩
  rw [hkc] at hcv
  have Hkc := hid hkc
  have c2 := HW5.out.1.wm.cells.2.2.1
  have cc := HW5.out.1.wm.bm.gm.ccells.2.2.2.2.1
  rw [hcv] at cc
  have ikc : (kc : Int) ≤ 90000000000 := by have := (HW5.out.1.inv.gb (by omega)).calls; omega
  clear hcl hcv hkc
  obtain ⟨a5, q5, e5, r5, _, _⟩ := HW5.out.2.2.2.2.rdA
  subst e5
  clear r5
  go_upto_region 10 with fail
  clear c2 cc
  have I1 : Hid ((Try.prog.info? 31).map (·.size) = some 5) := hid info_op
  have I0 := hid info_rz
  go_wp2_with (refine wpList_load_blk rfl 31 _ rfl ob rfl (opC o) HW5.out.2.1 _ Try.underlying31 rfl I1.out ?_)
  refine (HW5.out.1.play (by omega) o HOk.out).mono ?_
  rintro e w6 ⟨V, ρ4, L4, T4, rfl, h4⟩
  have HP4 := hid h4
  have HOb4 : Hid (Blk w6 ob 31 (opC o) ∧ ρ4 ob = 0 ∧ RowX rtA w6 ρ4 0 (.slice a4 n4 c4) B.last ∧ RowX rtA w6 ρ4 0 (.slice a5 (rootsK B 4).length q5) (rootsK B 4)) := hid ⟨h4.fr.keep HW5.out.2.1 HW5.out.2.2.1 rfl, by rw [h4.fr.old _ HW5.out.2.1.lt]; exact HW5.out.2.2.1, HW5.out.2.2.2.1.fr h4.fr rfl, HW5.out.2.2.2.2.fr h4.fr rfl⟩
  have HInv := hid HW5.out.1.inv
  clear h4 HW5
  obtain ⟨ccd, hcc⟩ : ∃ x, (playS G B o).1.1 = x := ⟨_, rfl⟩
  obtain ⟨vv, hvv⟩ : ∃ x, (playS G B o).1.2 = x := ⟨_, rfl⟩
  rw [hcc, hvv]
  clear hcc hvv
  obtain ⟨r, hr⟩ : ∃ r, w6.heap.size = r := ⟨_, rfl⟩
  have hbz := Blk.new w6 (rzC 0 0) 38
  rw [hr] at hbz
  have HZ := hid hbz
  have HOne := hid (rzH_one (c := ccd) (v := vv) HP4.out.rw)
  have Hr := hid hr
  clear hbz
  go_upto_region 11 with (refine wpList_store_blk rfl 38 _ _ rfl r rfl (rzH ccd vv V) rfl HZ.out rfl I0.out HOne.out ?_; intro w9 HB9 HU9)
  have HP9 : Hid (LW w' wB (i + 1) ρ4 L4 T4 (playS G B o).2.2.1 (playS G B o).2.2.2 w9 ∧ Blk w9 ob 31 (opC o) ∧ (∀ j, j < 8 → ∃ ja jq, V j = .slice ja ((playS G B o).2.1 j).length jq ∧ RdA w9 ja ((playS G B o).2.1 j).length ((playS G B o).2.1 j)) ∧ RowX rtA w9 ρ4 0 (.slice a4 n4 c4) B.last ∧ RowX rtA w9 ρ4 0 (.slice a5 (rootsK B 4).length q5) (rootsK B 4)) := hid (by
    have h0 := HP4.out.lw.new0 (g := r) (by have := Hr.out; omega)
    have hn := nbel w6 (.cells (rzC 0 0).toArray 38)
    have hlt := Hr.out
    have hne : wB ≠ r := by have := HP4.out.lw.wm.wb.lt; omega
    have hb9 : Below w6.heap.size w6 w9 := hn.trans (HU9.out.below (by omega) hn.size)
    refine ⟨(HP4.out.lw.below hn).other HU9.out h0 hne (by have := HP4.out.lw.bel.size; omega), HOb4.out.1.below hb9, fun j hj => ?_, HOb4.out.2.2.1.below hb9, HOb4.out.2.2.2.below hb9⟩
    obtain ⟨ja, jq, e, hrd, _⟩ := (HP4.out.rw j hj).rdA
    exact ⟨ja, jq, e, hrd.below hb9⟩)
  clear HU9 HZ HOne HP4 HOb4 Hr hr I0 I1 HOk
  have ck : w9.cell? ⟨ob, 0, none⟩ = some (.int .u8 (o.kind : Int)) := HP9.out.2.1.cell 0
  obtain ⟨Z5, hci5⟩ := Hci.out.play HInv.out (by omega) o
  have Hci5 := hid hci5
  clear hci5
  by_cases e7 : o.kind = 7
  rotate_left
  · as_aux_lemma =>
    have d7 : ((o.kind : Int) == 7) = false := by simp; omega
    obtain ⟨hca, hlast⟩ := play_calls HInv.out e7
    have HLz := hid HP9.out.1
    have hcl := HLz.out.wm.bm.gm.cl rfl
    obtain ⟨ac2, qc2, hcv⟩ := hcl.shape
    rw [hca, Hkc.out] at hcv
    have c2 := HLz.out.wm.cells.2.2.1
    have cc := HLz.out.wm.bm.gm.ccells.2.2.2.2.1
    rw [hcv] at cc
    have HLast : Hid (RowX rtA w9 ρ4 0 (.slice a4 n4 c4) (playS G B o).2.2.2.last) := hid (by rw [hlast]; exact HP9.out.2.2.2.1)
    generalize (playS G B o).2.2.1 = G5 at HLz Hci5
    generalize (playS G B o).2.2.2 = B5 at HLz Hci5 HLast
    generalize (if o.kind = 7 then G5.word else atp) = atp5 at Hci5
    have he7 := hid e7
    clear hcl hcv hca hlast HP9 HB9 e7 HInv Hci
    go_upto_region 25 with fail
    clear c2 cc ck d7
    have HLz0 := hid HLz.out
    clear HLz
    obtain ⟨wz, hwz⟩ : ∃ x, w9 = x := ⟨_, rfl⟩
    rw [hwz] at HLz0 HLast ⊢
    clear hwz
    have HLz := hid HLz0.out
    clear HLz0
    have HFr := hid (allFresh_walk HLz.out.wm (fun m => by have := HLz.out.inv.bo.nf m; omega))
    go_wp2_with fail
    refine HFr.out.mono ?_
    rintro e wf ⟨mB, rfl, hf⟩
    have HAR := hid (allRoots_walk (HLz.out.below hf.bel).wm)
    have HF := hid hf
    clear hf HFr
    go_wp2_with fail
    refine HAR.out.mono ?_
    rintro e wg ⟨vg, rfl, hg, hbg⟩
    obtain ⟨ag, qg, rfl, hget⟩ := hg.rdA
    have HFg := hid (HF.out.below hbg)
    have HG : Hid (∀ wx : World, Below wg.heap.size wg wx → ∀ i x : Nat, (rootsK B5 4)[i]? = some x → ∃ g, ag = some ⟨g, 0, none⟩ ∧ wx.cell? ⟨g, i, none⟩ = some (.int .u64 (x : Int))) := hid (fun wx hx i x hix => by
      obtain ⟨g, e1, e2, e3, e4⟩ := hget i x hix
      exact ⟨g, e1, by rw [World.cell?_of_block (hx.block g e3)]; exact e4⟩)
    obtain ⟨ng, hng⟩ : ∃ x, (rootsK B5 4).length = x := ⟨_, rfl⟩
    have Hng := hid hng
    rw [hng]
    have ing : (ng : Int) ≤ 256 := by have := rootsK_len HLz.out.inv.bo.nr 4; omega
    clear hget hng HAR HF hg hbg
    go_wp2_with fail
    go_loopw [97] (fun v wr => ∃ j : Nat, j ≤ ng ∧ v = .int .i64 (j : Int) ∧ Hid (Below wg.heap.size wg wr)) (fun v _ => ng - (intOf v).toNat)
    case atStart => exact ⟨0, by omega, rfl, hid (Below.refl _ _)⟩
    case round =>
    obtain ⟨j, hj, rfl, HB⟩ := hrel
    have HFr2 := hid (HFg.out.below HB.out)
    have HLr := hid (HLz.out.below HFr2.out.bel)
    by_cases hjn : j < ng
    rotate_left
    · as_aux_lemma =>
      have dj : decide ((j : Int) < (ng : Int)) = false := decide_eq_false (by omega)
      have HR : Hid (RdI w' wB (i + 1) (.slice a4 n4 c4) wr) := hid ⟨_, _, _, _, _, _, _, HLr.out, Hci5.out, HLast.out.below HFr2.out.bel⟩
      clear HLr HFr2 HB HG
      go_wp2
      exact ⟨⟨i + 1, by omega, by go_num, _, _, _, rfl, HR⟩, by simp [intOf]; omega⟩
    have dj : decide ((j : Int) < (ng : Int)) = true := decide_eq_true (by omega)
    have hij : (j : Int) < (ng : Int) := by omega
    obtain ⟨x, hx⟩ : ∃ x, (rootsK B5 4)[j]? = some x := ⟨(rootsK B5 4)[j]'(by rw [Hng.out]; exact hjn), List.getElem?_eq_getElem _⟩
    obtain ⟨g, rfl, cx⟩ := HG.out _ HB.out j x hx
    have hAx : Ac B5 Z5 x := by
      obtain ⟨m, hm, hx2⟩ := rootsK_mem (List.mem_of_getElem? hx)
      exact Hci5.out.y1 m hm x hx2
    obtain ⟨n2, q2, hsh⟩ := st_some (Hci5.out.Ac_st hAx)
    have HSh := hid (shapeOf_walk HLr.out.wm.bm.gm x)
    rw [hsh] at HSh
    have e0 : shV ((some (n2, q2)).getD (0, 0)) = .agg #[.int .i64 (n2 : Int), .int .i64 (q2 : Int)] := rfl
    rw [e0, Option.isSome_some] at HSh
    have c0 := HLr.out.wm.cells.1
    have I0 : Hid ((Try.prog.info? 73).map (·.size) = some 2) := hid info_sh
    have HOne : Hid (∀ u ∈ [(.int .i64 (n2 : Int) : Value), .int .i64 (q2 : Int)], u.oneCell' = true) := hid (fun u hu => by
      simp only [List.mem_cons, List.not_mem_nil, or_false] at hu
      rcases hu with rfl | rfl <;> rfl)
    have HAx := hid hAx
    clear hAx hx hsh e0
    as_aux_lemma =>
    go_upto_region 29 with fail
    clear cx
    go_wp2_with fail
    refine HSh.out.mono ?_
    rintro e w8 ⟨rfl, hb8⟩
    have HB8 := hid (HB.out.trans (hb8.mono HB.out.size))
    obtain ⟨sB, hsB⟩ : ∃ x, w8.heap.size = x := ⟨_, rfl⟩
    have hbz := Blk.new w8 [.int .i64 0, .int .i64 0] 73
    rw [hsB] at hbz
    have HZ := hid hbz
    clear hb8 HSh c0 hbz HB HFr2 HLr
    go_upto_region 30 with (refine wpList_store_blk rfl 73 _ _ rfl sB rfl [.int .i64 (n2 : Int), .int .i64 (q2 : Int)] rfl HZ.out rfl I0.out HOne.out ?_; intro w10 HB10 HU10)
    have HB11 : Hid (Below wg.heap.size wg w10) := hid (by
      have h1 := nbel w8 (.cells #[.int .i64 0, .int .i64 0] 73)
      have h2 := HU10.out.below (B := w8.heap.size) (by omega) h1.size
      exact HB8.out.trans ((h1.trans h2).mono HB8.out.size))
    clear HB10 HU10 HZ hsB HOne I0 HB8
    have HFs := hid (HFg.out.below HB11.out)
    have HLs := hid (HLz.out.below HFs.out.bel)
    have hl := HFs.out.bf.look x
    by_cases hfx : x ∈ frL B5
    · as_aux_lemma =>
      rw [show inB (frK B5 4) x = true from decide_eq_true hfx] at hl
      clear HFs HLs
      go_wp2
      exact ⟨⟨j + 1, by omega, by go_num, HB11⟩, by simp [intOf]; omega⟩
    · as_aux_lemma =>
      rw [show inB (frK B5 4) x = false from decide_eq_false hfx] at hl
      have hct : 1 ≤ G5.cnt x := by
        rcases HAx.out with h1 | h1
        · exact (Hci5.out.ce1 x (Hci5.out.z1 x h1)).1
        · exact absurd h1 hfx
      have c2 := HLs.out.wm.cells.2.2.1
      have HCt := hid (countOf_walk HLs.out.wm.bm.gm x)
      generalize G5.cnt x = ct at hct HCt
      have dct : ((ct : Int) == 0) = false := by simp; omega
      clear HFs HLs
      go_wp2_with (go_at_call 34; refine HCt.out.mono ?_; rintro e wq ⟨rfl, rfl⟩)
      exact ⟨⟨j + 1, by omega, by go_num, HB11⟩, by simp [intOf]; omega⟩
  as_aux_lemma =>
  have d7 : ((o.kind : Int) == 7) = true := by simp; omega
  obtain ⟨I, hI1, hI2⟩ := pause_facts HInv.out Hci.out
  have hp := playS_7 (G := G) (B := B) e7
  rw [hp] at HP9 Hci5
  rw [if_pos e7] at Hci5
  have hP9 := HP9.out
  dsimp only at hP9
  have hci5 := Hci5.out
  dsimp only at hci5
  clear HP9 Hci5 hp
  generalize (pauseP G B).1 = G5 at hP9 hci5 hI2
  generalize (pauseP G B).2.1 = B5 at hP9 hci5 hI2
  generalize (pauseP G B).2.2 = hv at hP9 hI2
  have HPF := hid hI2
  obtain ⟨hL9, hb9, hrows, hla9, hno9⟩ := hP9
  obtain ⟨j2, k2, v2, rd2⟩ := hrows 2 (by decide)
  obtain ⟨j3, k3, v3, rd3⟩ := hrows 3 (by decide)
  rw [hI2.h2] at v2 rd2
  rw [hI2.h3] at v3 rd3
  obtain ⟨a5', q5', e5, r5, _, _⟩ := hno9.rdA
  obtain ⟨a4', q4', e4, r4, _, _⟩ := hla9.rdA
  injection e5 with e51 e52 e53
  injection e4 with e41 e42 e43
  subst e51 e53 e41 e43
  obtain ⟨n5, hn5⟩ : ∃ x, (rootsK B 4).length = x := ⟨_, rfl⟩
  rw [hn5] at v2 rd2 r5 hno9
  rw [← e42] at v3 rd3 r4
  have hrkl := rootsK_len HInv.out.bo.nr 4
  have hlal := HInv.out.bo.na
  have HSb1 := hid (sameBag_walk w9 j2 a5 n5 k2 q5 _ _ rd2 r5 (List.Perm.refl _) (by omega))
  have HSb2 := hid (fun wx (hx : Below w9.heap.size w9 wx) => sameBag_walk wx j3 a4 n4 k3 c4 _ _ (rd3.below hx) (r4.below hx) (List.Perm.refl _) (by omega))
  have t2 : w9.cell? ⟨r, 4, none⟩ = some (V 2) := by rw [HB9.out.cell]; rfl
  rw [v2] at t2
  have HT3 : Hid (∀ wx, Below w9.heap.size w9 wx → wx.cell? ⟨r, 5, none⟩ = some (.slice j3 n4 k3)) := hid (fun wx hx => by rw [(HB9.out.below hx).cell, ← v3]; rfl)
  have HLast9 : Hid (RowX rtA w9 ρ4 0 (.slice a5 n5 q5) B5.last) := hid (by rw [hI2.bq]; exact hno9)
  have HL9 := hid hL9
  have Hci5 := hid hci5
  have he7 := hid e7
  have Hn5 := hid hn5
  clear hL9 hb9 hrows hla9 hno9 rd2 rd3 r5 r4 v2 v3 e42 e52 hn5 hrkl hlal hci5 e7 hI1 hI2 HB9 HInv Hci
  rw [Hn5.out]
  go_upto_region 12 with fail
  clear ck d7
  go_wp2_with fail
  refine HSb1.out.mono ?_
  rintro e wx ⟨rfl, hbx⟩
  have t3 := HT3.out _ hbx
  have HSb3 := hid (HSb2.out _ hbx)
  have Hbx := hid hbx
  clear hbx HSb1 HSb2 HT3 t2
  go_wp2_with fail
  refine HSb3.out.mono ?_
  rintro e wy ⟨rfl, hby⟩
  have HBy := hid (Hbx.out.trans (hby.mono Hbx.out.size))
  clear hby Hbx HSb3 t3
  have HLy := hid (HL9.out.below HBy.out)
  have HLasty := hid (HLast9.out.below HBy.out)
  clear HBy HL9 HLast9
  obtain ⟨D, hD⟩ : ∃ x, hv 1 ++ B.last = x := ⟨_, rfl⟩
  have hca := HPF.out.ca
  rw [hD, List.append_assoc] at hca
  have HCa := hid hca
  clear hca hD HPF
  have hcl := HLy.out.wm.bm.gm.cl rfl
  have c2 := HLy.out.wm.cells.2.2.1
  have cc := HLy.out.wm.bm.gm.ccells.2.2.2.2.1
  obtain ⟨ac2, qc2, hcv⟩ := hcl.shape
  obtain ⟨ny, hny⟩ : ∃ x, G5.calls.length = x := ⟨_, rfl⟩
  have hny2 : ny = kc + (I.length + D.length) := by rw [← hny, HCa.out, List.length_append, List.length_append, List.length_map, List.length_map, Hkc.out]
  rw [hny] at hcv
  rw [hcv] at cc hcl
  have hcap := hcl.cap
  have iy0 : (ny : Int) ≤ (qc2 : Int) := by have := hcap.2; omega
  have iy1 : (kc : Int) ≤ (ny : Int) := by omega
  have iy2 : (qc2 : Int) ≤ 9223372036854775807 := by have := hcap.1; unfold maxLen at this; omega
  have HCl : Hid (∀ wx : World, Below wy.heap.size wy wx → ∀ (j : Nat) (p : Bool × Nat), G5.calls[j]? = some p → ∃ g, ac2 = some ⟨g, 0, none⟩ ∧ wx.cell? ⟨g, j * 2, none⟩ = some (.bool p.1) ∧ wx.cell? ⟨g, j * 2 + 1, none⟩ = some (.int .u64 (p.2 : Int))) := hid (fun wx hx j p hj => by
    obtain ⟨g, q', e, hg, hcell⟩ := (RowX.below hcl hx).get (K := rtC) (by decide) (fun _ => rfl) hj
    injection e with e1 e2 e3
    have h0 := hcell 0 (by decide)
    have h1 := hcell 1 (by decide)
    exact ⟨g, e1, h0, h1⟩)
  have HNo : Hid (ac2 = none → ny = 0) := hid (fun h => (hcl.src.2.1 h).1)
  have Hny := hid hny2
  have Hnl := hid hny
  clear hcl hcv hny hny2 hcap
  obtain ⟨dn, hdn⟩ : ∃ x, I.length + D.length = x := ⟨_, rfl⟩
  have Hdn := hid hdn
  rw [hdn] at Hny
  have hdn2 : ny - kc = dn := by have := Hny.out; omega
  have hdn3 : (ny : Int) - (kc : Int) = (dn : Int) := by have := Hny.out; omega
  have hdn4 : (dn : Int) ≤ 9223372036854775807 := by have := Hny.out; omega
  clear hdn
  go_upto_region 16 with fail
  go_cut [67, 68, 69] from 59 to 69 (fun v67 v68 v69 wc => ∃ at_ dq, v67 = .slice at_ dn dq ∧ v68 = .int .i64 (dn : Int) ∧ v69 = .int .i64 0 ∧ wc = wy ∧ Hid (∀ wx : World, Below wy.heap.size wy wx → ∀ (j : Nat) (p : Bool × Nat), G5.calls[kc + j]? = some p → ∃ g off, at_ = some ⟨g, off, none⟩ ∧ wx.cell? ⟨g, off + j * 2, none⟩ = some (.bool p.1) ∧ wx.cell? ⟨g, off + j * 2 + 1, none⟩ = some (.int .u64 (p.2 : Int))))
  case first =>
    as_aux_lemma =>
    cases ac2 with
    | none =>
      have h0 := HNo.out rfl
      obtain rfl : kc = 0 := by have := Hny.out; omega
      obtain rfl : dn = 0 := by have := Hny.out; omega
      subst h0
      go_wp2
      go_meet
      case rel => exact ⟨none, _, rfl, rfl, rfl, rfl, hid (fun wx hx j p hj => by
        have hl := List.getElem?_eq_some_iff.1 hj
        have h1 := hl.1
        rw [Hnl.out] at h1
        omega)⟩
    | some ad =>
      by_cases hq : qc2 = kc
      · subst hq
        obtain rfl : dn = 0 := by have := Hny.out; omega
        obtain rfl : ny = qc2 := by have := Hny.out; omega
        go_wp2
        go_meet
        case rel => exact ⟨some ad, _, rfl, rfl, rfl, rfl, hid (fun wx hx j p hj => by
          have hl := List.getElem?_eq_some_iff.1 hj
          have h1 := hl.1
          rw [Hnl.out] at h1
          omega)⟩
      · have hq2 : (kc : Int) < (qc2 : Int) := by omega
        have hq3 : kc < qc2 := by omega
        go_wp2
        go_meet
        case rel =>
          refine ⟨some (ad.add (kc * 2)), _, rfl, rfl, rfl, rfl, hid (fun wx hx j p hj => ?_)⟩
          obtain ⟨g, e1, h1, h2⟩ := HCl.out wx hx (kc + j) p hj
          injection e1 with e1
          subst e1
          refine ⟨g, 0 + kc * 2, by simp [Addr.add]; omega, ?_, ?_⟩
          · rw [show 0 + kc * 2 + j * 2 = (kc + j) * 2 by omega]; exact h1
          · rw [show 0 + kc * 2 + j * 2 + 1 = (kc + j) * 2 + 1 by omega]; exact h2
  case rest =>
  obtain ⟨at_, dq, rfl, rfl, rfl, rfl, HRd⟩ := hcut
  have HEl : Hid (∀ (j : Nat) (p : Bool × Nat), G5.calls[kc + j]? = some p → p.1 = decide (j < I.length)) := hid (fun j p hj => by
    rw [HCa.out, List.getElem?_append_right (by rw [Hkc.out]; omega), Hkc.out, Nat.add_sub_cancel_left] at hj
    exact calls_at hj)
  have HLen : Hid (G5.calls.length = kc + dn) := hid (by rw [Hnl.out]; exact Hny.out)
  clear HCl HNo Hny Hnl HCa hdn2 hdn3 iy0 iy1 iy2 cc c2 Hkc
  as_aux_lemma =>
  go_wp2_with fail
  go_loopw [69, 10] (fun v s wr => ∃ j : Nat, j ≤ dn ∧ v = .int .i64 (j : Int) ∧ s = .bool (decide (I.length < j)) ∧ Hid (Below wc.heap.size wc wr)) (fun v _ _ => dn - (intOf v).toNat)
  case atStart => exact ⟨0, by omega, rfl, rfl, hid (Below.refl _ _)⟩
  case round =>
  obtain ⟨j, hj, rfl, rfl, HB⟩ := hrel
  by_cases hjn : j < dn
  · as_aux_lemma =>
    have dj : decide ((j : Int) < (dn : Int)) = true := decide_eq_true (by omega)
    have hij : (j : Int) < (dn : Int) := by omega
    obtain ⟨⟨p1, p2⟩, hp⟩ : ∃ p, G5.calls[kc + j]? = some p := ⟨G5.calls[kc + j]'(by rw [HLen.out]; omega), List.getElem?_eq_getElem _⟩
    obtain ⟨g, off2, rfl, x1, x2⟩ := HRd.out wr HB.out j _ hp
    have hpe := HEl.out j _ hp
    dsimp only at hpe x1 x2
    obtain ⟨bb, hbb⟩ : ∃ x, wr.heap.size = x := ⟨_, rfl⟩
    have Hpe := hid hpe
    clear hp hpe
    go_upto_region 19 with fail
    have hpe := Hpe.out
    obtain ⟨wv, hwv⟩ : ∃ x, wr.alloc (.cells #[.bool p1, .int .u64 (p2 : Int)] 83) = x := ⟨_, rfl⟩
    have HBv : Hid (Below wc.heap.size wc wv) := hid (by rw [← hwv]; exact HB.out.trans ((nbel wr _).mono HB.out.size))
    have y1 : wv.cell? ⟨bb, 0, none⟩ = some (.bool p1) := by
      rw [← hwv, ← hbb]
      exact (Blk.new wr [.bool p1, .int .u64 (p2 : Int)] 83).cell 0
    simp only [hwv]
    clear hwv x1 x2 HB hbb
    cases p1 with
    | true =>
      have h1 : j < I.length := by simpa using hpe
      have d1 : decide (I.length < j) = false := decide_eq_false (by omega)
      have d2 : decide (I.length < j + 1) = false := decide_eq_false (by omega)
      rw [d1]
      clear hpe
      go_wp2
      exact ⟨⟨j + 1, by omega, by go_num, by rw [d2], HBv⟩, by simp [intOf]; omega⟩
    | false =>
      have h1 : ¬ j < I.length := by simpa using hpe
      have d2 : decide (I.length < j + 1) = true := decide_eq_true (by omega)
      generalize decide (I.length < j) = bq
      clear hpe
      go_wp2
      exact ⟨⟨j + 1, by omega, by go_num, by rw [d2], HBv⟩, by simp [intOf]; omega⟩
  · have dj : decide ((j : Int) < (dn : Int)) = false := decide_eq_false (by omega)
    have HLz := hid (HLy.out.below HB.out)
    have HLast := hid (HLasty.out.below HB.out)
    obtain ⟨wz, hwz⟩ : ∃ x, wr = x := ⟨_, rfl⟩
    clear HLy HLasty HB HRd HEl HLen
    generalize decide (I.length < j) = bq
    go_upto_region 25 with fail
    rw [hwz] at HLz HLast
    try rw [hwz]
    clear hwz dj
    as_aux_lemma =>
    have HFr := hid (allFresh_walk HLz.out.wm (fun m => by have := HLz.out.inv.bo.nf m; omega))
    go_wp2_with fail
    refine HFr.out.mono ?_
    rintro e wf ⟨mB, rfl, hf⟩
    have HAR := hid (allRoots_walk (HLz.out.below hf.bel).wm)
    have HF := hid hf
    clear hf HFr
    go_wp2_with fail
    refine HAR.out.mono ?_
    rintro e wg ⟨vg, rfl, hg, hbg⟩
    obtain ⟨ag, qg, rfl, hget⟩ := hg.rdA
    have HFg := hid (HF.out.below hbg)
    have HG : Hid (∀ wx : World, Below wg.heap.size wg wx → ∀ i x : Nat, (rootsK B5 4)[i]? = some x → ∃ g, ag = some ⟨g, 0, none⟩ ∧ wx.cell? ⟨g, i, none⟩ = some (.int .u64 (x : Int))) := hid (fun wx hx i x hix => by
      obtain ⟨g, e1, e2, e3, e4⟩ := hget i x hix
      exact ⟨g, e1, by rw [World.cell?_of_block (hx.block g e3)]; exact e4⟩)
    obtain ⟨ng, hng⟩ : ∃ x, (rootsK B5 4).length = x := ⟨_, rfl⟩
    have Hng := hid hng
    rw [hng]
    have ing : (ng : Int) ≤ 256 := by have := rootsK_len HLz.out.inv.bo.nr 4; omega
    clear hget hng HAR HF hg hbg
    go_wp2_with fail
    go_loopw [97] (fun v wr => ∃ j : Nat, j ≤ ng ∧ v = .int .i64 (j : Int) ∧ Hid (Below wg.heap.size wg wr)) (fun v _ => ng - (intOf v).toNat)
    case atStart => exact ⟨0, by omega, rfl, hid (Below.refl _ _)⟩
    case round =>
    obtain ⟨j, hj, rfl, HB⟩ := hrel
    have HFr2 := hid (HFg.out.below HB.out)
    have HLr := hid (HLz.out.below HFr2.out.bel)
    by_cases hjn : j < ng
    rotate_left
    · as_aux_lemma =>
      have dj : decide ((j : Int) < (ng : Int)) = false := decide_eq_false (by omega)
      have HR : Hid (RdI w' wB (i + 1) (.slice a5 n5 q5) wr) := hid ⟨_, _, _, _, _, _, _, HLr.out, Hci5.out, HLast.out.below HFr2.out.bel⟩
      clear HLr HFr2 HB HG
      go_wp2
      exact ⟨⟨i + 1, by omega, by go_num, _, _, _, rfl, HR⟩, by simp [intOf]; omega⟩
    have dj : decide ((j : Int) < (ng : Int)) = true := decide_eq_true (by omega)
    have hij : (j : Int) < (ng : Int) := by omega
    obtain ⟨x, hx⟩ : ∃ x, (rootsK B5 4)[j]? = some x := ⟨(rootsK B5 4)[j]'(by rw [Hng.out]; exact hjn), List.getElem?_eq_getElem _⟩
    obtain ⟨g, rfl, cx⟩ := HG.out _ HB.out j x hx
    have hAx : Ac B5 Z5 x := by
      obtain ⟨m, hm, hx2⟩ := rootsK_mem (List.mem_of_getElem? hx)
      exact Hci5.out.y1 m hm x hx2
    obtain ⟨n2, q2, hsh⟩ := st_some (Hci5.out.Ac_st hAx)
    have HSh := hid (shapeOf_walk HLr.out.wm.bm.gm x)
    rw [hsh] at HSh
    have e0 : shV ((some (n2, q2)).getD (0, 0)) = .agg #[.int .i64 (n2 : Int), .int .i64 (q2 : Int)] := rfl
    rw [e0, Option.isSome_some] at HSh
    have c0 := HLr.out.wm.cells.1
    have I0 : Hid ((Try.prog.info? 73).map (·.size) = some 2) := hid info_sh
    have HOne : Hid (∀ u ∈ [(.int .i64 (n2 : Int) : Value), .int .i64 (q2 : Int)], u.oneCell' = true) := hid (fun u hu => by
      simp only [List.mem_cons, List.not_mem_nil, or_false] at hu
      rcases hu with rfl | rfl <;> rfl)
    have HAx := hid hAx
    clear hAx hx hsh e0
    as_aux_lemma =>
    go_upto_region 29 with fail
    clear cx
    go_wp2_with fail
    refine HSh.out.mono ?_
    rintro e w8 ⟨rfl, hb8⟩
    have HB8 := hid (HB.out.trans (hb8.mono HB.out.size))
    obtain ⟨sB, hsB⟩ : ∃ x, w8.heap.size = x := ⟨_, rfl⟩
    have hbz := Blk.new w8 [.int .i64 0, .int .i64 0] 73
    rw [hsB] at hbz
    have HZ := hid hbz
    clear hb8 HSh c0 hbz HB HFr2 HLr
    go_upto_region 30 with (refine wpList_store_blk rfl 73 _ _ rfl sB rfl [.int .i64 (n2 : Int), .int .i64 (q2 : Int)] rfl HZ.out rfl I0.out HOne.out ?_; intro w10 HB10 HU10)
    have HB11 : Hid (Below wg.heap.size wg w10) := hid (by
      have h1 := nbel w8 (.cells #[.int .i64 0, .int .i64 0] 73)
      have h2 := HU10.out.below (B := w8.heap.size) (by omega) h1.size
      exact HB8.out.trans ((h1.trans h2).mono HB8.out.size))
    clear HB10 HU10 HZ hsB HOne I0 HB8
    have HFs := hid (HFg.out.below HB11.out)
    have HLs := hid (HLz.out.below HFs.out.bel)
    have hl := HFs.out.bf.look x
    by_cases hfx : x ∈ frL B5
    · as_aux_lemma =>
      rw [show inB (frK B5 4) x = true from decide_eq_true hfx] at hl
      clear HFs HLs
      go_wp2
      exact ⟨⟨j + 1, by omega, by go_num, HB11⟩, by simp [intOf]; omega⟩
    · as_aux_lemma =>
      rw [show inB (frK B5 4) x = false from decide_eq_false hfx] at hl
      have hct : 1 ≤ G5.cnt x := by
        rcases HAx.out with h1 | h1
        · exact (Hci5.out.ce1 x (Hci5.out.z1 x h1)).1
        · exact absurd h1 hfx
      have c2 := HLs.out.wm.cells.2.2.1
      have HCt := hid (countOf_walk HLs.out.wm.bm.gm x)
      generalize G5.cnt x = ct at hct HCt
      have dct : ((ct : Int) == 0) = false := by simp; omega
      clear HFs HLs
      go_wp2_with (go_at_call 34; refine HCt.out.mono ?_; rintro e wq ⟨rfl, rfl⟩)
      exact ⟨⟨j + 1, by omega, by go_num, HB11⟩, by simp [intOf]; omega⟩
end Go.Proofs.Qxb6500888a
