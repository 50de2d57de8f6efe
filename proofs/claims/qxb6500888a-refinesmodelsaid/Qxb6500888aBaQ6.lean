/- unloggedUnchanged. -/
import Derived.Test.Qxb6500888aBaL5
namespace Go.Proofs.Qxb6500888a
open Go.RowKit
set_option linter.unusedSimpArgs false
set_option linter.unusedVariables false
attribute [local irreducible] wdC

/-- A map of the machine's under way in a range. -/
structure HdI (wp : World) (mH : Nat) (E : List Ent) (r : Nat) (T : List Nat) (wr : World) : Prop where
  it : IT wr r mH E T
  bel : Below wp.heap.size wp wr
  lo : wp.heap.size ≤ r
  ml : mH < wp.heap.size
theorem HdI.below {wp : World} {mH : Nat} {E : List Ent} {r : Nat} {T : List Nat} {wr w' : World} (h : HdI wp mH E r T wr) (hb : Below wr.heap.size wr w') : HdI wp mH E r T w' := ⟨h.it.of (hb.block r h.it.lt) (hb.block mH (Nat.lt_of_lt_of_le h.ml h.bel.size)), h.bel.trans (hb.mono h.bel.size), h.lo, h.ml⟩
theorem HdI.upd {wp : World} {mH : Nat} {E : List Ent} {r : Nat} {T : List Nat} {wr w' : World} {g : Nat} (h : HdI wp mH E r T wr) (hu : Upd g wr w') (hg : wp.heap.size ≤ g) (hne : r ≠ g) : HdI wp mH E r T w' := ⟨h.it.of (hu.block r h.it.lt hne) (hu.block mH (Nat.lt_of_lt_of_le h.ml h.bel.size) (by have := h.ml; omega)), h.bel.trans (hu.below hg h.bel.size), h.lo, h.ml⟩
theorem HdI.ms {wp : World} {mH : Nat} {E : List Ent} {r : Nat} {T : List Nat} {wr w' : World} (h : HdI wp mH E r T wr) {e : Ent} (he : e ∈ E) (heT : e.k ∈ T) (h' : HdI wp mH E r (T.filter fun k => decide (k ≠ e.k)) w') : World.rangeLeft w' mH r < World.rangeLeft wr mH r := by rw [h'.it.left, h.it.left]; exact left_less he heT
section
variable {w w' : World} {wB sN : Nat} {ρ ρ' : Rl} {L : GL} {T : BL} {G : GS} {B : BS} {atp : Nat → Nat} {Z : Nat → Prop}
theorem hd_ent {e : Ent} (h : hdF G.head e.k = some e.v) : ∃ n q, G.head e.k = some (n, q) ∧ e.v = .agg #[.int .i64 (n : Int), .int .i64 (q : Int)] := by
  unfold hdF at h
  obtain ⟨⟨n, q⟩, h1, h2⟩ := Option.map_eq_some_iff.1 h
  exact ⟨n, q, h1, h2.symm⟩
set_option maxRecDepth 1000000 in
set_option maxHeartbeats 8000000 in
theorem unlogged_walk (h : WM w ρ L T G B wB) (hs : Blk w sN 48 (wdC atp)) (hci : CI G B atp Z) (hl : ∀ m, (B.logs m).length ≤ 1000000000) (hf : ∀ m, (B.fresh m).length ≤ 1000000000) :
    Calls Try.prog 28 #[.pointer (some ⟨wB, 0, none⟩), .slice (some ⟨sN, 0, none⟩) 32768 32768] w fun e w' => e = .returned (.bool true) ∧ Below w.heap.size w w' := by
  have HH := hid h
  have Hs := hid hs
  have Hci := hid hci
  have Hl := hid hl
  have Hf := hid hf
  clear h hs hci hl hf
  have hmk := @run_makeMap Try.prog
  obtain ⟨mS, hmS⟩ : ∃ x, w.heap.size = x := ⟨_, rfl⟩
  have HM0 : Hid (FsI w mS (inB []) (w.alloc (.map #[] 0))) := hid ⟨(BF.new w hmS).congr (fun a => rfl), nbel w _, by omega⟩
  go_enter Try.func28, Try.ntmps28
  go_upto_region 2 with fail
  try simp only [hmS]
  generalize w.alloc (.map #[] 0) = w6 at HM0 ⊢
  clear hmk hmS
  have HAL := hid (allLogs_walk (HH.out.below HM0.out.bel) Hl.out)
  go_wp2_with fail
  refine HAL.out.mono ?_
  rintro e w7 ⟨v7, rfl, h7, hb7⟩
  rw [lgK_four] at h7
  obtain ⟨a7, q7, rfl, hget⟩ := h7.rdE
  obtain ⟨n7, hn7⟩ : ∃ x, (lgL B).length = x := ⟨_, rfl⟩
  have HG : Hid (∀ wx : World, (∀ g, g < w7.heap.size → g ≠ mS → wx.heap[g]? = w7.heap[g]?) → ∀ (j : Nat) (x : Nat × Nat), (lgL B)[j]? = some x → ∃ g, a7 = some ⟨g, 0, none⟩ ∧ wx.cell? ⟨g, j * 2, none⟩ = some (.int .u64 (x.1 : Int)) ∧ wx.cell? ⟨g, j * 2 + 1, none⟩ = some (.int .u64 (x.2 : Int))) := hid (fun wx hx j x hj => by
    obtain ⟨g, e1, e2, e3, e4, e5⟩ := hget j x hj
    have hmb : mS < w6.heap.size := MF.lt HM0.out.bf
    refine ⟨g, e1, ?_, ?_⟩
    · rw [World.cell?_of_block (hx g e3 (by omega))]; exact e4
    · rw [World.cell?_of_block (hx g e3 (by omega))]; exact e5)
  have HI0 : Hid (FsI w mS (inB (((lgL B).take 0).map Prod.fst)) w7) := hid (HM0.out.below hb7)
  have in7 : (n7 : Int) ≤ 9000000000 := by
    have h1 := lgK_len Hl.out 4
    rw [lgK_four, hn7] at h1
    omega
  have Hn7 := hid hn7
  rw [hn7]
  clear hget hn7 HAL h7 hb7 HM0
  go_wp2_with fail
  go_loopw [17] (fun v wr => ∃ j : Nat, j ≤ n7 ∧ v = .int .i64 (j : Int) ∧ Hid (FsI w mS (inB (((lgL B).take j).map Prod.fst)) wr) ∧ Hid (∀ g, g < w7.heap.size → g ≠ mS → wr.heap[g]? = w7.heap[g]?) ∧ Hid (w7.heap.size ≤ wr.heap.size)) (fun v _ => n7 - (intOf v).toNat)
  case atStart => exact ⟨0, by omega, rfl, HI0, hid (fun g _ _ => rfl), hid (Nat.le_refl _)⟩
  case round =>
  clear HI0
  obtain ⟨j, hj, rfl, HJ, HX, HZ⟩ := hrel
  by_cases hjn : j < n7
  · as_aux_lemma =>
    have dj : decide ((j : Int) < (n7 : Int)) = true := decide_eq_true (by omega)
    have hij : (j : Int) < (n7 : Int) := by omega
    obtain ⟨⟨f, od⟩, hx⟩ : ∃ x, (lgL B)[j]? = some x := ⟨(lgL B)[j]'(by rw [Hn7.out]; exact hjn), List.getElem?_eq_getElem _⟩
    obtain ⟨g, rfl, x1, x2⟩ := HG.out _ HX.out j _ hx
    dsimp only at x1 x2
    have HFx := hid hx
    obtain ⟨eb, heb⟩ : ∃ x, wr.heap.size = x := ⟨_, rfl⟩
    clear hx
    go_upto_region 5 with fail
    obtain ⟨wv, hwv⟩ : ∃ x, wr.alloc (.cells #[.int .u64 (f : Int), .int .u64 (od : Int)] 59) = x := ⟨_, rfl⟩
    have HBv : Hid (Below wr.heap.size wr wv) := hid (by rw [← hwv]; exact nbel wr _)
    have y1 : wv.cell? ⟨eb, 0, none⟩ = some (.int .u64 (f : Int)) := by
      rw [← hwv, ← heb]
      exact (Blk.new wr [.int .u64 (f : Int), .int .u64 (od : Int)] 59).cell 0
    simp only [hwv]
    clear hwv x1 x2 heb
    have HJv := hid (HJ.out.below HBv.out)
    have HXv : Hid (∀ g, g < w7.heap.size → g ≠ mS → wv.heap[g]? = w7.heap[g]?) := hid (fun g' h1 h2 => by
      rw [HBv.out.block g' (by have := HZ.out; omega)]
      exact HX.out g' h1 h2)
    have HZv : Hid (w7.heap.size ≤ wv.heap.size) := hid (Nat.le_trans HZ.out HBv.out.size)
    clear HJ HX HZ HBv
    obtain ⟨w9, hput, h9, hu9⟩ := HJv.out.put f
    have HJ9 : Hid (FsI w mS (inB (((lgL B).take (j + 1)).map Prod.fst)) w9) := hid (by
      rw [inB_add] at h9
      rw [List.take_add_one, HFx.out, Option.toList_some, List.map_append]
      exact h9)
    have HX9 : Hid (∀ g, g < w7.heap.size → g ≠ mS → w9.heap[g]? = w7.heap[g]?) := hid (fun g' h1 h2 => by
      rw [hu9.block g' (by have := HZv.out; omega) h2]
      exact HXv.out g' h1 h2)
    have HZ9 : Hid (w7.heap.size ≤ w9.heap.size) := hid (Nat.le_trans HZv.out hu9.size)
    clear h9 hu9 HJv HXv HZv
    go_wp2
    exact ⟨⟨j + 1, by omega, by go_num, HJ9, HX9, HZ9⟩, by simp [intOf]; omega⟩
  have dj : decide ((j : Int) < (n7 : Int)) = false := decide_eq_false (by omega)
  have HLg : Hid (FsI w mS (inB ((lgL B).map Prod.fst)) wr) := hid (by
    have h1 := HJ.out
    rw [List.take_of_length_le (by rw [Hn7.out]; omega)] at h1
    exact h1)
  clear HJ HX HZ HG Hn7 in7
  as_aux_lemma =>
  have HFr := hid (allFresh_walk (HH.out.below HLg.out.bel) Hf.out)
  go_wp2_with fail
  refine HFr.out.mono ?_
  rintro e wf ⟨mB, rfl, hfs⟩
  have HFs : Hid (FsI w mB (inB (frK B 4)) wf ∧ FsI w mS (inB ((lgL B).map Prod.fst)) wf) := hid ⟨⟨hfs.bf, HLg.out.bel.trans (hfs.bel.mono HLg.out.bel.size), Nat.le_trans HLg.out.bel.size hfs.lo⟩, HLg.out.below hfs.bel⟩
  clear hfs HFr HLg dj
  have HWf := hid (HH.out.below HFs.out.1.bel)
  have c0 := HWf.out.cells.1
  have ch := HWf.out.bm.gm.hcells.1
  obtain ⟨E, hE1, hE2, hE3⟩ := HWf.out.bm.gm.mh rfl
  have HPn := hid hE1
  have HEn := hid hE2
  clear hE1 hE2 hE3
  obtain ⟨r, hr⟩ : ∃ x, wf.heap.size = x := ⟨_, rfl⟩
  go_wp2_with (at_range; refine wpList_range_pn rfl (.tmp 33) 63 rfl Try.underlying63 L.mH E rfl HPn.out ?_; intro w2 hit2 hbe2 hsz2)
  go_frame
  have HI2 : Hid (HdI wf L.mH E r (E.map (·.k)) w2) := hid ⟨by rw [← hr]; exact hit2, hbe2, by omega, HPn.out.lt⟩
  simp only [hr]
  clear hit2 hbe2 hsz2 c0 ch hr HWf
  go_loopw [] (fun wr => ∃ Tk, Hid (HdI wf L.mH E r Tk wr)) (fun wr => World.rangeLeft wr L.mH r)
  case atStart => exact ⟨_, HI2⟩
  case round =>
  clear HI2
  obtain ⟨Tk, HI⟩ := hrel
  have Hpn : Hid (PN wr L.mH E) := hid (HPn.out.below HI.out.bel)
  go_upto_region 9 with fail
  refine wp_region_lit ?_
  refine wpList_next_pn rfl (.tmp 34) rfl r L.mH E Tk rfl Hpn.out HI.out.it ?_ ?_
  · intro hT
    as_aux_lemma =>
    have HR : Hid (Below w.heap.size w wr) := hid (HFs.out.1.bel.trans (HI.out.bel.mono HFs.out.1.bel.size))
    clear HI Hpn HFs hT
    go_frame
    go_wp2
    go_ret
    exact ⟨rfl, HR.out⟩
  · intro e w3 he heT hpn3 hit3 hu3 hsz3 hent
    obtain ⟨n, q, hhd, hev⟩ := hd_ent (HEn.out e he)
    have HI3 : Hid (HdI wf L.mH E r (Tk.filter fun k => decide (k ≠ e.k)) w3) := hid ⟨hit3, HI.out.bel.trans (hu3.below HI.out.lo HI.out.bel.size), HI.out.lo, HI.out.ml⟩
    have HMs : Hid (∀ w', HdI wf L.mH E r (Tk.filter fun k => decide (k ≠ e.k)) w' → World.rangeLeft w' L.mH r < World.rangeLeft wr L.mH r) := hid (fun w' h' => HI.out.ms he heT h')
    rw [hev] at hent
    rw [hev]
    obtain ⟨x, hx⟩ : ∃ x, e.k = x := ⟨_, rfl⟩
    rw [hx] at hent hhd HI3 HMs
    rw [hx]
    have Hhd := hid hhd
    have hin := Hci.out.ok.hd x n q hhd
    have Hin := hid hin
    have I0 : Hid ((Try.prog.info? 73).map (·.size) = some 2) := hid info_sh
    have HOne : Hid (∀ u ∈ [(.int .i64 (n : Int) : Value), .int .i64 (q : Int)], u.oneCell' = true) := hid (fun u hu => by
      simp only [List.mem_cons, List.not_mem_nil, or_false] at hu
      rcases hu with rfl | rfl <;> rfl)
    obtain ⟨sB, hsB⟩ : ∃ x, w3.heap.size = x := ⟨_, rfl⟩
    have hbz := Blk.new w3 [.int .i64 0, .int .i64 0] 73
    rw [hsB] at hbz
    have HZ := hid hbz
    clear he heT hpn3 hit3 hu3 hsz3 hhd hev hx hin hbz HI Hpn
    as_aux_lemma =>
    go_frame
    go_upto_region 11 with (refine wpList_store_blk rfl 73 _ _ rfl sB rfl [.int .i64 (n : Int), .int .i64 (q : Int)] rfl HZ.out rfl I0.out HOne.out ?_; intro w9 HB9 HU9)
    have HD9 : Hid (HdI wf L.mH E r (Tk.filter fun k => decide (k ≠ x)) w9 ∧ Blk w9 sB 73 [.int .i64 (n : Int), .int .i64 (q : Int)]) := hid (by
      have h1 := nbel w3 (.cells #[.int .i64 0, .int .i64 0] 73)
      have h2 := HU9.out.below (B := w3.heap.size) (by omega) h1.size
      exact ⟨HI3.out.below (h1.trans h2), HB9.out⟩)
    clear HB9 HU9 HZ HI3 hsB HOne I0 hent
    have hl := (HFs.out.1.below HD9.out.1.bel).bf.look x
    by_cases hfx : x ∈ frL B
    · as_aux_lemma =>
      rw [show inB (frK B 4) x = true from decide_eq_true hfx] at hl
      go_wp2
      exact ⟨⟨_, hid HD9.out.1⟩, HMs.out _ HD9.out.1⟩
    rw [show inB (frK B 4) x = false from decide_eq_false hfx] at hl
    have Hold : Hid (oldB G B x = true) := hid (oldB_t.2 ⟨by rw [Hhd.out]; rfl, hfx⟩)
    clear hfx
    go_upto_region 12 with fail
    clear hl
    go_wp2_with fail
    go_loopw [11] (fun v wr => ∃ j : Nat, j ≤ q ∧ v = .int .i64 (j : Int) ∧ Hid (HdI wf L.mH E r (Tk.filter fun k => decide (k ≠ x)) wr ∧ Blk wr sB 73 [.int .i64 (n : Int), .int .i64 (q : Int)])) (fun v _ => q - (intOf v).toNat)
    case atStart => exact ⟨0, by omega, rfl, HD9⟩
    case round =>
    clear HD9
    obtain ⟨j, hj, rfl, HD⟩ := hrel
    have cn : wr.cell? ⟨sB, 1, none⟩ = some (.int .i64 (q : Int)) := HD.out.2.cell 1
    by_cases hjn : j < q
    rotate_left
    · as_aux_lemma =>
      have dj : decide ((j : Int) < (q : Int)) = false := decide_eq_false (by omega)
      go_wp2
      exact ⟨⟨_, hid HD.out.1⟩, HMs.out _ HD.out.1⟩
    as_aux_lemma =>
    have dj : decide ((j : Int) < (q : Int)) = true := decide_eq_true (by omega)
    have ij : (j : Int) < (q : Int) := by omega
    have iq : (q : Int) ≤ 8192 := by have := Hin.out; omega
    obtain ⟨s, hs⟩ : ∃ s, offA x = s := ⟨_, rfl⟩
    have hin := Hin.out
    have hsp := offA_in hin.1
    rw [hs] at hsp hin
    obtain ⟨fa, hfa⟩ : ∃ fa, x + 1 + j = fa := ⟨_, rfl⟩
    have hfs : 65536 + (s + 1 + j) = fa := by omega
    have HFA : Hid (∀ w, Calls Try.prog 35 #[.int .u64 (x : Int), .int .i64 (j : Int)] w fun e w' => e = .returned (.int .u64 (fa : Int)) ∧ w' = w) := hid (fun w => field_walk hfa (by omega) (by omega) w)
    have hWr := HH.out.below (HFs.out.1.bel.trans (HD.out.1.bel.mono HFs.out.1.bel.size))
    have HRA := hid (refAt_walk hWr.bm.gm (a := fa) (s := s + 1 + j) hfs (by omega))
    have hsl : s + 1 + j ∈ slots G x := mem_slots.2 ⟨j, by rw [(stand_rf Hhd.out).1]; exact hjn, by rw [hs]⟩
    have hl3 := Hci.out.l3 x Hold.out _ hsl
    have c0 := hWr.cells.1
    have hlk := (HFs.out.2.below HD.out.1.bel).bf.look fa
    have HS2 : Hid (∀ wx, Below wr.heap.size wr wx → Calls Try.prog 24 #[.slice (some ⟨sN, 0, none⟩) 32768 32768, .int .u64 (fa : Int)] wx fun e w' => e = .returned (.int .u64 (atp (s + 1 + j) : Int)) ∧ w' = wx) := hid (fun wx hx => at_walk ((Hs.out.below (HFs.out.1.bel.trans (HD.out.1.bel.mono HFs.out.1.bel.size))).below hx) hfs (by omega))
    by_cases hlg : fa ∈ (lgL B).map Prod.fst
    · as_aux_lemma =>
      rw [show inB ((lgL B).map Prod.fst) fa = true from decide_eq_true hlg] at hlk
      clear hsl hl3 hlg hfs hsp hs hin hWr HRA HS2 hfa
      go_wp2_with fail
      refine (HFA.out _).mono ?_
      rintro e w5 ⟨rfl, rfl⟩
      go_wp2
      exact ⟨⟨j + 1, by omega, by go_num, HD⟩, by simp [intOf]; omega⟩
    · as_aux_lemma =>
      rw [show inB ((lgL B).map Prod.fst) fa = false from decide_eq_false hlg] at hlk
      have hlf : G.lg (s + 1 + j) = false := by
        cases e : G.lg (s + 1 + j) with
        | false => rfl
        | true =>
          obtain ⟨en, h1, h2⟩ := hl3.1 e
          exact absurd (List.mem_map.2 ⟨en, h1, by rw [h2]; exact hfs⟩) hlg
      rw [hl3.2 hlf] at HRA
      generalize atp (s + 1 + j) = av at HRA HS2
      have dd : (!((av : Int) == (av : Int))) = false := by simp
      clear hsl hl3 hlg hfs hsp hs hin hWr hlf hfa
      go_wp2_with fail
      refine (HFA.out _).mono ?_
      rintro e w5 ⟨rfl, rfl⟩
      go_wp2_with fail
      refine HRA.out.mono ?_
      rintro e w6 ⟨rfl, hb6⟩
      have HD6 : Hid (HdI wf L.mH E r (Tk.filter fun k => decide (k ≠ x)) w6 ∧ Blk w6 sB 73 [.int .i64 (n : Int), .int .i64 (q : Int)]) := hid ⟨HD.out.1.below hb6, HD.out.2.below hb6⟩
      have HS3 := hid (HS2.out _ hb6)
      clear HD hb6 HS2 HRA hlk c0 cn
      go_wp2_with fail
      refine HS3.out.mono ?_
      rintro e w7 ⟨rfl, rfl⟩
      go_wp2
      exact ⟨⟨j + 1, by omega, by go_num, HD6⟩, by simp [intOf]; omega⟩
end
end Go.Proofs.Qxb6500888a
