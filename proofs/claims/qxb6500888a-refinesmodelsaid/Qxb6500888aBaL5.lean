/- The law EachFieldIsLoggedOnce. -/
import Derived.Test.Qxb6500888aBaQ5
import Derived.Test.Qxb6500888aBaL4
namespace Go.Proofs.Qxb6500888a
open Go.RowKit
set_option linter.unusedSimpArgs false
set_option linter.unusedVariables false

attribute [local irreducible] wdC
/-- The law's world and its copy of the words. -/
structure EfS (w0 : World) (wB sN k : Nat) (ρ : Rl) (L : GL) (T : BL) (G : GS) (B : BS) (atp : Nat → Nat) (wr : World) : Prop where
  lw : LW w0 wB k ρ L T G B wr
  sn : Blk wr sN 48 (wdC atp)
  s0 : ρ sN = 0
  sb : wB ≠ sN
  lo : w0.heap.size ≤ sN
section
variable {w0 w' wr : World} {wB sN k : Nat} {ρ : Rl} {L : GL} {T : BL} {G : GS} {B : BS} {atp : Nat → Nat}
theorem EfS.below (h : EfS w0 wB sN k ρ L T G B atp wr) (hb : Below wr.heap.size wr w') : EfS w0 wB sN k ρ L T G B atp w' := ⟨h.lw.below hb, h.sn.below hb, h.s0, h.sb, h.lo⟩
theorem EfS.take (h : EfS w0 wB sN k ρ L T G B atp wr) {f : Nat → Nat} (hu : Upd sN wr w') (hs : Blk w' sN 48 (wdC f)) : EfS w0 wB sN k ρ L T G B f w' := ⟨h.lw.other hu h.s0 h.sb h.lo, hs, h.s0, h.sb, h.lo⟩
end
def EfI (w0 : World) (wB sN k : Nat) (wr : World) : Prop := ∃ ρ L T G B atp Z, EfS w0 wB sN k ρ L T G B atp wr ∧ CI G B atp Z
theorem OwR.rdE {w : World} {n0 : Nat} {v : Value} {xs : List (Nat × Nat)} (h : OwR rtE n0 w v xs) : ∃ a q, v = .slice a xs.length q ∧ ∀ (i : Nat) (x : Nat × Nat), xs[i]? = some x → ∃ g, a = some ⟨g, 0, none⟩ ∧ n0 ≤ g ∧ g < w.heap.size ∧ w.cell? ⟨g, i * 2, none⟩ = some (.int .u64 (x.1 : Int)) ∧ w.cell? ⟨g, i * 2 + 1, none⟩ = some (.int .u64 (x.2 : Int)) := by
  obtain ⟨a, q, rfl⟩ := h.shape
  refine ⟨a, q, rfl, fun i x hx => ?_⟩
  obtain ⟨g, q', e, hg, hcell⟩ := h.rx.get (K := rtE) (by decide) (fun _ => rfl) hx
  injection e with e1 e2 e3
  have h0 := hcell 0 (by decide)
  have h1 := hcell 1 (by decide)
  subst e1
  exact ⟨g, rfl, h.hi g rfl, hg, h0, h1⟩
theorem lgK_four (B : BS) : lgK B 4 = lgL B := rfl
set_option maxRecDepth 1000000 in
set_option maxHeartbeats 8000000 in
theorem once_walk (a : Option Addr) (n c : Nat) (l : List OpP) (w : World) (hs : Script w a n c l) :
    Calls Try.prog 4 #[.slice a n c] w fun e w' => e = .returned (.bool true) ∧ Below w.heap.size w w' := by
  have HSm := hid (fun w => small_walk a n c w)
  have HS := hid hs
  have HNw := hid (fun w => newWorld_walk w)
  have HNs := hid (fun w => newSnapshot_walk w)
  clear hs
  by_cases hsm : n ≤ 65536
  rotate_left
  · as_aux_lemma =>
    rw [decide_eq_false hsm] at HSm
    go_enter Try.func4, Try.ntmps4
    go_wp2_with (go_at_call 13; refine (HSm.out _).mono ?_; rintro e w' ⟨rfl, rfl⟩)
    go_ret
    exact ⟨rfl, Below.refl _ _⟩
  rw [decide_eq_true hsm] at HSm
  go_enter Try.func4, Try.ntmps4
  go_wp2_with (go_at_call 13; refine (HSm.out _).mono ?_; rintro e w' ⟨rfl, rfl⟩)
  refine (HNw.out _).mono ?_
  rintro e w1 ⟨wB, ρ1, L1, T1, rfl, hW1, hl1, hb1, hwB⟩
  have HL1 : Hid (LW w' wB 0 ρ1 L1 T1 G0 B0 w1) := hid ⟨hW1, InvM.zero, hb1, hl1⟩
  have HwB := hid hwB
  clear hW1 hl1 hb1 HNw HSm hwB
  go_wp2_with fail
  refine (HNs.out _).mono ?_
  rintro e w2 ⟨rfl, hsn, hb2⟩
  obtain ⟨sN, hsN⟩ : ∃ x, w1.heap.size = x := ⟨_, rfl⟩
  have HLI : Hid (EfI w' wB sN 0 w2) := hid (by
    rw [hsN] at hsn
    refine ⟨ρ1, L1, T1, G0, B0, fun _ => 0, _, ⟨HL1.out.below hb2, hsn, HL1.out.new0 (by omega), ?_, ?_⟩, CI.zero _⟩
    · have := HL1.out.wm.wb.lt; omega
    · have := HL1.out.bel.size; omega)
  rw [hsN]
  clear HNs hsn hb2 hsN HL1
  go_wp2_with fail
  go_loopw [17] (fun v wr => ∃ i : Nat, i ≤ n ∧ v = .int .i64 (i : Int) ∧ Hid (EfI w' wB sN i wr)) (fun v _ => n - (intOf v).toNat)
  case atStart => exact ⟨0, by omega, rfl, HLI⟩
  case round =>
  clear HLI
  obtain ⟨i, hi, rfl, HLI⟩ := hrel
  obtain ⟨ρ, L, T, G, B, atp, Z, hE, hci⟩ := HLI.out
  have HE := hid hE
  have Hci := hid hci
  clear hE hci HLI
  by_cases hin : i < n
  rotate_left
  · as_aux_lemma =>
    have di : decide ((i : Int) < (n : Int)) = false := decide_eq_false (by omega)
    go_wp2
    go_ret
    exact ⟨rfl, HE.out.lw.bel⟩
  have di : decide ((i : Int) < (n : Int)) = true := decide_eq_true (by omega)
  have hii : (i : Int) < (n : Int) := by omega
  obtain ⟨o, ho, hok, b, off, rfl, hb, c0, c1, c2, c3, c4⟩ := (HS.out.below HE.out.lw.bel).at hin
  have HOk := hid hok
  clear ho hok
  obtain ⟨ob, hob⟩ : ∃ p, wr.heap.size = p := ⟨_, rfl⟩
  go_upto_region 7 with fail
  obtain ⟨w3, hw3⟩ : ∃ w2, wr.alloc (.cells #[.int .u8 (o.kind : Int), .int .u8 (o.m : Int), .int .u64 (o.a : Int), .int .u64 (o.b : Int), .int .u64 (o.c : Int)] 31) = w2 := ⟨_, rfl⟩
  have HW3 : Hid (EfS w' wB sN i ρ L T G B atp w3 ∧ Blk w3 ob 31 (opC o) ∧ ρ ob = 0 ∧ sN ≠ ob) := hid (by
    rw [← hw3]
    have hbk := Blk.new wr (opC o) 31
    rw [hob] at hbk
    exact ⟨HE.out.below (nbel wr _), hbk, HE.out.lw.new0 (by omega), by have := HE.out.sn.lt; omega⟩)
  simp only [hw3]
  clear hw3 hob c0 c1 c2 c3 c4 HE
  have I1 : Hid ((Try.prog.info? 31).map (·.size) = some 5) := hid info_op
  go_wp2_with (refine wpList_load_blk rfl 31 _ rfl ob rfl (opC o) HW3.out.2.1 _ Try.underlying31 rfl I1.out ?_)
  refine (HW3.out.1.lw.play (by omega) o HOk.out).mono ?_
  rintro e w4 ⟨V, ρ4, L4, T4, rfl, h4⟩
  have HE4 : Hid (EfS w' wB sN (i + 1) ρ4 L4 T4 (playS G B o).2.2.1 (playS G B o).2.2.2 atp w4 ∧ Blk w4 ob 31 (opC o)) := hid ⟨⟨h4.lw, h4.fr.keep HW3.out.1.sn HW3.out.1.s0 rfl, by rw [h4.fr.old _ HW3.out.1.sn.lt]; exact HW3.out.1.s0, HW3.out.1.sb, HW3.out.1.lo⟩, h4.fr.keep HW3.out.2.1 HW3.out.2.2.1 rfl⟩
  have HNe := hid HW3.out.2.2.2
  obtain ⟨Z4, hci4⟩ := Hci.out.play HW3.out.1.lw.inv (by omega) o
  generalize (playS G B o).2.2.1 = G4 at HE4 hci4
  generalize (playS G B o).2.2.2 = B4 at HE4 hci4
  obtain ⟨rr, hrr⟩ : ∃ x, (rzH (playS G B o).1.1 (playS G B o).1.2 V).toArray = x := ⟨_, rfl⟩
  rw [hrr]
  obtain ⟨atp4, hatp⟩ : ∃ x, (if o.kind = 7 then G4.word else atp) = x := ⟨_, rfl⟩
  rw [hatp] at hci4
  have Hatp := hid hatp
  have Hci4 := hid hci4
  clear h4 HW3 hrr hci4 Hci I1 HOk hatp
  have ck : w4.cell? ⟨ob, 0, none⟩ = some (.int .u8 (o.kind : Int)) := HE4.out.2.cell 0
  obtain ⟨B7, hB7⟩ : ∃ b, ((o.kind : Int) == 7) = b := ⟨_, rfl⟩
  have HB7 := hid hB7
  go_upto_if 26 with fail
  clear hB7 ck
  go_cut [] from 27 to 32 (fun wc => Hid (EfS w' wB sN (i + 1) ρ4 L4 T4 G4 B4 atp4 wc))
  case first =>
    as_aux_lemma =>
    cases B7 with
    | false =>
      have h7 : o.kind ≠ 7 := by have := HB7.out; simp at this; omega
      have HF : Hid (EfS w' wB sN (i + 1) ρ4 L4 T4 G4 B4 atp4 w4) := hid (by
        have := Hatp.out
        rw [if_neg h7] at this
        rw [← this]
        exact HE4.out.1)
      clear HE4 h7
      go_wp2
      go_meet
      case rel => exact HF
    | true =>
      have h7 : o.kind = 7 := by have := HB7.out; simp at this; omega
      have c1 := HE4.out.1.lw.wm.cells.1
      have HTk := hid (take_walk HE4.out.1.lw.wm.bm.gm HE4.out.1.sn)
      have H7 := hid h7
      clear h7
      go_wp2_with fail
      refine HTk.out.mono ?_
      rintro e w5 ⟨rfl, hs5, hu5⟩
      have HF : Hid (EfS w' wB sN (i + 1) ρ4 L4 T4 G4 B4 atp4 w5) := hid (by
        have := Hatp.out
        rw [if_pos H7.out] at this
        rw [← this]
        exact HE4.out.1.take hu5 hs5)
      clear HE4 HTk hs5 hu5 c1
      go_wp2
      go_meet
      case rel => exact HF
  case rest =>
  have HE5 := hid hcut.out
  clear hcut HE4 Hatp HB7
  obtain ⟨w5, hw5⟩ : ∃ x, wc = x := ⟨_, rfl⟩
  rw [hw5] at HE5 ⊢
  clear hw5
  have hmk := @run_makeMap Try.prog
  obtain ⟨mS, hmS⟩ : ∃ x, w5.heap.size = x := ⟨_, rfl⟩
  have HM0 : Hid (FsI w5 mS (inB []) (w5.alloc (.map #[] 0))) := hid ⟨(BF.new w5 hmS).congr (fun a => rfl), nbel w5 _, by omega⟩
  go_upto_region 11 with fail
  try simp only [hmS]
  generalize w5.alloc (.map #[] 0) = w6 at HM0 ⊢
  clear hmk hmS
  have HAL := hid (allLogs_walk (HE5.out.lw.below HM0.out.bel).wm (fun m => by have := HE5.out.lw.inv.bo.nl m; omega))
  go_wp2_with fail
  refine HAL.out.mono ?_
  rintro e w7 ⟨v7, rfl, h7, hb7⟩
  rw [lgK_four] at h7
  obtain ⟨a7, q7, rfl, hget⟩ := h7.rdE
  obtain ⟨n7, hn7⟩ : ∃ x, (lgL B4).length = x := ⟨_, rfl⟩
  have HG : Hid (∀ wx : World, Below w5.heap.size w5 wx → (∀ g, g < w7.heap.size → g ≠ mS → wx.heap[g]? = w7.heap[g]?) → ∀ (j : Nat) (x : Nat × Nat), (lgL B4)[j]? = some x → ∃ g, a7 = some ⟨g, 0, none⟩ ∧ wx.cell? ⟨g, j * 2, none⟩ = some (.int .u64 (x.1 : Int)) ∧ wx.cell? ⟨g, j * 2 + 1, none⟩ = some (.int .u64 (x.2 : Int))) := hid (fun wx _ hx j x hj => by
    obtain ⟨g, e1, e2, e3, e4, e5⟩ := hget j x hj
    have hmb : mS < w6.heap.size := MF.lt HM0.out.bf
    refine ⟨g, e1, ?_, ?_⟩
    · rw [World.cell?_of_block (hx g e3 (by omega))]; exact e4
    · rw [World.cell?_of_block (hx g e3 (by omega))]; exact e5)
  have HI0 : Hid (FsI w5 mS (inB (((lgL B4).take 0).map Prod.fst)) w7) := hid (HM0.out.below hb7)
  have in7 : (n7 : Int) ≤ 9000000000 := by
    have h1 := lgK_len (B := B4) (fun m => by have := HE5.out.lw.inv.bo.nl m; omega) 4
    rw [lgK_four, hn7] at h1
    omega
  have Hn7 := hid hn7
  rw [hn7]
  clear hget hn7 HAL h7 hb7 HM0
  go_wp2_with fail
  go_loopw [37] (fun v wr => ∃ j : Nat, j ≤ n7 ∧ v = .int .i64 (j : Int) ∧ Hid (FsI w5 mS (inB (((lgL B4).take j).map Prod.fst)) wr) ∧ Hid (∀ g, g < w7.heap.size → g ≠ mS → wr.heap[g]? = w7.heap[g]?) ∧ Hid (w7.heap.size ≤ wr.heap.size)) (fun v _ => n7 - (intOf v).toNat)
  case atStart => exact ⟨0, by omega, rfl, HI0, hid (fun g _ _ => rfl), hid (Nat.le_refl _)⟩
  case round =>
  clear HI0
  obtain ⟨j, hj, rfl, HJ, HX, HZ⟩ := hrel
  have HEr := hid (HE5.out.below HJ.out.bel)
  by_cases hjn : j < n7
  rotate_left
  · as_aux_lemma =>
    have dj : decide ((j : Int) < (n7 : Int)) = false := decide_eq_false (by omega)
    have HR : Hid (EfI w' wB sN (i + 1) wr) := hid ⟨_, _, _, _, _, _, _, HEr.out, Hci4.out⟩
    clear HEr HJ HX HZ HG
    go_wp2
    exact ⟨⟨i + 1, by omega, by go_num, HR⟩, by simp [intOf]; omega⟩
  have dj : decide ((j : Int) < (n7 : Int)) = true := decide_eq_true (by omega)
  have hij : (j : Int) < (n7 : Int) := by omega
  obtain ⟨⟨f, od⟩, hx⟩ : ∃ x, (lgL B4)[j]? = some x := ⟨(lgL B4)[j]'(by rw [Hn7.out]; exact hjn), List.getElem?_eq_getElem _⟩
  obtain ⟨g, rfl, x1, x2⟩ := HG.out _ HJ.out.bel HX.out j _ hx
  obtain ⟨ow, hZo, s, hs, e1, e2, e3⟩ := Hci4.out.l2 _ (List.mem_of_getElem? hx)
  dsimp only at x1 x2 e1 e2
  obtain ⟨no, qo, hno⟩ := st_some (Hci4.out.Ac_st (.inl hZo))
  have hs3 := (Hci4.out.slot_in hno hs).2.2
  have hns : f ∉ ((lgL B4).take j).map Prod.fst := fun hc => by
    have hnd := Hci4.out.l1
    obtain ⟨y, hy, hyf⟩ := List.mem_map.1 hc
    obtain ⟨k, hk⟩ := List.getElem?_of_mem hy
    have hkj : k < j := by
      have := (List.getElem?_eq_some_iff.1 hk).1
      rw [List.length_take] at this
      omega
    rw [List.getElem?_take_of_lt hkj] at hk
    have h1 : ((lgL B4).map Prod.fst)[k]? = some f := by rw [List.getElem?_map, hk, Option.map_some, hyf]
    have h2 : ((lgL B4).map Prod.fst)[j]? = some f := by rw [List.getElem?_map, hx]; rfl
    have h3 := (List.getElem?_inj (by rw [List.length_map, Hn7.out]; omega) hnd).1 (h1.trans h2.symm)
    omega
  have HFx := hid (And.intro hx hns)
  have HSl := hid (And.intro e1 (And.intro e2 (And.intro e3 hs3)))
  clear hx hns hs hno hZo e1 e2 e3 hs3
  obtain ⟨eb, heb⟩ : ∃ x, wr.heap.size = x := ⟨_, rfl⟩
  as_aux_lemma =>
  go_upto_region 14 with fail
  obtain ⟨wv, hwv⟩ : ∃ x, wr.alloc (.cells #[.int .u64 (f : Int), .int .u64 (od : Int)] 59) = x := ⟨_, rfl⟩
  have HBv : Hid (Below wr.heap.size wr wv) := hid (by rw [← hwv]; exact nbel wr _)
  have HEb : Hid (Blk wv eb 59 [.int .u64 (f : Int), .int .u64 (od : Int)]) := hid (by
    rw [← hwv, ← heb]
    exact Blk.new wr [.int .u64 (f : Int), .int .u64 (od : Int)] 59)
  simp only [hwv]
  have Heb := hid heb
  clear hwv x1 x2 heb
  have HJv := hid (HJ.out.below HBv.out)
  have HEv := hid (HEr.out.below HBv.out)
  have HXv : Hid (∀ g, g < w7.heap.size → g ≠ mS → wv.heap[g]? = w7.heap[g]?) := hid (fun g' h1 h2 => by
    rw [HBv.out.block g' (by have := HZ.out; omega)]
    exact HX.out g' h1 h2)
  have HZv : Hid (w7.heap.size ≤ wv.heap.size) := hid (Nat.le_trans HZ.out HBv.out.size)
  clear HJ HEr HX HZ HBv
  obtain ⟨X, W, HTT, H0, hne, HC⟩ := class_below wv
  have y1 : ∀ y, (W y).cell? ⟨eb, 0, none⟩ = some (.int .u64 (f : Int)) := fun y => (HEb.out.below (HTT.out y)).cell 0
  have y2 : ∀ y, (W y).cell? ⟨eb, 1, none⟩ = some (.int .u64 (od : Int)) := fun y => (HEb.out.below (HTT.out y)).cell 1
  have y3 : ∀ y, (W y).cell? ⟨wB, 0, none⟩ = some (.pointer (some ⟨L4.hB, 0, none⟩)) := fun y => (HEv.out.lw.below (HTT.out y)).wm.cells.1
  have y4 : ∀ y, (Instr.lookup 45 (.map (some mS)) (.int .u64 (f : Int)) false).run Try.prog (W y) = .ok (.bool false) (W y) := fun y => by
    have := (HJv.out.below (HTT.out y)).bf.look f
    rw [show inB (((lgL B4).take j).map Prod.fst) f = false from decide_eq_false HFx.out.2] at this
    exact this
  have HAt : Hid (∀ y, Calls Try.prog 24 #[.slice (some ⟨sN, 0, none⟩) 32768 32768, .int .u64 (f : Int)] (W y) fun e w' => e = .returned (.int .u64 (od : Int)) ∧ w' = W y) := hid (fun y => by
    have h1 := HSl.out
    have := at_walk (HEv.out.below (HTT.out y)).sn (a := f) (s := s) h1.1.symm h1.2.2.2
    rw [← h1.2.1] at this
    exact this)
  have HLd : Hid (∀ y, Calls Try.prog 25 #[.pointer (some ⟨L4.hB, 0, none⟩), .int .u64 (f : Int)] (W y) fun e w' => e = .returned (.bool true) ∧ Below (W y).heap.size (W y) w') := hid (fun y => by
    have h1 := HSl.out
    have := logged_walk (HEv.out.lw.below (HTT.out y)).wm.bm.gm (a := f) (s := s) h1.1.symm h1.2.2.2
    rw [h1.2.2.1] at this
    exact this)
  have dd : (!((od : Int) == (od : Int))) = false := by simp
  have dd2 : ((od : Int) == (od : Int)) = true := by simp
  refine wp_region_class W (by kernel_rfl) (by kernel_rfl) H0.out ?_
  repeat (go_big_quiet_step (first
    | (go_at_call 24; exact Calls.class_same (HAt.out _))
    | (go_at_call 25; exact Calls.class_of HC.out (HLd.out _))))
  refine wpQuiet_nil ?_
  intro z
  have HBz := hid (HTT.out z)
  generalize W z = wz at HBz ⊢
  clear y1 y2 y3 y4 HAt HLd H0 HTT HC hne
  have HJz := hid (HJv.out.below HBz.out)
  have HEbz := hid (HEb.out.below HBz.out)
  have HXz : Hid (∀ g, g < w7.heap.size → g ≠ mS → wz.heap[g]? = w7.heap[g]?) := hid (fun g' h1 h2 => by
    rw [HBz.out.block g' (by have := HZv.out; omega)]
    exact HXv.out g' h1 h2)
  have HZz : Hid (w7.heap.size ≤ wz.heap.size) := hid (Nat.le_trans HZv.out HBz.out.size)
  clear HJv HEb HXv HZv HEv HBz
  have y1 : wz.cell? ⟨eb, 0, none⟩ = some (.int .u64 (f : Int)) := HEbz.out.cell 0
  obtain ⟨w9, hput, h9, hu9⟩ := HJz.out.put f
  have HJ9 : Hid (FsI w5 mS (inB (((lgL B4).take (j + 1)).map Prod.fst)) w9) := hid (by
    rw [inB_add] at h9
    rw [List.take_add_one, HFx.out.1, Option.toList_some, List.map_append]
    exact h9)
  have HX9 : Hid (∀ g, g < w7.heap.size → g ≠ mS → w9.heap[g]? = w7.heap[g]?) := hid (fun g' h1 h2 => by
    rw [hu9.block g' (by have := HZz.out; omega) h2]
    exact HXz.out g' h1 h2)
  have HZ9 : Hid (w7.heap.size ≤ w9.heap.size) := hid (Nat.le_trans HZz.out hu9.size)
  clear h9 hu9 HJz HXz HZz HEbz
  go_wp2
  exact ⟨⟨j + 1, by omega, by go_num, HJ9, HX9, HZ9⟩, by simp [intOf]; omega⟩
end Go.Proofs.Qxb6500888a
