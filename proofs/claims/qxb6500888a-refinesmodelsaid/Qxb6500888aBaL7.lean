/- The law CountsAreExact. -/
import Derived.Test.Qxb6500888aBaQ6
import Derived.Test.Qxb6500888aBaSb
import Derived.Test.Qxb6500888aBaT8
namespace Go.Proofs.Qxb6500888a
open Go.RowKit
set_option linter.unusedSimpArgs false
set_option linter.unusedVariables false
attribute [local irreducible] wdC

/-- Blocks of w5 other than mK are as they were. -/
structure BlX (mK : Nat) (w5 wr : World) : Prop where
  os : wr.os = w5.os
  tape : wr.tape = w5.tape
  output : wr.output = w5.output
  size : w5.heap.size ≤ wr.heap.size
  blk : ∀ g, g < w5.heap.size → g ≠ mK → wr.heap[g]? = w5.heap[g]?
section
variable {w0 w5 wr w' : World} {wB sN mK k : Nat} {ρ : Rl} {L : GL} {T : BL} {G : GS} {B : BS} {atp : Nat → Nat}
theorem BlX.of (h : Below w5.heap.size w5 wr) : BlX mK w5 wr := ⟨h.os, h.tape, h.output, h.size, fun g hg _ => h.block g hg⟩
theorem BlX.below (h : BlX mK w5 wr) (hb : Below wr.heap.size wr w') : BlX mK w5 w' := ⟨hb.os.trans h.os, hb.tape.trans h.tape, hb.output.trans h.output, Nat.le_trans h.size hb.size, fun g hg hne => (hb.block g (Nat.lt_of_lt_of_le hg h.size)).trans (h.blk g hg hne)⟩
theorem BlX.upd (h : BlX mK w5 wr) {g : Nat} (hu : Upd g wr w') (hg : g = mK ∨ w5.heap.size ≤ g) : BlX mK w5 w' := ⟨hu.os.trans h.os, hu.tape.trans h.tape, hu.output.trans h.output, Nat.le_trans h.size hu.size, fun x hx hne => (hu.block x (Nat.lt_of_lt_of_le hx h.size) (by omega)).trans (h.blk x hx hne)⟩
theorem EfS.blx (h : EfS w0 wB sN k ρ L T G B atp w5) (hb : BlX mK w5 wr) (h0 : ρ mK = 0) (h1 : wB ≠ mK) (h2 : sN ≠ mK) (h3 : w0.heap.size ≤ mK) : EfS w0 wB sN k ρ L T G B atp wr := by
  have hf : Fr (fun c => c == 0) ρ w5 ρ wr := ⟨hb.os, hb.tape, hb.output, hb.size, fun _ _ => rfl, fun _ _ => rfl, fun g hg hx => hb.blk g hg (fun e => by subst e; rw [h0] at hx; cases hx)⟩
  refine ⟨⟨⟨h.lw.wm.bm.keep hf (fun c hc => ?_), h.lw.wm.wb.of (hb.blk _ h.lw.wm.wb.lt h1), h.lw.wm.w0⟩, h.lw.inv, ?_, h.lw.low⟩, h.sn.of (hb.blk _ h.sn.lt h2), h.s0, h.sb, h.lo⟩
  · have := of_decide_eq_true hc
    show (c == 0) = false
    simp
    omega
  · have h4 := h.lw.bel
    exact ⟨hb.os.trans h4.os, hb.tape.trans h4.tape, hb.output.trans h4.output, Nat.le_trans h4.size hb.size, fun g hg => (hb.blk g (Nat.lt_of_lt_of_le hg h4.size) (by omega)).trans (h4.block g hg)⟩
theorem RowX.neM {c m : Nat} {v : Value} {xs : List Nat} {f : Nat → Option Value} (h : RowX rtA w5 ρ c v xs) (hm : MF w5 m f) : ∀ g, v.ownBlock = some g → g ≠ m := fun g hg e => by
  subst e
  rcases h.own.2 with ⟨h1, _⟩ | ⟨g', cap, cur, h1, h2, h3, _⟩
  · rw [h1] at hg; cases hg
  · rw [h1] at hg
    cases hg
    have hb : Blk w5 g' rtA.t cur.toList := by
      unfold Blk
      rw [h3, Array.toArray_toList]
    exact hm.ne hb rfl
theorem RowX.blx {c : Nat} {v : Value} {xs : List Nat} {f : Nat → Option Value} (h : RowX rtA w5 ρ c v xs) (hm : MF w5 mK f) (hb : BlX mK w5 wr) : RowX rtA wr ρ c v xs := h.of1 (fun g hg => ⟨hb.blk g (h.olt hg) (h.neM hm g hg), rfl⟩)
end
/-- The sums under way. -/
structure CwI (w5 : World) (mB mW : Nat) (s : Nat → Bool) (c : Nat → Nat) (wr : World) : Prop where
  fs : FsI w5 mB s wr
  cn : Cn wr mW c
  lo : mB < mW
section
variable {w5 wr w' : World} {mB mW : Nat} {s : Nat → Bool} {c : Nat → Nat}
theorem CwI.below (h : CwI w5 mB mW s c wr) (hb : Below wr.heap.size wr w') : CwI w5 mB mW s c w' := ⟨h.fs.below hb, h.cn.of (hb.block mW h.cn.lt), h.lo⟩
theorem CwI.upd (h : CwI w5 mB mW s c wr) {g : Nat} (hu : Upd g wr w') (hg : mW < g) : CwI w5 mB mW s c w' := by
  have := h.lo
  have := h.fs.lo
  exact ⟨⟨MF.upd h.fs.bf hu (by omega), h.fs.bel.trans (hu.below (by omega) h.fs.bel.size), h.fs.lo⟩, h.cn.of (hu.block mW h.cn.lt (by omega)), h.lo⟩
theorem CwI.congr {d : Nat → Nat} (h : CwI w5 mB mW s c wr) (hd : ∀ y, d y = c y) : CwI w5 mB mW s d wr := ⟨h.fs, h.cn.congr hd, h.lo⟩
theorem CwI.put (h : CwI w5 mB mW s c wr) (k x : Nat) : ∃ w', (Instr.mapUpdate 71 (.map (some mW)) (.int .u64 (k : Int)) (.int .i64 (x : Int))).run Try.prog wr = .ok () w' ∧ CwI w5 mB mW s (fup c k x) w' ∧ Upd mW wr w' := by
  obtain ⟨w', h1, h2, h3⟩ := h.cn.put k x
  have := h.lo
  have := h.fs.lo
  exact ⟨w', h1, ⟨⟨MF.upd h.fs.bf h3 (by omega), h.fs.bel.trans (h3.below (by omega) h.fs.bel.size), h.fs.lo⟩, h2, h.lo⟩, h3⟩
end
/-- The last loop. -/
structure L6 (w5 : World) (mK mB mW mH r : Nat) (E : List Ent) (fr : Nat → Bool) (t : Nat → Nat) (Tk : List Nat) (S : Nat → Bool) (wr : World) : Prop where
  it : IT wr r mH E Tk
  bx : BlX mK w5 wr
  bk : BF wr mK S
  cn : Cn wr mW t
  fb : BF wr mB fr
/-- The law's whole state. -/
structure CtS (w0 : World) (wB sN mK k : Nat) (ρ : Rl) (L : GL) (T : BL) (G : GS) (B : BS) (atp : Nat → Nat) (S : Nat → Bool) (v : Value) (wr : World) : Prop where
  ef : EfS w0 wB sN k ρ L T G B atp wr
  la : RowX rtA wr ρ 0 v B.last
  bk : BF wr mK S
  k0 : ρ mK = 0
  k1 : wB ≠ mK
  k2 : sN ≠ mK
  k3 : w0.heap.size ≤ mK
theorem CtS.below {w0 w' : World} {wB sN mK k : Nat} {ρ : Rl} {L : GL} {T : BL} {G : GS} {B : BS} {atp : Nat → Nat} {S : Nat → Bool} {v : Value} {wr : World} (h : CtS w0 wB sN mK k ρ L T G B atp S v wr) (hb : Below wr.heap.size wr w') : CtS w0 wB sN mK k ρ L T G B atp S v w' := ⟨h.ef.below hb, h.la.below hb, MF.below h.bk hb, h.k0, h.k1, h.k2, h.k3⟩
def CtI (w0 : World) (wB sN mK k : Nat) (v : Value) (wr : World) : Prop := ∃ ρ L T G B atp Z S, CtS w0 wB sN mK k ρ L T G B atp S v wr ∧ CI G B atp Z ∧ StK G B atp [] S
set_option maxRecDepth 1000000 in
set_option maxHeartbeats 8000000 in
theorem exact_walk (a : Option Addr) (n c : Nat) (l : List OpP) (w : World) (hs : Script w a n c l) :
    Calls Try.prog 9 #[.slice a n c] w fun e w' => e = .returned (.bool true) ∧ Below w.heap.size w w' := by
  have HSm := hid (fun w => small_walk a n c w)
  have HS := hid hs
  have HNw := hid (fun w => newWorld_walk w)
  have HNs := hid (fun w => newSnapshot_walk w)
  clear hs
  by_cases hsm : n ≤ 65536
  rotate_left
  · as_aux_lemma =>
    rw [decide_eq_false hsm] at HSm
    go_enter Try.func9, Try.ntmps9
    go_wp2_with (go_at_call 13; refine (HSm.out _).mono ?_; rintro e w' ⟨rfl, rfl⟩)
    go_ret
    exact ⟨rfl, Below.refl _ _⟩
  rw [decide_eq_true hsm] at HSm
  go_enter Try.func9, Try.ntmps9
  go_wp2_with (go_at_call 13; refine (HSm.out _).mono ?_; rintro e w' ⟨rfl, rfl⟩)
  refine (HNw.out _).mono ?_
  rintro e w1 ⟨wB, ρ1, L1, T1, rfl, hW1, hl1, hb1, hwB⟩
  have HL1 : Hid (LW w' wB 0 ρ1 L1 T1 G0 B0 w1) := hid ⟨hW1, InvM.zero, hb1, hl1⟩
  have HwB := hid hwB
  clear hW1 hl1 hb1 HNw HSm hwB
  go_wp2_with fail
  refine (HNs.out _).mono ?_
  rintro e w2 ⟨rfl, hsn, hb2⟩
  obtain ⟨sN, hsN⟩ : ∃ x, w1.heap.size = x := ⟨_, rfl⟩
  have HE2 : Hid (EfS w' wB sN 0 ρ1 L1 T1 G0 B0 (fun _ => 0) w2) := hid (by
    rw [hsN] at hsn
    refine ⟨HL1.out.below hb2, hsn, HL1.out.new0 (by omega), ?_, ?_⟩
    · have := HL1.out.wm.wb.lt; omega
    · have := HL1.out.bel.size; omega)
  rw [hsN]
  clear HNs hsn hb2 hsN HL1
  have hmk := @run_makeMap Try.prog
  obtain ⟨mK, hmK⟩ : ∃ x, w2.heap.size = x := ⟨_, rfl⟩
  have HLI : Hid (CtI w' wB sN mK 0 (.slice none 0 0) (w2.alloc (.map #[] 0))) := hid (by
    refine ⟨ρ1, L1, T1, G0, B0, fun _ => 0, _, fun _ => false, ⟨HE2.out.below (nbel w2 _), RowX.nil _ _ _ _, (BF.new w2 hmK).congr (fun a => rfl), HE2.out.lw.new0 (by omega), ?_, ?_, ?_⟩, CI.zero _, ⟨fun x hx => (by cases hx), fun x hx => (by cases hx), fun x _ hx => (by cases hx)⟩⟩
    · have := HE2.out.lw.wm.wb.lt; omega
    · have := HE2.out.sn.lt; omega
    · have := HE2.out.lw.bel.size; omega)
  go_upto_region 6 with fail
  try simp only [hmK]
  generalize w2.alloc (.map #[] 0) = w3 at HLI ⊢
  clear hmk hmK HE2
  go_wp2_with fail
  go_loopw [29, 5] (fun v s wr => ∃ i : Nat, i ≤ n ∧ v = .int .i64 (i : Int) ∧ ∃ a4 n4 c4, s = .slice a4 n4 c4 ∧ Hid (CtI w' wB sN mK i (.slice a4 n4 c4) wr)) (fun v _ _ => n - (intOf v).toNat)
  case atStart => exact ⟨0, by omega, rfl, none, 0, 0, rfl, HLI⟩
  case round =>
  clear HLI
  obtain ⟨i, hi, rfl, a4, n4, c4, rfl, HLI⟩ := hrel
  obtain ⟨ρ, L, T, G, B, atp, Z, S, hE, hci, hst⟩ := HLI.out
  have HE := hid hE
  have Hci := hid hci
  have Hst := hid hst
  clear hE hci hst HLI
  by_cases hin : i < n
  rotate_left
  · as_aux_lemma =>
    have di : decide ((i : Int) < (n : Int)) = false := decide_eq_false (by omega)
    go_wp2
    go_ret
    exact ⟨rfl, HE.out.ef.lw.bel⟩
  have di : decide ((i : Int) < (n : Int)) = true := decide_eq_true (by omega)
  have hii : (i : Int) < (n : Int) := by omega
  obtain ⟨o, ho, hok, b, off, rfl, hb, c0, c1, c2, c3, c4'⟩ := (HS.out.below HE.out.ef.lw.bel).at hin
  have HOk := hid hok
  clear ho hok
  obtain ⟨ob, hob⟩ : ∃ p, wr.heap.size = p := ⟨_, rfl⟩
  go_upto_region 9 with fail
  obtain ⟨w4, hw4⟩ : ∃ w2, wr.alloc (.cells #[.int .u8 (o.kind : Int), .int .u8 (o.m : Int), .int .u64 (o.a : Int), .int .u64 (o.b : Int), .int .u64 (o.c : Int)] 31) = w2 := ⟨_, rfl⟩
  have HW4 : Hid (CtS w' wB sN mK i ρ L T G B atp S (.slice a4 n4 c4) w4 ∧ Blk w4 ob 31 (opC o) ∧ ρ ob = 0) := hid (by
    rw [← hw4]
    have hbk := Blk.new wr (opC o) 31
    rw [hob] at hbk
    exact ⟨HE.out.below (nbel wr _), hbk, HE.out.ef.lw.new0 (by omega)⟩)
  simp only [hw4]
  clear hw4 hob c0 c1 c2 c3 c4' HE
  have HAR := hid (allRoots_walk HW4.out.1.ef.lw.wm)
  go_wp2_with fail
  refine HAR.out.mono ?_
  rintro e w5 ⟨v5, rfl, h5, hb5⟩
  have HW5 : Hid (CtS w' wB sN mK i ρ L T G B atp S (.slice a4 n4 c4) w5 ∧ Blk w5 ob 31 (opC o) ∧ ρ ob = 0 ∧ RowX rtA w5 ρ 0 v5 (rootsK B 4)) := hid ⟨HW4.out.1.below hb5, HW4.out.2.1.below hb5, HW4.out.2.2, h5.rx0 (fun g hg => HW4.out.1.ef.lw.new0 hg)⟩
  have HN5 : Hid (∀ g, v5.ownBlock = some g → g ≠ sN) := hid (fun g hg e => by
    have h1 := h5.hi g hg
    have h2 := HW4.out.1.ef.sn.lt
    omega)
  clear HAR h5 hb5 HW4
  obtain ⟨a5, q5, e5, r5, _, _⟩ := HW5.out.2.2.2.rdA
  subst e5
  clear r5
  have I1 : Hid ((Try.prog.info? 31).map (·.size) = some 5) := hid info_op
  go_wp2_with (refine wpList_load_blk rfl 31 _ rfl ob rfl (opC o) HW5.out.2.1 _ Try.underlying31 rfl I1.out ?_)
  refine (HW5.out.1.ef.lw.play (by omega) o HOk.out).mono ?_
  rintro e w6 ⟨V, ρ4, L4, T4, rfl, h4⟩
  have HE6 : Hid (EfS w' wB sN (i + 1) ρ4 L4 T4 (playS G B o).2.2.1 (playS G B o).2.2.2 atp w6 ∧ Blk w6 ob 31 (opC o) ∧ RowX rtA w6 ρ4 0 (.slice a4 n4 c4) B.last ∧ RowX rtA w6 ρ4 0 (.slice a5 (rootsK B 4).length q5) (rootsK B 4) ∧ BF w6 mK S ∧ ρ4 mK = 0) := hid ⟨⟨h4.lw, h4.fr.keep HW5.out.1.ef.sn HW5.out.1.ef.s0 rfl, by rw [h4.fr.old _ HW5.out.1.ef.sn.lt]; exact HW5.out.1.ef.s0, HW5.out.1.ef.sb, HW5.out.1.ef.lo⟩, h4.fr.keep HW5.out.2.1 HW5.out.2.2.1 rfl, HW5.out.1.la.fr h4.fr rfl, HW5.out.2.2.2.fr h4.fr rfl, MF.of HW5.out.1.bk (h4.fr.blk mK (MF.lt HW5.out.1.bk) (by rw [HW5.out.1.k0]; rfl)), by rw [h4.fr.old _ (MF.lt HW5.out.1.bk)]; exact HW5.out.1.k0⟩
  have HKs : Hid (wB ≠ mK ∧ sN ≠ mK ∧ w'.heap.size ≤ mK) := hid ⟨HW5.out.1.k1, HW5.out.1.k2, HW5.out.1.k3⟩
  have HInv := hid HW5.out.1.ef.lw.inv
  clear h4 HW5
  obtain ⟨Z4, hci4⟩ := Hci.out.play HInv.out (by omega) o
  have HSt4 := hid (fun (Tx : List Nat) hT => Hst.out.play HInv.out (by omega) Hci.out o (T := Tx) hT)
  have HLa : Hid ((o.kind = 7 → (playS G B o).2.2.2.last = rootsK B 4) ∧ (o.kind ≠ 7 → (playS G B o).2.2.2.last = B.last)) := hid ⟨fun h7 => by
    obtain ⟨I, hI1, hI2⟩ := pause_facts HInv.out Hci.out
    rw [playS_7 h7]
    exact hI2.bq, fun h7 => (play_calls HInv.out h7).2⟩
  generalize (playS G B o).2.2.1 = G4 at HE6 hci4 HSt4
  generalize (playS G B o).2.2.2 = B4 at HE6 hci4 HSt4 HLa
  obtain ⟨rr, hrr⟩ : ∃ x, (rzH (playS G B o).1.1 (playS G B o).1.2 V).toArray = x := ⟨_, rfl⟩
  rw [hrr]
  obtain ⟨atp4, hatp⟩ : ∃ x, (if o.kind = 7 then G4.word else atp) = x := ⟨_, rfl⟩
  rw [hatp] at hci4 HSt4
  have Hatp := hid hatp
  have Hci4 := hid hci4
  obtain ⟨n5, hn5⟩ : ∃ x, (rootsK B 4).length = x := ⟨_, rfl⟩
  rw [hn5] at HE6 HN5
  rw [hn5]
  clear hrr hci4 Hci Hst I1 HOk hatp HInv hn5
  have ck : w6.cell? ⟨ob, 0, none⟩ = some (.int .u8 (o.kind : Int)) := HE6.out.2.1.cell 0
  obtain ⟨B7, hB7⟩ : ∃ b, ((o.kind : Int) == 7) = b := ⟨_, rfl⟩
  have HB7 := hid hB7
  go_upto_if 40 with fail
  clear hB7 ck
  go_cut [5] from 41 to 47 (fun v wc => ∃ a6 n6 c6, v = .slice a6 n6 c6 ∧ Hid (CtS w' wB sN mK (i + 1) ρ4 L4 T4 G4 B4 atp4 S (.slice a6 n6 c6) wc))
  case first =>
    as_aux_lemma =>
    cases B7 with
    | false =>
      have h7 : o.kind ≠ 7 := by have := HB7.out; simp at this; omega
      have HF : Hid (CtS w' wB sN mK (i + 1) ρ4 L4 T4 G4 B4 atp4 S (.slice a4 n4 c4) w6) := hid (by
        have := Hatp.out
        rw [if_neg h7] at this
        rw [← this]
        exact ⟨HE6.out.1, by rw [HLa.out.2 h7]; exact HE6.out.2.2.1, HE6.out.2.2.2.2.1, HE6.out.2.2.2.2.2, HKs.out.1, HKs.out.2.1, HKs.out.2.2⟩)
      clear HE6 h7
      go_wp2
      go_meet
      case rel => exact ⟨_, _, _, rfl, HF⟩
    | true =>
      have h7 : o.kind = 7 := by have := HB7.out; simp at this; omega
      have c1 := HE6.out.1.lw.wm.cells.1
      have HTk := hid (take_walk HE6.out.1.lw.wm.bm.gm HE6.out.1.sn)
      have H7 := hid h7
      clear h7
      go_wp2_with fail
      refine HTk.out.mono ?_
      rintro e w7 ⟨rfl, hs7, hu7⟩
      have HF : Hid (CtS w' wB sN mK (i + 1) ρ4 L4 T4 G4 B4 atp4 S (.slice a5 n5 q5) w7) := hid (by
        have := Hatp.out
        rw [if_pos H7.out] at this
        rw [← this]
        have hro := HE6.out.2.2.2.1
        refine ⟨HE6.out.1.take hu7 hs7, ?_, MF.upd HE6.out.2.2.2.2.1 hu7 (fun e => HKs.out.2.1 e.symm), HE6.out.2.2.2.2.2, HKs.out.1, HKs.out.2.1, HKs.out.2.2⟩
        rw [HLa.out.1 H7.out]
        exact hro.of1 (fun g hg => ⟨hu7.block g (hro.olt hg) (HN5.out g hg), rfl⟩))
      clear HE6 HTk hs7 hu7 c1
      go_wp2
      go_meet
      case rel => exact ⟨_, _, _, rfl, HF⟩
  case rest =>
  obtain ⟨a6, n6, c6, rfl, HCt0⟩ := hcut
  obtain ⟨w5', hw5'⟩ : ∃ x, wc = x := ⟨_, rfl⟩
  rw [hw5'] at HCt0 ⊢
  have HCt := hid HCt0.out
  clear hw5' HE6 Hatp HB7 HLa HN5 HCt0 HKs
  as_aux_lemma =>
  have HFr := hid (allFresh_walk HCt.out.ef.lw.wm (fun m => by have := HCt.out.ef.lw.inv.bo.nf m; omega))
  go_wp2_with fail
  refine HFr.out.mono ?_
  rintro e wf ⟨mB, rfl, hfs⟩
  have HFs := hid hfs
  clear hfs HFr
  have hmk := @run_makeMap Try.prog
  obtain ⟨mW, hmW⟩ : ∃ x, wf.heap.size = x := ⟨_, rfl⟩
  have HC0 : Hid (CwI w5' mB mW (inB (frK B4 4)) (fun y => vFn G4 B4 atp4 [] y) (wf.alloc (.map #[] 0))) := hid ⟨HFs.out.below (nbel wf _), (Cn.new wf hmW).congr (fun a => rfl), by have := MF.lt HFs.out.bf; omega⟩
  go_upto_region 16 with fail
  try simp only [hmW]
  generalize wf.alloc (.map #[] 0) = wg at HC0 ⊢
  clear hmk hmW HFs
  have HWg := hid (HCt.out.below HC0.out.fs.bel)
  have c0 := HWg.out.ef.lw.wm.cells.1
  have ch := HWg.out.ef.lw.wm.bm.gm.hcells.1
  obtain ⟨E, hE1, hE2, hE3⟩ := HWg.out.ef.lw.wm.bm.gm.mh rfl
  have HPn := hid hE1
  have HEn := hid hE2
  have HEa : Hid (∀ x, (G4.head x).isSome = true → x ∈ E.map (·.k)) := hid (fun x hx => by
    obtain ⟨p, hp⟩ := Option.isSome_iff_exists.1 hx
    obtain ⟨e, he, hek⟩ := hE3 x (shV p) (by unfold hdF; rw [hp]; rfl)
    exact List.mem_map.2 ⟨e, he, hek⟩)
  have HPn5 : Hid (PN w5' L4.mH E ∧ L4.mH < w5'.heap.size) := hid (by
    have hlt := MF.lt (HCt.out.ef.lw.wm.bm.gm.mh rfl)
    exact ⟨HPn.out.of (HC0.out.fs.bel.block _ hlt).symm, hlt⟩)
  clear hE1 hE2 hE3
  obtain ⟨r, hr⟩ : ∃ x, wg.heap.size = x := ⟨_, rfl⟩
  go_wp2_with (at_range; refine wpList_range_pn rfl (.tmp 57) 63 rfl Try.underlying63 L4.mH E rfl HPn.out ?_; intro w2 hit2 hbe2 hsz2)
  go_frame
  have HI2 : Hid (HdI w5' L4.mH E r (E.map (·.k)) w2 ∧ CwI w5' mB mW (inB (frK B4 4)) (fun y => vFn G4 B4 atp4 [] y) w2 ∧ mW < r) := hid ⟨⟨by rw [← hr]; exact hit2, HC0.out.fs.bel.trans (hbe2.mono HC0.out.fs.bel.size), by have := HC0.out.fs.bel.size; omega, HPn5.out.2⟩, HC0.out.below hbe2, by have := HC0.out.cn.lt; omega⟩
  have HVi : Hid (Vis G4 (E.map (·.k)) []) := hid ⟨List.nodup_nil, fun x hx => (by cases hx), fun x hx => (by cases hx), fun x hx => .inr (HEa.out x hx)⟩
  simp only [hr]
  clear hit2 hbe2 hsz2 c0 ch hr HWg HC0 HPn
  go_loopw [] (fun wr => ∃ Tk V, Hid (HdI w5' L4.mH E r Tk wr ∧ CwI w5' mB mW (inB (frK B4 4)) (fun y => vFn G4 B4 atp4 V y) wr ∧ mW < r) ∧ Hid (Vis G4 Tk V)) (fun wr => World.rangeLeft wr L4.mH r)
  case atStart => exact ⟨_, _, HI2, HVi⟩
  case round =>
  clear HI2 HVi
  obtain ⟨Tk, Vl, HI, HVi⟩ := hrel
  have Hpn : Hid (PN wr L4.mH E) := hid (HPn5.out.1.below HI.out.1.bel)
  go_upto_region 17 with fail
  refine wp_region_lit ?_
  refine wpList_next_pn rfl (.tmp 58) rfl r L4.mH E Tk rfl Hpn.out HI.out.1.it ?_ ?_
  rotate_left
  · intro e w3 he heT hpn3 hit3 hu3 hsz3 hent
    obtain ⟨n, q, hhd, hev⟩ := hd_ent (HEn.out e he)
    have HI3 : Hid (HdI w5' L4.mH E r (Tk.filter fun k => decide (k ≠ e.k)) w3 ∧ CwI w5' mB mW (inB (frK B4 4)) (fun y => vFn G4 B4 atp4 Vl y) w3 ∧ mW < r) := hid ⟨⟨hit3, HI.out.1.bel.trans (hu3.below HI.out.1.lo HI.out.1.bel.size), HI.out.1.lo, HI.out.1.ml⟩, HI.out.2.1.upd hu3 HI.out.2.2, HI.out.2.2⟩
    have HMs : Hid (∀ w', HdI w5' L4.mH E r (Tk.filter fun k => decide (k ≠ e.k)) w' → World.rangeLeft w' L4.mH r < World.rangeLeft wr L4.mH r) := hid (fun w' h' => HI.out.1.ms he heT h')
    have HV3 : Hid (Vis G4 (Tk.filter fun k => decide (k ≠ e.k)) (Vl ++ [e.k])) := hid (HVi.out.visit (by rw [hhd]; rfl) heT)
    rw [hev] at hent
    rw [hev]
    obtain ⟨x, hx⟩ : ∃ x, e.k = x := ⟨_, rfl⟩
    rw [hx] at hent hhd HI3 HMs HV3
    rw [hx]
    have Hhd := hid hhd
    have hin := Hci4.out.ok.hd x n q hhd
    have Hin := hid hin
    have HVl : Hid (Vl.length ≤ 32768) := hid (seen_len HVi.out.nd (fun y hy => Hci4.out.ok.head_in (HVi.out.st y hy)))
    have HVb : Hid (∀ y, vFn G4 B4 atp4 Vl y ≤ Vl.length * 8192) := hid (fun y => vFn_le Hci4.out.ok HVi.out.st y)
    have I0 : Hid ((Try.prog.info? 73).map (·.size) = some 2) := hid info_sh
    have HOne : Hid (∀ u ∈ [(.int .i64 (n : Int) : Value), .int .i64 (q : Int)], u.oneCell' = true) := hid (fun u hu => by
      simp only [List.mem_cons, List.not_mem_nil, or_false] at hu
      rcases hu with rfl | rfl <;> rfl)
    obtain ⟨sB, hsB⟩ : ∃ x, w3.heap.size = x := ⟨_, rfl⟩
    have hbz := Blk.new w3 [.int .i64 0, .int .i64 0] 73
    rw [hsB] at hbz
    have HZ := hid hbz
    clear he heT hpn3 hit3 hu3 hsz3 hhd hev hx hin hbz HI Hpn HVi
    as_aux_lemma =>
    go_frame
    go_upto_region 19 with (refine wpList_store_blk rfl 73 _ _ rfl sB rfl [.int .i64 (n : Int), .int .i64 (q : Int)] rfl HZ.out rfl I0.out HOne.out ?_; intro w9 HB9 HU9)
    have HD9 : Hid (HdI w5' L4.mH E r (Tk.filter fun k => decide (k ≠ x)) w9 ∧ CwI w5' mB mW (inB (frK B4 4)) (fun y => vFn G4 B4 atp4 Vl y) w9 ∧ Blk w9 sB 73 [.int .i64 (n : Int), .int .i64 (q : Int)]) := hid (by
      have h1 := nbel w3 (.cells #[.int .i64 0, .int .i64 0] 73)
      have h2 := HU9.out.below (B := w3.heap.size) (by omega) h1.size
      exact ⟨HI3.out.1.below (h1.trans h2), HI3.out.2.1.below (h1.trans h2), HB9.out⟩)
    have HRW : Hid (mW < r ∧ mW < sB ∧ r < sB) := hid (by
      have h1 := HI3.out.2.1.cn.lt
      have h2 := HI3.out.1.it.lt
      exact ⟨HI3.out.2.2, by omega, by omega⟩)
    clear HB9 HU9 HZ HI3 hsB HOne I0 hent
    have hl := HD9.out.2.1.fs.bf.look x
    by_cases hfx : x ∈ frL B4
    · as_aux_lemma =>
      rw [show inB (frK B4 4) x = true from decide_eq_true hfx] at hl
      have HE9 : Hid (CwI w5' mB mW (inB (frK B4 4)) (fun y => vFn G4 B4 atp4 (Vl ++ [x]) y) w9) := hid (HD9.out.2.1.congr (fun y => vFn_new (by unfold oldB; simp [hfx]) y))
      go_wp2
      exact ⟨⟨_, _, hid ⟨HD9.out.1, HE9.out, HRW.out.1⟩, HV3⟩, HMs.out _ HD9.out.1⟩
    rw [show inB (frK B4 4) x = false from decide_eq_false hfx] at hl
    have Hold : Hid (oldB G4 B4 x = true) := hid (oldB_t.2 ⟨by rw [Hhd.out]; rfl, hfx⟩)
    have HD10 : Hid (HdI w5' L4.mH E r (Tk.filter fun k => decide (k ≠ x)) w9 ∧ CwI w5' mB mW (inB (frK B4 4)) (fun y => vFn G4 B4 atp4 Vl y + slK atp4 x 0 y) w9 ∧ Blk w9 sB 73 [.int .i64 (n : Int), .int .i64 (q : Int)]) := hid HD9.out
    clear hfx HD9
    go_upto_region 20 with fail
    clear hl
    go_wp2_with fail
    go_loopw [14] (fun v wr => ∃ j : Nat, j ≤ q ∧ v = .int .i64 (j : Int) ∧ Hid (HdI w5' L4.mH E r (Tk.filter fun k => decide (k ≠ x)) wr ∧ CwI w5' mB mW (inB (frK B4 4)) (fun y => vFn G4 B4 atp4 Vl y + slK atp4 x j y) wr ∧ Blk wr sB 73 [.int .i64 (n : Int), .int .i64 (q : Int)])) (fun v _ => q - (intOf v).toNat)
    case atStart => exact ⟨0, by omega, rfl, HD10⟩
    case round =>
    clear HD10
    obtain ⟨j, hj, rfl, HD⟩ := hrel
    have cn : wr.cell? ⟨sB, 1, none⟩ = some (.int .i64 (q : Int)) := HD.out.2.2.cell 1
    by_cases hjn : j < q
    rotate_left
    · as_aux_lemma =>
      have dj : decide ((j : Int) < (q : Int)) = false := decide_eq_false (by omega)
      have HE9 : Hid (CwI w5' mB mW (inB (frK B4 4)) (fun y => vFn G4 B4 atp4 (Vl ++ [x]) y) wr) := hid (HD.out.2.1.congr (fun y => by
        rw [vFn_old Hold.out, ← slK_all Hhd.out, show q = j by omega]))
      go_wp2
      exact ⟨⟨_, _, hid ⟨HD.out.1, HE9.out, HRW.out.1⟩, HV3⟩, HMs.out _ HD.out.1⟩
    as_aux_lemma =>
    have dj : decide ((j : Int) < (q : Int)) = true := decide_eq_true (by omega)
    have ij : (j : Int) < (q : Int) := by omega
    have iq : (q : Int) ≤ 8192 := by have := Hin.out; omega
    obtain ⟨s, hs⟩ : ∃ s, offA x = s := ⟨_, rfl⟩
    have hin := Hin.out
    have hsp := offA_in hin.1
    rw [hs] at hsp hin
    obtain ⟨fa, hfa⟩ : ∃ fa, x + 1 + j = fa := ⟨_, rfl⟩
    have hfs : 65536 + (s + 1 + j) = fa := by omega
    have HFA : Hid (∀ w, Calls Try.prog 35 #[.int .u64 (x : Int), .int .i64 (j : Int)] w fun e w' => e = .returned (.int .u64 (fa : Int)) ∧ w' = w) := hid (fun w => field_walk hfa (by omega) (by omega) w)
    have HS2 := hid (at_walk (HCt.out.ef.below HD.out.1.bel).sn hfs (by omega))
    obtain ⟨av, hav⟩ : ∃ av, atp4 (s + 1 + j) = av := ⟨_, rfl⟩
    rw [hav] at HS2
    have hlk := HD.out.2.1.cn.look av
    obtain ⟨cv, hcv⟩ : ∃ cv, vFn G4 B4 atp4 Vl av + slK atp4 x j av = cv := ⟨_, rfl⟩
    rw [hcv] at hlk
    have icv : (cv : Int) ≤ 1000000000 := by
      have h1 := HVb.out av
      have h2 := slK_le (atp := atp4) x j av
      have h3 := HVl.out
      have h4 : Vl.length * 8192 ≤ 32768 * 8192 := Nat.mul_le_mul_right _ h3
      omega
    obtain ⟨w8, hput, h8, hu8⟩ := HD.out.2.1.put av (cv + 1)
    have hput' : (Instr.mapUpdate 71 (.map (some mW)) (.int .u64 (av : Int)) (.int .i64 ((cv : Int) + 1))).run Try.prog wr = .ok () w8 := hput
    have HD8 : Hid (HdI w5' L4.mH E r (Tk.filter fun k => decide (k ≠ x)) w8 ∧ CwI w5' mB mW (inB (frK B4 4)) (fun y => vFn G4 B4 atp4 Vl y + slK atp4 x (j + 1) y) w8 ∧ Blk w8 sB 73 [.int .i64 (n : Int), .int .i64 (q : Int)]) := hid (by
      have h1 := HRW.out
      refine ⟨HD.out.1.upd hu8 (by have := HD.out.2.1.lo; have := HD.out.2.1.fs.lo; omega) (by omega), h8.congr (fun y => ?_), HD.out.2.2.of (hu8.block sB HD.out.2.2.lt (by omega))⟩
      rw [slK_s, hs, hav]
      by_cases e : y = av
      · subst e; rw [fup_self, if_pos rfl, ← hcv]; omega
      · rw [fup_ne _ _ e, if_neg e]; rfl)
    clear hput h8 hu8 hcv hav hfs hsp hs hin hfa
    go_wp2_with fail
    refine (HFA.out _).mono ?_
    rintro e w5 ⟨rfl, rfl⟩
    go_wp2_with fail
    refine HS2.out.mono ?_
    rintro e w6 ⟨rfl, rfl⟩
    clear HFA HS2 HD cn
    go_wp2
    exact ⟨⟨j + 1, by omega, by go_num, HD8⟩, by simp [intOf]; omega⟩
  intro hT
  subst hT
  obtain ⟨a6', q6', e6, r6, _, _⟩ := HCt.out.la.rdA
  injection e6 with e61 e62 e63
  subst e61 e63
  rw [← e62] at r6
  have HR6 := hid r6
  have HN6 := hid e62
  have i6 : (n6 : Int) ≤ 256 := by have := HCt.out.ef.lw.inv.bo.na; omega
  have HFb : Hid (∀ y, Fn G4 B4 atp4 y ≤ 300000000) := hid (fun y => by
    have h1 := vFn_le (B := B4) (atp := atp4) Hci4.out.ok HVi.out.st y
    rw [HVi.out.all Hci4.out] at h1
    have h3 := seen_len HVi.out.nd (fun y hy => Hci4.out.ok.head_in (HVi.out.st y hy))
    have h4 : Vl.length * 8192 ≤ 32768 * 8192 := Nat.mul_le_mul_right _ h3
    omega)
  have HC1 : Hid (CwI w5' mB mW (inB (frK B4 4)) (fun y => Fn G4 B4 atp4 y + (B4.last.take 0).count y) wr) := hid (HI.out.2.1.congr (fun y => by
    rw [HVi.out.all Hci4.out, List.take_zero]
    rfl))
  clear HI HVi Hpn r6 e62 HEa HEn HPn5
  as_aux_lemma =>
  go_frame
  go_wp2_with fail
  go_loopw [83] (fun v wr => ∃ j : Nat, j ≤ n6 ∧ v = .int .i64 (j : Int) ∧ Hid (CwI w5' mB mW (inB (frK B4 4)) (fun y => Fn G4 B4 atp4 y + (B4.last.take j).count y) wr)) (fun v _ => n6 - (intOf v).toNat)
  case atStart => exact ⟨0, by omega, rfl, HC1⟩
  case round =>
  clear HC1
  obtain ⟨j, hj, rfl, HC⟩ := hrel
  by_cases hjn : j < n6
  · as_aux_lemma =>
    have dj : decide ((j : Int) < (n6 : Int)) = true := decide_eq_true (by omega)
    have hij : (j : Int) < (n6 : Int) := by omega
    obtain ⟨x, hx⟩ : ∃ x, B4.last[j]? = some x := ⟨B4.last[j]'(by rw [← HN6.out]; exact hjn), List.getElem?_eq_getElem _⟩
    obtain ⟨g, off2, rfl, hg, cx⟩ := (HR6.out.below HC.out.fs.bel).at_ j x hx
    have hlk := HC.out.cn.look x
    obtain ⟨cv, hcv⟩ : ∃ cv, Fn G4 B4 atp4 x + (B4.last.take j).count x = cv := ⟨_, rfl⟩
    rw [hcv] at hlk
    have icv : (cv : Int) ≤ 1000000000 := by
      have h1 := HFb.out x
      have h2 := count_le_len B4.last j x
      have h3 := HN6.out
      omega
    obtain ⟨w8, hput, h8, hu8⟩ := HC.out.put x (cv + 1)
    have hput' : (Instr.mapUpdate 71 (.map (some mW)) (.int .u64 (x : Int)) (.int .i64 ((cv : Int) + 1))).run Try.prog wr = .ok () w8 := hput
    have HC8 : Hid (CwI w5' mB mW (inB (frK B4 4)) (fun y => Fn G4 B4 atp4 y + (B4.last.take (j + 1)).count y) w8) := hid (h8.congr (fun y => by
      rw [count_take hx]
      by_cases e : y = x
      · subst e; rw [fup_self, fup_self, ← hcv]; omega
      · rw [fup_ne _ _ e, fup_ne _ _ e]))
    clear hput h8 hu8 hcv hx hg HC
    go_wp2
    exact ⟨⟨j + 1, by omega, by go_num, HC8⟩, by simp [intOf]; omega⟩
  have dj : decide ((j : Int) < (n6 : Int)) = false := decide_eq_false (by omega)
  have HC2 : Hid (CwI w5' mB mW (inB (frK B4 4)) (fun y => Fn G4 B4 atp4 y + B4.last.count y) wr) := hid (HC.out.congr (fun y => by
    rw [List.take_of_length_le (by rw [← HN6.out]; omega)]))
  have HLb : Hid (∀ y, B4.last.count y ≤ 256) := hid (fun y => Nat.le_trans List.count_le_length HCt.out.ef.lw.inv.bo.na)
  clear HC
  as_aux_lemma =>
  have HWg := hid (HCt.out.below HC2.out.fs.bel)
  have c2 := HWg.out.ef.lw.wm.cells.2.2.1
  have cp := HWg.out.ef.lw.wm.bm.gm.ccells.2.2.2.1
  obtain ⟨E, hE1, hE2, hE3⟩ := HWg.out.ef.lw.wm.bm.gm.mp rfl
  have HPn := hid hE1
  have HEn : Hid (∀ e ∈ E, G4.pend e.k ≠ 0 ∧ e.v = .int .i64 (G4.pend e.k : Int)) := hid (fun e he => by
    have := hE2 e he
    unfold ctF at this
    by_cases h0 : G4.pend e.k = 0
    · rw [if_pos h0] at this; cases this
    · rw [if_neg h0] at this; exact ⟨h0, (Option.some.inj this).symm⟩)
  have HEa : Hid (∀ y, y ∉ E.map (·.k) → G4.pend y = 0) := hid (fun y hy => by
    apply Classical.byContradiction
    intro h0
    obtain ⟨e, he, hek⟩ := hE3 y (.int .i64 (G4.pend y : Int)) (by unfold ctF; rw [if_neg h0])
    exact hy (List.mem_map.2 ⟨e, he, hek⟩))
  have HPn5 : Hid (PN w5' L4.mP E ∧ L4.mP < w5'.heap.size) := hid (by
    have hlt := MF.lt (HCt.out.ef.lw.wm.bm.gm.mp rfl)
    exact ⟨HPn.out.of (HC2.out.fs.bel.block _ hlt).symm, hlt⟩)
  clear hE1 hE2 hE3
  obtain ⟨r2, hr⟩ : ∃ x, wr.heap.size = x := ⟨_, rfl⟩
  go_wp2_with (at_range; refine wpList_range_pn rfl (.tmp 98) 71 rfl Try.underlying71 L4.mP E rfl HPn.out ?_; intro w2 hit2 hbe2 hsz2)
  go_frame
  have HI2 : Hid (HdI w5' L4.mP E r2 (E.map (·.k)) w2 ∧ CwI w5' mB mW (inB (frK B4 4)) (fun y => Fn G4 B4 atp4 y + B4.last.count y + (if y ∈ E.map (·.k) then 0 else G4.pend y)) w2 ∧ mW < r2) := hid ⟨⟨by rw [← hr]; exact hit2, HC2.out.fs.bel.trans (hbe2.mono HC2.out.fs.bel.size), by have := HC2.out.fs.bel.size; omega, HPn5.out.2⟩, (HC2.out.below hbe2).congr (fun y => by
    by_cases e : y ∈ E.map (·.k)
    · rw [if_pos e]; rfl
    · rw [if_neg e, HEa.out y e]; rfl), by have := HC2.out.cn.lt; omega⟩
  simp only [hr]
  clear hit2 hbe2 hsz2 c2 cp hr HWg HC2 HPn dj
  go_loopw [] (fun wr => ∃ Tk, Hid (HdI w5' L4.mP E r2 Tk wr ∧ CwI w5' mB mW (inB (frK B4 4)) (fun y => Fn G4 B4 atp4 y + B4.last.count y + (if y ∈ Tk then 0 else G4.pend y)) wr ∧ mW < r2)) (fun wr => World.rangeLeft wr L4.mP r2)
  case atStart => exact ⟨_, HI2⟩
  case round =>
  clear HI2
  obtain ⟨Tk, HI⟩ := hrel
  have Hpn : Hid (PN wr L4.mP E) := hid (HPn5.out.1.below HI.out.1.bel)
  go_upto_region 30 with fail
  refine wp_region_lit ?_
  refine wpList_next_pn rfl (.tmp 99) rfl r2 L4.mP E Tk rfl Hpn.out HI.out.1.it ?_ ?_
  rotate_left
  · intro e w3 he heT hpn3 hit3 hu3 hsz3 hent
    obtain ⟨hp0, hev⟩ := HEn.out e he
    have HI3 : Hid (HdI w5' L4.mP E r2 (Tk.filter fun k => decide (k ≠ e.k)) w3 ∧ CwI w5' mB mW (inB (frK B4 4)) (fun y => Fn G4 B4 atp4 y + B4.last.count y + (if y ∈ Tk then 0 else G4.pend y)) w3 ∧ mW < r2) := hid ⟨⟨hit3, HI.out.1.bel.trans (hu3.below HI.out.1.lo HI.out.1.bel.size), HI.out.1.lo, HI.out.1.ml⟩, HI.out.2.1.upd hu3 HI.out.2.2, HI.out.2.2⟩
    have HMs : Hid (∀ w', HdI w5' L4.mP E r2 (Tk.filter fun k => decide (k ≠ e.k)) w' → World.rangeLeft w' L4.mP r2 < World.rangeLeft wr L4.mP r2) := hid (fun w' h' => HI.out.1.ms he heT h')
    rw [hev] at hent
    rw [hev]
    obtain ⟨x, hx⟩ : ∃ x, e.k = x := ⟨_, rfl⟩
    rw [hx] at hent HI3 HMs heT
    rw [hx]
    obtain ⟨pv, hpv⟩ : ∃ pv, G4.pend x = pv := ⟨_, rfl⟩
    rw [hpv] at hent
    rw [hpv]
    have ipv : (pv : Int) ≤ 90000000000 := by have := (HCt.out.ef.lw.inv.gb (by omega)).pend x; omega
    have hlk := HI3.out.2.1.cn.look x
    rw [if_pos heT] at hlk
    obtain ⟨cv, hcv⟩ : ∃ cv, Fn G4 B4 atp4 x + B4.last.count x + 0 = cv := ⟨_, rfl⟩
    rw [hcv] at hlk
    have icv : (cv : Int) ≤ 1000000000 := by
      have h1 := HFb.out x
      have h2 := HLb.out x
      omega
    obtain ⟨w8, hput, h8, hu8⟩ := HI3.out.2.1.put x (cv + pv)
    have hput' : (Instr.mapUpdate 71 (.map (some mW)) (.int .u64 (x : Int)) (.int .i64 ((cv : Int) + (pv : Int)))).run Try.prog w3 = .ok () w8 := hput
    have HD8 : Hid (HdI w5' L4.mP E r2 (Tk.filter fun k => decide (k ≠ x)) w8 ∧ CwI w5' mB mW (inB (frK B4 4)) (fun y => Fn G4 B4 atp4 y + B4.last.count y + (if y ∈ Tk.filter (fun k => decide (k ≠ x)) then 0 else G4.pend y)) w8 ∧ mW < r2) := hid (by
      have h1 := HI3.out.2.2
      refine ⟨HI3.out.1.upd hu8 (by have := HI3.out.2.1.lo; have := HI3.out.2.1.fs.lo; omega) (by omega), h8.congr (fun y => ?_), h1⟩
      by_cases e : y = x
      · subst e
        rw [fup_self, if_neg (by simp), ← hcv, hpv]
        omega
      · rw [fup_ne _ _ e]
        by_cases e2 : y ∈ Tk
        · rw [if_pos e2, if_pos (List.mem_filter.2 ⟨e2, decide_eq_true e⟩)]
        · rw [if_neg e2, if_neg (fun hc => e2 (List.mem_filter.1 hc).1)])
    clear he heT hpn3 hit3 hu3 hsz3 hev hx HI Hpn hput h8 hu8 hcv hpv hp0 HI3
    as_aux_lemma =>
    go_frame
    go_wp2
    exact ⟨⟨_, HD8⟩, HMs.out _ HD8.out.1⟩
  intro hT
  subst hT
  have HC3 : Hid (CwI w5' mB mW (inB (frK B4 4)) (tot G4 B4 atp4) wr) := hid (HI.out.2.1.congr (fun y => by
    rw [if_neg (by simp)]
    rfl))
  clear HI Hpn HEa HEn HPn5
  as_aux_lemma =>
  go_frame
  have HWg := hid (HCt.out.below HC3.out.fs.bel)
  have c0 := HWg.out.ef.lw.wm.cells.1
  have ch := HWg.out.ef.lw.wm.bm.gm.hcells.1
  obtain ⟨E, hE1, hE2, hE3⟩ := HWg.out.ef.lw.wm.bm.gm.mh rfl
  have HPn := hid hE1
  have HEn := hid hE2
  have HEa : Hid (∀ x, (G4.head x).isSome = true → x ∈ E.map (·.k)) := hid (fun x hx => by
    obtain ⟨p, hp⟩ := Option.isSome_iff_exists.1 hx
    obtain ⟨e, he, hek⟩ := hE3 x (shV p) (by unfold hdF; rw [hp]; rfl)
    exact List.mem_map.2 ⟨e, he, hek⟩)
  have HPn5 : Hid (PN w5' L4.mH E ∧ L4.mH < w5'.heap.size ∧ L4.mH ≠ mK ∧ mK < w5'.heap.size) := hid (by
    have hlt := MF.lt (HCt.out.ef.lw.wm.bm.gm.mh rfl)
    refine ⟨HPn.out.of (HC3.out.fs.bel.block _ hlt).symm, hlt, fun e => ?_, MF.lt HCt.out.bk⟩
    have h1 := HCt.out.k0
    rw [← e, HCt.out.ef.lw.wm.bm.gm.r7] at h1
    cases h1)
  clear hE1 hE2 hE3
  obtain ⟨r3, hr⟩ : ∃ x, wr.heap.size = x := ⟨_, rfl⟩
  go_wp2_with (at_range; refine wpList_range_pn rfl (.tmp 116) 63 rfl Try.underlying63 L4.mH E rfl HPn.out ?_; intro w2 hit2 hbe2 hsz2)
  go_frame
  have HI2 : Hid (L6 w5' mK mB mW L4.mH r3 E (inB (frK B4 4)) (tot G4 B4 atp4) (E.map (·.k)) S w2) := hid (by
    have h1 := HC3.out.below hbe2
    exact ⟨by rw [← hr]; exact hit2, BlX.of h1.fs.bel, MF.below HCt.out.bk h1.fs.bel, h1.cn, h1.fs.bf⟩)
  have HOr : Hid (mK < mB ∧ mB < mW ∧ mW < r3 ∧ w5'.heap.size ≤ mB) := hid (by
    have h1 := HC3.out.cn.lt
    have h2 := HC3.out.lo
    have h3 := HC3.out.fs.lo
    have h4 := HPn5.out.2.2.2
    exact ⟨by omega, h2, by omega, h3⟩)
  have HSt0 := hid (HSt4.out (E.map (·.k)) HEa.out)
  simp only [hr]
  clear hit2 hbe2 hsz2 c0 ch hr HWg HC3 HPn HSt4 HEa
  go_loopw [] (fun wr => ∃ Tk S, Hid (L6 w5' mK mB mW L4.mH r3 E (inB (frK B4 4)) (tot G4 B4 atp4) Tk S wr) ∧ Hid (StK G4 B4 atp4 Tk S)) (fun wr => World.rangeLeft wr L4.mH r3)
  case atStart => exact ⟨_, _, HI2, HSt0⟩
  case round =>
  clear HI2 HSt0
  obtain ⟨Tk, S2, HI, HSt⟩ := hrel
  have Hpn : Hid (PN wr L4.mH E) := hid (HPn5.out.1.of (HI.out.bx.blk _ HPn5.out.2.1 HPn5.out.2.2.1))
  go_upto_region 34 with fail
  refine wp_region_lit ?_
  refine wpList_next_pn rfl (.tmp 117) rfl r3 L4.mH E Tk rfl Hpn.out HI.out.it ?_ ?_
  · intro hT
    as_aux_lemma =>
    subst hT
    have HR : Hid (CtI w' wB sN mK (i + 1) (.slice a6 n6 c6) wr) := hid (by
      have hh := HCt.out
      exact ⟨_, _, _, _, _, _, _, _, ⟨hh.ef.blx HI.out.bx hh.k0 hh.k1 hh.k2 hh.k3, hh.la.blx hh.bk HI.out.bx, HI.out.bk, hh.k0, hh.k1, hh.k2, hh.k3⟩, Hci4.out, HSt.out⟩)
    clear HI HSt Hpn HCt
    go_frame
    go_wp2
    exact ⟨⟨i + 1, by omega, by go_num, _, _, _, rfl, HR⟩, by simp [intOf]; omega⟩
  · intro e w3 he heT hpn3 hit3 hu3 hsz3 hent
    obtain ⟨n2, q2, hhd, hev⟩ := hd_ent (HEn.out e he)
    have HI3 : Hid (L6 w5' mK mB mW L4.mH r3 E (inB (frK B4 4)) (tot G4 B4 atp4) (Tk.filter fun k => decide (k ≠ e.k)) S2 w3) := hid (by
      have h1 := HOr.out
      exact ⟨hit3, HI.out.bx.upd hu3 (.inr (by omega)), MF.upd HI.out.bk hu3 (by omega), HI.out.cn.of (hu3.block mW HI.out.cn.lt (by omega)), MF.upd HI.out.fb hu3 (by omega)⟩)
    have HMs : Hid (∀ w', IT w' r3 L4.mH E (Tk.filter fun k => decide (k ≠ e.k)) → World.rangeLeft w' L4.mH r3 < World.rangeLeft wr L4.mH r3) := hid (fun w' h' => by rw [h'.left, HI.out.it.left]; exact left_less he heT)
    have HSt3 := hid (HSt.out.visit Hci4.out (x := e.k) (by rw [hhd]; rfl))
    have HSm := hid (HSt.out.sum Hci4.out (x := e.k) (by rw [hhd]; rfl))
    rw [hev] at hent
    rw [hev]
    obtain ⟨x, hx⟩ : ∃ x, e.k = x := ⟨_, rfl⟩
    rw [hx] at hent HI3 HMs HSt3 HSm
    rw [hx]
    obtain ⟨tt, htt⟩ : ∃ tt, tot G4 B4 atp4 x = tt := ⟨_, rfl⟩
    have hl1 := HI3.out.cn.look x
    rw [htt] at hl1
    have Htt := hid htt
    clear he heT hpn3 hit3 hu3 hsz3 hev hx HI Hpn HSt hhd htt
    as_aux_lemma =>
    go_frame
    go_upto_region 37 with fail
    clear hl1 hent
    obtain ⟨b1, hb1⟩ : ∃ b, (decide (3 < tt) || S2 x) = b := ⟨_, rfl⟩
    have Hb1 := hid hb1
    clear hb1
    go_cut [131] from 125 to 131 (fun v wc => v = .bool b1 ∧ wc = w3)
    case first =>
      as_aux_lemma =>
      by_cases e1 : 3 < tt
      · have d1 : decide ((tt : Int) > 3) = true := decide_eq_true (by omega)
        have d2 : decide ((3 : Int) < (tt : Int)) = true := decide_eq_true (by omega)
        have d3 : (3 : Int) < (tt : Int) := by omega
        have hb : b1 = true := by rw [← Hb1.out, decide_eq_true e1]; rfl
        subst hb
        go_wp2
        go_meet
        case rel => exact ⟨rfl, rfl⟩
      · have d1 : decide ((tt : Int) > 3) = false := decide_eq_false (by omega)
        have d2 : decide ((3 : Int) < (tt : Int)) = false := decide_eq_false (by omega)
        have d3 : ¬ ((3 : Int) < (tt : Int)) := by omega
        have d4 : (tt : Int) ≤ 3 := by omega
        have hl2 := HI3.out.bk.look x
        have hb : b1 = S2 x := by rw [← Hb1.out, decide_eq_false e1]; rfl
        rw [← hb] at hl2
        clear hb
        go_wp2
        go_meet
        case rel => exact ⟨rfl, rfl⟩
    case rest =>
    obtain ⟨rfl, rfl⟩ := hcut
    obtain ⟨s1, hs1⟩ : ∃ s1, (if b1 = true then 3 else tt) = s1 := ⟨_, rfl⟩
    have Hs1 := hid hs1
    clear hs1
    as_aux_lemma =>
    go_upto_if 131 with fail
    obtain ⟨w4, hw4⟩ : ∃ x, wc = x := ⟨_, rfl⟩
    rw [hw4] at HI3 ⊢
    clear hw4
    go_cut [20] from 20 to 20 (fun v wc => v = .int .i64 (s1 : Int) ∧ wc = w4)
    case first =>
      as_aux_lemma =>
      cases b1 with
      | true =>
        have h1 : s1 = 3 := by rw [← Hs1.out]; rfl
        subst h1
        go_wp2
        go_meet
        case rel => exact ⟨rfl, rfl⟩
      | false =>
        have h1 : s1 = tt := by rw [← Hs1.out]; rfl
        subst h1
        go_wp2
        go_meet
        case rel => exact ⟨rfl, rfl⟩
    case rest =>
    obtain ⟨rfl, rfl⟩ := hcut
    obtain ⟨w5, hw5⟩ : ∃ x, wc = x := ⟨_, rfl⟩
    rw [hw5] at HI3 ⊢
    clear hw5
    have hl3 := HI3.out.fb.look x
    obtain ⟨b2, hb2⟩ : ∃ b, inB (frK B4 4) x = b := ⟨_, rfl⟩
    rw [hb2] at hl3
    have Hb2 := hid hb2
    clear hb2
    obtain ⟨ct, hct⟩ : ∃ ct, G4.cnt x = ct := ⟨_, rfl⟩
    have Hct := hid hct
    clear hct
    have HCe : Hid ((if b2 = true then 0 else s1) = ct) := hid (by
      have h1 := HSm.out
      rw [Hct.out] at h1
      rw [h1]
      unfold sumX
      cases b2 with
      | true =>
        have h2 : x ∈ frL B4 := of_decide_eq_true Hb2.out
        rw [if_pos rfl, if_pos h2]
      | false =>
        have h2 : x ∉ frL B4 := of_decide_eq_false Hb2.out
        rw [if_neg (by simp), if_neg h2, Htt.out, ← Hs1.out]
        by_cases e : b1 = true
        · rw [if_pos e, if_pos]
          have h3 := Hb1.out
          rw [e] at h3
          simpa using h3
        · rw [if_neg e, if_neg]
          have h3 := Hb1.out
          have e2 : b1 = false := by simpa using e
          rw [e2] at h3
          simpa using h3)
    as_aux_lemma =>
    go_upto_if 134 with fail
    clear hl3
    go_cut [20] from 20 to 20 (fun v wc => v = .int .i64 (ct : Int) ∧ wc = w5)
    case first =>
      as_aux_lemma =>
      cases b2 with
      | true =>
        have h1 : ct = 0 := by rw [← HCe.out]; rfl
        subst h1
        go_wp2
        go_meet
        case rel => exact ⟨rfl, rfl⟩
      | false =>
        have h1 : s1 = ct := by rw [← HCe.out]; rfl
        subst h1
        go_wp2
        go_meet
        case rel => exact ⟨rfl, rfl⟩
    case rest =>
    obtain ⟨rfl, rfl⟩ := hcut
    obtain ⟨w6, hw6⟩ : ∃ x, wc = x := ⟨_, rfl⟩
    rw [hw6] at HI3 ⊢
    clear hw6
    have HEf := hid (HCt.out.ef.blx HI3.out.bx HCt.out.k0 HCt.out.k1 HCt.out.k2 HCt.out.k3)
    have c2 := HEf.out.lw.wm.cells.2.2.1
    have HCo := hid (countOf_walk HEf.out.lw.wm.bm.gm x)
    rw [Hct.out] at HCo
    have dd : (!((ct : Int) == (ct : Int))) = false := by simp
    have HSx : Hid (StK G4 B4 atp4 (Tk.filter fun k => decide (k ≠ x)) (if ct = 3 then fup S2 x true else S2)) := hid (by
      have h1 := HSt3.out
      rw [← HSm.out, Hct.out] at h1
      exact h1)
    clear HEf HSt3 HSm
    go_wp2_with fail
    refine HCo.out.mono ?_
    rintro e w7 ⟨rfl, rfl⟩
    by_cases e3 : ct = 3
    · as_aux_lemma =>
      subst e3
      rw [if_pos rfl] at HSx
      obtain ⟨w8, hput, h8, hu8⟩ := HI3.out.bk.put x
      have HI8 : Hid (L6 w5' mK mB mW L4.mH r3 E (inB (frK B4 4)) (tot G4 B4 atp4) (Tk.filter fun k => decide (k ≠ x)) (fup S2 x true) w8) := hid (by
        have h1 := HOr.out
        have h2 := HPn5.out
        exact ⟨HI3.out.it.of (hu8.block r3 HI3.out.it.lt (by omega)) (hu8.block L4.mH (Nat.lt_of_lt_of_le h2.2.1 HI3.out.bx.size) h2.2.2.1), HI3.out.bx.upd hu8 (.inl rfl), h8, HI3.out.cn.of (hu8.block mW HI3.out.cn.lt (by omega)), MF.upd HI3.out.fb hu8 (by omega)⟩)
      clear h8 hu8 HI3 c2
      go_wp2
      exact ⟨⟨_, _, HI8, HSx⟩, HMs.out _ HI8.out.it⟩
    · as_aux_lemma =>
      rw [if_neg e3] at HSx
      have d3 : ((ct : Int) == 3) = false := by simp; omega
      clear c2
      go_wp2
      exact ⟨⟨_, _, HI3, HSx⟩, HMs.out _ HI3.out.it⟩
end Go.Proofs.Qxb6500888a
