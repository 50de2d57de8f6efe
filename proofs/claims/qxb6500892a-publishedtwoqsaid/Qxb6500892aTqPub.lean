/- PublishedTwoQ: the walk. -/
import Derived.Test.Qxb6500892aTqPubM
namespace Go.Proofs.Qxb6500892a
open Go.RowKit
set_option linter.unusedSimpArgs false
set_option linter.unusedVariables false

/-- The configuration, once chosen. -/
def CfgOk (p3 : Nat) (w0 w : World) : Prop := ∃ (sl kin kout : Nat) (d : Int), 1 ≤ sl ∧ sl ≤ 65536 ∧ kout ≤ 65536 ∧ kin ≤ sl ∧ Blk w p3 25 [.int .i64 (sl : Int), .int .i64 (kin : Int), .int .i64 (kout : Int), .int .i64 d] ∧ Below w0.heap.size w0 w
set_option maxRecDepth 100000 in
set_option maxHeartbeats 4000000 in
theorem published_walk (a : Option Addr) (n c : Nat) (l : List TOp) (w : World) (hs : Script w a n c l) :
    Calls Try.prog 3 #[.slice a n c] w fun e w' => e = .returned (.bool true) ∧ Below w.heap.size w w' := by
  have hn := hs.1.2.2.1.1
  have HSm := hid (fun w => small_walk a n c (by unfold maxLen; omega) w)
  have HS := hid hs
  clear hs
  by_cases hsm : n ≤ 65536
  rotate_left
  · as_aux_lemma =>
    rw [decide_eq_false hsm] at HSm
    go_enter Try.func3, Try.ntmps3
    go_wp2_with (go_at_call 4; refine (HSm.out _).mono ?_; rintro e w' ⟨rfl, rfl⟩)
    go_ret
    exact ⟨rfl, Below.refl _ _⟩
  rw [decide_eq_true hsm] at HSm
  obtain ⟨p3, hp3⟩ : ∃ p, w.heap.size = p := ⟨_, rfl⟩
  go_enter Try.func3, Try.ntmps3
  go_upto_region 1 with fail
  go_wp2_with fail
  refine (HSm.out _).mono ?_
  rintro e w' ⟨rfl, hw'⟩
  have hw'' := hw'.symm
  clear hw'
  subst hw''
  clear HSm
  go_upto_region 4 with fail
  obtain ⟨w1, hw1⟩ : ∃ w1, w.alloc (.cells #[.int .i64 6, .int .i64 2, .int .i64 3, .int .i64 0] 25) = w1 := ⟨_, rfl⟩
  have HB1 : Hid (Blk w1 p3 25 [.int .i64 6, .int .i64 2, .int .i64 3, .int .i64 0] ∧ Below w.heap.size w w1) := hid (by
    have k1 := Blk.new w [.int .i64 6, .int .i64 2, .int .i64 3, .int .i64 0] 25
    rw [hp3] at k1
    rw [← hw1]
    exact ⟨k1, nbel w _⟩)
  have hlp : w.heap.size ≤ p3 := by omega
  have HS1 := hid (HS.out.below HB1.out.2)
  try simp only [hw1]
  clear hw1 hp3
  go_cut [45] from 29 to 45 (fun v wc => ∃ b : Bool, v = .bool b ∧ Hid (Below w1.heap.size w1 wc ∧ (b = true → 0 < n ∧ ∃ o, l[0]? = some o ∧ cfgB o.a o.b o.c o.d = true)))
  case first =>
    as_aux_lemma =>
    by_cases h0 : 0 < n
    rotate_left
    · as_aux_lemma =>
      have d1 : decide ((n : Int) > 0) = false := decide_eq_false (by omega)
      have d2 : decide ((0 : Int) < (n : Int)) = false := decide_eq_false (by omega)
      have d3 : decide (0 < n) = false := decide_eq_false h0
      clear h0 HS1 HB1
      go_wp2
      go_meet
      case rel => exact ⟨false, rfl, hid ⟨Below.refl _ _, fun h => by cases h⟩⟩
    have d1 : decide ((n : Int) > 0) = true := decide_eq_true (by omega)
    have d2 : decide ((0 : Int) < (n : Int)) = true := decide_eq_true (by omega)
    have d3 : decide (0 < n) = true := decide_eq_true h0
    have h0i : (0 : Int) < (n : Int) := by omega
    obtain ⟨o, ho, hok, b, off, rfl, hb, c0, c1, c2, c3, c4, c5, c6, c7⟩ := HS1.out.at h0
    simp only [Nat.zero_mul, Nat.add_zero] at c0 c1 c2 c3 c4 c5 c6 c7
    have Ho := hid ho
    clear ho hok
    by_cases hk : o.kind = 0
    rotate_left
    · as_aux_lemma =>
      have dk : ((o.kind : Int) == 0) = false := by simp; omega
      clear hk HS1 HB1
      go_wp2
      go_meet
      case rel => exact ⟨false, rfl, hid ⟨Below.refl _ _, fun h => by cases h⟩⟩
    have dk : ((o.kind : Int) == 0) = true := by simp; omega
    have HVl := hid (valid_walk o.a o.b o.c o.d w1)
    obtain ⟨bv, hbv⟩ : ∃ b, cfgB o.a o.b o.c o.d = b := ⟨_, rfl⟩
    rw [hbv] at HVl
    have Hbv := hid hbv
    clear hk HS1 HB1 hbv
    go_wp2_with fail
    refine HVl.out.mono ?_
    rintro y w2 ⟨rfl, hb2⟩
    have HF : Hid (Below w1.heap.size w1 w2 ∧ (bv = true → 0 < n ∧ ∃ o, l[0]? = some o ∧ cfgB o.a o.b o.c o.d = true)) := hid ⟨hb2, fun h => ⟨h0, o, Ho.out, by rw [Hbv.out]; exact h⟩⟩
    clear hb2 HVl c0 c1 c2 c3 c4 c5 c6 c7
    go_wp2
    go_meet
    case rel => exact ⟨bv, rfl, HF⟩
  case rest =>
  as_aux_lemma =>
  obtain ⟨bv, rfl, HB⟩ := hcut
  go_upto_if 45 with fail
  go_cut [2] from 46 to 49 (fun v2 wz => v2 = .bool false ∧ Hid (CfgOk p3 w wz))
  case first =>
    as_aux_lemma =>
    cases bv with
    | false =>
      have HF : Hid (CfgOk p3 w wc) := hid ⟨6, 2, 3, 0, by omega, by omega, by omega, by omega, HB1.out.1.below HB.out.1, HB1.out.2.trans (HB.out.1.mono HB1.out.2.size)⟩
      clear HB HB1
      go_wp2
      go_meet
      case rel => exact ⟨rfl, HF⟩
    | true =>
      obtain ⟨h0, o, ho, hcf⟩ := HB.out.2 rfl
      obtain ⟨o', ho', hok, b, off, rfl, hb, c0, c1, c2, c3, c4, c5, c6, c7⟩ := (HS1.out.below HB.out.1).at h0
      obtain rfl := Option.some.inj (ho.symm.trans ho')
      simp only [Nat.zero_mul, Nat.add_zero] at c0 c1 c2 c3 c4 c5 c6 c7
      obtain ⟨k1, k2, k3, k4, k5, k6, k7, k8⟩ := cfgB_true.1 hcf
      have h0i : (0 : Int) < (n : Int) := by omega
      have b0 := HB1.out.1.below HB.out.1
      have b1 := b0.set 0 (.int .i64 o.a)
      have b2 := b1.set 1 (.int .i64 o.b)
      have b3 := b2.set 2 (.int .i64 o.c)
      have HB4 := hid (b3.set 3 (.int .i64 o.d))
      have f0 := b0.frozen 0
      have f1 := b1.frozen 1
      have f2 := b2.frozen 2
      have f3 := b3.frozen 3
      have z0 := b0.cell 0
      have z1 := b1.cell 1
      have z2 := b2.cell 2
      have z3 := b3.cell 3
      simp only [List.set_cons_zero, List.set_cons_succ, List.getElem?_cons_zero, List.getElem?_cons_succ] at z0 z1 z2 z3
      have HF : Hid (CfgOk p3 w ((((wc.setCell ⟨p3, 0, none⟩ (.int .i64 o.a)).setCell ⟨p3, 1, none⟩ (.int .i64 o.b)).setCell ⟨p3, 2, none⟩ (.int .i64 o.c)).setCell ⟨p3, 3, none⟩ (.int .i64 o.d))) := hid ⟨o.a.toNat, o.b.toNat, o.c.toNat, o.d, by omega, by omega, by omega, by omega, by
        have := HB4.out
        rw [show ((o.a.toNat : Nat) : Int) = o.a by omega, show ((o.b.toNat : Nat) : Int) = o.b by omega, show ((o.c.toNat : Nat) : Int) = o.c by omega]
        exact this, (HB1.out.2.trans (HB.out.1.mono HB1.out.2.size)).trans ((((((Upd.refl p3 wc).setCell rfl _).setCell rfl _).setCell rfl _).setCell rfl _ : Upd p3 wc _).below hlp (Nat.le_trans HB1.out.2.size HB.out.1.size))⟩
      clear b0 b1 b2 b3 HB4 HB HB1 HS1 k1 k2 k3 k4 k5 k6 k7 k8 hcf ho ho' hok
      go_wp2
      go_meet
      case rel => exact ⟨rfl, HF⟩
  case rest =>
  as_aux_lemma =>
  obtain ⟨rfl, HC⟩ := hcut
  clear HB HB1 HS1
  obtain ⟨wz, hwz⟩ : ∃ wz, wz = wc := ⟨_, rfl⟩
  subst hwz
  obtain ⟨sl, kin0, kout, dd, hs1, hs2, hko, hk0, hbk, hbel⟩ := HC.out
  have HBk := hid hbk
  have HBel := hid hbel
  clear hbk hbel HC
  have z0 : wz.cell? ⟨p3, 0, none⟩ = some (.int .i64 (sl : Int)) := HBk.out.cell 0
  have z1 : wz.cell? ⟨p3, 1, none⟩ = some (.int .i64 (kin0 : Int)) := HBk.out.cell 1
  have f1 : wz.frozen? ⟨p3, 1, none⟩ = false := HBk.out.frozen 1
  obtain ⟨kin, hkin⟩ : ∃ k : Nat, (if (sl : Int) - 1 < (kin0 : Int) then (sl : Int) - 1 else (kin0 : Int)) = (k : Int) := ⟨min kin0 (sl - 1), by split <;> omega⟩
  have hkl : kin < sl := by split at hkin <;> omega
  have hmin : ∀ W : World, (Builtin.min_ #[3, 3] 3 #[.int .i64 (kin0 : Int), .int .i64 ((sl : Int) - 1)]).run Try.prog W = .ok (.int .i64 (kin : Int)) W := fun W => by
    simp [Builtin.min_, Builtin.min2, List.foldlM, hkin]
  go_upto_region 7 with fail
  have HB2 : Hid (Blk (wz.setCell ⟨p3, 1, none⟩ (.int .i64 (kin : Int))) p3 25 [.int .i64 (sl : Int), .int .i64 (kin : Int), .int .i64 (kout : Int), .int .i64 dd] ∧ Below w.heap.size w (wz.setCell ⟨p3, 1, none⟩ (.int .i64 (kin : Int)))) := hid ⟨HBk.out.set 1 _, HBel.out.trans (((Upd.refl p3 wz).setCell rfl _ : Upd p3 wz _).below hlp HBel.out.size)⟩
  generalize wz.setCell ⟨p3, 1, none⟩ (.int .i64 (kin : Int)) = w2 at HB2 ⊢
  clear HBk HBel z0 z1 f1 hmin hkin
  have z0 : w2.cell? ⟨p3, 0, none⟩ = some (.int .i64 (sl : Int)) := HB2.out.1.cell 0
  have z3 : w2.cell? ⟨p3, 3, none⟩ = some (.int .i64 dd) := HB2.out.1.cell 3
  have f3 : w2.frozen? ⟨p3, 3, none⟩ = false := HB2.out.1.frozen 3
  go_upto_region 8 with fail
  have HB3 : Hid (Blk (w2.setCell ⟨p3, 3, none⟩ (.int .i64 (sl : Int))) p3 25 [.int .i64 (sl : Int), .int .i64 (kin : Int), .int .i64 (kout : Int), .int .i64 (sl : Int)] ∧ Below w.heap.size w (w2.setCell ⟨p3, 3, none⟩ (.int .i64 (sl : Int)))) := hid ⟨HB2.out.1.set 3 _, HB2.out.2.trans (((Upd.refl p3 w2).setCell rfl _ : Upd p3 w2 _).below hlp HB2.out.2.size)⟩
  generalize w2.setCell ⟨p3, 3, none⟩ (.int .i64 (sl : Int)) = w3 at HB3 ⊢
  clear HB2 z0 z3 f3
  have z0 : w3.cell? ⟨p3, 0, none⟩ = some (.int .i64 (sl : Int)) := HB3.out.1.cell 0
  have z1 : w3.cell? ⟨p3, 1, none⟩ = some (.int .i64 (kin : Int)) := HB3.out.1.cell 1
  have z2 : w3.cell? ⟨p3, 2, none⟩ = some (.int .i64 (kout : Int)) := HB3.out.1.cell 2
  have z3 : w3.cell? ⟨p3, 3, none⟩ = some (.int .i64 (sl : Int)) := HB3.out.1.cell 3
  have HNw := hid (new_walk (sl : Int) (kin : Int) (kout : Int) (sl : Int) w3)
  go_wp2_with fail
  refine HNw.out.mono ?_
  rintro y w4 hy
  rcases hy with ⟨hcf, _⟩ | ⟨hcf, e, gn, gb, s, L, C, rfl, hE, hb4, l1, l2, l3, hN⟩
  · exfalso
    have : cfgB (sl : Int) (kin : Int) (kout : Int) (sl : Int) = true := cfgB_true.2 ⟨by omega, by omega, by omega, by omega, by omega, by omega, by omega, by omega⟩
    rw [this] at hcf
    cases hcf
  have hsl : s.slots = sl := by have := hN.sl; omega
  have hki : s.kin = kin := by have := hN.ki; omega
  have hkou : s.kout = kout := by have := hN.ko; omega
  have HN := hid (And.intro hN (And.intro hsl (And.intro hki hkou)))
  have HE4 := hid hE
  have hs3 := HB3.out.2.size
  have HLe : Hid (w.heap.size ≤ e ∧ w.heap.size ≤ gn ∧ w.heap.size ≤ gb) := hid ⟨by omega, by omega, by omega⟩
  have HB4 := hid (And.intro (HB3.out.1.below hb4) (HB3.out.2.trans (hb4.mono HB3.out.2.size)))
  clear hE hb4 l1 l2 l3 hN hcf hsl hki hkou hs3 HB3 HNw z0 z1 z2 z3
  have z0 : w4.cell? ⟨p3, 0, none⟩ = some (.int .i64 (sl : Int)) := HB4.out.1.cell 0
  have z1 : w4.cell? ⟨p3, 1, none⟩ = some (.int .i64 (kin : Int)) := HB4.out.1.cell 1
  have z2 : w4.cell? ⟨p3, 2, none⟩ = some (.int .i64 (kout : Int)) := HB4.out.1.cell 2
  obtain ⟨pb, hpb⟩ : ∃ p, w4.heap.size = p := ⟨_, rfl⟩
  go_upto_region 10 with fail
  obtain ⟨w5, hw5⟩ : ∃ w5, w4.alloc (.cells #[.int .i64 (sl : Int), .int .i64 (kin : Int), .int .i64 (kout : Int), .slice none 0 0, .slice none 0 0, .slice none 0 0] 37) = w5 := ⟨_, rfl⟩
  have HW5 : Hid (EE e gn gb w5 s L C w5 ∧ PP w.heap.size pb sl kin kout ([], [], []) w5 ∧ Blk w5 p3 25 [.int .i64 (sl : Int), .int .i64 (kin : Int), .int .i64 (kout : Int), .int .i64 (sl : Int)] ∧ Below w.heap.size w w5) := hid (by
    have hb : Below w4.heap.size w4 w5 := by rw [← hw5]; exact nbel w4 _
    have k1 := Blk.new w4 [.int .i64 (sl : Int), .int .i64 (kin : Int), .int .i64 (kout : Int), .slice none 0 0, .slice none 0 0, .slice none 0 0] 37
    rw [hpb] at k1
    have k2 : Blk w5 pb 37 [.int .i64 (sl : Int), .int .i64 (kin : Int), .int .i64 (kout : Int), .slice none 0 0, .slice none 0 0, .slice none 0 0] := by rw [← hw5]; exact k1
    have hs4 := HB4.out.2.size
    exact ⟨⟨HE4.out.em.below hb, U3.refl _ _ _ _, HE4.out.ei⟩, ⟨_, _, _, _, _, _, _, _, _, ⟨k2, OR.nil _ _ _ _ _, OR.nil _ _ _ _ _, OR.nil _ _ _ _ _, by omega, by simp, by simp, by simp⟩⟩, HB4.out.1.below hb, HB4.out.2.trans (hb.mono HB4.out.2.size)⟩)
  try simp only [hw5]
  clear hw5 hpb HE4 HB4 z0 z1 z2
  obtain ⟨mb, hmb⟩ : ∃ p, w5.heap.size = p := ⟨_, rfl⟩
  have hmk := @run_makeMap Try.prog
  go_upto_region 11 with fail
  clear hmk
  obtain ⟨w6, hw6⟩ : ∃ w6, w5.alloc (.map #[] 0) = w6 := ⟨_, rfl⟩
  have HPR : Hid (PR w e gn gb pb mb p3 sl kin kout w6) := hid (by
    obtain ⟨h1, h2, h3, h4⟩ := HW5.out
    obtain ⟨g1, g2, g3⟩ := HLe.out
    obtain ⟨hN, hsl, hki, hkou⟩ := HN.out
    have hb : Below w5.heap.size w5 w6 := by rw [← hw6]; exact nbel w5 _
    have hm : PMu w6 mb [] := by rw [← hw6]; exact PMu.new w5 hmb
    have hpap : papOf s L = ([], [], []) := by
      unfold papOf Gh
      rw [hN.l1, hN.l2, hN.l3]
      rfl
    have hs5 := h4.size
    exact ⟨s, L, C, [], ⟨h1.em.below hb, h1.ei, by rw [hpap]; exact h2.below hb, hm, h3.below hb, h4.trans (hb.mono h4.size), g1, g2, g3, by omega⟩, PubI.start hN (by omega), hsl, hki, hkou⟩)
  try simp only [hw6]
  clear hw6 hmb HW5 HLe HN
  go_upto_region 12 with fail
  go_loopw [75] (fun v wr => ∃ i : Nat, i ≤ n ∧ v = .int .i64 (i : Int) ∧ Hid (PR w e gn gb pb mb p3 sl kin kout wr)) (fun v _ => n - (intOf v).toNat)
  case atStart => exact ⟨0, by omega, rfl, HPR⟩
  case round =>
  clear HPR
  obtain ⟨i, hi, rfl, HPR⟩ := hrel
  obtain ⟨wo, hwo⟩ : ∃ wo, wo = wr := ⟨_, rfl⟩
  subst hwo
  by_cases hin : i < n
  rotate_left
  · as_aux_lemma =>
    have di : decide ((i : Int) < (n : Int)) = false := decide_eq_false (by omega)
    have HF : Hid (Below w.heap.size w wo) := hid (by obtain ⟨_, _, _, _, h, _⟩ := HPR.out; exact h.bel)
    clear HPR
    go_wp2
    go_ret
    exact ⟨rfl, HF.out⟩
  as_aux_lemma =>
  have di : decide ((i : Int) < (n : Int)) = true := decide_eq_true (by omega)
  have hii : (i : Int) < (n : Int) := by omega
  obtain ⟨s, L, C, Mp, hpq, hpu, hsl, hki, hkou⟩ := HPR.out
  have HPQ := hid hpq
  have HPu := hid hpu
  have HCf := hid (And.intro hsl (And.intro hki hkou))
  clear hpq hpu hsl hki hkou HPR
  obtain ⟨o, ho, hok, b, off, rfl, hb, c0, c1, c2, c3, c4, c5, c6, c7⟩ := (HS.out.below HPQ.out.bel).at hin
  clear ho hok
  obtain ⟨ob, hob⟩ : ∃ p, wo.heap.size = p := ⟨_, rfl⟩
  go_upto_region 14 with fail
  obtain ⟨w7, hw7⟩ : ∃ w2, wo.alloc (.cells #[.int .u8 (o.kind : Int), .int .i64 o.x, .int .u64 (o.k : Int), .bool o.B, .int .i64 o.a, .int .i64 o.b, .int .i64 o.c, .int .i64 o.d] 29) = w2 := ⟨_, rfl⟩
  have HQ7 : Hid (PQ w e gn gb pb mb p3 sl kin kout s L C (papOf s L) Mp w7 ∧ w7.cell? ⟨ob, 2, none⟩ = some (.int .u64 (o.k : Int))) := hid (by
    have k1 := Blk.new wo (opCells o) 29
    rw [hob] at k1
    have k2 : Blk w7 ob 29 (opCells o) := by rw [← hw7]; exact k1
    refine ⟨?_, ?_⟩
    · rw [← hw7]; exact HPQ.out.below (nbel wo _)
    · rw [k2.cell 2]; rfl)
  try simp only [hw7]
  clear hw7 hob c0 c1 c2 c3 c4 c5 c6 c7 HPQ
  obtain ⟨x, hx⟩ : ∃ x, o.k = x := ⟨_, rfl⟩
  rw [hx] at HQ7
  clear hx
  have k2 := HQ7.out.2
  have HQ8 := hid HQ7.out.1
  obtain ⟨a1, n1, c1, a2, n2, c2, a3, n3, c3, hpv⟩ := HQ8.out.pp
  have hpl := pap_len HQ8.out.ei
  have HAc := hid (access_walk hpv hkl (by omega) (by have := hpl.2.1; have := HCf.out.2.2; omega) (by omega) (by omega) x)
  clear hpv hpl HQ7
  go_wp2_with fail
  refine HAc.out.mono ?_
  rintro y w8 ⟨rfl, hpp, hup⟩
  have HQ9 := hid (HQ8.out.paper hpp hup)
  clear HAc hpp hup HQ8 k2 a1 n1 c1 a2 n2 c2 a3 n3 c3
  obtain ⟨P1, hP1⟩ : ∃ P, accP sl kin kout (papOf s L) x = P := ⟨_, rfl⟩
  have HP1 : Hid (accP s.slots s.kin s.kout (papOf s L) x = P1) := hid (by rw [HCf.out.1, HCf.out.2.1, HCf.out.2.2]; exact hP1)
  rw [show accP sl kin kout ((papOf s L).1, (papOf s L).2.1, (papOf s L).2.2) x = P1 from hP1] at HQ9
  clear hP1
  have hlook := HQ9.out.mp.look x
  obtain ⟨vl, hvl⟩ : ∃ v : Nat, ((fiU x Mp 0).map (·.2)).getD 0 = v := ⟨_, rfl⟩
  obtain ⟨bl, hbl⟩ : ∃ b, (fiU x Mp 0).isSome = b := ⟨_, rfl⟩
  rw [hvl, hbl] at hlook
  have HLk := hid (And.intro hvl hbl)
  clear hvl hbl
  go_upto_if 89 with fail
  clear hlook
  go_cut [13, 14, 15, 16, 17] from 90 to 131 (fun v13 v14 v15 v16 v17 wc => Hid (PR w e gn gb pb mb p3 sl kin kout wc))
  case first =>
    as_aux_lemma =>
    by_cases hit : ∃ iv, (x, iv) ∈ Mp
    · as_aux_lemma =>
      obtain ⟨iv, hiv⟩ := hit
      obtain ⟨j, hj, _, _⟩ := fiU_mem (i := 0) HPu.out.nd hiv
      obtain ⟨hl1, hl2⟩ := HLk.out
      rw [hj] at hl1 hl2
      have e1 : vl = iv := hl1.symm
      have e2 : bl = true := hl2.symm
      clear hl1 hl2
      subst e1 e2
      obtain ⟨m1, m2, m3⟩ := (HPu.out.mp x vl).1 hiv
      have hlv : liveC s (vl : Int) = 0 := by rw [liveC_at m1, if_neg m2]
      have HTo := hid (touch_ee HQ9.out.ee (vl : Int))
      rw [hlv] at HTo
      have Hiv := hid hiv
      have Hlv := hid hlv
      clear hiv hj m1 m2 m3 hlv HLk
      go_wp2_with fail
      refine HTo.out.mono ?_
      rintro y w9 ⟨hy, s', L', C', hE, hT⟩
      unfold Rtn at hy
      subst hy
      have HF : Hid (PR w e gn gb pb mb p3 sl kin kout w9) := hid (by
        rcases hT with ⟨h1, _⟩ | ⟨_, h1⟩
        · exact absurd rfl h1
        · rw [Int.toNat_natCast] at h1
          obtain ⟨g1, g2⟩ := pub_hit HQ9.out.ei HPu.out Hiv.out h1
          have hq := HQ9.out.engine hE
          rw [← HP1.out, ← g2] at hq
          have hcf := h1.1.cf
          exact ⟨s', L', C', Mp, hq, g1, by rw [hcf.slots]; exact HCf.out.1, by rw [hcf.kin]; exact HCf.out.2.1, by rw [hcf.kout]; exact HCf.out.2.2⟩)
      clear hE hT HTo HQ9 HPu
      have d0 : ((0 : Int) != 0) = false := by decide
      go_wp2
      go_meet
      case rel => exact HF
    have hmiss : ∀ iv, (x, iv) ∉ Mp := fun iv h => hit ⟨iv, h⟩
    have hfn : fiU x Mp 0 = none := fiU_none hmiss
    obtain ⟨hl1, hl2⟩ := HLk.out
    rw [hfn] at hl1 hl2
    have e1 : vl = 0 := hl1.symm
    have e2 : bl = false := hl2.symm
    clear hl1 hl2 hit HLk
    subst e2
    have HMs := hid hmiss
    have HFn := hid hfn
    clear hmiss hfn e1
    have hmlen := HQ9.out.mp.len
    obtain ⟨us, hus⟩ : ∃ u, Mp.length = u := ⟨_, rfl⟩
    rw [hus] at hmlen
    have HUs := hid hus
    have hule : us ≤ sl := by have := HPu.out.lt; have := HCf.out.1; omega
    have z0 : w8.cell? ⟨p3, 0, none⟩ = some (.int .i64 (sl : Int)) := HQ9.out.cf.cell 0
    clear hus
    by_cases hfree : us < sl
    · as_aux_lemma =>
      have d1 : decide ((us : Int) < (sl : Int)) = true := decide_eq_true (by omega)
      have HIn := hid (insert_ee HQ9.out.ee (us : Int) x false)
      go_wp2_with fail
      refine HIn.out.mono ?_
      rintro y w9 ⟨cc, s', L', C', hy, hE, hI⟩
      have hI' : InsS (Mp.length : Int) x false s L cc s' L' := by rw [HUs.out]; exact hI
      obtain ⟨hc0, g1, g2⟩ := pub_ins HQ9.out.ei HPu.out HMs.out (by rw [HUs.out, HCf.out.1]; exact hfree) hI'
      subst hc0
      unfold Rtn at hy
      subst hy
      have hcf : Cf s s' := by obtain ⟨_, _, _, _, h, _⟩ := hI.abs HQ9.out.ei; exact h
      have hq := HQ9.out.engine hE
      rw [← HP1.out, ← g2] at hq
      obtain ⟨wm, hrun, hm, hum⟩ := hq.mp.put x us HFn.out
      have HF : Hid (PR w e gn gb pb mb p3 sl kin kout wm) := hid (by
        rw [HUs.out] at g1
        exact ⟨s', L', C', _, hq.map hm hum, g1, by rw [hcf.slots]; exact HCf.out.1, by rw [hcf.kin]; exact HCf.out.2.1, by rw [hcf.kout]; exact HCf.out.2.2⟩)
      clear hE hI hI' HIn HQ9 HPu g1 g2 hcf hq hm hum hmlen z0
      have d0 : ((0 : Int) != 0) = false := by decide
      go_wp2
      go_meet
      case rel => exact HF
    as_aux_lemma =>
    have hfull : Mp.length = s.slots := by rw [HUs.out, HCf.out.1]; omega
    have d1 : decide ((us : Int) < (sl : Int)) = false := decide_eq_false (by omega)
    obtain ⟨iv, hv, hvl⟩ := pub_victim HQ9.out.ei HPu.out hfull
    have HVc := hid (victim_ee HQ9.out.ee)
    rw [hv] at HVc
    obtain ⟨q1, q2, q3⟩ := HQ9.out.ei.victim hv
    have Hvl := hid hvl
    have Hq1 := hid (And.intro q1 (show s.whr iv ≠ 0 by omega))
    have HFu := hid hfull
    clear hv hvl q1 q2 q3 hfull
    have d2 : decide (us < sl) = false := decide_eq_false hfree
    have d3 : ¬ (us : Int) < (sl : Int) := by omega
    go_wp2_with fail
    refine HVc.out.mono ?_
    rintro y w9 ⟨rfl, _, hb9⟩
    have HQa := hid (HQ9.out.below hb9)
    clear HVc hb9 HQ9 hmlen z0
    unfold ov
    simp only [ovV, Option.isSome]
    have HEn := hid (entry_live HQa.out.em HQa.out.ei Hq1.out.1 Hq1.out.2 (by rw [HPu.out.pin]; omega))
    obtain ⟨ky, hky⟩ : ∃ k, s.key iv = k := ⟨_, rfl⟩
    obtain ⟨pn, hpn⟩ : ∃ k, s.pin iv = k := ⟨_, rfl⟩
    obtain ⟨ng, hng⟩ : ∃ k, s.neg iv = k := ⟨_, rfl⟩
    rw [hky, hpn, hng] at HEn
    have HKy := hid hky
    clear hky hpn hng
    go_wp2_with fail
    refine HEn.out.mono ?_
    rintro y wA ⟨rfl, hbA⟩
    have HQb := hid (HQa.out.below hbA)
    clear HEn hbA HQa
    obtain ⟨p16, hp16⟩ : ∃ p, wA.heap.size = p := ⟨_, rfl⟩
    go_upto_region 29 with fail
    obtain ⟨wB, hwB⟩ : ∃ w9, wA.alloc (.cells #[.int .i64 (iv : Int), .int .u64 (ky : Int), .int .i64 pn, .bool ng] 45) = w9 := ⟨_, rfl⟩
    have HQc : Hid (PQ w e gn gb pb mb p3 sl kin kout s L C P1 Mp wB ∧ Blk wB p16 45 [.int .i64 (iv : Int), .int .u64 (ky : Int), .int .i64 pn, .bool ng]) := hid (by
      have k1 := Blk.new wA [.int .i64 (iv : Int), .int .u64 (ky : Int), .int .i64 pn, .bool ng] 45
      rw [hp16] at k1
      rw [← hwB]
      exact ⟨HQb.out.below (nbel wA _), k1⟩)
    try simp only [hwB]
    clear hwB hp16 HQb
    have HRp := hid (replace_ee HQc.out.1.ee (iv : Int) x false)
    go_wp2_with fail
    refine HRp.out.mono ?_
    rintro y wC ⟨cc, s', L', C', hy, hE, hR⟩
    obtain ⟨hc0, g1, g2⟩ := pub_rep HQc.out.1.ei hE.ei HPu.out HMs.out HFu.out Hvl.out hR
    subst hc0
    unfold Rtn at hy
    subst hy
    have hcf : Cf s s' := by obtain ⟨_, _, _, _, _, h, _⟩ := hR.abs HQc.out.1.ei hE.ei; exact h
    have hq := HQc.out.1.engine hE
    rw [← HP1.out, ← g2] at hq
    have hkm : (ky, iv) ∈ Mp := (HPu.out.mp ky iv).2 ⟨Hq1.out.1, Hq1.out.2, HKy.out⟩
    obtain ⟨wD, hrunD, hmD, huD⟩ := hq.mp.del HPu.out.nd hkm 0
    have hq2 := hq.map hmD huD
    obtain ⟨wE, hrunE, hmE, huE⟩ := hq2.mp.put x iv (fiU_none fun v hv => HMs.out v (List.mem_filter.1 hv).1)
    have HF : Hid (PR w e gn gb pb mb p3 sl kin kout wE) := hid (by
      rw [HKy.out] at g1
      exact ⟨s', L', C', _, hq2.map hmE huE, g1, by rw [hcf.slots]; exact HCf.out.1, by rw [hcf.kin]; exact HCf.out.2.1, by rw [hcf.kout]; exact HCf.out.2.2⟩)
    have m1 : wC.cell? ⟨p16, 1, none⟩ = some (.int .u64 (ky : Int)) := by
      have hb := HQc.out.2
      exact (hE.u3.blk hb (hb.tne HQc.out.1.em.eb (by decide)) (hb.tne HQc.out.1.em.nb (by decide)) (hb.tne HQc.out.1.em.bb (by decide))).cell 1
    clear hE hR HRp HQc HPu g1 g2 hcf hq hq2 hmD huD hmE huE hkm
    have d0 : ((0 : Int) != 0) = false := by decide
    go_wp2
    go_meet
    case rel => exact HF
  case rest =>
  as_aux_lemma =>
  have HR := hcut
  clear hcut HQ9 HPu HCf HP1 HLk
  obtain ⟨s, L, C, Mp, hpq, hpu, hcf⟩ := HR.out
  have HQ := hid hpq
  have HVw := hid (view_walk hpq.em hpq.ei (fun j hj => by rw [hpu.pin j]; omega))
  have HCf := hid (And.intro hpu hcf)
  clear hpq hpu hcf HR
  go_upto_region 33 with fail
  go_wp2_with fail
  refine HVw.out.mono ?_
  rintro y w9 ⟨a1, n1, c1, a2, n2, c2, a3, n3, c3, rfl, HV⟩
  clear HVw
  obtain ⟨vb, hvb⟩ : ∃ p, w9.heap.size = p := ⟨_, rfl⟩
  go_upto_region 34 with fail
  obtain ⟨wT, hwT⟩ : ∃ w4, w9.alloc (.cells #[.slice a1 n1 c1, .slice a2 n2 c2, .slice a3 n3 c3] 50) = w4 := ⟨_, rfl⟩
  have hb : Below w9.heap.size w9 wT := by rw [← hwT]; exact nbel w9 _
  have HVb : Hid (Blk wT vb 50 [.slice a1 n1 c1, .slice a2 n2 c2, .slice a3 n3 c3]) := hid (by
    have k1 := Blk.new w9 [.slice a1 n1 c1, .slice a2 n2 c2, .slice a3 n3 c3] 50
    rw [hvb] at k1
    rw [← hwT]
    exact k1)
  have HQT := hid ((HQ.out.below HV.out.1).below hb)
  have hvl : (L 1).length ≤ 131072 ∧ (L 2).length ≤ 131072 ∧ (L 3).length ≤ 131072 := by
    refine ⟨?_, ?_, ?_⟩
    · exact Nat.le_trans (nodup_len (HQ.out.ei.q.dl 1 (by omega)).nd (HQ.out.ei.q.dl 1 (by omega)).lt) HQ.out.ei.q.nb
    · exact Nat.le_trans (nodup_len (HQ.out.ei.q.dl 2 (by omega)).nd (HQ.out.ei.q.dl 2 (by omega)).lt) HQ.out.ei.q.nb
    · exact Nat.le_trans (nodup_len (HQ.out.ei.q.dl 3 (by omega)).nd (HQ.out.ei.q.dl 3 (by omega)).lt) HQ.out.ei.q.nb
  have HR1 : Hid (RowOf wT 4 entC a1 n1 c1 ((L 1).map (entOf s))) := hid ((HV.out.2.1.below hb).row' (by decide) (fun _ => rfl) (by rw [List.length_map]; omega))
  have HR2 : Hid (RowOf wT 4 entC a2 n2 c2 ((L 2).map (entOf s))) := hid ((HV.out.2.2.1.below hb).row' (by decide) (fun _ => rfl) (by rw [List.length_map]; omega))
  have HR3 : Hid (RowOf wT 1 keyC a3 n3 c3 ((L 3).map s.key)) := hid ((HV.out.2.2.2.below hb).row' (by decide) (fun _ => rfl) (by rw [List.length_map]; omega))
  try simp only [hwT]
  clear hwT hvb hb HV HQ
  obtain ⟨d1, m1, e1, d2, m2, e2, d3, m3, e3, hpv⟩ := HQT.out.pp
  have HS1 : Hid (RowOf wT 1 keyC d1 m1 e1 ((L 1).map s.key)) := hid (hpv.o1.rowK (v := nilS) hpv.b1)
  have HS2 : Hid (RowOf wT 1 keyC d2 m2 e2 ((L 3).map s.key)) := hid (hpv.o2.rowK (v := nilS) hpv.b2)
  have HS3 : Hid (RowOf wT 1 keyC d3 m3 e3 ((L 2).map s.key)) := hid (hpv.o3.rowK (v := nilS) hpv.b3)
  have HBp := hid hpv.bk
  clear hpv
  have hm1 : m1 = n1 := by
    have h1 := HR1.out.1
    have h2 := HS1.out.1
    rw [List.length_map] at h1 h2
    omega
  have hm2 : m2 = n3 := by
    have h1 := HR3.out.1
    have h2 := HS2.out.1
    rw [List.length_map] at h1 h2
    omega
  have hm3 : m3 = n2 := by
    have h1 := HR2.out.1
    have h2 := HS3.out.1
    rw [List.length_map] at h1 h2
    omega
  subst hm1 hm2 hm3
  have HPRe : Hid (∀ wz, Below wT.heap.size wT wz → PR w e gn gb pb mb p3 sl kin kout wz) := hid (fun wz hz => ⟨s, L, C, Mp, HQT.out.below hz, HCf.out.1, HCf.out.2⟩)
  have hnn : n ≤ 65536 := hsm
  have hln1 : m1 ≤ 131072 := by have := HR1.out.1; rw [List.length_map] at this; omega
  have hln2 : m3 ≤ 131072 := by have := HR2.out.1; rw [List.length_map] at this; omega
  have hln3 : m2 ≤ 131072 := by have := HR3.out.1; rw [List.length_map] at this; omega
  clear HQT HCf hvl
  have v0 : wT.cell? ⟨vb, 0, none⟩ = some (.slice a1 m1 c1) := HVb.out.cell 0
  have v1 : wT.cell? ⟨vb, 1, none⟩ = some (.slice a2 m3 c2) := HVb.out.cell 1
  have v2 : wT.cell? ⟨vb, 2, none⟩ = some (.slice a3 m2 c3) := HVb.out.cell 2
  have p3c : wT.cell? ⟨pb, 3, none⟩ = some (.slice d1 m1 e1) := HBp.out.cell 3
  have p4c : wT.cell? ⟨pb, 4, none⟩ = some (.slice d2 m2 e2) := HBp.out.cell 4
  have p5c : wT.cell? ⟨pb, 5, none⟩ = some (.slice d3 m3 e3) := HBp.out.cell 5
  go_upto_region 37 with fail
  clear v0 v1 v2 p3c p4c p5c
  go_loopw [162] (fun v wr => ∃ j : Nat, j ≤ m1 ∧ v = .int .i64 (j : Int) ∧ Hid (Below wT.heap.size wT wr)) (fun v _ => m1 - (intOf v).toNat)
  case atStart => exact ⟨0, by omega, rfl, hid (Below.refl _ _)⟩
  case round =>
  skip
  obtain ⟨j, hj, rfl, HQj⟩ := hrel
  by_cases hjn : j < m1
  · as_aux_lemma =>
    have dj : decide ((j : Int) < (m1 : Int)) = true := decide_eq_true (by omega)
    have hjj : (j : Int) < (m1 : Int) := by omega
    obtain ⟨t, ht, b', off', rfl, hb', hc⟩ := (HR1.out.below HQj.out).cell hjn
    obtain ⟨ky, hky, b2', off2', rfl, hb2', hc2⟩ := (HS1.out.below HQj.out).cell hjn
    have hkt : t.key = (ky : Int) := by
      rw [List.getElem?_map] at ht hky
      cases hL : (L 1)[j]? with
      | none => rw [hL] at ht; cases ht
      | some z =>
        rw [hL] at ht hky
        simp only [Option.map_some, Option.some.injEq] at ht hky
        rw [← ht, ← hky]
        rfl
    have q0 : wr.cell? ⟨b', off' + j * 4, none⟩ = some (.int .i64 t.slot) := by simpa [entC] using hc 0 (by omega)
    have q1 : wr.cell? ⟨b', off' + j * 4 + 1, none⟩ = some (.int .u64 (ky : Int)) := by rw [← hkt]; simpa [entC] using hc 1 (by omega)
    have q2 : wr.cell? ⟨b', off' + j * 4 + 2, none⟩ = some (.int .i64 t.pins) := by simpa [entC] using hc 2 (by omega)
    have q3 : wr.cell? ⟨b', off' + j * 4 + 3, none⟩ = some (.bool t.neg) := by simpa [entC] using hc 3 (by omega)
    have HK : Hid (∀ wz, Below wr.heap.size wr wz → wz.cell? ⟨b2', off2' + j, none⟩ = some (.int .u64 (ky : Int)) ∧ wz.cell? ⟨pb, 3, none⟩ = some (.slice (some ⟨b2', off2', none⟩) m1 e1)) := hid (fun wz hz => by
      have hz2 := HQj.out.trans (hz.mono HQj.out.size)
      refine ⟨?_, (HBp.out.below hz2).cell 3⟩
      obtain ⟨ky2, hky2, b3, off3, h3, hb3, hc3⟩ := (HS1.out.below hz2).cell hjn
      cases h3
      have := Option.some.inj (hky.symm.trans hky2)
      subst this
      simpa [keyC] using hc3 0 (by omega))
    clear hc hc2 ht hky hb' hb2' hkt
    obtain ⟨p9, hp9⟩ : ∃ p, wr.heap.size = p := ⟨_, rfl⟩
    go_upto_region 39 with fail
    obtain ⟨wx, hwx⟩ : ∃ w9, wr.alloc (.cells #[.int .i64 t.slot, .int .u64 (ky : Int), .int .i64 t.pins, .bool t.neg] 45) = w9 := ⟨_, rfl⟩
    have HBx : Hid (Below wr.heap.size wr wx ∧ Blk wx p9 45 [.int .i64 t.slot, .int .u64 (ky : Int), .int .i64 t.pins, .bool t.neg]) := hid (by
      have k1 := Blk.new wr [.int .i64 t.slot, .int .u64 (ky : Int), .int .i64 t.pins, .bool t.neg] 45
      rw [hp9] at k1
      rw [← hwx]
      exact ⟨nbel wr _, k1⟩)
    try simp only [hwx]
    clear hwx hp9 q0 q1 q2 q3
    have u1 : ∀ nn, (wx.drewN nn).cell? ⟨p9, 1, none⟩ = some (.int .u64 (ky : Int)) := fun nn => HBx.out.2.cell 1
    have u2 : ∀ nn, (wx.drewN nn).cell? ⟨pb, 3, none⟩ = some (.slice (some ⟨b2', off2', none⟩) m1 e1) := fun nn => (HK.out wx HBx.out.1).2
    have u3 : ∀ nn, (wx.drewN nn).cell? ⟨b2', off2' + j, none⟩ = some (.int .u64 (ky : Int)) := fun nn => (HK.out wx HBx.out.1).1
    have HBn : ∀ nn, Hid (Below wT.heap.size wT (wx.drewN nn)) := fun nn => hid ((HQj.out.trans (HBx.out.1.mono HQj.out.size)).trans ((Drew.below ⟨nn, rfl⟩ _ : Below wx.heap.size wx _).mono (Nat.le_trans HQj.out.size HBx.out.1.size)))
    go_quiet (fail)
    have HBf := HBn nq
    generalize wx.drewN nq = wq at HBf ⊢
    clear HBn u1 u2 u3 HK HBx HQj
    go_wp2
    exact ⟨⟨j + 1, by omega, by go_num, HBf⟩, by simp [intOf]; omega⟩
  have dj : decide ((j : Int) < (m1 : Int)) = false := decide_eq_false (by omega)
  obtain ⟨wr1, hwr1⟩ : ∃ wr2, wr2 = wr := ⟨_, rfl⟩
  subst hwr1
  have HB1 := hid HQj.out
  clear HQj
  have v1 : wr1.cell? ⟨vb, 1, none⟩ = some (.slice a2 m3 c2) := (HVb.out.below HB1.out).cell 1
  go_upto_region 43 with fail
  clear v1
  go_loopw [179] (fun v wr => ∃ j : Nat, j ≤ m3 ∧ v = .int .i64 (j : Int) ∧ Hid (Below wT.heap.size wT wr)) (fun v _ => m3 - (intOf v).toNat)
  case atStart => exact ⟨0, by omega, rfl, hid HB1.out⟩
  case round =>
  clear HB1 hj hjn dj
  obtain ⟨j, hj, rfl, HQj⟩ := hrel
  by_cases hjn : j < m3
  · as_aux_lemma =>
    have dj : decide ((j : Int) < (m3 : Int)) = true := decide_eq_true (by omega)
    have hjj : (j : Int) < (m3 : Int) := by omega
    obtain ⟨t, ht, b', off', rfl, hb', hc⟩ := (HR2.out.below HQj.out).cell hjn
    obtain ⟨ky, hky, b2', off2', rfl, hb2', hc2⟩ := (HS3.out.below HQj.out).cell hjn
    have hkt : t.key = (ky : Int) := by
      rw [List.getElem?_map] at ht hky
      cases hL : (L 2)[j]? with
      | none => rw [hL] at ht; cases ht
      | some z =>
        rw [hL] at ht hky
        simp only [Option.map_some, Option.some.injEq] at ht hky
        rw [← ht, ← hky]
        rfl
    have q0 : wr.cell? ⟨b', off' + j * 4, none⟩ = some (.int .i64 t.slot) := by simpa [entC] using hc 0 (by omega)
    have q1 : wr.cell? ⟨b', off' + j * 4 + 1, none⟩ = some (.int .u64 (ky : Int)) := by rw [← hkt]; simpa [entC] using hc 1 (by omega)
    have q2 : wr.cell? ⟨b', off' + j * 4 + 2, none⟩ = some (.int .i64 t.pins) := by simpa [entC] using hc 2 (by omega)
    have q3 : wr.cell? ⟨b', off' + j * 4 + 3, none⟩ = some (.bool t.neg) := by simpa [entC] using hc 3 (by omega)
    have HK : Hid (∀ wz, Below wr.heap.size wr wz → wz.cell? ⟨b2', off2' + j, none⟩ = some (.int .u64 (ky : Int)) ∧ wz.cell? ⟨pb, 5, none⟩ = some (.slice (some ⟨b2', off2', none⟩) m3 e3)) := hid (fun wz hz => by
      have hz2 := HQj.out.trans (hz.mono HQj.out.size)
      refine ⟨?_, (HBp.out.below hz2).cell 5⟩
      obtain ⟨ky2, hky2, b3, off3, h3, hb3, hc3⟩ := (HS3.out.below hz2).cell hjn
      cases h3
      have := Option.some.inj (hky.symm.trans hky2)
      subst this
      simpa [keyC] using hc3 0 (by omega))
    clear hc hc2 ht hky hb' hb2' hkt
    obtain ⟨p9, hp9⟩ : ∃ p, wr.heap.size = p := ⟨_, rfl⟩
    go_upto_region 45 with fail
    obtain ⟨wx, hwx⟩ : ∃ w9, wr.alloc (.cells #[.int .i64 t.slot, .int .u64 (ky : Int), .int .i64 t.pins, .bool t.neg] 45) = w9 := ⟨_, rfl⟩
    have HBx : Hid (Below wr.heap.size wr wx ∧ Blk wx p9 45 [.int .i64 t.slot, .int .u64 (ky : Int), .int .i64 t.pins, .bool t.neg]) := hid (by
      have k1 := Blk.new wr [.int .i64 t.slot, .int .u64 (ky : Int), .int .i64 t.pins, .bool t.neg] 45
      rw [hp9] at k1
      rw [← hwx]
      exact ⟨nbel wr _, k1⟩)
    try simp only [hwx]
    clear hwx hp9 q0 q1 q2 q3
    have u1 : ∀ nn, (wx.drewN nn).cell? ⟨p9, 1, none⟩ = some (.int .u64 (ky : Int)) := fun nn => HBx.out.2.cell 1
    have u2 : ∀ nn, (wx.drewN nn).cell? ⟨pb, 5, none⟩ = some (.slice (some ⟨b2', off2', none⟩) m3 e3) := fun nn => (HK.out wx HBx.out.1).2
    have u3 : ∀ nn, (wx.drewN nn).cell? ⟨b2', off2' + j, none⟩ = some (.int .u64 (ky : Int)) := fun nn => (HK.out wx HBx.out.1).1
    have HBn : ∀ nn, Hid (Below wT.heap.size wT (wx.drewN nn)) := fun nn => hid ((HQj.out.trans (HBx.out.1.mono HQj.out.size)).trans ((Drew.below ⟨nn, rfl⟩ _ : Below wx.heap.size wx _).mono (Nat.le_trans HQj.out.size HBx.out.1.size)))
    go_quiet (fail)
    have HBf := HBn nq
    generalize wx.drewN nq = wq at HBf ⊢
    clear HBn u1 u2 u3 HK HBx HQj
    go_wp2
    exact ⟨⟨j + 1, by omega, by go_num, HBf⟩, by simp [intOf]; omega⟩
  have dj : decide ((j : Int) < (m3 : Int)) = false := decide_eq_false (by omega)
  obtain ⟨wr2, hwr2⟩ : ∃ wr2, wr2 = wr := ⟨_, rfl⟩
  subst hwr2
  have HB2 := hid HQj.out
  clear HQj
  have v2 : wr2.cell? ⟨vb, 2, none⟩ = some (.slice a3 m2 c3) := (HVb.out.below HB2.out).cell 2
  go_upto_region 49 with fail
  clear v2
  go_loopw [196] (fun v wr => ∃ j : Nat, j ≤ m2 ∧ v = .int .i64 (j : Int) ∧ Hid (Below wT.heap.size wT wr)) (fun v _ => m2 - (intOf v).toNat)
  case atStart => exact ⟨0, by omega, rfl, hid HB2.out⟩
  case round =>
  clear HB2 hj hjn dj
  obtain ⟨j, hj, rfl, HQj⟩ := hrel
  by_cases hjn : j < m2
  · as_aux_lemma =>
    have dj : decide ((j : Int) < (m2 : Int)) = true := decide_eq_true (by omega)
    have hjj : (j : Int) < (m2 : Int) := by omega
    obtain ⟨k1, hk1, b', off', rfl, hb', hc⟩ := (HR3.out.below HQj.out).cell hjn
    obtain ⟨ky, hky, b2', off2', rfl, hb2', hc2⟩ := (HS2.out.below HQj.out).cell hjn
    obtain rfl := Option.some.inj (hk1.symm.trans hky)
    have q0 : wr.cell? ⟨b', off' + j, none⟩ = some (.int .u64 (k1 : Int)) := by simpa [keyC] using hc 0 (by omega)
    have q1 : wr.cell? ⟨b2', off2' + j, none⟩ = some (.int .u64 (k1 : Int)) := by simpa [keyC] using hc2 0 (by omega)
    have q2 : wr.cell? ⟨pb, 4, none⟩ = some (.slice (some ⟨b2', off2', none⟩) m2 e2) := (HBp.out.below HQj.out).cell 4
    have HBf := hid HQj.out
    clear hc hc2 hk1 hky hb' hb2' HQj
    go_wp2
    exact ⟨⟨j + 1, by omega, by go_num, HBf⟩, by simp [intOf]; omega⟩
  as_aux_lemma =>
  have dj : decide ((j : Int) < (m2 : Int)) = false := decide_eq_false (by omega)
  have HFin := hid (HPRe.out wr HQj.out)
  clear HQj HPRe
  go_wp2
  exact ⟨⟨i + 1, by omega, by go_num, HFin⟩, by simp [intOf]; omega⟩
end Go.Proofs.Qxb6500892a
