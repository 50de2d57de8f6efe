/- Relations: the law. -/
import Derived.Test.Qxb6500884aClMR
import Derived.Test.Qxb6500884aClTot
import Derived.Test.Qxb6500884aClRelP
namespace Go.Proofs.Qxb6500884a
open Go.RowKit
set_option linter.unusedSimpArgs false
set_option linter.unusedVariables false

def subA (f g : Nat → Bool) : Nat → Bool
  | 0 => true
  | k + 1 => if (f k && !g k) = true then false else subA f g k
def ovA (f g : Nat → Bool) : Nat → Bool
  | 0 => false
  | k + 1 => if (f k && g k) = true then true else ovA f g k
def eqA (f g : Nat → Bool) : Nat → Bool
  | 0 => true
  | k + 1 => if (f k != g k) = true then false else eqA f g k
theorem subA_iff (f g : Nat → Bool) : ∀ k, subA f g k = true ↔ ∀ i, i < k → f i = true → g i = true
  | 0 => by simp [subA]
  | k + 1 => by
    unfold subA
    constructor
    · intro h i hi hf
      split at h
      · cases h
      · next hn =>
        by_cases e : i = k
        · subst e
          cases hg : g i with
          | true => rfl
          | false => rw [hf, hg] at hn; exact absurd rfl hn
        · exact (subA_iff f g k).1 h i (by omega) hf
    · intro h
      rw [if_neg]
      · exact (subA_iff f g k).2 fun i hi => h i (by omega)
      · intro hn
        have h1 := h k (by omega)
        cases hf : f k <;> cases hg : g k <;> rw [hf, hg] at hn <;> rw [hf, hg] at h1 <;> simp at hn h1
theorem ovA_iff (f g : Nat → Bool) : ∀ k, ovA f g k = true ↔ ∃ i, i < k ∧ f i = true ∧ g i = true
  | 0 => by simp [ovA]
  | k + 1 => by
    unfold ovA
    constructor
    · intro h
      split at h
      · next hn => exact ⟨k, by omega, by simpa using hn⟩
      · obtain ⟨i, hi, h1⟩ := (ovA_iff f g k).1 h
        exact ⟨i, by omega, h1⟩
    · rintro ⟨i, hi, h1, h2⟩
      by_cases e : i = k
      · subst e
        rw [if_pos (by rw [h1, h2]; rfl)]
      · split
        · rfl
        · exact (ovA_iff f g k).2 ⟨i, by omega, h1, h2⟩
theorem eqA_iff (f g : Nat → Bool) : ∀ k, eqA f g k = true ↔ ∀ i, i < k → f i = g i
  | 0 => by simp [eqA]
  | k + 1 => by
    unfold eqA
    constructor
    · intro h i hi
      split at h
      · cases h
      · next hn =>
        by_cases e : i = k
        · subst e; simpa using hn
        · exact (eqA_iff f g k).1 h i (by omega)
    · intro h
      rw [if_neg (by simpa using h k (by omega))]
      exact (eqA_iff f g k).2 fun i hi => h i (by omega)
theorem nat_of (x : Int) (h0 : 0 ≤ x) (h1 : x ≤ 196607) : ∃ i : Nat, i < 196608 ∧ (i : Int) = x := ⟨x.toNat, by omega, by omega⟩
theorem subA_all {c d : List (Int × Int)} (hc : Nrm c) (hd : Nrm d) : subA (fun i => memB c (i : Int)) (fun i => memB d (i : Int)) 196608 = subB c d := by
  rw [Bool.eq_iff_iff, subA_iff, sub_iff hc hd]
  constructor
  · intro h x h0 h1
    obtain ⟨i, hi, rfl⟩ := nat_of x h0 h1
    exact h i hi
  · exact fun h i hi => h i (by omega) (by omega)
theorem ovA_all {c d : List (Int × Int)} (hc : Nrm c) (hd : Nrm d) : ovA (fun i => memB c (i : Int)) (fun i => memB d (i : Int)) 196608 = ovB c d := by
  rw [Bool.eq_iff_iff, ovA_iff, ov_iff hc hd]
  constructor
  · rintro ⟨i, hi, h⟩
    exact ⟨i, by omega, by omega, h⟩
  · rintro ⟨x, h0, h1, h⟩
    obtain ⟨i, hi, rfl⟩ := nat_of x h0 h1
    exact ⟨i, hi, h⟩
theorem eqA_all {c d : List (Int × Int)} (hc : Nrm c) (hd : Nrm d) : eqA (fun i => memB c (i : Int)) (fun i => memB d (i : Int)) 196608 = decide (c = d) := by
  rw [Bool.eq_iff_iff, eqA_iff, decide_eq_true_iff]
  constructor
  · exact fun h => nrm_ext2 hc hd (fun x h0 h1 => by obtain ⟨i, hi, rfl⟩ := nat_of x h0 h1; exact h i hi)
  · rintro rfl i hi
    rfl
/-- A register for a call. -/
theorem MW.ptr {w0 w : World} {mb : Nat} {a : Option Addr} {S : List (Nat × List (Int × Int))} (h : MW w0 mb a S w) {k : Nat} (hk : k < S.length) : ∃ p g off c, S[k]? = some p ∧ RegOk w p.1 p.2 ∧ w0.heap.size ≤ p.1 ∧ a = some ⟨g, off, none⟩ ∧ w.cell? ⟨mb, 0, none⟩ = some (.slice a S.length c) ∧ w.cell? ⟨g, off + k, none⟩ = some (.pointer (some ⟨p.1, 0, none⟩)) := by
  obtain ⟨p, c, g, off, h1, h2, h3, h4, h5⟩ := h.mach.at hk
  exact ⟨p, g, off, c, h1, h2, h.rw p (List.mem_of_getElem? h1), h3, h4, h5⟩
set_option maxRecDepth 100000 in
set_option maxHeartbeats 4000000 in
theorem relLaw_walk (a : Option Addr) (n c : Nat) (l : List COp) (w : World) (hs : Script w a n c l) :
    Calls Try.prog 10 #[.slice a n c] w fun e w' => e = .returned (.bool true) ∧ Below w.heap.size w w' := by
  have HS := hid hs
  have hl := hs.1.1
  clear hs
  go_enter Try.func10, Try.ntmps10
  go_wp2_with fail
  refine (small_walk a n c l _ HS.out).mono ?_
  rintro e w' ⟨r, rfl, rfl, hr⟩
  cases r with
  | false =>
    go_wp2
    go_ret
    exact ⟨rfl, Below.refl _ _⟩
  | true =>
  obtain ⟨hsm, hob⟩ := hr rfl
  have HOb := hid hob
  clear hr hob
  obtain ⟨mb, hmb⟩ : ∃ mb, w'.heap.size = mb := ⟨_, rfl⟩
  have HM0 := hid (MW.start w' hmb)
  go_upto_region 5 with fail
  generalize w'.alloc (.cells #[.slice none 0 0] 46) = w1 at HM0 ⊢
  have Hmb := hid hmb
  clear hmb
  go_loopw [23] (fun i wr => ∃ (k : Nat) (ma : Option Addr) (S : List (Nat × List (Int × Int))), k ≤ n ∧ i = .int .i64 k ∧ Hid (MW w' mb ma S wr)) (fun i _ => n - (intOf i).toNat)
  case atStart => exact ⟨0, none, [], Nat.zero_le _, rfl, HM0⟩
  case round =>
    clear HM0
    obtain ⟨k, ma, S, hk, rfl, HM⟩ := hrel
    by_cases hlt : k < n
    · as_aux_lemma =>
      obtain ⟨o, ho, hok, b, off, rfl, hb, c0, c1, c2, c3, c4⟩ := (HS.out.below HM.out.bel).at hlt
      have hob := HOb.out o (List.mem_of_getElem? ho)
      obtain ⟨kind, oa, ob, ia, inn, ic, iv, ra, rn, rc, rg⟩ := o
      dsimp only at c0 c1 c2 c3 c4 hob
      have dk : decide ((k : Int) < (n : Int)) = true := decide_eq_true (by omega)
      have i1 : (k : Int) < (n : Int) := by omega
      obtain ⟨pO, hpO⟩ : ∃ pO, wr.heap.size = pO := ⟨_, rfl⟩
      have HM2 : Hid (MW w' mb ma S (wr.alloc (.cells #[Value.int .i64 kind, .int .i64 oa, .int .i64 ob, .slice ia inn ic, .slice ra rn rc] 28)) ∧ Blk (wr.alloc (.cells #[Value.int .i64 kind, .int .i64 oa, .int .i64 ob, .slice ia inn ic, .slice ra rn rc] 28)) pO 28 [Value.int .i64 kind, .int .i64 oa, .int .i64 ob, .slice ia inn ic, .slice ra rn rc] ∧ OpOk (wr.alloc (.cells #[Value.int .i64 kind, .int .i64 oa, .int .i64 ob, .slice ia inn ic, .slice ra rn rc] 28)) ⟨kind, oa, ob, ia, inn, ic, iv, ra, rn, rc, rg⟩) := hid ⟨HM.out.below (nbel wr _), by
        have := Blk.new wr [Value.int .i64 kind, .int .i64 oa, .int .i64 ob, .slice ia inn ic, .slice ra rn rc] 28
        rw [hpO] at this
        exact this, hok.below (nbel wr _)⟩
      clear ho hok
      go_upto_region 7 with fail
      generalize wr.alloc (.cells #[Value.int .i64 kind, .int .i64 oa, .int .i64 ob, .slice ia inn ic, .slice ra rn rc] 28) = w2 at HM2 ⊢
      clear c0 c1 c2 c3 c4
      have o0 : w2.cell? ⟨pO, 0, none⟩ = some (.int .i64 kind) := HM2.out.2.1.cell 0
      have o1 : w2.cell? ⟨pO, 1, none⟩ = some (.int .i64 oa) := HM2.out.2.1.cell 1
      have o2 : w2.cell? ⟨pO, 2, none⟩ = some (.int .i64 ob) := HM2.out.2.1.cell 2
      have o3 : w2.cell? ⟨pO, 3, none⟩ = some (.slice ia inn ic) := HM2.out.2.1.cell 3
      have o4 : w2.cell? ⟨pO, 4, none⟩ = some (.slice ra rn rc) := HM2.out.2.1.cell 4
      have HSt := hid (step_walk mb ma S ⟨kind, oa, ob, ia, inn, ic, iv, ra, rn, rc, rg⟩ w2 HM2.out.1.mach HM2.out.2.2 hob.1 hob.2)
      go_wp2_with fail
      refine HSt.out.mono ?_
      rintro e w3 hp
      obtain ⟨res, pa, pn, pc, ps, a', rfl, hms⟩ := HM2.out.1.step hp
      have HM3 := hid hms.mw
      clear hp hms HSt HM2 o0 o1 o2 o3 o4
      go_wp2
      exact ⟨⟨k + 1, a', _, by omega, by go_num, HM3⟩, by simp [intOf]; omega⟩
    as_aux_lemma =>
    have dk : decide ((k : Int) < (n : Int)) = false := decide_eq_false (by omega)
    obtain ⟨N, hN⟩ : ∃ N, S.length = N := ⟨_, rfl⟩
    have HN := hid hN
    have hN12 : N ≤ 12 := by rw [← hN]; exact HM.out.mach.len
    obtain ⟨mc, hmc, _⟩ := HM.out.mach.out
    rw [hN] at hmc
    clear hN
    have cm : wr.cell? ⟨mb, 0, none⟩ = some (.slice ma N mc) := hmc.cell 0
    have HM0 := HM
    obtain ⟨wA, rfl⟩ : ∃ wA, wA = wr := ⟨_, rfl⟩
    go_upto_region 10 with fail
    clear cm dk hmc
    go_loopw [36] (fun i wr2 => ∃ (i1 : Nat), i1 ≤ N ∧ i = .int .i64 i1 ∧ Hid (MW w' mb ma S wr2)) (fun i _ => N - (intOf i).toNat)
    case atStart => exact ⟨0, Nat.zero_le _, rfl, HM⟩
    case round =>
      clear HM
      obtain ⟨i1, hi1, rfl, HM⟩ := hrel
      by_cases hlt1 : i1 < N
      rotate_left
      · as_aux_lemma =>
        have d1 : decide ((i1 : Int) < (N : Int)) = false := decide_eq_false (by omega)
        go_wp2
        go_ret
        exact ⟨rfl, HM.out.bel⟩
      have d1 : decide ((i1 : Int) < (N : Int)) = true := decide_eq_true (by omega)
      have j1 : (i1 : Int) < (N : Int) := by omega
      obtain ⟨p1, g, off, mc1, hp1, _, hw1, hma, cm1, ce1⟩ := HM.out.ptr (k := i1) (by rw [HN.out]; exact hlt1)
      subst hma
      rw [HN.out] at cm1
      have HP1 := hid hp1
      have HW1 := hid hw1
      clear hp1 hw1
      go_upto_region 13 with fail
      clear ce1 cm1 d1
      go_loopw [45] (fun i wr2 => ∃ (i2 : Nat), i2 ≤ N ∧ i = .int .i64 i2 ∧ Hid (MW w' mb (some ⟨g, off, none⟩) S wr2)) (fun i _ => N - (intOf i).toNat)
      case atStart => exact ⟨0, Nat.zero_le _, rfl, HM⟩
      case round =>
        clear HM
        obtain ⟨i2, hi2, rfl, HM⟩ := hrel
        by_cases hlt2 : i2 < N
        rotate_left
        · as_aux_lemma =>
          have d2 : decide ((i2 : Int) < (N : Int)) = false := decide_eq_false (by omega)
          go_wp2
          exact ⟨⟨i1 + 1, by omega, by go_num, HM⟩, by simp [intOf]; omega⟩
        have d2 : decide ((i2 : Int) < (N : Int)) = true := decide_eq_true (by omega)
        have j2 : (i2 : Int) < (N : Int) := by omega
        obtain ⟨p2, g', off', _, hp2, _, hw2, hma, _, ce2⟩ := HM.out.ptr (k := i2) (by rw [HN.out]; exact hlt2)
        cases hma
        have HP2 := hid hp2
        have HW2 := hid hw2
        clear hp2 hw2
        have HR1 := hid (HM.out.mach.regs p1 (List.mem_of_getElem? HP1.out))
        go_upto_region 15 with fail
        clear ce2 d2
        go_wp2_with fail
        refine (members_reg p1.1 p1.2 _ HR1.out).mono ?_
        rintro e wB ⟨g1, rfl, t1, u1, r1⟩
        have HM1 := hid (HM.out.memb HR1.out r1 u1 HW1.out)
        have HT1 := hid t1
        clear t1 u1 r1 HR1 HM
        have HR2 := hid (HM1.out.mach.regs p2 (List.mem_of_getElem? HP2.out))
        go_wp2_with fail
        refine (members_reg p2.1 p2.2 _ HR2.out).mono ?_
        rintro e wC ⟨g2, rfl, t2, u2, r2⟩
        have HM2 := hid (HM1.out.memb HR2.out r2 u2 HW2.out)
        have HT2 := hid t2
        obtain ⟨_, _, _, _, bb, _⟩ := HR2.out.out
        have HT1' := hid (HT1.out.updT bb (by decide) u2)
        clear t2 u2 r2 HR2 HM1 HT1 bb
        go_upto_region 18 with fail
        go_loopw [12, 13, 14, 55] (fun sv ov ev i wr2 => ∃ (x : Nat), x ≤ 196608 ∧ i = .int .i64 x ∧ sv = .bool (subA (fun i => memB p1.2 (i : Int)) (fun i => memB p2.2 (i : Int)) x) ∧ ov = .bool (ovA (fun i => memB p1.2 (i : Int)) (fun i => memB p2.2 (i : Int)) x) ∧ ev = .bool (eqA (fun i => memB p1.2 (i : Int)) (fun i => memB p2.2 (i : Int)) x) ∧ Hid (Below wC.heap.size wC wr2)) (fun _ _ _ i _ => 196608 - (intOf i).toNat)
        case atStart => exact ⟨0, by omega, rfl, rfl, rfl, rfl, hid (Below.refl _ _)⟩
        case round =>
          obtain ⟨x, hx, rfl, rfl, rfl, rfl, HB⟩ := hrel
          by_cases hlt3 : x < 196608
          · as_aux_lemma =>
            have d3 : decide ((x : Int) < 196608) = true := decide_eq_true (by omega)
            have j3 : (x : Int) < 196608 := by omega
            obtain ⟨b1, hb1⟩ : ∃ b, memB p1.2 (x : Int) = b := ⟨_, rfl⟩
            obtain ⟨b2, hb2⟩ : ∃ b, memB p2.2 (x : Int) = b := ⟨_, rfl⟩
            have k1 : wr.cell? ⟨g1, x, none⟩ = some (.bool b1) := by rw [(HT1'.out.below HB.out).cell, ← hb1]; exact tabL_get _ hlt3
            have k2 : wr.cell? ⟨g2, x, none⟩ = some (.bool b2) := by rw [(HT2.out.below HB.out).cell, ← hb2]; exact tabL_get _ hlt3
            have HB2 : Hid (∀ w2, Below wr.heap.size wr w2 → Below wC.heap.size wC w2) := hid (fun w2 hb => HB.out.trans (hb.mono HB.out.size))
            have HD : Hid (∀ z, subA (fun i => memB p1.2 (i : Int)) (fun i => memB p2.2 (i : Int)) (x + 1) = (if (b1 && !b2) = true then false else subA (fun i => memB p1.2 (i : Int)) (fun i => memB p2.2 (i : Int)) x) ∧ ovA (fun i => memB p1.2 (i : Int)) (fun i => memB p2.2 (i : Int)) (x + 1) = (if (b1 && b2) = true then true else ovA (fun i => memB p1.2 (i : Int)) (fun i => memB p2.2 (i : Int)) x) ∧ eqA (fun i => memB p1.2 (i : Int)) (fun i => memB p2.2 (i : Int)) (x + 1) = (if (b1 != b2) = true then false else eqA (fun i => memB p1.2 (i : Int)) (fun i => memB p2.2 (i : Int)) x) ∧ z = z) := hid (fun (z : Nat) => ⟨by rw [subA, hb1, hb2], by rw [ovA, hb1, hb2], by rw [eqA, hb1, hb2], rfl⟩)
            clear hb1 hb2
            have fin : ∀ (i v1 v2 v3) (w2 : World), Below wr.heap.size wr w2 → i = Value.int .i64 ((x + 1 : Nat) : Int) → v1 = subA (fun i => memB p1.2 (i : Int)) (fun i => memB p2.2 (i : Int)) (x + 1) → v2 = ovA (fun i => memB p1.2 (i : Int)) (fun i => memB p2.2 (i : Int)) (x + 1) → v3 = eqA (fun i => memB p1.2 (i : Int)) (fun i => memB p2.2 (i : Int)) (x + 1) → (∃ (y : Nat), y ≤ 196608 ∧ i = .int .i64 y ∧ Value.bool v1 = .bool (subA (fun i => memB p1.2 (i : Int)) (fun i => memB p2.2 (i : Int)) y) ∧ Value.bool v2 = .bool (ovA (fun i => memB p1.2 (i : Int)) (fun i => memB p2.2 (i : Int)) y) ∧ Value.bool v3 = .bool (eqA (fun i => memB p1.2 (i : Int)) (fun i => memB p2.2 (i : Int)) y) ∧ Hid (Below wC.heap.size wC w2)) ∧ 196608 - (intOf i).toNat < 196608 - (intOf (.int .i64 (x : Int))).toNat := fun i v1 v2 v3 w2 hb hi h1 h2 h3 => by
              subst hi h1 h2 h3
              exact ⟨⟨x + 1, by omega, rfl, rfl, rfl, rfl, hid (HB2.out w2 hb)⟩, by simp [intOf]; omega⟩
            have Hfin := hid fin
            clear fin HB
            obtain ⟨q1, q2, q3, _⟩ := HD.out 0
            generalize subA (fun i => memB p1.2 (i : Int)) (fun i => memB p2.2 (i : Int)) x = v1 at q1 ⊢
            generalize ovA (fun i => memB p1.2 (i : Int)) (fun i => memB p2.2 (i : Int)) x = v2 at q2 ⊢
            generalize eqA (fun i => memB p1.2 (i : Int)) (fun i => memB p2.2 (i : Int)) x = v3 at q3 ⊢
            have Q1 := hid q1
            have Q2 := hid q2
            have Q3 := hid q3
            clear q1 q2 q3 HD
            cases b1 <;> cases b2
            all_goals
              go_upto_region 24 with fail
              go_region
              go_wp2
              refine Hfin.out _ _ _ _ _ ?_ (by go_num) ?_ ?_ ?_
              · exact Drew.below ⟨1, rfl⟩ _
              · rw [Q1.out]; rfl
              · rw [Q2.out]; rfl
              · rw [Q3.out]; rfl
          as_aux_lemma =>
          have d3 : decide ((x : Int) < 196608) = false := decide_eq_false (by omega)
          have hx' : x = 196608 := by omega
          subst hx'
          have HMz := hid (HM2.out.below HB.out)
          obtain ⟨xa1, xn1, xc1, tb1, z1, z2, z3, _⟩ := (HMz.out.mach.regs p1 (List.mem_of_getElem? HP1.out)).out
          obtain ⟨xa2, xn2, xc2, tb2, y1, y2, y3, _⟩ := (HMz.out.mach.regs p2 (List.mem_of_getElem? HP2.out)).out
          have hn1 := (HMz.out.mach.regs p1 (List.mem_of_getElem? HP1.out)).nrm
          have hn2 := (HMz.out.mach.regs p2 (List.mem_of_getElem? HP2.out)).nrm
          rw [subA_all hn1 hn2, ovA_all hn1 hn2, eqA_all hn1 hn2]
          have HC1 : Hid (∀ w2 : World, Below wr.heap.size wr w2 → w2.cell? ⟨p1.1, 0, none⟩ = some (.slice xa1 xn1 xc1)) := hid (fun w2 hb => (z1.below hb).cell 0)
          have HC2 : Hid (∀ w2 : World, Below wr.heap.size wr w2 → w2.cell? ⟨p2.1, 0, none⟩ = some (.slice xa2 xn2 xc2)) := hid (fun w2 hb => (y1.below hb).cell 0)
          obtain ⟨BS, hBS⟩ : ∃ B, subB p1.2 p2.2 = B := ⟨_, rfl⟩
          obtain ⟨BO, hBO⟩ : ∃ B, ovB p1.2 p2.2 = B := ⟨_, rfl⟩
          obtain ⟨BE, hBE⟩ : ∃ B, decide (p1.2 = p2.2) = B := ⟨_, rfl⟩
          have HK1 : Hid (∀ w2 : World, Below wr.heap.size wr w2 → Calls Try.prog 32 #[.agg #[.slice xa1 xn1 xc1], .agg #[.slice xa2 xn2 xc2]] w2 fun e w3 => e = .returned (.bool BS) ∧ Below w2.heap.size w2 w3) := hid (fun w2 hb => by rw [← hBS]; exact subset_walk xa1 xn1 xc1 p1.2 xa2 xn2 xc2 p2.2 w2 (z2.below hb) (y2.below hb) hn1 hn2)
          have HK2 : Hid (∀ w2 : World, Below wr.heap.size wr w2 → Calls Try.prog 33 #[.agg #[.slice xa1 xn1 xc1], .agg #[.slice xa2 xn2 xc2]] w2 fun e w3 => e = .returned (.bool BO) ∧ Below w2.heap.size w2 w3) := hid (fun w2 hb => by rw [← hBO]; exact overlaps_walk xa1 xn1 xc1 p1.2 xa2 xn2 xc2 p2.2 w2 (z2.below hb) (y2.below hb) hn1 hn2)
          have HK3 : Hid (∀ w2 : World, Below wr.heap.size wr w2 → Calls Try.prog 34 #[.agg #[.slice xa1 xn1 xc1], .agg #[.slice xa2 xn2 xc2]] w2 fun e w3 => e = .returned (.bool BE) ∧ Below w2.heap.size w2 w3) := hid (fun w2 hb => by rw [← hBE]; exact equal_walk xa1 xn1 xc1 p1.2 xa2 xn2 xc2 p2.2 w2 (z2.below hb) (y2.below hb))
          rw [hBS, hBO, hBE]
          clear hBS hBO hBE z1 z2 z3 y1 y2 y3 hn1 hn2
          go_upto_region 27 with fail
          clear d3
          obtain ⟨X, W, hT, hI⟩ := class_mk (fun w2 => Below wr.heap.size wr w2)
          have HCl : Hid (∀ x w2, Below (W x).heap.size (W x) w2 → ∃ y, w2 = W y) := hid (fun x w2 hb => hI _ ((hT x).trans (hb.mono (hT x).size)))
          have H0 : Hid (∃ x, wr.drew = W x) := hid (hI _ (Drew.below ⟨1, rfl⟩ _))
          have hne : Nonempty X := ⟨H0.out.choose⟩
          have e1 : ∀ x, (W x).cell? ⟨p1.1, 0, none⟩ = some (.slice xa1 xn1 xc1) := fun x => HC1.out _ (hT x)
          have e2 : ∀ x, (W x).cell? ⟨p2.1, 0, none⟩ = some (.slice xa2 xn2 xc2) := fun x => HC2.out _ (hT x)
          have HCo1 : Hid (∀ x, Calls Try.prog 32 #[.agg #[.slice xa1 xn1 xc1], .agg #[.slice xa2 xn2 xc2]] (W x) fun e w3 => e = .returned (.bool BS) ∧ Below (W x).heap.size (W x) w3) := hid (fun x => HK1.out _ (hT x))
          have HCo2 : Hid (∀ x, Calls Try.prog 33 #[.agg #[.slice xa1 xn1 xc1], .agg #[.slice xa2 xn2 xc2]] (W x) fun e w3 => e = .returned (.bool BO) ∧ Below (W x).heap.size (W x) w3) := hid (fun x => HK2.out _ (hT x))
          have HCo3 : Hid (∀ x, Calls Try.prog 34 #[.agg #[.slice xa1 xn1 xc1], .agg #[.slice xa2 xn2 xc2]] (W x) fun e w3 => e = .returned (.bool BE) ∧ Below (W x).heap.size (W x) w3) := hid (fun x => HK3.out _ (hT x))
          have HTT := hid hT
          have qS : (BS != BS) = false := by simp
          have qO : (BO != BO) = false := by simp
          have qE : (BE != BE) = false := by simp
          clear hT hI
          refine wp_region_class W rfl (by kernel_rfl) H0.out ?_
          repeat (go_big_quiet_step (first | (go_at_call 32; exact Calls.class_of HCl.out (HCo1.out _)) | (go_at_call 33; exact Calls.class_of HCl.out (HCo2.out _)) | (go_at_call 34; exact Calls.class_of HCl.out (HCo3.out _))))
          refine wpQuiet_nil ?_
          intro z
          have HZ := hid (HMz.out.below (HTT.out z))
          generalize W z = wz at HZ ⊢
          clear e1 e2 HCl H0 HTT HCo1 HCo2 HCo3 hne
          go_wp2
          exact ⟨⟨i2 + 1, by omega, by go_num, HZ⟩, by simp [intOf]; omega⟩
end Go.Proofs.Qxb6500884a
