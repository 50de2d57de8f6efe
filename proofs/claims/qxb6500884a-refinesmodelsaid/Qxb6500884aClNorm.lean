/- Normalises: the law. -/
import Derived.Test.Qxb6500884aClFrom
namespace Go.Proofs.Qxb6500884a
open Go.RowKit
set_option linter.unusedSimpArgs false
set_option linter.unusedVariables false

/-- The step, the class, its list. -/
structure Nw (w0 : World) (pO pC : Nat) (oc : List Value) (a : Option Addr) (m c : Nat) (l : List (Int × Int)) (w : World) : Prop where
  bel : Below w0.heap.size w0 w
  bo : Blk w pO 28 oc
  bc : Blk w pC 30 [.slice a m c]
  row : IvRow w a m c l
theorem Nw.below {w0 w w' : World} {pO pC : Nat} {oc : List Value} {a : Option Addr} {m c : Nat} {l : List (Int × Int)} (h : Nw w0 pO pC oc a m c l w) (hb : Below w.heap.size w w') : Nw w0 pO pC oc a m c l w' := ⟨h.bel.trans (hb.mono h.bel.size), h.bo.below hb, h.bc.below hb, h.row.below hb⟩
theorem Nw.upd {w0 w w' : World} {pO pC r : Nat} {oc : List Value} {a : Option Addr} {m c : Nat} {l : List (Int × Int)} (h : Nw w0 pO pC oc a m c l w) (hu : Upd r w w') (hr : w0.heap.size ≤ r) (h1 : pO ≠ r) (h2 : pC ≠ r) (h3 : 0 < m → ∀ b off, a = some ⟨b, off, none⟩ → b ≠ r) : Nw w0 pO pC oc a m c l w' :=
  ⟨h.bel.trans (hu.below hr h.bel.size), h.bo.upd hu h1, h.bc.upd hu h2, h.row.upd hu h3⟩
theorem Nrm.out {l : List (Int × Int)} (h : Nrm l) {x : Int} (hx : x < 0 ∨ 196607 < x) : memB l x = false := by
  rw [Bool.eq_false_iff]
  intro hm
  obtain ⟨p, hp, h1, h2⟩ := memB_iff.1 hm
  have := h.rng p hp
  omega
theorem IvRow.lt {w : World} {a : Option Addr} {n c : Nat} {l : List (Int × Int)} (h : IvRow w a n c l) (hn : 0 < n) {b off : Nat} (ha : a = some ⟨b, off, none⟩) : b < w.heap.size := by
  obtain ⟨p, _, _, _, b', off', ha', hb, _⟩ := h.get hn
  rw [ha] at ha'
  cases ha'
  exact hb
set_option maxRecDepth 100000 in
set_option maxHeartbeats 4000000 in
theorem normLaw_walk (a : Option Addr) (n c : Nat) (l : List COp) (w : World) (hs : Script w a n c l) :
    Calls Try.prog 3 #[.slice a n c] w fun e w' => e = .returned (.bool true) ∧ Below w.heap.size w w' := by
  have HS := hid hs
  have hl := hs.1.1
  clear hs
  go_enter Try.func3, Try.ntmps3
  go_wp2_with fail
  refine (small_walk a n c l _ HS.out).mono ?_
  rintro e w' ⟨r, rfl, rfl, hr⟩
  cases r with
  | false =>
    go_wp2
    go_ret
    exact ⟨rfl, Below.refl _ _⟩
  | true =>
    obtain ⟨hsm, hob⟩ := hr rfl
    have HOb := hid hob
    clear hr hob
    go_wp2_with fail
    go_loopw [12] (fun i wr => ∃ k : Nat, k ≤ n ∧ i = .int .i64 k ∧ Hid (Below w'.heap.size w' wr)) (fun i _ => n - (intOf i).toNat)
    case atStart => exact ⟨0, Nat.zero_le _, rfl, hid (Below.refl _ _)⟩
    case round =>
      obtain ⟨k, hk, rfl, HB⟩ := hrel
      by_cases hlt : k < n
      rotate_left
      · have dk : decide ((k : Int) < (n : Int)) = false := decide_eq_false (by omega)
        go_wp2
        go_ret
        exact ⟨rfl, HB.out⟩
      obtain ⟨o, ho, hok, b, off, rfl, hb, c0, c1, c2, c3, c4⟩ := (HS.out.below HB.out).at hlt
      have hob := HOb.out o (List.mem_of_getElem? ho)
      have HOk := hid (HS.out.2 o (List.mem_of_getElem? ho))
      obtain ⟨kind, oa, ob, ia, inn, ic, iv, ra, rn, rc, rg⟩ := o
      dsimp only at c0 c1 c2 c3 c4 hob
      have dk : decide ((k : Int) < (n : Int)) = true := decide_eq_true (by omega)
      have i1 : (k : Int) < (n : Int) := by omega
      obtain ⟨pO, hpO⟩ : ∃ pO, wr.heap.size = pO := ⟨_, rfl⟩
      clear ho hok
      by_cases hkd : kind = 0
      rotate_left
      · as_aux_lemma =>
        have dq : (kind != 0) = true := by simpa using hkd
        have HB2 := hid (HB.out.alloc HB.out.size (.cells #[Value.int .i64 kind, .int .i64 oa, .int .i64 ob, .slice ia inn ic, .slice ra rn rc] 28))
        go_wp2
        exact ⟨⟨k + 1, by omega, by go_num, HB2⟩, by simp [intOf]; omega⟩
      subst hkd
      go_upto_region 7 with fail
      obtain ⟨w1, hw1⟩ : ∃ w1, wr.alloc (.cells #[Value.int .i64 0, .int .i64 oa, .int .i64 ob, .slice ia inn ic, .slice ra rn rc] 28) = w1 := ⟨_, rfl⟩
      have hbo := Blk.new wr [Value.int .i64 0, .int .i64 oa, .int .i64 ob, .slice ia inn ic, .slice ra rn rc] 28
      have hw1' : wr.alloc (.cells [Value.int .i64 0, .int .i64 oa, .int .i64 ob, .slice ia inn ic, .slice ra rn rc].toArray 28) = w1 := hw1
      rw [hw1', hpO] at hbo
      have HB1 : Hid (Below w'.heap.size w' w1) := hid (by rw [← hw1]; exact HB.out.alloc HB.out.size _)
      try simp only [hw1]
      have HBo := hid hbo
      have o3 : w1.cell? ⟨pO, 3, none⟩ = some (.slice ia inn ic) := hbo.cell 3
      have hpOw : w'.heap.size ≤ pO := by have := HB.out.size; omega
      clear hbo hw1 hw1' c0 c1 c2 c3 c4 HB hb
      have HRi := hid (HOk.out.iv)
      have HFr := hid (from_walk ia inn ic iv w1 (HRi.out.below HB1.out) (by have := hob.1; omega))
      go_wp2_with fail
      refine (HFr.out).mono ?_
      rintro e w2 ⟨⟨a2, m2, c2, l2, rfl, hrow, hN, hmem, hm2, hab⟩, hb2⟩
      have hm3 : m2 ≤ 65536 := by rw [HRi.out.len] at hm2; omega
      obtain ⟨pC, hpC⟩ : ∃ pC, w2.heap.size = pC := ⟨_, rfl⟩
      have HN2 : Hid (Nw w' pO pC [Value.int .i64 0, .int .i64 oa, .int .i64 ob, .slice ia inn ic, .slice ra rn rc] a2 m2 c2 l2 (w2.alloc (.cells [Value.slice a2 m2 c2].toArray 30))) := hid (by
        have hbc := Blk.new w2 [.slice a2 m2 c2] 30
        rw [hpC] at hbc
        have hbe : Below w'.heap.size w' w2 := HB1.out.trans (hb2.mono HB1.out.size)
        exact ⟨hbe.alloc hbe.size _, (HBo.out.below hb2).alloc _, hbc, hrow.below (nbel w2 _)⟩)
      have Hmem := hid hmem
      have HNr := hid hN
      clear hb2 hrow hmem hab HFr o3 HBo HB1 hN
      go_upto_region 8 with fail
      have HN3 : Hid (Nw w' pO pC [Value.int .i64 0, .int .i64 oa, .int .i64 ob, .slice ia inn ic, .slice ra rn rc] a2 m2 c2 l2 (w2.alloc (.cells #[Value.slice a2 m2 c2] 30))) := HN2
      generalize w2.alloc (.cells #[Value.slice a2 m2 c2] 30) = w3 at HN3 ⊢
      clear HN2
      have q3 : w3.cell? ⟨pC, 0, none⟩ = some (.slice a2 m2 c2) := HN3.out.bc.cell 0
      have HIv := hid (intervals_walk a2 m2 c2 l2 w3 HN3.out.row (by omega))
      go_wp2_with fail
      refine (HIv.out).mono ?_
      rintro e w4 ⟨a4, n4, c4, rfl, hb4, hrow4⟩
      have HN4 := hid (HN3.out.below hb4)
      have HNo := hid (normal_walk a4 n4 c4 l2 w4 hrow4 HNr.out)
      clear hb4 hrow4 HIv HN3 q3
      go_wp2_with fail
      refine (HNo.out).mono ?_
      rintro e w5 ⟨rfl, hb5⟩
      have HN5 := hid (HN4.out.below hb5)
      clear hb5 HNo HN4
      have o5 : w5.cell? ⟨pO, 3, none⟩ = some (.slice ia inn ic) := HN5.out.bo.cell 3
      have HMf := hid (mfrom_walk ia inn ic iv w5 (HRi.out.below HN5.out.bel))
      go_wp2_with fail
      refine (HMf.out).mono ?_
      rintro e w6 ⟨g1, rfl, hg1, ht1⟩
      have HN6 := hid (HN5.out.below ht1.bel)
      have HT6 := hid ht1
      have hg1w : w'.heap.size ≤ g1 := by have := HN5.out.bel.size; omega
      clear ht1 HMf HN5 o5
      have q6 : w6.cell? ⟨pC, 0, none⟩ = some (.slice a2 m2 c2) := HN6.out.bc.cell 0
      have HIv := hid (intervals_walk a2 m2 c2 l2 w6 HN6.out.row (by omega))
      go_wp2_with fail
      refine (HIv.out).mono ?_
      rintro e w7 ⟨a7, n7, c7, rfl, hb7, hrow7⟩
      have HN7 := hid (HN6.out.below hb7)
      have HT7 := hid (HT6.out.below hb7)
      have HMf := hid (mfrom_walk a7 n7 c7 l2 w7 hrow7)
      clear hb7 hrow7 HIv HN6 HT6 q6
      go_wp2_with fail
      refine (HMf.out).mono ?_
      rintro e w8 ⟨g2, rfl, hg2, ht2⟩
      have HN8 := hid (HN7.out.below ht2.bel)
      have HT8 := hid (HT7.out.below ht2.bel)
      have HT8b := hid (ht2.ext (f' := fun i => memB iv (i : Int)) (fun i hi => Hmem.out (i : Int) (by omega) (by omega)))
      have HSt := hid (sameTable_walk _ _ g2 g1 _ w8 HT8b.out HT8.out)
      clear ht2 HMf HN7 HT7
      go_wp2_with fail
      refine (HSt.out).mono ?_
      rintro e w9 ⟨rfl, hb9⟩
      have HN9 := hid (HN8.out.below hb9)
      have HT9 := hid (HT8.out.below hb9)
      clear hb9 HSt HN8 HT8 HT8b
      have q9 : w9.cell? ⟨pC, 0, none⟩ = some (.slice a2 m2 c2) := HN9.out.bc.cell 0
      obtain ⟨pR, hpR⟩ : ∃ pR, w9.heap.size = pR := ⟨_, rfl⟩
      have hbr := Blk.new w9 [.slice a2 m2 c2, .slice none 0 0] 40
      rw [hpR] at hbr
      have HMb := hid (members_walk pR a2 m2 c2 l2 _ hbr (HN9.out.row.below (nbel w9 _)) HNr.out (fun h b off e => by have := HN9.out.row.lt h e; omega))
      have HMb2 : Hid (Calls Try.prog 17 #[.pointer (some ⟨pR, 0, none⟩)] (w9.alloc (.cells #[Value.slice a2 m2 c2, .slice none 0 0] 40)) _) := HMb
      clear hbr HMb
      go_wp2_with fail
      refine (HMb2.out).mono ?_
      rintro e w10 ⟨g3, rfl, hg3, ht3, hu10⟩
      have hpRw : w'.heap.size ≤ pR := by have := HN9.out.bel.size; omega
      have hpOR : pO < pR := by have := HN9.out.bo.lt; omega
      have hpCR : pC < pR := by have := HN9.out.bc.lt; omega
      have hg1R : g1 < pR := by have := HT9.out.blk.lt; omega
      have HN10 := hid ((HN9.out.below (nbel w9 _)).upd hu10 hpRw (by omega) (by omega) (fun h b off e => by have := HN9.out.row.lt h e; omega))
      have HT10 : Hid (Tb w' g1 (fun i => memB iv (i : Int)) w10) := hid ⟨HN10.out.bel, (HT9.out.blk.alloc _).upd hu10 (by omega)⟩
      have HT10b : Hid (Tb w' g3 (fun i => memB iv (i : Int)) w10) := hid ⟨HN10.out.bel, by rw [← tabL_ext (fun i hi => Hmem.out (i : Int) (by omega) (by omega))]; exact ht3⟩
      have HSt := hid (sameTable_walk _ _ g3 g1 _ w10 HT10b.out HT10.out)
      clear ht3 hu10 HN9 HT9 HMb2 q9
      go_wp2_with fail
      refine (HSt.out).mono ?_
      rintro e w11 ⟨rfl, hb11⟩
      have HN11 := hid (HN10.out.below hb11)
      clear hb11 HSt HN10 HT10 HT10b
      have q11 : w11.cell? ⟨pC, 0, none⟩ = some (.slice a2 m2 c2) := HN11.out.bc.cell 0
      have HC1 := hid (contains_walk a2 m2 c2 l2 (-1) w11 HN11.out.row HNr.out)
      rw [HNr.out.out (.inl (by omega))] at HC1
      go_wp2_with fail
      refine (HC1.out).mono ?_
      rintro e w12 ⟨rfl, hb12⟩
      have HN12 := hid (HN11.out.below hb12)
      clear hb12 HC1 HN11 q11
      have q12 : w12.cell? ⟨pC, 0, none⟩ = some (.slice a2 m2 c2) := HN12.out.bc.cell 0
      have HC2 := hid (contains_walk a2 m2 c2 l2 196608 w12 HN12.out.row HNr.out)
      rw [HNr.out.out (.inr (by omega))] at HC2
      go_wp2_with fail
      refine (HC2.out).mono ?_
      rintro e w13 ⟨rfl, hb13⟩
      have HN13 := hid (HN12.out.below hb13)
      clear hb13 HC2 HN12 q12
      go_wp2
      exact ⟨⟨k + 1, by omega, by go_num, hid HN13.out.bel⟩, by simp [intOf]; omega⟩
end Go.Proofs.Qxb6500884a
