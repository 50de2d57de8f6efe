/- Texts of scripts: chains (written by tools/mk_tx.py). -/
import Derived.Test.Qxb6500883aGreatDoorScTi
namespace Go.Proofs.Qxb6500883aGreatDoor
open Go.RowKit
set_option linter.unusedSimpArgs false
set_option linter.unusedVariables false
section
variable {w w' : World} {n0 : Nat} {v v' : Value} {bs : List UInt8} {g ty co N mg kd oa ob oc : Nat} {os : ByteArray}
theorem lsz (l : List UInt8) : (ByteArray.mk l.toArray).size = l.length := by show l.toArray.size = l.length; simp
set_option maxRecDepth 100000 in
set_option maxHeartbeats 8000000 in
theorem linkW {gs p i : Nat} {st : ByteArray} (hS : Blk w gs 9 [.string st]) (hst : st.size ≤ 3) (hP : Blk w p 85 [.int .u8 (kd : Int), .int .u64 (oa : Int), .int .u64 (ob : Int), .int .u64 (oc : Int), .string os]) (hi : i < 100) : Calls Tryz.prog 75 #[.int .u64 (i : Int), .pointer (some ⟨gs, 0, none⟩), .pointer (some ⟨p, 0, none⟩)] w fun e w' => ∃ s : ByteArray, e = .returned (.string s) ∧ s.size ≤ 60 ∧ Hid (Below w.heap.size w w') := by
  have c0 : w.cell? ⟨gs, 0, none⟩ = some (.string st) := hS.cell 0
  have c3 : w.cell? ⟨p, 3, none⟩ = some (.int .u64 (oc : Int)) := hP.cell 3
  have hgs := hS.lt
  have hpl := hP.lt
  obtain ⟨c8, e8_, h8_⟩ : ∃ q : Nat, (oc : Int) % 8 = (q : Int) ∧ q < 8 := ⟨oc % 8, by omega, by omega⟩
  clear hS hP
  go_enter Tryz.func75, Tryz.ntmps75
  go_upto_region 1 with fail
  have HSd_ : Hid ((w.drew).cell? ⟨gs, 0, none⟩ = some (.string st)) := hid (c0)
  refine wp_region_hlh (fun wz => wz.cell? ⟨gs, 0, none⟩ = some (.string st)) 4 [0, 1] [2] [3] [] rfl (by kernel_rfl) (by kernel_rfl) (fun d _ _ _ _ h => by cases d <;> exact h) HSd_.out ?_
  apply Exists.intro
  refine ⟨?_, ?_⟩
  · intro W hW
    have q1 : ∀ z, (W z).cell? ⟨gs, 0, none⟩ = some (.string st) := fun z => hW z
    clear hW
    simp only [List.take, opsAt, List.drop, List.cons_append, List.nil_append]
    repeat (go_big_quiet_step (fail))
    exact rfl
  simp only [List.take, List.drop, opsAt, List.cons_append, List.nil_append, wpHvK]
  have HBd_ : Hid (Below w.heap.size w w.drew) := hid (Drew.below ⟨1, rfl⟩ _)
  generalize w.drew = wd_ at HSd_ HBd_ ⊢
  go_wp2_with fail
  refine (numTxW 1 i (by omega) (by omega) (by omega) wd_).mono ?_
  rintro e w2 ⟨s1, rfl, hs1, HBn_⟩
  have HB_w2 : Hid (Below w.heap.size w w2) := hid (HBd_.out.trans (HBn_.out.mono HBd_.out.size))
  go_wp2_with fail
  refine ⟨(keepCell _ (HB_w2.out.block gs hgs)).trans (c0), ?_⟩
  apply Exists.intro
  refine ⟨?_, ?_⟩
  · intro W hW
    clear hW
    (try simp only [List.take, opsAt, List.drop, List.cons_append, List.nil_append])
    repeat (go_big_quiet_step (fail))
    exact rfl
  (try simp only [wpHv, opsAt, List.take, List.drop, List.cons_append, List.nil_append, QN])
  clear HSd_ HBd_ HBn_
  obtain ⟨nm, hnm, hnz⟩ : ∃ nm : ByteArray, st ++ s1 = nm ∧ nm.size ≤ 5 := ⟨_, rfl, by rw [ByteArray.size_append]; omega⟩
  (try simp only [hnm])
  clear hnm hs1
  by_cases hi0 : i = 0
  · subst hi0
    have c3_ : w2.cell? ⟨p, 3, none⟩ = some (.int .u64 (oc : Int)) := (keepCell _ (HB_w2.out.block p hpl)).trans c3
    obtain rfl | rfl | rfl | rfl | rfl | rfl | rfl | rfl : c8 = 0 ∨ c8 = 1 ∨ c8 = 2 ∨ c8 = 3 ∨ c8 = 4 ∨ c8 = 5 ∨ c8 = 6 ∨ c8 = 7 := by omega
    · clear c0 c3
      go_wp2
      go_ret
      exact ⟨_, rfl, by simp only [ByteArray.size_append, lsz, List.length_cons, List.length_nil]; omega, HB_w2⟩
    · clear c0 c3
      go_wp2
      go_ret
      exact ⟨_, rfl, by simp only [ByteArray.size_append, lsz, List.length_cons, List.length_nil]; omega, HB_w2⟩
    · clear c0 c3
      go_wp2
      go_ret
      exact ⟨_, rfl, by simp only [ByteArray.size_append, lsz, List.length_cons, List.length_nil]; omega, HB_w2⟩
    · clear c0 c3
      go_wp2
      go_ret
      exact ⟨_, rfl, by simp only [ByteArray.size_append, lsz, List.length_cons, List.length_nil]; omega, HB_w2⟩
    · clear c0 c3
      go_wp2
      go_ret
      exact ⟨_, rfl, by simp only [ByteArray.size_append, lsz, List.length_cons, List.length_nil]; omega, HB_w2⟩
    · clear c0 c3
      go_wp2
      go_ret
      exact ⟨_, rfl, by simp only [ByteArray.size_append, lsz, List.length_cons, List.length_nil]; omega, HB_w2⟩
    · clear c0 c3
      go_wp2
      go_ret
      exact ⟨_, rfl, by simp only [ByteArray.size_append, lsz, List.length_cons, List.length_nil]; omega, HB_w2⟩
    · clear c0 c3
      go_wp2
      go_ret
      exact ⟨_, rfl, by simp only [ByteArray.size_append, lsz, List.length_cons, List.length_nil]; omega, HB_w2⟩
  · have dq_ : decide ((0 : Int) < (i : Int)) = true := decide_eq_true (by omega)
    have dq2_ : 0 < i := by omega
    have c0b : w2.cell? ⟨gs, 0, none⟩ = some (.string st) := (keepCell _ (HB_w2.out.block gs hgs)).trans c0
    have hgs2 : gs < w2.heap.size := Nat.lt_of_lt_of_le hgs HB_w2.out.size
    obtain ⟨j, ej, hj⟩ : ∃ j : Nat, IntKind.u64.wrap ((i : Int) - 1) = (j : Int) ∧ j < 100 := ⟨i - 1, by rw [IntKind.wrap_u64]; omega, by omega⟩
    go_upto_region 4 with fail
    have HSd_ : Hid ((w2.drew).cell? ⟨gs, 0, none⟩ = some (.string st)) := hid (c0b)
    refine wp_region_hlh (fun wz => wz.cell? ⟨gs, 0, none⟩ = some (.string st)) 5 [0, 1, 2] [3] [4] [] rfl (by kernel_rfl) (by kernel_rfl) (fun d _ _ _ _ h => by cases d <;> exact h) HSd_.out ?_
    apply Exists.intro
    refine ⟨?_, ?_⟩
    · intro W hW
      have q1 : ∀ z, (W z).cell? ⟨gs, 0, none⟩ = some (.string st) := fun z => hW z
      clear hW
      simp only [List.take, opsAt, List.drop, List.cons_append, List.nil_append]
      repeat (go_big_quiet_step (fail))
      exact rfl
    simp only [List.take, List.drop, opsAt, List.cons_append, List.nil_append, wpHvK]
    have HBd_ : Hid (Below w2.heap.size w2 w2.drew) := hid (Drew.below ⟨1, rfl⟩ _)
    generalize w2.drew = wd_ at HSd_ HBd_ ⊢
    go_wp2_with fail
    refine (numTxW 1 j (by omega) (by omega) (by omega) wd_).mono ?_
    rintro e w3 ⟨s2, rfl, hs2, HBn_⟩
    have HB_w3 : Hid (Below w2.heap.size w2 w3) := hid (HBd_.out.trans (HBn_.out.mono HBd_.out.size))
    go_wp2_with fail
    refine ⟨(keepCell _ (HB_w3.out.block gs hgs2)).trans (c0b), ?_⟩
    apply Exists.intro
    refine ⟨?_, ?_⟩
    · intro W hW
      clear hW
      (try simp only [List.take, opsAt, List.drop, List.cons_append, List.nil_append])
      repeat (go_big_quiet_step (fail))
      exact rfl
    (try simp only [wpHv, opsAt, List.take, List.drop, List.cons_append, List.nil_append, QN])
    clear HSd_ HBd_ HBn_
    have HBz : Hid (Below w.heap.size w w3) := hid (HB_w2.out.trans (HB_w3.out.mono HB_w2.out.size))
    obtain ⟨pv, hpv, hpz⟩ : ∃ nm : ByteArray, st ++ s2 = nm ∧ nm.size ≤ 5 := ⟨_, rfl, by rw [ByteArray.size_append]; omega⟩
    (try simp only [hpv])
    clear hpv hs2
    have c3_ : w3.cell? ⟨p, 3, none⟩ = some (.int .u64 (oc : Int)) := (keepCell _ (HBz.out.block p hpl)).trans c3
    obtain rfl | rfl | rfl | rfl | rfl | rfl | rfl | rfl : c8 = 0 ∨ c8 = 1 ∨ c8 = 2 ∨ c8 = 3 ∨ c8 = 4 ∨ c8 = 5 ∨ c8 = 6 ∨ c8 = 7 := by omega
    · clear c0 c3
      go_wp2
      go_ret
      exact ⟨_, rfl, by simp only [ByteArray.size_append, lsz, List.length_cons, List.length_nil]; omega, HBz⟩
    · clear c0 c3
      go_wp2
      go_ret
      exact ⟨_, rfl, by simp only [ByteArray.size_append, lsz, List.length_cons, List.length_nil]; omega, HBz⟩
    · clear c0 c3
      go_wp2
      go_ret
      exact ⟨_, rfl, by simp only [ByteArray.size_append, lsz, List.length_cons, List.length_nil]; omega, HBz⟩
    · clear c0 c3
      go_wp2
      go_ret
      exact ⟨_, rfl, by simp only [ByteArray.size_append, lsz, List.length_cons, List.length_nil]; omega, HBz⟩
    · clear c0 c3
      go_wp2
      go_ret
      exact ⟨_, rfl, by simp only [ByteArray.size_append, lsz, List.length_cons, List.length_nil]; omega, HBz⟩
    · clear c0 c3
      go_wp2
      go_ret
      exact ⟨_, rfl, by simp only [ByteArray.size_append, lsz, List.length_cons, List.length_nil]; omega, HBz⟩
    · clear c0 c3
      go_wp2
      go_ret
      exact ⟨_, rfl, by simp only [ByteArray.size_append, lsz, List.length_cons, List.length_nil]; omega, HBz⟩
    · clear c0 c3
      go_wp2
      go_ret
      exact ⟨_, rfl, by simp only [ByteArray.size_append, lsz, List.length_cons, List.length_nil]; omega, HBz⟩
set_option maxRecDepth 100000 in
set_option maxHeartbeats 8000000 in
theorem appendChainW (hoa : oa < 18446744073709551616) (hob : ob < 18446744073709551616) (hoc : oc < 18446744073709551616) (hr : OwR rtB n0 w v bs) (h0 : n0 ≤ w.heap.size) (hl : bs.length ≤ 60000000000000) : Calls Tryz.prog 47 #[v, .agg #[.int .u8 (kd : Int), .int .u64 (oa : Int), .int .u64 (ob : Int), .int .u64 (oc : Int), .string os]] w fun e w' => ∃ v', e = .returned v' ∧ Hid (Tx n0 w bs 6500 w' v') := by
  have HR0 := hid hr
  obtain ⟨p, hp⟩ : ∃ p, w.heap.size = p := ⟨_, rfl⟩
  have k0 := Blk.new w [.int .u8 (kd : Int), .int .u64 (oa : Int), .int .u64 (ob : Int), .int .u64 (oc : Int), .string os] 85
  rw [hp] at k0
  have hb1 : Below w.heap.size w (w.alloc (.cells [.int .u8 (kd : Int), .int .u64 (oa : Int), .int .u64 (ob : Int), .int .u64 (oc : Int), .string os].toArray 85)) := nbel w _
  skip
  clear hr
  go_enter Tryz.func47, Tryz.ntmps47
  go_upto_region 1 with fail
  (try simp only [hp])
  generalize hw1 : w.alloc _ = w1 at k0 hb1 ⊢
  clear hw1
  have HP1 := hid k0
  have HB1 := hid hb1
  have cA := k0.cell 1
  have cB := k0.cell 2
  have cC := k0.cell 3
  clear k0 hb1 hp
  obtain ⟨m, e6_, h6_⟩ : ∃ q : Nat, (ob : Int) % 72 = (q : Int) ∧ q ≤ 71 := ⟨ob % 72, by omega, by omega⟩
  obtain ⟨m4, e4_, h4_⟩ : ∃ q : Nat, (oa : Int) % 4 = (q : Int) ∧ q < 4 := ⟨oa % 4, by omega, by omega⟩
  obtain ⟨q8, e8_⟩ : ∃ q : Nat, (oc : Int) / 8 = (q : Int) := ⟨oc / 8, by omega⟩
  obtain ⟨q2, e2_, h2_⟩ : ∃ q : Nat, (q8 : Int) % 2 = (q : Int) ∧ q < 2 := ⟨q8 % 2, by omega, by omega⟩
  have hmf : ∀ (fn : Fn) (first cap : Array Value) (w : World), (Instr.makeFunc fn first cap).run Tryz.prog w = .ok (.func fn first cap) w := fun _ _ _ _ => rfl
  go_wp2_with (at_builtin; refine stopHere ?_)
  refine (numTxW 0 m4 (by omega) (by omega) (by omega) w1).mono ?_
  rintro e wn ⟨s, rfl, hs, HBn⟩
  obtain ⟨st, hst, hstz⟩ : ∃ st : ByteArray, ({ data := #[72] } : ByteArray) ++ s ++ { data := #[95] } = st ∧ st.size ≤ 3 := ⟨_, rfl, by rw [ByteArray.size_append, ByteArray.size_append]; have e1 : (⟨#[72]⟩ : ByteArray).size = 1 := rfl; have e2 : (⟨#[95]⟩ : ByteArray).size = 1 := rfl; omega⟩
  obtain ⟨gs, hgs⟩ : ∃ g, wn.heap.size = g := ⟨_, rfl⟩
  have kS := Blk.new wn [.string st] 9
  rw [hgs] at kS
  have hbS : Below wn.heap.size wn (wn.alloc (.cells [.string st].toArray 9)) := nbel wn _
  go_upto_region 3 with fail
  (try simp only [hgs])
  generalize hwS : wn.alloc _ = wS at kS hbS ⊢
  clear hwS hst hgs
  have HPS := hid ((HP1.out.below HBn.out).below hbS)
  have HSS := hid kS
  have HBS := hid (HB1.out.trans ((HBn.out.trans (hbS.mono HBn.out.size)).mono HB1.out.size))
  clear kS hbS HBn HP1 cA cB cC
  have HZ : Hid (Tx n0 w bs 0 wS v) := hid ((Tx.start HR0.out).below h0 (HBS.out))
  have HT0 : Hid (Tx n0 wS bs 0 wS v) := hid (Tx.start HZ.out.row0)
  have h0b : n0 ≤ wS.heap.size := Nat.le_trans h0 HZ.out.bel.size
  clear HBS HB1
  have HP := HPS
  go_upto_region 5 with fail
  go_loopw [0, 8] (fun s t wr => ∃ (i : Nat) (b : Value), s = b ∧ t = .int .u64 (i : Int) ∧ i ≤ m ∧ Hid (Tx n0 wS bs (0 + i * 60) wr b)) (fun _ t _ => m - (intOf t).toNat)
  case atStart => exact ⟨0, _, rfl, by go_num, by omega, hid (HT0.out.mono (by omega))⟩
  case round =>
  obtain ⟨i, b, rfl, rfl, hi, HL⟩ := hrel
  clear HT0
  by_cases hin : i < m
  rotate_left
  · have d1_ : decide ((i : Int) < (m : Int)) = false := decide_eq_false (by omega)
    have HQ_ : Hid (Tx n0 w bs (6500) wr u0) := hid ((HZ.out.trans (ds := []) (Nat.le_refl _) (by rw [List.append_nil]; exact HL.out)).mono (by omega))
    clear HL
    go_wp2
    go_ret
    exact ⟨_, rfl, HQ_⟩
  have d1_ : decide ((i : Int) < (m : Int)) = true := decide_eq_true (by omega)
  have ew_ : IntKind.u64.wrap ((i : Int) + 1) = ((i + 1 : Nat) : Int) := by rw [IntKind.wrap_u64]; omega
  have hP_ := HL.out.kt _ _ _ HP.out (by decide) (by decide)
  have hS_ := HL.out.kt _ _ _ HSS.out (by decide) (by decide)
  have fC := hP_.cell 3
  by_cases hq2 : q2 = 0
  · have dq_ : ((q2 : Int) == 0) = true := by simp; omega
    clear hq2
    have HK_ := hid (linkW hS_ hstz hP_ (show i < 100 by omega))
    clear hP_ hS_
    go_wp2_with (at_builtin; refine stopHere ?_)
    refine (HK_.out).mono ?_
    rintro e w1_ ⟨sl, rfl, hsl, HB_⟩
    have HT1 : Hid (Tx n0 wS bs (0 + i * 60) w1_ u0) := hid (HL.out.below h0b HB_.out)
    clear HB_ HL
    go_wp2_with (at_builtin; refine stopHere ?_)
    intro _
    obtain ⟨ds_, hds_, hr_⟩ := HT1.out.row
    have HR_ := hid hr_
    have hz_ := Nat.le_trans h0b HT1.out.bel.size
    clear hr_
    refine wpList_app_t rfl _ _ HR_.out rfl rfl _ rfl 60 (hsl) (by rw [List.length_append]; omega) hz_ ?_
    intro v2_ w2_ HF_
    have HT2 : Hid (Tx n0 wS bs (0 + i * 60 + 60) w2_ v2_) := hid (HT1.out.trans hds_ HF_.out.tx)
    clear HF_ HR_ hds_ hz_ HT1
    have HQ_ : Hid (Tx n0 wS bs (0 + (i + 1) * 60) w2_ v2_) := hid (HT2.out.mono (by omega))
    clear HT2
    go_wp2
    exact ⟨⟨i + 1, _, rfl, by go_num, by omega, HQ_⟩, by simp [intOf]; omega⟩
  · have dq_ : ((q2 : Int) == 0) = false := by simp; omega
    obtain ⟨t1, et1, ht1⟩ : ∃ t : Nat, IntKind.u64.wrap ((m : Int) - 1) = (t : Int) ∧ t = m - 1 := ⟨m - 1, by rw [IntKind.wrap_u64]; omega, rfl⟩
    obtain ⟨t2, et2, ht2⟩ : ∃ t : Nat, IntKind.u64.wrap ((t1 : Int) - (i : Int)) = (t : Int) ∧ t < 100 := ⟨t1 - i, by rw [IntKind.wrap_u64]; omega, by omega⟩
    clear ht1
    have HK_ := hid (linkW hS_ hstz hP_ ht2)
    clear hP_ hS_
    go_wp2_with (at_builtin; refine stopHere ?_)
    refine (HK_.out).mono ?_
    rintro e w1_ ⟨sl, rfl, hsl, HB_⟩
    have HT1 : Hid (Tx n0 wS bs (0 + i * 60) w1_ u0) := hid (HL.out.below h0b HB_.out)
    clear HB_ HL
    go_wp2_with (at_builtin; refine stopHere ?_)
    intro _
    obtain ⟨ds_, hds_, hr_⟩ := HT1.out.row
    have HR_ := hid hr_
    have hz_ := Nat.le_trans h0b HT1.out.bel.size
    clear hr_
    refine wpList_app_t rfl _ _ HR_.out rfl rfl _ rfl 60 (hsl) (by rw [List.length_append]; omega) hz_ ?_
    intro v2_ w2_ HF_
    have HT2 : Hid (Tx n0 wS bs (0 + i * 60 + 60) w2_ v2_) := hid (HT1.out.trans hds_ HF_.out.tx)
    clear HF_ HR_ hds_ hz_ HT1
    have HQ_ : Hid (Tx n0 wS bs (0 + (i + 1) * 60) w2_ v2_) := hid (HT2.out.mono (by omega))
    clear HT2
    go_wp2
    exact ⟨⟨i + 1, _, rfl, by go_num, by omega, HQ_⟩, by simp [intOf]; omega⟩
end
end Go.Proofs.Qxb6500883aGreatDoor
