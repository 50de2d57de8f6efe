/- Scripts as bytes: decodesWell, the walk. -/
import Derived.Test.Qxb6500889aDoorMuEb
namespace Go.Proofs.Qxb6500889aDoor
open Go.RowKit
set_option linter.unusedSimpArgs false
set_option linter.unusedVariables false
section
variable {w : World} {a : Option Addr} {n c mg : Nat} {l : List Nat}
set_option maxRecDepth 1000000 in
set_option maxHeartbeats 16000000 in
theorem decodesWell_walk (hr : Rd w a n c l) (hg : ArG w) (hag : AgG w mg) (hn : n ≤ 100000000) (cut : Nat) (hcut : cut < 18446744073709551616) (hsp : ∀ ad, a = some ad → ad.spot = none) :
    Calls Tryd.prog 18 #[.slice a n c, .int .u64 (cut : Int)] w fun e w' => e = .returned (.bool true) ∧ Below w.heap.size w w' := by
  have HR := hid hr
  have HG := hid hg
  have HA := hid hag
  have HDc := hid (decode_walk hr hg)
  have Io : Hid ((Tryd.prog.info? 31).map (·.size) = some 5) := hid info_op
  have Iz : Hid ((Tryd.prog.info? 36).map (·.size) = some 8) := hid info_rz
  obtain ⟨hl1, hl2⟩ := dec_len _ l rfl
  rw [hr.len] at hl1 hl2
  have HWf : Hid (∀ o ∈ dec l, WfO o) := hid (fun o ho => dec_wf _ l rfl hr.byt o ho)
  have HAg : Hid (dec (enc (dec l)) = dec l) := hid (dec_again hr.byt)
  have HTk : Hid (∀ k, (dec (l.take k)).length ≤ (dec l).length ∧ ∀ i, i + 1 < (dec (l.take k)).length → (dec (l.take k))[i]? = (dec l)[i]?) := hid (fun k => dec_take l k)
  obtain ⟨s, hs⟩ : ∃ s, dec l = s := ⟨_, rfl⟩
  rw [hs] at HDc HWf HAg HTk hl1 hl2
  obtain ⟨m, hm⟩ : ∃ m, s.length = m := ⟨_, rfl⟩
  rw [hm] at hl1 hl2 HTk
  have Hm := hid hm
  have Hs := hid hs
  have d1 : decide ((n : Int) < (m : Int)) = false := decide_eq_false (by omega)
  have d2 : decide (29 * (m : Int) < (n : Int)) = false := decide_eq_false (by omega)
  have d1' : decide (n < m) = false := decide_eq_false (by omega)
  have d2' : decide (29 * m < n) = false := decide_eq_false (by omega)
  clear hr hg hag hs hm
  go_enter Tryd.func18, Tryd.ntmps18
  go_wp2_with fail
  refine HDc.out.mono ?_
  rintro e w1 ⟨v5, rfl, hD⟩
  obtain ⟨a5, c5, rfl, hsc⟩ := hD.script (by rw [Hm.out]; omega) (fun o ho => (HWf.out o ho).b)
  have HB1 := hid hD.bel
  have HS := hid hsc
  rw [Hm.out] at HS
  simp only [Hm.out]
  clear hD hsc HDc
  go_wp2_with fail
  clear d1 d2 d1' d2'
  go_loopw [34] (fun v wr => ∃ i : Nat, i ≤ m ∧ v = .int .i64 (i : Int) ∧ Hid (Below w1.heap.size w1 wr)) (fun v _ => m - (intOf v).toNat)
  case atStart => exact ⟨0, by omega, rfl, hid (Below.refl _ _)⟩
  case round =>
  obtain ⟨i, hi, rfl, HBl⟩ := hrel
  by_cases him : i < m
  · as_aux_lemma =>
    have di : decide ((i : Int) < (m : Int)) = true := decide_eq_true (by omega)
    have ii : (i : Int) < (m : Int) := by omega
    obtain ⟨o, ho, hok, b, off, rfl, hb, c0, c1, c2, c3, c4⟩ := (HS.out.below HBl.out).at him
    have HWo := hid (HWf.out o (List.mem_of_getElem? ho))
    obtain ⟨ob, hob⟩ : ∃ p, wr.heap.size = p := ⟨_, rfl⟩
    clear ho hok
    go_upto_region 7 with fail
    obtain ⟨w5, hw5⟩ : ∃ w2, wr.alloc (.cells #[.int .u8 (o.ac : Int), .int .u8 (o.k : Int), .int .u64 (o.a : Int), .int .u64 (o.b : Int), .int .u64 (o.c : Int)] 31) = w2 := ⟨_, rfl⟩
    have HB5 : Hid (Blk w5 ob 31 (opC o) ∧ Below w1.heap.size w1 w5) := hid ⟨by rw [← hw5, ← hob]; exact Blk.new wr (opC o) _, HBl.out.trans ((show Below wr.heap.size wr w5 by rw [← hw5]; exact nbel _ _).mono HBl.out.size)⟩
    simp only [hw5]
    clear hw5 hob c0 c1 c2 c3 c4 hb
    have HWk := hid (wellFormed_walk HWo.out (HA.out.below (HB1.out.trans (HB5.out.2.mono HB1.out.size))))
    go_wp2_with (refine wpList_load_blk rfl 31 _ rfl ob rfl (opC o) HB5.out.1 _ Tryd.underlying31 rfl Io.out ?_)
    refine HWk.out.mono ?_
    rintro e w6 ⟨rfl, hb6⟩
    have HF : Hid (Below w1.heap.size w1 w6) := hid (HB5.out.2.trans (hb6.mono HB5.out.2.size))
    clear hb6 HWk HB5
    go_wp2
    exact ⟨⟨i + 1, by omega, by go_num, HF⟩, by simp [intOf]; omega⟩
  have di : decide ((i : Int) < (m : Int)) = false := decide_eq_false (by omega)
  have di2 : decide (i < m) = false := decide_eq_false him
  have HBw : Hid (Below w.heap.size w wr) := hid (HB1.out.trans (HBl.out.mono HB1.out.size))
  have HS1 := hid (HS.out.below HBl.out)
  have HEn := hid (encode_walk HS1.out (HG.out.below HBw.out) (by omega))
  clear HBl HB1 HS
  go_wp2_with fail
  refine HEn.out.mono ?_
  rintro e w2 ⟨v2, rfl, hE⟩
  obtain ⟨a2, c2, rfl, hrd2⟩ := hE.rd (enc_by s) (by have := enc_len s; rw [Hm.out] at this; omega)
  have HB2 : Hid (Below wr.heap.size wr w2) := hid hE.bel
  have HDc := hid (decode_walk hrd2 (HG.out.below (HBw.out.trans (hE.bel.mono HBw.out.size))))
  rw [HAg.out] at HDc
  generalize (enc s).length = n2 at HDc
  clear hE hrd2 HEn di di2
  go_wp2_with fail
  refine HDc.out.mono ?_
  rintro e w3 ⟨v3, rfl, hD3⟩
  obtain ⟨a8, c8, rfl, hsc8⟩ := hD3.script (by rw [Hm.out]; omega) (fun o ho => (HWf.out o ho).b)
  have HB3 : Hid (Below wr.heap.size wr w3) := hid (HB2.out.trans (hD3.bel.mono HB2.out.size))
  have HS8 := hid hsc8
  have HS5 := hid (HS1.out.below HB3.out)
  have HBw3 : Hid (Below w.heap.size w w3) := hid (HBw.out.trans (HB3.out.mono HBw.out.size))
  rw [Hm.out] at HS8
  simp only [Hm.out]
  clear hD3 hsc8 HDc HB2 HB3 HS1 HBw
  go_wp2_with fail
  go_loopw [52] (fun v wr => ∃ i : Nat, i ≤ m ∧ v = .int .i64 (i : Int) ∧ Hid (Below w3.heap.size w3 wr)) (fun v _ => m - (intOf v).toNat)
  case atStart => exact ⟨0, by omega, rfl, hid (Below.refl _ _)⟩
  case round =>
  obtain ⟨i, hi, rfl, HBl⟩ := hrel
  by_cases him : i < m
  · as_aux_lemma =>
    have di : decide ((i : Int) < (m : Int)) = true := decide_eq_true (by omega)
    have ii : (i : Int) < (m : Int) := by omega
    obtain ⟨o, ho, hok, b, off, rfl, hb, _⟩ := (HS8.out.below HBl.out).at him
    obtain ⟨o', ho', hok', b', off', rfl, hb', _⟩ := (HS5.out.below HBl.out).at him
    obtain rfl : o = o' := by rw [ho] at ho'; exact Option.some.inj ho'
    have Hc8 : Hid (∀ wy, Below w3.heap.size w3 wy → wy.cell? ⟨b, off + i * 5, none⟩ = some (.int .u8 (o.ac : Int)) ∧ wy.cell? ⟨b, off + i * 5 + 1, none⟩ = some (.int .u8 (o.k : Int)) ∧ wy.cell? ⟨b, off + i * 5 + 2, none⟩ = some (.int .u64 (o.a : Int)) ∧ wy.cell? ⟨b, off + i * 5 + 3, none⟩ = some (.int .u64 (o.b : Int)) ∧ wy.cell? ⟨b, off + i * 5 + 4, none⟩ = some (.int .u64 (o.c : Int))) := hid (fun wy hy => by
      obtain ⟨o2, ho2, _, b2, off2, e2, _, q⟩ := (HS8.out.below hy).at him
      rw [ho] at ho2
      cases ho2
      cases e2
      exact q)
    have Hc5 : Hid (∀ wy, Below w3.heap.size w3 wy → wy.cell? ⟨b', off' + i * 5, none⟩ = some (.int .u8 (o.ac : Int)) ∧ wy.cell? ⟨b', off' + i * 5 + 1, none⟩ = some (.int .u8 (o.k : Int)) ∧ wy.cell? ⟨b', off' + i * 5 + 2, none⟩ = some (.int .u64 (o.a : Int)) ∧ wy.cell? ⟨b', off' + i * 5 + 3, none⟩ = some (.int .u64 (o.b : Int)) ∧ wy.cell? ⟨b', off' + i * 5 + 4, none⟩ = some (.int .u64 (o.c : Int))) := hid (fun wy hy => by
      obtain ⟨o2, ho2, _, b2, off2, e2, _, q⟩ := (HS5.out.below hy).at him
      rw [ho] at ho2
      cases ho2
      cases e2
      exact q)
    have hne : ∀ w9 : World, (binOp .neq 31 (.agg #[.int .u8 (o.ac : Int), .int .u8 (o.k : Int), .int .u64 (o.a : Int), .int .u64 (o.b : Int), .int .u64 (o.c : Int)]) (.agg #[.int .u8 (o.ac : Int), .int .u8 (o.k : Int), .int .u64 (o.a : Int), .int .u64 (o.b : Int), .int .u64 (o.c : Int)])).run Tryd.prog w9 = .ok (.bool false) w9 := fun w9 => neq_op o w9
    clear ho hok hok' hb hb' ho'
    go_upto_region 16 with fail
    refine wp_region_heavy (fun wy => Below w3.heap.size w3 wy) 9 (List.range 8) [8] rfl (by kernel_rfl) (by kernel_rfl) (fun d _ _ _ _ h => by cases d <;> exact h) (HBl.out.trans ((Drew.below ⟨1, rfl⟩ _).mono HBl.out.size)) ?_
    apply Exists.intro
    refine ⟨?_, ?_⟩
    · intro W hW
      have p0 := fun x => (Hc8.out _ (hW x)).1
      have p1 := fun x => (Hc8.out _ (hW x)).2.1
      have p2 := fun x => (Hc8.out _ (hW x)).2.2.1
      have p3 := fun x => (Hc8.out _ (hW x)).2.2.2.1
      have p4 := fun x => (Hc8.out _ (hW x)).2.2.2.2
      have q0 := fun x => (Hc5.out _ (hW x)).1
      have q1 := fun x => (Hc5.out _ (hW x)).2.1
      have q2 := fun x => (Hc5.out _ (hW x)).2.2.1
      have q3 := fun x => (Hc5.out _ (hW x)).2.2.2.1
      have q4 := fun x => (Hc5.out _ (hW x)).2.2.2.2
      clear hW
      simp only [List.take, opsAt, List.drop, List.cons_append, List.nil_append, List.range, List.range.loop]
      repeat (go_big_quiet_step (fail))
      exact rfl
    simp only [List.take, List.drop, opsAt, List.cons_append, List.nil_append, wpHv]
    have HF : Hid (Below w3.heap.size w3 wr.drew) := hid (HBl.out.trans ((Drew.below ⟨1, rfl⟩ _).mono HBl.out.size))
    generalize wr.drew = wd at HF ⊢
    go_wp2_with fail
    refine ⟨HF.out, ?_⟩
    simp only [QN]
    go_wp2
    exact ⟨⟨i + 1, by omega, by go_num, HF⟩, by simp [intOf]; omega⟩
  have di : decide ((i : Int) < (m : Int)) = false := decide_eq_false (by omega)
  have di2 : decide (i < m) = false := decide_eq_false him
  have HBw4 : Hid (Below w.heap.size w wr) := hid (HBw3.out.trans (HBl.out.mono HBw3.out.size))
  have HS4 := hid (HS5.out.below HBl.out)
  obtain ⟨ck, hck⟩ : ∃ x, cut % (n + 1) = x := ⟨_, rfl⟩
  have hckn : ck ≤ n := by rw [← hck]; exact Nat.le_of_lt_succ (Nat.mod_lt _ (by omega))
  have tc : (cut : Int).tmod ((n : Int) + 1) = (ck : Int) := by rw [Int.tmod_eq_emod_of_nonneg (by omega), ← hck]; exact (Int.natCast_emod cut (n + 1)).symm
  have dz : (((n : Int) + 1) == 0) = false := by simp; omega
  have dz2 : (n : Int) + 1 ≠ 0 := by omega
  have inn : (n : Int) ≤ 100000000 := by omega
  have hsl := slice_by a n c ck (Nat.le_trans hckn HR.out.cap) hsp
  have HDk := hid (decode_walk ((HR.out.below HBw4.out).take hckn) (HG.out.below HBw4.out))
  have Htk := hid (HTk.out ck)
  have HWk : Hid (∀ o ∈ dec (l.take ck), WfO o) := hid (fun o ho => dec_wf _ _ rfl (HR.out.take hckn).byt o ho)
  generalize hsk : dec (l.take ck) = sk at HDk Htk HWk
  obtain ⟨mk, hmk⟩ : ∃ x, sk.length = x := ⟨_, rfl⟩
  rw [hmk] at Htk
  have Hmk := hid hmk
  have hmm := Htk.out.1
  clear HBl hck hckn hsk hmk HS8 HS5 HBw3
  go_wp2_with fail
  refine HDk.out.mono ?_
  rintro e w4 ⟨v10, rfl, hD4⟩
  obtain ⟨a10, c10, rfl, hsc10⟩ := hD4.script (by rw [Hmk.out]; omega) (fun o ho => (HWk.out o ho).b)
  have HSk := hid hsc10
  have HS4' := hid (HS4.out.below hD4.bel)
  have HBw5 : Hid (Below w.heap.size w w4) := hid (HBw4.out.trans (hD4.bel.mono HBw4.out.size))
  rw [Hmk.out] at HSk
  simp only [Hmk.out]
  clear hD4 hsc10 HDk HS4 HBw4 tc dz dz2 hsl di di2
  have dk : decide ((m : Int) < (mk : Int)) = false := decide_eq_false (by omega)
  have dk2 : decide (m < mk) = false := decide_eq_false (by omega)
  go_wp2_with fail
  clear dk dk2
  go_loopw [11] (fun v wr => ∃ i : Nat, i ≤ mk ∧ v = .int .i64 (i : Int) ∧ Hid (Below w4.heap.size w4 wr)) (fun v _ => mk - (intOf v).toNat)
  case atStart => exact ⟨0, by omega, rfl, hid (Below.refl _ _)⟩
  case round =>
  obtain ⟨i, hi, rfl, HBl⟩ := hrel
  by_cases him : i + 1 < mk
  · as_aux_lemma =>
    have di : decide ((i : Int) + 1 < (mk : Int)) = true := decide_eq_true (by omega)
    have ii : (i : Int) < (mk : Int) := by omega
    have ii2 : (i : Int) < (m : Int) := by omega
    have himk : i < mk := by omega
    have him2 : i < m := by omega
    obtain ⟨o, ho, hok, b, off, rfl, hb, _⟩ := (HSk.out.below HBl.out).at himk
    obtain ⟨o', ho', hok', b', off', rfl, hb', _⟩ := (HS4'.out.below HBl.out).at him2
    obtain rfl : o = o' := by have := Htk.out.2 i him; rw [ho, ho'] at this; exact Option.some.inj this
    have Hc8 : Hid (∀ wy, Below w4.heap.size w4 wy → wy.cell? ⟨b, off + i * 5, none⟩ = some (.int .u8 (o.ac : Int)) ∧ wy.cell? ⟨b, off + i * 5 + 1, none⟩ = some (.int .u8 (o.k : Int)) ∧ wy.cell? ⟨b, off + i * 5 + 2, none⟩ = some (.int .u64 (o.a : Int)) ∧ wy.cell? ⟨b, off + i * 5 + 3, none⟩ = some (.int .u64 (o.b : Int)) ∧ wy.cell? ⟨b, off + i * 5 + 4, none⟩ = some (.int .u64 (o.c : Int))) := hid (fun wy hy => by
      obtain ⟨o2, ho2, _, b2, off2, e2, _, q⟩ := (HSk.out.below hy).at himk
      rw [ho] at ho2
      cases ho2
      cases e2
      exact q)
    have Hc5 : Hid (∀ wy, Below w4.heap.size w4 wy → wy.cell? ⟨b', off' + i * 5, none⟩ = some (.int .u8 (o.ac : Int)) ∧ wy.cell? ⟨b', off' + i * 5 + 1, none⟩ = some (.int .u8 (o.k : Int)) ∧ wy.cell? ⟨b', off' + i * 5 + 2, none⟩ = some (.int .u64 (o.a : Int)) ∧ wy.cell? ⟨b', off' + i * 5 + 3, none⟩ = some (.int .u64 (o.b : Int)) ∧ wy.cell? ⟨b', off' + i * 5 + 4, none⟩ = some (.int .u64 (o.c : Int))) := hid (fun wy hy => by
      obtain ⟨o2, ho2, _, b2, off2, e2, _, q⟩ := (HS4'.out.below hy).at him2
      rw [ho'] at ho2
      cases ho2
      cases e2
      exact q)
    have hne : ∀ w9 : World, (binOp .neq 31 (.agg #[.int .u8 (o.ac : Int), .int .u8 (o.k : Int), .int .u64 (o.a : Int), .int .u64 (o.b : Int), .int .u64 (o.c : Int)]) (.agg #[.int .u8 (o.ac : Int), .int .u8 (o.k : Int), .int .u64 (o.a : Int), .int .u64 (o.b : Int), .int .u64 (o.c : Int)])).run Tryd.prog w9 = .ok (.bool false) w9 := fun w9 => neq_op o w9
    clear ho hok hok' hb hb' ho'
    go_upto_region 25 with fail
    refine wp_region_heavy (fun wy => Below w4.heap.size w4 wy) 9 (List.range 8) [8] rfl (by kernel_rfl) (by kernel_rfl) (fun d _ _ _ _ h => by cases d <;> exact h) (HBl.out.trans ((Drew.below ⟨1, rfl⟩ _).mono HBl.out.size)) ?_
    apply Exists.intro
    refine ⟨?_, ?_⟩
    · intro W hW
      have p0 := fun x => (Hc8.out _ (hW x)).1
      have p1 := fun x => (Hc8.out _ (hW x)).2.1
      have p2 := fun x => (Hc8.out _ (hW x)).2.2.1
      have p3 := fun x => (Hc8.out _ (hW x)).2.2.2.1
      have p4 := fun x => (Hc8.out _ (hW x)).2.2.2.2
      have q0 := fun x => (Hc5.out _ (hW x)).1
      have q1 := fun x => (Hc5.out _ (hW x)).2.1
      have q2 := fun x => (Hc5.out _ (hW x)).2.2.1
      have q3 := fun x => (Hc5.out _ (hW x)).2.2.2.1
      have q4 := fun x => (Hc5.out _ (hW x)).2.2.2.2
      clear hW
      simp only [List.take, opsAt, List.drop, List.cons_append, List.nil_append, List.range, List.range.loop]
      repeat (go_big_quiet_step (fail))
      exact rfl
    simp only [List.take, List.drop, opsAt, List.cons_append, List.nil_append, wpHv]
    have HF : Hid (Below w4.heap.size w4 wr.drew) := hid (HBl.out.trans ((Drew.below ⟨1, rfl⟩ _).mono HBl.out.size))
    generalize wr.drew = wd at HF ⊢
    go_wp2_with fail
    refine ⟨HF.out, ?_⟩
    simp only [QN]
    go_wp2
    exact ⟨⟨i + 1, by omega, by go_num, HF⟩, by simp [intOf]; omega⟩
  have di : decide ((i : Int) + 1 < (mk : Int)) = false := decide_eq_false (by omega)
  have di2 : decide (i + 1 < mk) = false := decide_eq_false him
  have HBw6 : Hid (Below w.heap.size w wr) := hid (HBw5.out.trans (HBl.out.mono HBw5.out.size))
  have HS6 := hid (HS4'.out.below HBl.out)
  clear HBl HS4' HSk HBw5 Htk HWk
  obtain ⟨w5, hw5⟩ : ∃ x, wr = x := ⟨_, rfl⟩
  have HNw := hid (fun w => newWorld_walk w)
  go_wp2_with fail
  rw [hw5] at HBw6 HS6
  clear hw5 di di2
  refine (HNw.out _).mono ?_
  rintro e w6 ⟨ρ1, L1, T1, V1, rfl, hW1, hl1, hb1⟩
  have HW1 := hid (And.intro hW1 (And.intro hl1 hb1))
  obtain ⟨wB1, hwB1⟩ : ∃ b, V1.wB = b := ⟨_, rfl⟩
  rw [hwB1]
  clear hW1 hl1 hb1
  go_wp2_with fail
  refine (HNw.out _).mono ?_
  rintro e w7 ⟨ρ2, L2, T2, V2, rfl, hW2, hl2, hb2⟩
  have HW2 := hid (And.intro hW2 (And.intro hl2 hb2))
  obtain ⟨wB2, hwB2⟩ : ∃ b, V2.wB = b := ⟨_, rfl⟩
  rw [hwB2]
  obtain ⟨xB1, hxB1⟩ : ∃ b, T1.xB = b := ⟨_, rfl⟩
  obtain ⟨xB2, hxB2⟩ : ∃ b, T2.xB = b := ⟨_, rfl⟩
  have c1 : w7.cell? ⟨wB1, 1, none⟩ = some (.pointer (some ⟨xB1, 0, none⟩)) := by
    have := (HW1.out.1.below hb2).cells.2.1
    rw [hwB1, hxB1] at this
    exact this
  have hB57 := HW1.out.2.2.trans (hb2.mono HW1.out.2.2.size)
  have hB7 := HBw6.out.trans (hB57.mono HBw6.out.size)
  have HRun := hid (run_walk (w0 := w5) (xB := xB1) (H := H0) (X := X0) (k := 0) (ρ := ρ1) (w := w7) ⟨⟨L1, T1, (HW1.out.1.below hb2).mm, hxB1⟩, HI.zero, XN.zero, HW1.out.2.1, hB57, fun x hx => (by cases hx), List.nodup_nil⟩ (HR.out.below hB7) (HG.out.below hB7) (by omega) (by omega))
  rw [Hs.out] at HRun
  have HwB2 := hid hwB2
  have HxB2 := hid hxB2
  clear hW2 hl2 hb2 hwB1 hxB1 hwB2 hxB2 hB57 hB7 HNw
  go_wp2_with fail
  refine HRun.out.mono ?_
  rintro e w8 ⟨v14, zs, rfl, hrun, hRn⟩
  obtain ⟨rR, rcs, rfl, htk, hMB⟩ := MB.other HW1.out.1 HW1.out.2.1 HW1.out.2.2 HW2.out.1 HW2.out.2.1 HW2.out.2.2 hRn
  have hzl : zs.length = m := by rw [hrun.len, Hm.out]
  have hcw : (wC L2.hB xB2 V2)[1]? = some (.pointer (some ⟨xB2, 0, none⟩)) := by
    have h1 := (HW2.out.1).cells.2.1
    rw [HW2.out.1.wb.cell 1, HxB2.out] at h1
    exact h1
  rw [HwB2.out, HxB2.out] at hMB
  obtain ⟨wcs, hwcs⟩ : ∃ x, wC L2.hB xB2 V2 = x := ⟨_, rfl⟩
  rw [hwcs] at hMB hcw
  have HM0 : Hid (∃ H2 X2 ρ, MB w5 xB2 H2 X2 0 ρ [(rR, 36, rcs), (wB2, 46, wcs)] w8 ∧ RunS H2 X2 (s.drop 0) (zs.drop 0)) := hid ⟨H0, X0, ρ2, hMB, hrun⟩
  have Htk := hid htk
  have Hzl := hid hzl
  have Hcw := hid hcw
  simp only [hzl]
  clear hrun hRn htk hMB hzl hcw hwcs HRun c1 HW1 HW2 HwB2 HxB2
  go_wp2_with fail
  go_loopw [110] (fun v wr => ∃ i : Nat, i ≤ m ∧ v = .int .i64 (i : Int) ∧ Hid (∃ H2 X2 ρ, MB w5 xB2 H2 X2 i ρ [(rR, 36, rcs), (wB2, 46, wcs)] wr ∧ RunS H2 X2 (s.drop i) (zs.drop i))) (fun v _ => m - (intOf v).toNat)
  case atStart => exact ⟨0, by omega, rfl, HM0⟩
  case round =>
  clear HM0
  obtain ⟨i, hi, rfl, HI⟩ := hrel
  obtain ⟨H2, X2, ρ, hMB, hrun⟩ := HI.out
  have HMB := hid hMB
  have Hrun := hid hrun
  clear hMB hrun HI
  by_cases him : i < m
  rotate_left
  · as_aux_lemma =>
    have di : decide ((i : Int) < (m : Int)) = false := decide_eq_false (by omega)
    have di2 : decide (i < m) = false := decide_eq_false him
    have HRf := hid (refines_walk a5 m c5 s wr (HS6.out.below HMB.out.bel))
    have HB9 : Hid (Below w.heap.size w wr) := hid (HBw6.out.trans (HMB.out.bel.mono HBw6.out.size))
    clear HMB Hrun
    go_wp2_with fail
    refine HRf.out.mono ?_
    rintro e w9 ⟨rfl, hb9⟩
    have HF := hid (HB9.out.trans (hb9.mono HB9.out.size))
    clear hb9 HRf HB9
    go_wp2
    go_ret
    exact ⟨rfl, HF.out⟩
  as_aux_lemma =>
  have di : decide ((i : Int) < (m : Int)) = true := decide_eq_true (by omega)
  have ii : (i : Int) < (m : Int) := by omega
  obtain ⟨o, ho, hok, b, off, rfl, hb, c0, c1, c2, c3, c4⟩ := (HS6.out.below HMB.out.bel).at him
  obtain ⟨z, hz⟩ : ∃ z, zs[i]? = some z := ⟨_, List.getElem?_eq_getElem (by rw [Hzl.out]; exact him)⟩
  have Hz := hid hz
  have HOk := hid hok
  have Hdr : Hid (s.drop i = o :: s.drop (i + 1)) := hid (by obtain ⟨h1, h2⟩ := List.getElem?_eq_some_iff.1 ho; rw [← h2]; exact List.drop_eq_getElem_cons h1)
  have Hdz : Hid (zs.drop i = z :: zs.drop (i + 1)) := hid (by obtain ⟨h1, h2⟩ := List.getElem?_eq_some_iff.1 hz; rw [← h2]; exact List.drop_eq_getElem_cons h1)
  obtain ⟨qb, hqb⟩ : ∃ x, wr.heap.size = x := ⟨_, rfl⟩
  clear ho hz hok
  go_upto_region 34 with fail
  obtain ⟨w10, hw10⟩ : ∃ x, wr.alloc (.cells #[.int .u8 (o.ac : Int), .int .u8 (o.k : Int), .int .u64 (o.a : Int), .int .u64 (o.b : Int), .int .u64 (o.c : Int)] 31) = x := ⟨_, rfl⟩
  have HM5 : Hid (MB w5 xB2 H2 X2 i ρ ((qb, 31, opC o) :: [(rR, 36, rcs), (wB2, 46, wcs)]) w10) := hid (by
    have h2 := HMB.out.alloc (opC o) 31
    rw [hqb, show wr.alloc (.cells (opC o).toArray 31) = w10 from hw10] at h2
    exact h2)
  simp only [hw10]
  clear hw10 hqb c0 c1 c2 c3 c4 HMB hb
  have hne : ∀ w9 : World, (binOp .neq 36 (.agg #[.int .u8 (z.c : Int), .int .u64 (z.v : Int), .int .u64 (z.a : Int), .int .u64 (z.b : Int), .int .u64 (z.d : Int), .int .u64 (z.e : Int), .int .i64 (z.h : Int), .int .i64 (z.r : Int)]) (.agg #[.int .u8 (z.c : Int), .int .u64 (z.v : Int), .int .u64 (z.a : Int), .int .u64 (z.b : Int), .int .u64 (z.d : Int), .int .u64 (z.e : Int), .int .i64 (z.h : Int), .int .i64 (z.r : Int)])).run Tryd.prog w9 = .ok (.bool false) w9 := fun w9 => neq_rz z w9
  refine wp_region_heavy (fun wy => Blk wy qb 31 (opC o) ∧ Blk wy rR 36 rcs ∧ Blk wy wB2 46 wcs) 11 [0, 1, 2, 3, 4, 6, 7, 8, 9] [5, 10] rfl (by kernel_rfl) (by kernel_rfl) (fun d _ _ _ _ h => by cases d <;> exact h) (by
    have q := HM5.out.below (Drew.below ⟨1, rfl⟩ _)
    exact ⟨(q.bl (qb, 31, opC o) (by simp)).1, (q.bl (rR, 36, rcs) (by simp)).1, (q.bl (wB2, 46, wcs) (by simp)).1⟩) ?_
  apply Exists.intro
  refine ⟨?_, ?_⟩
  · intro W hW
    have s0 : ∀ x, (W x).cell? ⟨qb, 0, none⟩ = some (.int .u8 (o.ac : Int)) := fun x => (hW x).1.cell 0
    have s1 : ∀ x, (W x).cell? ⟨qb, 1, none⟩ = some (.int .u8 (o.k : Int)) := fun x => (hW x).1.cell 1
    have s2 : ∀ x, (W x).cell? ⟨qb, 2, none⟩ = some (.int .u64 (o.a : Int)) := fun x => (hW x).1.cell 2
    have s3 : ∀ x, (W x).cell? ⟨qb, 3, none⟩ = some (.int .u64 (o.b : Int)) := fun x => (hW x).1.cell 3
    have s4 : ∀ x, (W x).cell? ⟨qb, 4, none⟩ = some (.int .u64 (o.c : Int)) := fun x => (hW x).1.cell 4
    have r0 : ∀ x, (W x).cell? ⟨rR, i * 8, none⟩ = some (.int .u8 (z.c : Int)) := fun x => rz_cells (hW x).2.1 Htk.out Hz.out 0 (by decide)
    have r1 : ∀ x, (W x).cell? ⟨rR, i * 8 + 1, none⟩ = some (.int .u64 (z.v : Int)) := fun x => rz_cells (hW x).2.1 Htk.out Hz.out 1 (by decide)
    have r2 : ∀ x, (W x).cell? ⟨rR, i * 8 + 2, none⟩ = some (.int .u64 (z.a : Int)) := fun x => rz_cells (hW x).2.1 Htk.out Hz.out 2 (by decide)
    have r3 : ∀ x, (W x).cell? ⟨rR, i * 8 + 3, none⟩ = some (.int .u64 (z.b : Int)) := fun x => rz_cells (hW x).2.1 Htk.out Hz.out 3 (by decide)
    have r4 : ∀ x, (W x).cell? ⟨rR, i * 8 + 4, none⟩ = some (.int .u64 (z.d : Int)) := fun x => rz_cells (hW x).2.1 Htk.out Hz.out 4 (by decide)
    have r5 : ∀ x, (W x).cell? ⟨rR, i * 8 + 5, none⟩ = some (.int .u64 (z.e : Int)) := fun x => rz_cells (hW x).2.1 Htk.out Hz.out 5 (by decide)
    have r6 : ∀ x, (W x).cell? ⟨rR, i * 8 + 6, none⟩ = some (.int .i64 (z.h : Int)) := fun x => rz_cells (hW x).2.1 Htk.out Hz.out 6 (by decide)
    have r7 : ∀ x, (W x).cell? ⟨rR, i * 8 + 7, none⟩ = some (.int .i64 (z.r : Int)) := fun x => rz_cells (hW x).2.1 Htk.out Hz.out 7 (by decide)
    have t1 : ∀ x, (W x).cell? ⟨wB2, 1, none⟩ = some (.pointer (some ⟨xB2, 0, none⟩)) := fun x => by rw [(hW x).2.2.cell 1]; exact Hcw.out
    clear hW
    simp only [List.take, opsAt, List.drop, List.cons_append, List.nil_append]
    repeat (go_big_quiet_step (fail))
    exact rfl
  simp only [List.take, List.drop, opsAt, List.cons_append, List.nil_append, wpHv]
  have HM6 : Hid (MB w5 xB2 H2 X2 i ρ ((qb, 31, opC o) :: [(rR, 36, rcs), (wB2, 46, wcs)]) w10.drew) := hid (HM5.out.below (Drew.below ⟨1, rfl⟩ _))
  generalize w10.drew = w11 at HM6 ⊢
  clear HM5
  go_wp2_with fail
  refine (HM6.out.do (by omega) o HOk.out).mono ?_
  rintro e w12 ⟨z', H3, X3, ρ3, rfl, hds, hM7, hFx⟩
  have hr := Hrun.out
  rw [Hdr.out] at hr
  obtain ⟨r, hr1, hr2⟩ := hr.head hds
  rw [Hdz.out] at hr1
  injection hr1 with e1 e2
  subst e1
  rw [← e2] at hr2
  simp only [show (rzC z).toArray = #[.int .u8 (z.c : Int), .int .u64 (z.v : Int), .int .u64 (z.a : Int), .int .u64 (z.b : Int), .int .u64 (z.d : Int), .int .u64 (z.e : Int), .int .i64 (z.h : Int), .int .i64 (z.r : Int)] from rfl]
  have HM7 := hid hM7
  have HF : Hid (∃ H2 X2 ρ, MB w5 xB2 H2 X2 (i + 1) ρ [(rR, 36, rcs), (wB2, 46, wcs)] w12 ∧ RunS H2 X2 (s.drop (i + 1)) (zs.drop (i + 1))) := hid ⟨H3, doX X3 z, ρ3, hM7.tail, hr2⟩
  clear hds hM7 hFx hr hr2 e2 HM6 Hrun
  go_wp2_with fail
  refine ⟨⟨(HM7.out.bl (qb, 31, opC o) (by simp)).1, (HM7.out.bl (rR, 36, rcs) (by simp)).1, (HM7.out.bl (wB2, 46, wcs) (by simp)).1⟩, ?_⟩
  go_wp2_with fail
  refine ⟨⟨(HM7.out.bl (qb, 31, opC o) (by simp)).1, (HM7.out.bl (rR, 36, rcs) (by simp)).1, (HM7.out.bl (wB2, 46, wcs) (by simp)).1⟩, ?_⟩
  simp only [QN]
  clear HM7
  go_wp2
  exact ⟨⟨i + 1, by omega, by go_num, HF⟩, by simp [intOf]; omega⟩
end
end Go.Proofs.Qxb6500889aDoor
