/- AppendSomeRefs, sum, EachField (written by tools/mk_azt.py). -/
import Derived.Test.Qxb6500887aGreatAzS
namespace Go.Proofs.Qxb6500887aGreat
open Go.RowKit
set_option linter.unusedSimpArgs false
set_option linter.unusedVariables false

section
variable {l : AL} {S : AS} {w w' w0 : World} {p q : Nat} {cs : List Value} {o : Ob} {v v' : Value} {xs ys : List Nat}
/-- What AppendSomeRefs gives for nil. -/
def AsP (l : AL) (S : AS) (o : Ob) (w : World) (fr mo : Int) (v : Value) (nx c : Int) (w' : World) : Prop := Below w.heap.size w w' ∧ ((S.W o.k ≠ o.raw ∧ c = 6 ∧ nx = fr ∧ v = .slice none 0 0) ∨ (S.W o.k = o.raw ∧ ¬ (0 ≤ fr ∧ fr ≤ (o.rf : Int)) ∧ c = 8 ∧ nx = fr ∧ v = .slice none 0 0) ∨ (S.W o.k = o.raw ∧ (0 ≤ fr ∧ fr ≤ (o.rf : Int)) ∧ mo < 1 ∧ c = 4 ∧ nx = fr ∧ v = .slice none 0 0)
  ∨ (S.W o.k = o.raw ∧ (0 ≤ fr ∧ fr ≤ (o.rf : Int)) ∧ 1 ≤ mo ∧ ∃ m : Nat, (m : Int) = (if mo < (o.rf : Int) - fr then mo else (o.rf : Int) - fr) ∧ ((rfAll S (o.k + 1 + fr.toNat) m ∧ c = 0 ∧ nx = fr + (m : Int) ∧ OwR rtA w.heap.size w' v (rfsL S (o.k + 1 + fr.toNat) m)) ∨ (¬ rfAll S (o.k + 1 + fr.toNat) m ∧ c = 9 ∧ nx = fr ∧ OwR rtA w.heap.size w' v []))))
set_option maxRecDepth 100000 in
set_option maxHeartbeats 4000000 in
theorem appendSomeZ (h : AM l S w) (ho : ObOk o) (fr mo : Int) : Calls Tryz.prog 143 #[.agg #[.pointer (some ⟨l.a, 0, none⟩), .int .i64 (o.k : Int), .int .u64 (o.raw : Int), .int .i64 (o.sz : Int), .int .i64 (o.rf : Int)], .slice none 0 0, .int .i64 fr, .int .i64 mo] w fun e w' => ∃ (v : Value) (nx c : Int), e = .returned (.tuple #[v, .int .i64 nx, .int .u8 c]) ∧ Hid (AsP l S o w fr mo v nx c w') := by
  obtain ⟨p, hp⟩ : ∃ p, w.heap.size = p := ⟨_, rfl⟩
  have HX : Hid (OX w l S p (obL l o) (w.alloc (.cells #[.pointer (some ⟨l.a, 0, none⟩), .int .i64 (o.k : Int), .int .u64 (o.raw : Int), .int .i64 (o.sz : Int), .int .i64 (o.rf : Int)] 61))) := hid (OX.new (cs := (obL l o)) h (Below.refl _ w) hp)
  have HC : Hid (∀ wz, AM l S wz → Calls Tryz.prog 208 #[.agg #[.pointer (some ⟨l.a, 0, none⟩), .int .i64 (o.k : Int), .int .u64 (o.raw : Int), .int .i64 (o.sz : Int), .int .i64 (o.rf : Int)]] wz fun e w' => e = .returned (.int .u8 (ckC S o)) ∧ Below wz.heap.size wz w') := hid (fun wz hz => checkZ hz ho)
  have HA := hid h
  have o1 := ho.s1
  have o2 := ho.s2
  have o3 := ho.rf
  have o4 := ho.k
  clear h ho
  by_cases hc : S.W o.k = o.raw
  rotate_left
  · as_aux_lemma =>
    have e0 : ckC S o = 6 := by unfold ckC; rw [if_neg hc]
    rw [e0] at HC
    have Hc := hid hc
    clear hc e0
    go_enter Tryz.func143, Tryz.ntmps143
    go_upto_region 1 with fail
    (try simp only [hp])
    generalize hw1 : w.alloc _ = w1 at HX ⊢
    clear hw1 hp
    have p0 := HX.out.bk.cell 0
    have p1 := HX.out.bk.cell 1
    have p2 := HX.out.bk.cell 2
    have p3 := HX.out.bk.cell 3
    have p4 := HX.out.bk.cell 4
    simp only [obL, List.getElem?_cons_zero, List.getElem?_cons_succ] at p0 p1 p2 p3 p4
    go_wp2_with fail
    refine (HC.out _ HX.out.am).mono ?_
    rintro e w2 ⟨rfl, hb2⟩
    have HX2 := hid (HX.out.below hb2)
    clear hb2 HX p0 p1 p2 p3 p4
    have HF : Hid (AsP l S o w fr mo (.slice none 0 0) fr 6 w2) := hid ⟨HX2.out.bel, .inl ⟨Hc.out, rfl, rfl, rfl⟩⟩
    clear HX2 HC
    go_wp2
    refine bodyPost_ret (v := .tuple #[.slice none 0 0, .int .i64 fr, .int .u8 6]) (by simp [results, Tryz.results143, go_sem]) rfl ?_
    exact ⟨_, _, _, rfl, HF⟩
  have e0 : ckC S o = 0 := by unfold ckC; rw [if_pos hc]
  rw [e0] at HC
  have Hc := hid hc
  clear hc e0
  by_cases hf : 0 ≤ fr ∧ fr ≤ (o.rf : Int)
  rotate_left
  · as_aux_lemma =>
    have Hf := hid hf
    by_cases hf0 : fr < 0
    · as_aux_lemma =>
      have d1 : decide (fr < 0) = true := decide_eq_true hf0
      clear hf hf0
      go_enter Tryz.func143, Tryz.ntmps143
      go_upto_region 1 with fail
      (try simp only [hp])
      generalize hw1 : w.alloc _ = w1 at HX ⊢
      clear hw1 hp
      have p0 := HX.out.bk.cell 0
      have p1 := HX.out.bk.cell 1
      have p2 := HX.out.bk.cell 2
      have p3 := HX.out.bk.cell 3
      have p4 := HX.out.bk.cell 4
      simp only [obL, List.getElem?_cons_zero, List.getElem?_cons_succ] at p0 p1 p2 p3 p4
      go_wp2_with fail
      refine (HC.out _ HX.out.am).mono ?_
      rintro e w2 ⟨rfl, hb2⟩
      have HX2 := hid (HX.out.below hb2)
      clear hb2 HX p0 p1 p2 p3 p4
      have p0 := HX2.out.bk.cell 0
      have p1 := HX2.out.bk.cell 1
      have p2 := HX2.out.bk.cell 2
      have p3 := HX2.out.bk.cell 3
      have p4 := HX2.out.bk.cell 4
      simp only [obL, List.getElem?_cons_zero, List.getElem?_cons_succ] at p0 p1 p2 p3 p4
      have HF : Hid (AsP l S o w fr mo (.slice none 0 0) fr 8 w2) := hid ⟨HX2.out.bel, .inr (.inl ⟨Hc.out, Hf.out, rfl, rfl, rfl⟩)⟩
      clear HX2 HC
      go_wp2
      refine bodyPost_ret (v := .tuple #[.slice none 0 0, .int .i64 fr, .int .u8 8]) (by simp [results, Tryz.results143, go_sem]) rfl ?_
      exact ⟨_, _, _, rfl, HF⟩
    · as_aux_lemma =>
      have d1 : decide (fr < 0) = false := decide_eq_false hf0
      have d2 : decide ((o.rf : Int) < fr) = true := decide_eq_true (by omega)
      clear hf hf0
      go_enter Tryz.func143, Tryz.ntmps143
      go_upto_region 1 with fail
      (try simp only [hp])
      generalize hw1 : w.alloc _ = w1 at HX ⊢
      clear hw1 hp
      have p0 := HX.out.bk.cell 0
      have p1 := HX.out.bk.cell 1
      have p2 := HX.out.bk.cell 2
      have p3 := HX.out.bk.cell 3
      have p4 := HX.out.bk.cell 4
      simp only [obL, List.getElem?_cons_zero, List.getElem?_cons_succ] at p0 p1 p2 p3 p4
      go_wp2_with fail
      refine (HC.out _ HX.out.am).mono ?_
      rintro e w2 ⟨rfl, hb2⟩
      have HX2 := hid (HX.out.below hb2)
      clear hb2 HX p0 p1 p2 p3 p4
      have p0 := HX2.out.bk.cell 0
      have p1 := HX2.out.bk.cell 1
      have p2 := HX2.out.bk.cell 2
      have p3 := HX2.out.bk.cell 3
      have p4 := HX2.out.bk.cell 4
      simp only [obL, List.getElem?_cons_zero, List.getElem?_cons_succ] at p0 p1 p2 p3 p4
      have HF : Hid (AsP l S o w fr mo (.slice none 0 0) fr 8 w2) := hid ⟨HX2.out.bel, .inr (.inl ⟨Hc.out, Hf.out, rfl, rfl, rfl⟩)⟩
      clear HX2 HC
      go_wp2
      refine bodyPost_ret (v := .tuple #[.slice none 0 0, .int .i64 fr, .int .u8 8]) (by simp [results, Tryz.results143, go_sem]) rfl ?_
      exact ⟨_, _, _, rfl, HF⟩
  have Hf := hid hf
  obtain ⟨j, rfl⟩ : ∃ j : Nat, fr = (j : Int) := ⟨fr.toNat, by omega⟩
  have d1 : decide ((j : Int) < 0) = false := decide_eq_false (by omega)
  have d2 : decide ((o.rf : Int) < (j : Int)) = false := decide_eq_false (by omega)
  have hj : j ≤ o.rf := by omega
  have d2' : decide (o.rf < j) = false := decide_eq_false (by omega)
  clear hf
  by_cases hm : mo < 1
  · as_aux_lemma =>
    have d3 : decide (mo < 1) = true := decide_eq_true hm
    go_enter Tryz.func143, Tryz.ntmps143
    go_upto_region 1 with fail
    (try simp only [hp])
    generalize hw1 : w.alloc _ = w1 at HX ⊢
    clear hw1 hp
    have p0 := HX.out.bk.cell 0
    have p1 := HX.out.bk.cell 1
    have p2 := HX.out.bk.cell 2
    have p3 := HX.out.bk.cell 3
    have p4 := HX.out.bk.cell 4
    simp only [obL, List.getElem?_cons_zero, List.getElem?_cons_succ] at p0 p1 p2 p3 p4
    go_wp2_with fail
    refine (HC.out _ HX.out.am).mono ?_
    rintro e w2 ⟨rfl, hb2⟩
    have HX2 := hid (HX.out.below hb2)
    clear hb2 HX p0 p1 p2 p3 p4
    have p0 := HX2.out.bk.cell 0
    have p1 := HX2.out.bk.cell 1
    have p2 := HX2.out.bk.cell 2
    have p3 := HX2.out.bk.cell 3
    have p4 := HX2.out.bk.cell 4
    simp only [obL, List.getElem?_cons_zero, List.getElem?_cons_succ] at p0 p1 p2 p3 p4
    have HF : Hid (AsP l S o w (j : Int) mo (.slice none 0 0) (j : Int) 4 w2) := hid ⟨HX2.out.bel, .inr (.inr (.inl ⟨Hc.out, Hf.out, hm, rfl, rfl, rfl⟩))⟩
    clear HX2 HC hm
    go_wp2
    refine bodyPost_ret (v := .tuple #[.slice none 0 0, .int .i64 (j : Int), .int .u8 4]) (by simp [results, Tryz.results143, go_sem]) rfl ?_
    exact ⟨_, _, _, rfl, HF⟩
  have d3 : decide (mo < 1) = false := decide_eq_false hm
  obtain ⟨n, hn⟩ : ∃ n, o.rf = n := ⟨_, rfl⟩
  rw [hn] at hj o3 d2 d2'
  have Hn := hid hn
  obtain ⟨f, hfk⟩ : ∃ f, o.k + 1 = f := ⟨_, rfl⟩
  have ef : (o.k : Int) + 1 = (f : Int) := by omega
  have Hk := hid hfk
  have hkb : f + n ≤ 32768 := by omega
  have key : ∃ m : Nat, (m : Int) = (if mo < (n : Int) - (j : Int) then mo else (n : Int) - (j : Int)) ∧ j + m ≤ n := by
    by_cases hlt : mo < (n : Int) - (j : Int)
    · rw [if_pos hlt]; exact ⟨mo.toNat, by omega, by omega⟩
    · rw [if_neg hlt]; exact ⟨n - j, by omega, by omega⟩
  obtain ⟨m, hm1, hm2⟩ := key
  have HP : Hid (∀ (v : Value) (w' : World), Below w.heap.size w w' → (rfAll S (f + j) m → OwR rtA w.heap.size w' v (rfsL S (f + j) m) → AsP l S o w (j : Int) mo v (((j + m : Nat)) : Int) 0 w') ∧ (¬ rfAll S (f + j) m → OwR rtA w.heap.size w' v [] → AsP l S o w (j : Int) mo v (j : Int) 9 w')) := hid (fun v w' hb => by
    constructor
    · intro g1 g2
      refine ⟨hb, .inr (.inr (.inr ⟨Hc.out, Hf.out, by omega, m, by rw [Hn.out]; exact hm1, .inl ⟨?_, rfl, by omega, ?_⟩⟩))⟩
      · rw [Hk.out, Int.toNat_natCast]; exact g1
      · rw [Hk.out, Int.toNat_natCast]; exact g2
    · intro g1 g2
      refine ⟨hb, .inr (.inr (.inr ⟨Hc.out, Hf.out, by omega, m, by rw [Hn.out]; exact hm1, .inr ⟨?_, rfl, rfl, g2⟩⟩))⟩
      rw [Hk.out, Int.toNat_natCast]; exact g1)
  have enx : (j : Int) + (m : Int) = ((j + m : Nat) : Int) := by omega
  obtain ⟨t, ht⟩ : ∃ t, j + m = t := ⟨_, rfl⟩
  have Ht := hid ht
  obtain ⟨g, hg⟩ : ∃ g, f + j = g := ⟨_, rfl⟩
  have eg : (f : Int) + (j : Int) = (g : Int) := by omega
  have e1 : (f : Int) + (t : Int) = (g : Int) + (m : Int) := by omega
  have e2 : g + m - g = m := by omega
  have e3 : (g : Int) + (m : Int) - (g : Int) = (m : Int) := by omega
  have hgb : g + m ≤ 32768 := by omega
  rw [hg, ht] at HP
  by_cases hg32 : g = 32768
  · have hm0 : m = 0 := by omega
    subst hm0
    subst hg32
    have eg9 : (f : Int) + (j : Int) = 32768 := by omega
    have e19 : (f : Int) + (t : Int) = 32768 := by omega
    have hlt : ¬ mo < (n : Int) - (j : Int) := fun hlt => by rw [if_pos hlt] at hm1; omega
    all_goals
      (first | rw [if_pos hlt] at hm1 | rw [if_neg hlt] at hm1)
      (first | have d4 : decide (mo < (n : Int) - (j : Int)) = false := decide_eq_false hlt | have d4 : decide (mo < (n : Int) - (j : Int)) = true := decide_eq_true hlt)
      have HeT : Hid ((if mo < (n : Int) - (j : Int) then (j : Int) + mo else (n : Int)) = (t : Int)) := hid (by (first | rw [if_pos hlt] | rw [if_neg hlt]); omega)
      (first | (rw [if_pos hlt] at HeT; have eT := HeT.out) | (rw [if_neg hlt] at HeT; have e1n : (f : Int) + (n : Int) = 32768 := (by have := HeT.out; omega)))
      clear hm1 hlt enx ht hg hfk hn eg e1 e2 e3
      go_enter Tryz.func143, Tryz.ntmps143
      go_upto_region 1 with fail
      (try simp only [hp])
      generalize hw1 : w.alloc _ = w1 at HX ⊢
      clear hw1 hp
      have p0 := HX.out.bk.cell 0
      have p1 := HX.out.bk.cell 1
      have p2 := HX.out.bk.cell 2
      have p3 := HX.out.bk.cell 3
      have p4 := HX.out.bk.cell 4
      simp only [obL, List.getElem?_cons_zero, List.getElem?_cons_succ] at p0 p1 p2 p3 p4
      go_wp2_with fail
      refine (HC.out _ HX.out.am).mono ?_
      rintro e w2 ⟨rfl, hb2⟩
      have HX2 := hid (HX.out.below hb2)
      clear hb2 HX p0 p1 p2 p3 p4
      have p0 := HX2.out.bk.cell 0
      have p1 := HX2.out.bk.cell 1
      have p2 := HX2.out.bk.cell 2
      have p3 := HX2.out.bk.cell 3
      have p4 := HX2.out.bk.cell 4
      simp only [obL, List.getElem?_cons_zero, List.getElem?_cons_succ] at p0 p1 p2 p3 p4
      rw [Hn.out] at p4
      have a0 := HX2.out.am.cells.1
      go_upto_region 14 with fail
      skip
      have HR0 : Hid (AR w l p o (.slice none 0 0) [] w2) := hid ⟨HX2.out.bel, HX2.out.bk, OwR.nil _ _ _⟩
      (try clear eT)
      (try clear e1n)
      clear HX2 p0 p1 p2 p3 p4 a0 HC d4 e19 eg9 ef
      go_loopw [1, 9, 69] (fun b z u wr => b = .slice none 0 0 ∧ z = .int .i64 (t : Int) ∧ u = .int .i64 0 ∧ Hid (AR w l p o (.slice none 0 0) [] wr)) (fun _ _ u _ => 0)
      case atStart => exact ⟨rfl, (by first | rfl | rw [HeT.out]), rfl, HR0⟩
      case round =>
      clear HR0
      obtain ⟨rfl, rfl, rfl, HK⟩ := hrel
      have HF : Hid (AsP l S o w (j : Int) mo (.slice none 0 0) (t : Int) 0 wr) := hid ((HP.out _ _ HK.out.bel).1 (fun i hi => absurd hi (Nat.not_lt_zero _)) HK.out.row)
      clear HK HP
      go_wp2
      refine bodyPost_ret (v := .tuple #[.slice none 0 0, .int .i64 (t : Int), .int .u8 0]) (by simp [results, Tryz.results143, go_sem]) rfl ?_
      exact ⟨_, _, _, rfl, HF⟩
  have dg : ¬ (32768 = g) := by omega
  by_cases hlt : mo < (n : Int) - (j : Int)
  all_goals
    (first | rw [if_pos hlt] at hm1 | rw [if_neg hlt] at hm1)
    (first | have d4 : decide (mo < (n : Int) - (j : Int)) = false := decide_eq_false hlt | have d4 : decide (mo < (n : Int) - (j : Int)) = true := decide_eq_true hlt)
    have HeT : Hid ((if mo < (n : Int) - (j : Int) then (j : Int) + mo else (n : Int)) = (t : Int)) := hid (by (first | rw [if_pos hlt] | rw [if_neg hlt]); omega)
    (first | (rw [if_pos hlt] at HeT; have eT := HeT.out) | (rw [if_neg hlt] at HeT; have e1n : (f : Int) + (n : Int) = (g : Int) + (m : Int) := (by have := HeT.out; omega)))
    clear hm1 hlt enx ht hg hfk hn
    go_enter Tryz.func143, Tryz.ntmps143
    go_upto_region 1 with fail
    (try simp only [hp])
    generalize hw1 : w.alloc _ = w1 at HX ⊢
    clear hw1 hp
    have p0 := HX.out.bk.cell 0
    have p1 := HX.out.bk.cell 1
    have p2 := HX.out.bk.cell 2
    have p3 := HX.out.bk.cell 3
    have p4 := HX.out.bk.cell 4
    simp only [obL, List.getElem?_cons_zero, List.getElem?_cons_succ] at p0 p1 p2 p3 p4
    go_wp2_with fail
    refine (HC.out _ HX.out.am).mono ?_
    rintro e w2 ⟨rfl, hb2⟩
    have HX2 := hid (HX.out.below hb2)
    clear hb2 HX p0 p1 p2 p3 p4
    have p0 := HX2.out.bk.cell 0
    have p1 := HX2.out.bk.cell 1
    have p2 := HX2.out.bk.cell 2
    have p3 := HX2.out.bk.cell 3
    have p4 := HX2.out.bk.cell 4
    simp only [obL, List.getElem?_cons_zero, List.getElem?_cons_succ] at p0 p1 p2 p3 p4
    rw [Hn.out] at p4
    have a0 := HX2.out.am.cells.1
    go_upto_region 14 with fail
    (try simp only [e2])
    have HR0 : Hid (AR w l p o (.slice none 0 0) [] w2) := hid ⟨HX2.out.bel, HX2.out.bk, OwR.nil _ _ _⟩
    (try clear eT)
    (try clear e1n)
    clear HX2 p0 p1 p2 p3 p4 a0 HC d4 e1 e2 e3 eg ef
    go_loopw [1, 9, 69] (fun b z u wr => ∃ (q : Nat) (ax : Option Addr) (m1 cp : Nat), z = .int .i64 (t : Int) ∧ u = .int .i64 (q : Int) ∧ b = .slice ax m1 cp ∧ q ≤ m ∧ Hid (AR w l p o (.slice ax m1 cp) (rfsL S g q) wr ∧ rfAll S g q)) (fun _ _ u _ => m - (intOf u).toNat)
    case atStart => exact ⟨0, none, 0, 0, (by first | rfl | rw [HeT.out]), rfl, rfl, Nat.zero_le _, hid ⟨HR0.out, fun i hi => absurd hi (Nat.not_lt_zero _)⟩⟩
    case round =>
    clear HR0
    obtain ⟨q, ax, m1, cp, rfl, rfl, rfl, hq, HK⟩ := hrel
    by_cases hqn : q < m
    rotate_left
    · as_aux_lemma =>
      have dq : decide ((q : Int) < (m : Int)) = false := decide_eq_false (by omega)
      have HF : Hid (AsP l S o w (j : Int) mo (.slice ax m1 cp) (t : Int) 0 wr) := hid ((HP.out _ _ HK.out.1.bel).1 (by rw [show m = q by omega]; exact HK.out.2) (by rw [show m = q by omega]; exact HK.out.1.row))
      clear HK HP
      go_wp2
      refine bodyPost_ret (v := .tuple #[.slice ax m1 cp, .int .i64 (t : Int), .int .u8 0]) (by simp [results, Tryz.results143, go_sem]) rfl ?_
      exact ⟨_, _, _, rfl, HF⟩
    as_aux_lemma =>
    have dq : decide ((q : Int) < (m : Int)) = true := decide_eq_true (by omega)
    have HA1 := hid (HA.out.below HK.out.1.bel)
    have cw := HA1.out.word (i := g + q) (by omega)
    have Hst := hid (rfsL_step S g q)
    have HCk := hid (fun wz => checkRefZ ((S.W (g + q) : Nat) : Int) wz)
    have Hall : Hid (rfOk ((S.W (g + q) : Nat) : Int) → rfAll S g (q + 1)) := hid (fun h1 i hi => by
      by_cases e : i = q
      · rw [e]; exact h1
      · exact HK.out.2 i (by omega))
    have Hno : Hid (¬ rfOk ((S.W (g + q) : Nat) : Int) → ¬ rfAll S g m) := hid (fun h1 h2 => h1 (h2 q hqn))
    generalize S.W (g + q) = x at *
    clear HA1
    by_cases hr : rfOk (x : Int)
    rotate_left
    · as_aux_lemma =>
      rw [if_neg hr, if_neg hr] at HCk
      have HF : Hid (AsP l S o w (j : Int) mo (.slice ax 0 cp) (j : Int) 9 wr) := hid ((HP.out _ _ HK.out.1.bel).2 (Hno.out hr) HK.out.1.row.cut0)
      clear hr HK Hno Hall Hst HP
      (go_wp2_with fail; refine (HCk.out wr).mono ?_; rintro e_ w_ ⟨he_, hw_⟩; subst he_; have hs_ := hw_.symm; clear hw_; subst hs_)
      go_wp2
      refine bodyPost_ret (v := .tuple #[.slice ax 0 cp, .int .i64 (j : Int), .int .u8 9]) (by simp [results, Tryz.results143, go_sem]) rfl ?_
      exact ⟨_, _, _, rfl, HF⟩
    rw [if_pos hr, if_pos hr] at HCk
    have Hall1 := hid (Hall.out hr)
    clear hr Hall Hno
    by_cases h0 : x = 0
    · as_aux_lemma =>
      have d0 : ((x : Int) == 0) = true := by simp [h0]
      have d0' : ((x : Int) != 0) = false := by simp [bne, d0]
      have HF : Hid (AR w l p o (.slice ax m1 cp) (rfsL S g (q + 1)) wr ∧ rfAll S g (q + 1)) := hid ⟨by rw [Hst.out, if_pos h0, List.append_nil]; exact HK.out.1, Hall1.out⟩
      clear h0
      clear HK Hst Hall1
      (go_wp2_with fail; refine (HCk.out wr).mono ?_; rintro e_ w_ ⟨he_, hw_⟩; subst he_; have hs_ := hw_.symm; clear hw_; subst hs_)
      go_wp2
      exact ⟨⟨q + 1, ax, m1, cp, rfl, by go_num, rfl, by omega, HF⟩, by simp [intOf]; omega⟩
    · as_aux_lemma =>
      have d0 : ((x : Int) == 0) = false := by simp; omega
      have d0' : ((x : Int) != 0) = true := by simp [bne, d0]
      (go_wp2_with fail; refine (HCk.out wr).mono ?_; rintro e_ w_ ⟨he_, hw_⟩; subst he_; have hs_ := hw_.symm; clear hw_; subst hs_)
      go_wp2_with (at_builtin; refine stopHere ?_)
      intro _
      obtain ⟨k8, hk8⟩ : ∃ k, wr.heap.size = k := ⟨_, rfl⟩
      obtain ⟨wf, hwf⟩ : ∃ wf, wr.alloc (.cells #[.int .u64 (x : Int)] 64) = wf := ⟨_, rfl⟩
      have HJf : Hid (AR w l p o (.slice ax m1 cp) (rfsL S g q) wf) := hid (by rw [← hwf]; exact HK.out.1.below (nbel wr _))
      have HNw : Hid (∀ ad, some (⟨k8, 0, none⟩ : Addr) = some ad → ∀ j u, ([x].flatMap rtA.f)[j]? = some u → wf.cell? (ad.add j) = some u) := hid (by rw [← hwf]; exact newX rtA wr x _ hk8.symm)
      (try simp only [hwf, hk8])
      clear hwf hk8 HK
      refine wpList_app_l okA rfl _ _ HJf.out.row rfl [x] rfl (some ⟨k8, 0, none⟩) 1 1 rfl rfl (fun h => by cases h) HNw.out (by
        have h1 := rfsL_len S g q
        show ((rfsL S g q).length + 1) * 8 ≤ _
        omega) HJf.out.bel.size ?_
      intro v9 w9 hr9 hk9 hg9
      obtain ⟨a9, q9, rfl⟩ := hr9.out.shape
      have HR : Hid (AR w l p o (.slice a9 (rfsL S g q ++ [x]).length q9) (rfsL S g (q + 1)) w9 ∧ rfAll S g (q + 1)) := hid ⟨by rw [Hst.out, if_neg h0]; exact HJf.out.app hk9.out hr9.out, Hall1.out⟩
      generalize (rfsL S g q ++ [x]).length = n9 at HR ⊢
      clear HJf hr9 hk9 hg9 HNw h0 Hst Hall1
      go_wp2
      exact ⟨⟨q + 1, a9, n9, q9, rfl, by go_num, rfl, by omega, HR⟩, by simp [intOf]; omega⟩
set_option maxRecDepth 100000 in
theorem appendRefsN {v0 v1 v2 v3 v4 : Value} (h : AM l S w) (hc : Chk l S [v0, v1, v2, v3, v4] 6) : Calls Tryz.prog 142 #[.agg #[v0, v1, v2, v3, v4], .slice none 0 0] w fun e w' => e = .returned (.tuple #[.slice none 0 0, .int .u8 6]) ∧ Below w.heap.size w w' := by
  obtain ⟨p, hp⟩ : ∃ p, w.heap.size = p := ⟨_, rfl⟩
  have HX : Hid (OX w l S p [v0, v1, v2, v3, v4] (w.alloc (.cells #[v0, v1, v2, v3, v4] 61))) := hid (OX.new (cs := [v0, v1, v2, v3, v4]) h (Below.refl _ w) hp)
  have HC : Hid (∀ wz, AM l S wz → Calls Tryz.prog 208 #[.agg #[v0, v1, v2, v3, v4]] wz fun e w' => e = .returned (.int .u8 6) ∧ Below wz.heap.size wz w') := hid hc
  clear h hc
  go_enter Tryz.func142, Tryz.ntmps142
  go_upto_region 1 with fail
  (try simp only [hp])
  generalize hw1 : w.alloc _ = w1 at HX ⊢
  clear hw1 hp
  have p0 := HX.out.bk.cell 0
  have p1 := HX.out.bk.cell 1
  have p2 := HX.out.bk.cell 2
  have p3 := HX.out.bk.cell 3
  have p4 := HX.out.bk.cell 4
  simp only [List.getElem?_cons_zero, List.getElem?_cons_succ] at p0 p1 p2 p3 p4
  go_wp2_with fail
  refine (HC.out _ HX.out.am).mono ?_
  rintro e w2 ⟨rfl, hb2⟩
  have HX2 := hid (HX.out.below hb2)
  clear hb2 HX p0 p1 p2 p3 p4
  clear HC
  go_wp2
  refine bodyPost_ret (v := .tuple #[.slice none 0 0, .int .u8 6]) (by simp [results, Tryz.results142, go_sem]) rfl ?_
  exact ⟨rfl, HX2.out.bel⟩
set_option maxRecDepth 100000 in
theorem appendSomeN {v0 v1 v2 v3 v4 : Value} (h : AM l S w) (fr mo : Int) (hc : Chk l S [v0, v1, v2, v3, v4] 6) : Calls Tryz.prog 143 #[.agg #[v0, v1, v2, v3, v4], .slice none 0 0, .int .i64 fr, .int .i64 mo] w fun e w' => e = .returned (.tuple #[.slice none 0 0, .int .i64 fr, .int .u8 6]) ∧ Below w.heap.size w w' := by
  obtain ⟨p, hp⟩ : ∃ p, w.heap.size = p := ⟨_, rfl⟩
  have HX : Hid (OX w l S p [v0, v1, v2, v3, v4] (w.alloc (.cells #[v0, v1, v2, v3, v4] 61))) := hid (OX.new (cs := [v0, v1, v2, v3, v4]) h (Below.refl _ w) hp)
  have HC : Hid (∀ wz, AM l S wz → Calls Tryz.prog 208 #[.agg #[v0, v1, v2, v3, v4]] wz fun e w' => e = .returned (.int .u8 6) ∧ Below wz.heap.size wz w') := hid hc
  clear h hc
  go_enter Tryz.func143, Tryz.ntmps143
  go_upto_region 1 with fail
  (try simp only [hp])
  generalize hw1 : w.alloc _ = w1 at HX ⊢
  clear hw1 hp
  have p0 := HX.out.bk.cell 0
  have p1 := HX.out.bk.cell 1
  have p2 := HX.out.bk.cell 2
  have p3 := HX.out.bk.cell 3
  have p4 := HX.out.bk.cell 4
  simp only [List.getElem?_cons_zero, List.getElem?_cons_succ] at p0 p1 p2 p3 p4
  go_wp2_with fail
  refine (HC.out _ HX.out.am).mono ?_
  rintro e w2 ⟨rfl, hb2⟩
  have HX2 := hid (HX.out.below hb2)
  clear hb2 HX p0 p1 p2 p3 p4
  clear HC
  go_wp2
  refine bodyPost_ret (v := .tuple #[.slice none 0 0, .int .i64 fr, .int .u8 6]) (by simp [results, Tryz.results143, go_sem]) rfl ?_
  exact ⟨rfl, HX2.out.bel⟩
set_option maxRecDepth 100000 in
theorem eachFieldN {v0 v1 v2 v3 v4 : Value} (h : AM l S w) (fv : Value) (hc : Chk l S [v0, v1, v2, v3, v4] 6) : Calls Tryz.prog 144 #[.agg #[v0, v1, v2, v3, v4], fv] w fun e w' => e = .returned (.int .u8 6) ∧ Below w.heap.size w w' := by
  obtain ⟨p, hp⟩ : ∃ p, w.heap.size = p := ⟨_, rfl⟩
  have HX : Hid (OX w l S p [v0, v1, v2, v3, v4] (w.alloc (.cells #[v0, v1, v2, v3, v4] 61))) := hid (OX.new (cs := [v0, v1, v2, v3, v4]) h (Below.refl _ w) hp)
  have HC : Hid (∀ wz, AM l S wz → Calls Tryz.prog 208 #[.agg #[v0, v1, v2, v3, v4]] wz fun e w' => e = .returned (.int .u8 6) ∧ Below wz.heap.size wz w') := hid hc
  clear h hc
  go_enter Tryz.func144, Tryz.ntmps144
  go_upto_region 1 with fail
  (try simp only [hp])
  generalize hw1 : w.alloc _ = w1 at HX ⊢
  clear hw1 hp
  have p0 := HX.out.bk.cell 0
  have p1 := HX.out.bk.cell 1
  have p2 := HX.out.bk.cell 2
  have p3 := HX.out.bk.cell 3
  have p4 := HX.out.bk.cell 4
  simp only [List.getElem?_cons_zero, List.getElem?_cons_succ] at p0 p1 p2 p3 p4
  go_wp2_with fail
  refine (HC.out _ HX.out.am).mono ?_
  rintro e w2 ⟨rfl, hb2⟩
  have HX2 := hid (HX.out.below hb2)
  clear hb2 HX p0 p1 p2 p3 p4
  clear HC
  go_wp2
  refine bodyPost_ret (v := .int .u8 6) (by simp [results, Tryz.results144, go_sem]) rfl ?_
  exact ⟨rfl, HX2.out.bel⟩
set_option maxRecDepth 100000 in
theorem housedN {v0 v1 v2 v3 v4 : Value} (h : AM l S w) (hc : Chk l S [v0, v1, v2, v3, v4] 6) : Calls Tryz.prog 146 #[.agg #[v0, v1, v2, v3, v4]] w fun e w' => e = .returned (.bool false) ∧ Below w.heap.size w w' := by
  obtain ⟨p, hp⟩ : ∃ p, w.heap.size = p := ⟨_, rfl⟩
  have HX : Hid (OX w l S p [v0, v1, v2, v3, v4] (w.alloc (.cells #[v0, v1, v2, v3, v4] 61))) := hid (OX.new (cs := [v0, v1, v2, v3, v4]) h (Below.refl _ w) hp)
  have HC : Hid (∀ wz, AM l S wz → Calls Tryz.prog 208 #[.agg #[v0, v1, v2, v3, v4]] wz fun e w' => e = .returned (.int .u8 6) ∧ Below wz.heap.size wz w') := hid hc
  clear h hc
  go_enter Tryz.func146, Tryz.ntmps146
  go_upto_region 1 with fail
  (try simp only [hp])
  generalize hw1 : w.alloc _ = w1 at HX ⊢
  clear hw1 hp
  have p0 := HX.out.bk.cell 0
  have p1 := HX.out.bk.cell 1
  have p2 := HX.out.bk.cell 2
  have p3 := HX.out.bk.cell 3
  have p4 := HX.out.bk.cell 4
  simp only [List.getElem?_cons_zero, List.getElem?_cons_succ] at p0 p1 p2 p3 p4
  go_wp2_with fail
  refine (HC.out _ HX.out.am).mono ?_
  rintro e w2 ⟨rfl, hb2⟩
  have HX2 := hid (HX.out.below hb2)
  clear hb2 HX p0 p1 p2 p3 p4
  clear HC
  go_wp2
  refine bodyPost_ret (v := .bool false) (by simp [results, Tryz.results146, go_sem]) rfl ?_
  exact ⟨rfl, HX2.out.bel⟩
end
end Go.Proofs.Qxb6500887aGreat
