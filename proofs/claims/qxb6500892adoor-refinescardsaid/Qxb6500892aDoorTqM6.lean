/- The model's order (written by tools/mk_mord.py). -/
import Derived.Test.Qxb6500892aDoorTqM5
namespace Go.Proofs.Qxb6500892aDoor
open Go.RowKit
set_option linter.unusedSimpArgs false
set_option linter.unusedVariables false

section
variable {w : World} {a : Option Addr} {n c : Nat} {l : List TEnt}
set_option maxRecDepth 100000 in
set_option maxHeartbeats 1000000 in
theorem backwards_walk (hr : RowOf w 4 entC a n c l) (hn : n ≤ 1000000) : Calls Tryd.prog 72 #[.slice a n c] w fun y w' => ∃ a' n' c', y = .returned (.slice a' n' c') ∧ OR w' w.heap.size 64 4 entC (.slice a' n' c') l.reverse ∧ Below w.heap.size w w' := by
  have HR := hid hr
  have hl : l.length = n := hr.1
  have HL := hid hl
  clear hr hl
  obtain ⟨ie, hie, hze, hsz1, hby1⟩ := info_entz
  have IE := hid (And.intro hie (And.intro hze (And.intro hsz1 hby1)))
  clear hie hze hsz1 hby1
  go_enter Tryd.func72, Tryd.ntmps72
  go_upto_region 3 with fail
  go_loopw [3, 4] (fun v6 v wr => ∃ z : Int, v = .int .i64 z ∧ ∃ a6 n6 c6, v6 = .slice a6 n6 c6 ∧ Hid (∃ m : Nat, m ≤ n ∧ z = (m : Int) - 1 ∧ OR wr w.heap.size 64 4 entC (.slice a6 n6 c6) (l.drop m).reverse ∧ Below w.heap.size w wr)) (fun _ v _ => (intOf v + 1).toNat)
  case atStart => exact ⟨(n : Int) - 1, by go_num, none, 0, 0, rfl, hid ⟨n, by omega, rfl, by rw [List.drop_eq_nil_of_le (by have := HL.out; omega)]; exact OR.nil _ _ _ _ _, Below.refl _ _⟩⟩
  case round =>
  obtain ⟨z2, rfl, a6, n6, c6, rfl, HK⟩ := hrel
  obtain ⟨m, hm, hz2, hx6⟩ := HK.out
  have HX := hid hx6
  clear hx6 HK
  rcases m with _ | j
  · as_aux_lemma =>
    have hz3 : z2 = -1 := by omega
    clear hz2
    subst hz3
    have dz1 : decide ((-1 : Int) ≥ 0) = false := by decide
    have dz2 : decide ((0 : Int) ≤ -1) = false := by decide
    have HF : Hid (OR wr w.heap.size 64 4 entC (.slice a6 n6 c6) l.reverse ∧ Below w.heap.size w wr) := hid HX.out
    clear HX
    go_wp2
    go_ret
    exact ⟨a6, n6, c6, rfl, HF.out.1, HF.out.2⟩
  as_aux_lemma =>
  have hz3 : z2 = (j : Int) := by omega
  clear hz2
  subst hz3
  have dz1 : decide ((j : Int) ≥ 0) = true := decide_eq_true (by omega)
  have dz2 : decide ((0 : Int) ≤ (j : Int)) = true := decide_eq_true (by omega)
  have hjn : (j : Int) < (n : Int) := by omega
  obtain ⟨t, b, off, ht, rfl, q0, q1, q2, q3⟩ := rowE_at (HR.out.below HX.out.2) (show j < n by omega)
  have HD := hid (drop_rev ht)
  have Hlen : Hid ((l.drop (j + 1)).reverse.length ≤ 1000000) := hid (by rw [List.length_reverse, List.length_drop]; have := HL.out; omega)
  clear ht
  go_upto_region 5 with fail
  obtain ⟨w6, hw6⟩ : ∃ w6, wr.alloc (.cells #[.int .i64 t.slot, .int .u64 t.key, .int .i64 t.pins, .bool t.neg] 64) = w6 := ⟨_, rfl⟩
  have HX6 : Hid (OR w6 w.heap.size 64 4 entC (.slice a6 n6 c6) (l.drop (j + 1)).reverse ∧ Below w.heap.size w w6) := hid (by rw [← hw6]; exact ⟨HX.out.1.below (nbel wr _), HX.out.2.trans ((nbel wr _).mono HX.out.2.size)⟩)
  have HNw := hid (newRow wr (entC t) 64 wr.heap.size rfl)
  rw [show (wr.alloc (.cells (entC t).toArray 64)) = w6 from hw6] at HNw
  obtain ⟨p6, hp6⟩ : ∃ p, wr.heap.size = p := ⟨_, rfl⟩
  rw [hp6] at HNw
  go_wp2_with (at_builtin; refine stopHere ?_)
  intro _
  (try simp only [hw6])
  refine wpList_append_row _ rfl (.tmp 12) (.tmp 17) 38 rfl w.heap.size 64 ie (.agg #[.int .i64 0, .int .u64 0, .int .i64 0, .bool false]) 4 32 Tryd.underlying38 IE.out.1 IE.out.2.1 IE.out.2.2.1 IE.out.2.2.2 rfl (by decide) (.slice a6 n6 c6) _ _ (by simp [Act.eval, Act.put]; done) HX6.out.1 (some ⟨p6, 0, none⟩) 1 1 (entC t) (by simp [Act.eval, Act.put]; done) rfl (fun h => by cases h) HNw.out (entC_one t) (by have := Hlen.out; omega) (by decide) HX6.out.2.size ?_
  intro v7 w7 hown7 hb7 hk7 hg7
  have HF : Hid (∃ m : Nat, m ≤ n ∧ (j : Int) - 1 = (m : Int) - 1 ∧ OR w7 w.heap.size 64 4 entC v7 (l.drop m).reverse ∧ Below w.heap.size w w7) := hid ⟨j, by omega, rfl, by
    rw [HD.out]
    have := hown7
    rw [flatMap_snoc] at this
    unfold OR
    rw [List.length_append]
    exact this, HX6.out.2.trans hb7⟩
  have HS7 : Hid (∃ a n c, v7 = .slice a n c) := hid (by obtain ⟨q, _, _, h, _⟩ := HF.out; exact h.shape)
  clear hown7 hb7 hk7 hg7 HX6 HNw hw6 hp6 Hlen HD HX q0 q1 q2 q3
  obtain ⟨a7, n7, c7, h7⟩ := HS7.out
  subst h7
  clear HS7
  go_wp2
  exact ⟨⟨(j : Int) - 1, by go_num, a7, n7, c7, rfl, HF⟩, by simp [intOf]; try omega⟩
end
section
variable {B pb : Nat} {a1 : Option Addr} {n1 c1 : Nat} {a2 : Option Addr} {n2 c2 : Nat} {a3 : Option Addr} {n3 c3 : Nat} {m : MS} {w : World}
def OrdP (m : MS) (w : World) (y : Ending) (w' : World) : Prop := ∃ a n c, y = .returned (.slice a n c) ∧ Hid (OR w' w.heap.size 64 4 entC (.slice a n c) (ordP m.I m.M m.kin m.kneg) ∧ Below w.heap.size w w')
set_option maxRecDepth 100000 in
set_option maxHeartbeats 4000000 in
theorem order_walk (h : MM B pb a1 n1 c1 a2 n2 c2 a3 n3 c3 m w) (hk : MOk m) : Calls Tryd.prog 70 #[.pointer (some ⟨pb, 0, none⟩)] w fun y w' => OrdP m w y w' := by
  have HM := hid h
  have HK := hid hk
  have HL := hid (And.intro h.o1.lenS h.o2.lenS)
  have hn1 : n1 ≤ 131072 := by have := HL.out.1; have := hk.l1; omega
  have hn2 : n2 ≤ 131072 := by have := HL.out.2; have := hk.l2; omega
  have HBw := hid (backwards_walk (h.o1.rowE (by have := hk.l1; omega)) (by omega))
  have z4 : w.cell? ⟨pb, 4, none⟩ = some (.slice a1 n1 c1) := h.bk.cell 4
  obtain ⟨kn, hkn⟩ : ∃ k, m.kneg = k := ⟨_, rfl⟩
  obtain ⟨ki, hki⟩ : ∃ k, m.kin = k := ⟨_, rfl⟩
  have Hkn := hid (And.intro hkn hki)
  clear h hk hkn hki
  obtain ⟨ie, hie, hze, hsz1, hby1⟩ := info_entz
  have IE := hid (And.intro hie (And.intro hze (And.intro hsz1 hby1)))
  clear hie hze hsz1 hby1
  go_enter Tryd.func70, Tryd.ntmps70
  go_wp2_with fail
  refine HBw.out.mono ?_
  rintro y w1 ⟨a8, n8, c8, rfl, ho8, hb8⟩
  have HO8 := hid ho8
  have HB1 := hid hb8
  have HM1 := hid (HM.out.below hb8)
  clear ho8 hb8 HBw z4
  obtain ⟨l, hl⟩ : ∃ l, m.I.reverse = l := ⟨_, rfl⟩
  rw [hl] at HO8
  have Hl := hid hl
  have hn8 : n8 ≤ 131072 := by have := HO8.out.lenS; rw [← hl, List.length_reverse] at this; have := HK.out.l1; omega
  have HL8 := hid HO8.out.lenS
  have HR8 := hid (HO8.out.rowE (by have := HL8.out; omega))
  clear hl HO8
  go_upto_region 4 with fail
  go_loopw [4, 15] (fun v5 v wr => ∃ i : Nat, i ≤ n8 ∧ v = .int .i64 (i : Int) ∧ ∃ a5 n5 c5, v5 = .slice a5 n5 c5 ∧ Hid (OR wr w1.heap.size 64 4 entC (.slice a5 n5 c5) ((l.take i).filter (·.neg)) ∧ Below w1.heap.size w1 wr)) (fun _ v _ => n8 - (intOf v).toNat)
  case atStart => exact ⟨0, by omega, rfl, none, 0, 0, rfl, hid ⟨OR.nil _ _ _ _ _, Below.refl _ _⟩⟩
  case round =>
  obtain ⟨i, hi, rfl, a5, n5, c5, rfl, HX⟩ := hrel
  by_cases hin : i < n8
  · as_aux_lemma =>
    have di : decide ((i : Int) < (n8 : Int)) = true := decide_eq_true (by omega)
    have hii : (i : Int) < (n8 : Int) := by omega
    obtain ⟨t, b, off, ht, rfl, q0, q1, q2, q3⟩ := rowE_at (HR8.out.below HX.out.2) hin
    obtain ⟨bN, hbN⟩ : ∃ b, t.neg = b := ⟨_, rfl⟩
    have HT : Hid ((l.take (i + 1)).filter (·.neg) = (l.take i).filter (·.neg) ++ (if bN = true then [t] else [])) := hid (by
      rw [List.take_add_one, ht, List.filter_append]
      congr 1
      cases bN <;> simp [hbN])
    have HbN := hid hbN
    have Hlen : Hid (((l.take i).filter (·.neg)).length ≤ 1000000) := hid (Nat.le_trans (List.length_filter_le _ _) (by rw [List.length_take]; omega))
    rw [hbN] at q3
    clear ht hbN
    obtain ⟨p9, hp9⟩ : ∃ p, wr.heap.size = p := ⟨_, rfl⟩
    have HB9 : Hid ((OR (wr.alloc (.cells #[.int .i64 t.slot, .int .u64 t.key, .int .i64 t.pins, .bool bN] 64)) w1.heap.size 64 4 entC (.slice a5 n5 c5) ((l.take i).filter (·.neg)) ∧ Below w1.heap.size w1 (wr.alloc (.cells #[.int .i64 t.slot, .int .u64 t.key, .int .i64 t.pins, .bool bN] 64))) ∧ Blk (wr.alloc (.cells #[.int .i64 t.slot, .int .u64 t.key, .int .i64 t.pins, .bool bN] 64)) p9 64 [.int .i64 t.slot, .int .u64 t.key, .int .i64 t.pins, .bool bN]) := hid (by
      have k1 := Blk.new wr [.int .i64 t.slot, .int .u64 t.key, .int .i64 t.pins, .bool bN] 64
      rw [hp9] at k1
      exact ⟨⟨HX.out.1.below (nbel wr _), HX.out.2.trans ((nbel wr _).mono HX.out.2.size)⟩, k1⟩)
    go_upto_region 6 with fail
    generalize wr.alloc (.cells #[.int .i64 t.slot, .int .u64 t.key, .int .i64 t.pins, .bool bN] 64) = w9 at HB9 ⊢
    have m0 : w9.cell? ⟨p9, 0, none⟩ = some (.int .i64 t.slot) := HB9.out.2.cell 0
    have m1 : w9.cell? ⟨p9, 1, none⟩ = some (.int .u64 t.key) := HB9.out.2.cell 1
    have m2 : w9.cell? ⟨p9, 2, none⟩ = some (.int .i64 t.pins) := HB9.out.2.cell 2
    have m3 : w9.cell? ⟨p9, 3, none⟩ = some (.bool bN) := HB9.out.2.cell 3
    clear HX q0 q1 q2 q3 hp9
    cases bN with
    | false =>
      have HF : Hid (OR w9 w1.heap.size 64 4 entC (.slice a5 n5 c5) ((l.take (i + 1)).filter (·.neg)) ∧ Below w1.heap.size w1 w9) := hid ⟨by rw [HT.out]; simp only [Bool.false_eq_true, if_false, List.append_nil]; exact HB9.out.1.1, HB9.out.1.2⟩
      clear HT Hlen HB9 HbN
      go_wp2
      exact ⟨⟨i + 1, by omega, by go_num, a5, n5, c5, rfl, HF⟩, by simp [intOf]; omega⟩
    | true =>
      go_upto_region 7 with fail
      obtain ⟨w6, hw6⟩ : ∃ w6, w9.alloc (.cells #[.int .i64 t.slot, .int .u64 t.key, .int .i64 t.pins, .bool true] 64) = w6 := ⟨_, rfl⟩
      have HX6 : Hid (OR w6 w1.heap.size 64 4 entC (.slice a5 n5 c5) ((l.take i).filter (·.neg)) ∧ Below w1.heap.size w1 w6) := hid (by rw [← hw6]; exact ⟨HB9.out.1.1.below (nbel w9 _), HB9.out.1.2.trans ((nbel w9 _).mono HB9.out.1.2.size)⟩)
      have HlT : Hid ([.int .i64 t.slot, .int .u64 t.key, .int .i64 t.pins, .bool true] = entC t) := hid (by unfold entC; rw [HbN.out])
      have HNw := hid (newRow w9 [.int .i64 t.slot, .int .u64 t.key, .int .i64 t.pins, .bool true] 64 w9.heap.size rfl)
      rw [show (w9.alloc (.cells [.int .i64 t.slot, .int .u64 t.key, .int .i64 t.pins, .bool true].toArray 64)) = w6 from hw6] at HNw
      obtain ⟨p6, hp6⟩ : ∃ p, w9.heap.size = p := ⟨_, rfl⟩
      rw [hp6] at HNw
      go_wp2_with (at_builtin; refine stopHere ?_)
      intro _
      (try simp only [hw6])
      refine wpList_append_row _ rfl (.tmp 21) (.tmp 23) 38 rfl w1.heap.size 64 ie (.agg #[.int .i64 0, .int .u64 0, .int .i64 0, .bool false]) 4 32 Tryd.underlying38 IE.out.1 IE.out.2.1 IE.out.2.2.1 IE.out.2.2.2 rfl (by decide) (.slice a5 n5 c5) _ _ (by simp [Act.eval, Act.put]; done) HX6.out.1 (some ⟨p6, 0, none⟩) 1 1 (entC t) (by simp [Act.eval, Act.put]; done) rfl (fun h => by cases h) (by rw [← HlT.out]; exact HNw.out) (entC_one t) (by have := Hlen.out; omega) (by decide) HX6.out.2.size ?_
      intro v7 w7 hown7 hb7 hk7 hg7
      have HF : Hid (OR w7 w1.heap.size 64 4 entC v7 ((l.take (i + 1)).filter (·.neg)) ∧ Below w1.heap.size w1 w7) := hid ⟨by
        rw [HT.out]
        simp only [if_true]
        have := hown7
        rw [flatMap_snoc] at this
        unfold OR
        rw [List.length_append]
        exact this, HX6.out.2.trans hb7⟩
      clear hown7 hb7 hk7 hg7 HX6 HNw hw6 hp6 HT Hlen HB9 m0 m1 m2 m3 HlT HbN
      obtain ⟨a7, n7, c7, h7⟩ := HF.out.1.shape
      subst h7
      go_wp2
      exact ⟨⟨i + 1, by omega, by go_num, a7, n7, c7, rfl, HF⟩, by simp [intOf]; omega⟩
  as_aux_lemma =>
  have di : decide ((i : Int) < (n8 : Int)) = false := decide_eq_false (by omega)
  obtain ⟨wa, hwa⟩ : ∃ wa, wa = wr := ⟨_, rfl⟩
  subst hwa
  have HXa : Hid (OR wa w.heap.size 64 4 entC (.slice a5 n5 c5) (m.I.reverse.filter (·.neg)) ∧ Below w.heap.size w wa) := hid (by
    have h1 := HX.out
    rw [List.take_of_length_le (by have := HL8.out; omega), ← Hl.out] at h1
    exact ⟨h1.1.mono HB1.out.size, HB1.out.trans (h1.2.mono HB1.out.size)⟩)
  have HN5 : Hid (n5 = m.I.countP (·.neg)) := hid (by
    have h1 := HXa.out.1.lenS
    rw [← h1, ← List.countP_eq_length_filter, List.countP_reverse])
  have hn5 : n5 ≤ 131072 := by rw [HN5.out]; exact Nat.le_trans List.countP_le_length HK.out.l1
  have HMa := hid (HM.out.below HXa.out.2)
  clear HX HL8 HR8 Hl HM1 HB1
  have r3 : wa.cell? ⟨pb, 3, none⟩ = some (.int .i64 kn) := by rw [← Hkn.out.1]; exact HMa.out.bk.cell 3
  obtain ⟨B0, hB0⟩ : ∃ B, decide (kn < (n5 : Int)) = B := ⟨_, rfl⟩
  have dg : decide ((n5 : Int) > kn) = B0 := hB0
  go_upto_if 33 with fail
  obtain ⟨G, hG⟩ : ∃ G, (if m.kneg < (m.I.countP (·.neg) : Int) then m.I.reverse.filter (·.neg) else []) = G := ⟨_, rfl⟩
  have HG : Hid ((B0 = true → G = m.I.reverse.filter (·.neg)) ∧ (B0 = false → G = [])) := hid (by
    rw [← HN5.out, Hkn.out.1] at hG
    constructor
    · intro h
      rw [if_pos (of_decide_eq_true (hB0.trans h))] at hG
      exact hG.symm
    · intro h
      rw [if_neg (of_decide_eq_false (hB0.trans h))] at hG
      exact hG.symm)
  have HGG := hid hG
  have hgl : G.length ≤ 131072 := by
    rw [← hG]
    split
    · exact Nat.le_trans (List.length_filter_le _ _) (by rw [List.length_reverse]; exact HK.out.l1)
    · exact Nat.zero_le _
  clear hG hB0 dg r3 HN5
  go_cut [5] from 34 to 34 (fun v6 wc => ∃ a6 n6 c6, v6 = .slice a6 n6 c6 ∧ Hid (OR wc w.heap.size 64 4 entC (.slice a6 n6 c6) G ∧ Below w.heap.size w wc))
  case first =>
    as_aux_lemma =>
    cases B0 with
    | false =>
      have HF : Hid (OR wa w.heap.size 64 4 entC (.slice none 0 0) G ∧ Below w.heap.size w wa) := hid ⟨by rw [HG.out.2 rfl]; exact OR.nil _ _ _ _ _, HXa.out.2⟩
      clear HXa HG HGG
      go_wp2
      go_meet
      case rel => exact ⟨none, 0, 0, rfl, HF⟩
    | true =>
      have HF : Hid (OR wa w.heap.size 64 4 entC (.slice a5 n5 c5) G ∧ Below w.heap.size w wa) := hid ⟨by rw [HG.out.1 rfl]; exact HXa.out.1, HXa.out.2⟩
      clear HXa HG HGG
      go_wp2
      go_meet
      case rel => exact ⟨a5, n5, c5, rfl, HF⟩
  case rest =>
  as_aux_lemma =>
  obtain ⟨a6, n6, c6, rfl, HX6⟩ := hcut
  clear HXa HG di hin HMa
  obtain ⟨wb, hwb⟩ : ∃ wx, wx = wc := ⟨_, rfl⟩
  subst hwb
  have HMb := hid (HM.out.below HX6.out.2)
  have t1 : ∀ nn, (wb.drewN nn).cell? ⟨pb, 1, none⟩ = some (.int .i64 ki) := fun nn => by rw [← Hkn.out.2]; exact HMb.out.bk.cell 1
  have t4 : ∀ nn, (wb.drewN nn).cell? ⟨pb, 4, none⟩ = some (.slice a1 n1 c1) := fun nn => HMb.out.bk.cell 4
  obtain ⟨B1, hB1⟩ : ∃ B, decide (ki < (n1 : Int)) = B := ⟨_, rfl⟩
  have dg : decide ((n1 : Int) > ki) = B1 := hB1
  have HB1 := hid hB1
  go_upto_region 11 with fail
  go_quiet (fail)
  have HXd : Hid (OR (wb.drewN nq) w.heap.size 64 4 entC (.slice a6 n6 c6) G ∧ Below w.heap.size w (wb.drewN nq)) := hid ⟨HX6.out.1.below (Drew.below ⟨nq, rfl⟩ _), HX6.out.2.trans (Drew.below ⟨nq, rfl⟩ _)⟩
  generalize wb.drewN nq = wd at HXd ⊢
  clear t1 t4 HX6 HMb
  have HMd := hid (HM.out.below HXd.out.2)
  have Hn6 := hid HXd.out.1.lenS
  clear hB1
  cases B1 with
  | true =>
    as_aux_lemma =>
    have HFin : Hid (ordP m.I m.M m.kin m.kneg = G ++ m.I.reverse ++ m.M.reverse) := hid (by
      have h1 := of_decide_eq_true HB1.out
      rw [← HL.out.1, ← Hkn.out.2] at h1
      unfold ordP
      rw [HGG.out, if_pos h1, List.append_assoc])
    clear HGG HB1 dg
    go_upto_region 12 with fail
    refine wp_region_heavy (fun w3 => Below w.heap.size w w3) 15 [0, 1, 2, 3, 4, 5, 8, 9, 10, 11, 12] [6, 7, 13, 14] rfl (by kernel_rfl) (by kernel_rfl) (fun d _ _ _ _ h => by cases d <;> exact h) (HXd.out.2.trans (Drew.below ⟨1, rfl⟩ _)) ?_
    apply Exists.intro
    refine ⟨?_, ?_⟩
    · intro W hW
      have d4 : ∀ x, (W x).cell? ⟨pb, 4, none⟩ = some (.slice a1 n1 c1) := fun x => (HM.out.bk.below (hW x)).cell 4
      have d5 : ∀ x, (W x).cell? ⟨pb, 5, none⟩ = some (.slice a2 n2 c2) := fun x => (HM.out.bk.below (hW x)).cell 5
      clear hW
      simp only [List.take, opsAt, List.drop, List.cons_append, List.nil_append]
      repeat (go_big_quiet_step (fail))
      exact rfl
    simp only [List.take, List.drop, opsAt, List.cons_append, List.nil_append, wpHv]
    have HXe : Hid (OR wd.drew w.heap.size 64 4 entC (.slice a6 n6 c6) G ∧ Below w.heap.size w wd.drew) := hid ⟨HXd.out.1.below (Drew.below ⟨1, rfl⟩ _), HXd.out.2.trans (Drew.below ⟨1, rfl⟩ _)⟩
    generalize wd.drew = we at HXe ⊢
    clear HXd HMd
    have HMe := hid (HM.out.below HXe.out.2)
    have HC1 := hid (backwards_walk (HMe.out.o1.rowE (by have := HK.out.l1; omega)) (by omega))
    go_wp2_with fail
    refine HC1.out.mono ?_
    rintro y wf ⟨a7, n7, c7, rfl, ho7, hb7⟩
    have HO7 := hid ho7
    have HXf : Hid (OR wf w.heap.size 64 4 entC (.slice a6 n6 c6) G ∧ Below w.heap.size w wf) := hid ⟨HXe.out.1.below hb7, HXe.out.2.trans (hb7.mono HXe.out.2.size)⟩
    have HL7 : Hid (m.I.reverse.length = n7) := hid ho7.lenS
    have hn7 : n7 ≤ 131072 := by have := HL7.out; rw [List.length_reverse] at this; have := HK.out.l1; omega
    have HR7 := hid (ho7.rowE (by have := HL7.out; omega))
    clear ho7 hb7 HC1 HXe HMe
    go_wp2_with fail
    refine ⟨HXf.out.2, ?_⟩
    refine wpList_append_row _ rfl (.tmp 46) (.tmp 52) 38 rfl w.heap.size 64 ie (.agg #[.int .i64 0, .int .u64 0, .int .i64 0, .bool false]) 4 32 Tryd.underlying38 IE.out.1 IE.out.2.1 IE.out.2.2.1 IE.out.2.2.2 rfl (by decide) (.slice a6 n6 c6) _ _ (by simp [Act.eval, Act.put]; done) HXf.out.1 a7 n7 c7 (m.I.reverse.flatMap entC) (by simp [Act.eval, Act.put]; done) (by rw [length_flatMap_const (f := entC) (sz := 4) _ (fun x _ => rfl), HL7.out]) (fun h => HR7.out.nil h) (HR7.out.cells (by omega) (fun _ => rfl)) (ents_oneM _) (by have := Hn6.out; omega) (by decide) HXf.out.2.size ?_
    intro v8 wg hown8 hb8 hk8 hg8
    have HOg : Hid (OR wg w.heap.size 64 4 entC v8 (G ++ m.I.reverse) ∧ Below w.heap.size w wg) := hid ⟨by
      rw [← HL7.out, ← List.flatMap_append, ← List.length_append] at hown8
      exact hown8, HXf.out.2.trans hb8⟩
    clear hown8 hb8 hk8 hg8 HR7 HO7 HXf
    obtain ⟨a8, n8, c8, h8⟩ := HOg.out.1.shape
    subst h8
    have HL8 := hid HOg.out.1.lenS
    have hn8 : n8 ≤ 262144 := by have := HL8.out; rw [List.length_append] at this; have := HL7.out; omega
    have HMg := hid (HM.out.below HOg.out.2)
    have HC2 := hid (backwards_walk (HMg.out.o2.rowE (by have := HK.out.l2; omega)) (by omega))
    clear HL7
    go_wp2_with fail
    refine ⟨HOg.out.2, ?_⟩
    go_wp2_with fail
    refine HC2.out.mono ?_
    rintro y wh ⟨a9, n9, c9, rfl, ho9, hb9⟩
    have HXh : Hid (OR wh w.heap.size 64 4 entC (.slice a8 n8 c8) (G ++ m.I.reverse) ∧ Below w.heap.size w wh) := hid ⟨HOg.out.1.below hb9, HOg.out.2.trans (hb9.mono HOg.out.2.size)⟩
    have HL9 : Hid (m.M.reverse.length = n9) := hid ho9.lenS
    have hn9 : n9 ≤ 131072 := by have := HL9.out; rw [List.length_reverse] at this; have := HK.out.l2; omega
    have HR9 := hid (ho9.rowE (by have := HL9.out; omega))
    clear ho9 hb9 HC2 HOg HMg
    go_wp2_with fail
    refine ⟨HXh.out.2, ?_⟩
    refine wpList_append_row _ rfl (.tmp 53) (.tmp 59) 38 rfl w.heap.size 64 ie (.agg #[.int .i64 0, .int .u64 0, .int .i64 0, .bool false]) 4 32 Tryd.underlying38 IE.out.1 IE.out.2.1 IE.out.2.2.1 IE.out.2.2.2 rfl (by decide) (.slice a8 n8 c8) _ _ (by simp [Act.eval, Act.put]; done) HXh.out.1 a9 n9 c9 (m.M.reverse.flatMap entC) (by simp [Act.eval, Act.put]; done) (by rw [length_flatMap_const (f := entC) (sz := 4) _ (fun x _ => rfl), HL9.out]) (fun h => HR9.out.nil h) (HR9.out.cells (by omega) (fun _ => rfl)) (ents_oneM _) (by have := HL8.out; omega) (by decide) HXh.out.2.size ?_
    intro v10 wi hown10 hb10 hk10 hg10
    have HOi : Hid (OR wi w.heap.size 64 4 entC v10 (ordP m.I m.M m.kin m.kneg) ∧ Below w.heap.size w wi) := hid ⟨by
      rw [HFin.out]
      rw [← HL9.out, ← List.flatMap_append, ← List.length_append] at hown10
      exact hown10, HXh.out.2.trans hb10⟩
    clear hown10 hb10 hk10 hg10 HR9 HXh HFin HL8 HL9
    obtain ⟨a10, n10, c10, h10⟩ := HOi.out.1.shape
    subst h10
    go_wp2_with fail
    refine ⟨HOi.out.2, ?_⟩
    simp only [QN]
    go_wp2
    go_ret
    exact ⟨a10, n10, c10, rfl, HOi⟩
  | false =>
    as_aux_lemma =>
    have HFin : Hid (ordP m.I m.M m.kin m.kneg = G ++ m.M.reverse ++ m.I.reverse) := hid (by
      have h1 := of_decide_eq_false HB1.out
      rw [← HL.out.1, ← Hkn.out.2] at h1
      unfold ordP
      rw [HGG.out, if_neg h1, List.append_assoc])
    clear HGG HB1 dg
    go_upto_region 13 with fail
    refine wp_region_heavy (fun w3 => Below w.heap.size w w3) 15 [0, 1, 2, 3, 4, 5, 8, 9, 10, 11, 12] [6, 7, 13, 14] rfl (by kernel_rfl) (by kernel_rfl) (fun d _ _ _ _ h => by cases d <;> exact h) (HXd.out.2.trans (Drew.below ⟨1, rfl⟩ _)) ?_
    apply Exists.intro
    refine ⟨?_, ?_⟩
    · intro W hW
      have d4 : ∀ x, (W x).cell? ⟨pb, 4, none⟩ = some (.slice a1 n1 c1) := fun x => (HM.out.bk.below (hW x)).cell 4
      have d5 : ∀ x, (W x).cell? ⟨pb, 5, none⟩ = some (.slice a2 n2 c2) := fun x => (HM.out.bk.below (hW x)).cell 5
      clear hW
      simp only [List.take, opsAt, List.drop, List.cons_append, List.nil_append]
      repeat (go_big_quiet_step (fail))
      exact rfl
    simp only [List.take, List.drop, opsAt, List.cons_append, List.nil_append, wpHv]
    have HXe : Hid (OR wd.drew w.heap.size 64 4 entC (.slice a6 n6 c6) G ∧ Below w.heap.size w wd.drew) := hid ⟨HXd.out.1.below (Drew.below ⟨1, rfl⟩ _), HXd.out.2.trans (Drew.below ⟨1, rfl⟩ _)⟩
    generalize wd.drew = we at HXe ⊢
    clear HXd HMd
    have HMe := hid (HM.out.below HXe.out.2)
    have HC1 := hid (backwards_walk (HMe.out.o2.rowE (by have := HK.out.l2; omega)) (by omega))
    go_wp2_with fail
    refine HC1.out.mono ?_
    rintro y wf ⟨a7, n7, c7, rfl, ho7, hb7⟩
    have HO7 := hid ho7
    have HXf : Hid (OR wf w.heap.size 64 4 entC (.slice a6 n6 c6) G ∧ Below w.heap.size w wf) := hid ⟨HXe.out.1.below hb7, HXe.out.2.trans (hb7.mono HXe.out.2.size)⟩
    have HL7 : Hid (m.M.reverse.length = n7) := hid ho7.lenS
    have hn7 : n7 ≤ 131072 := by have := HL7.out; rw [List.length_reverse] at this; have := HK.out.l2; omega
    have HR7 := hid (ho7.rowE (by have := HL7.out; omega))
    clear ho7 hb7 HC1 HXe HMe
    go_wp2_with fail
    refine ⟨HXf.out.2, ?_⟩
    refine wpList_append_row _ rfl (.tmp 61) (.tmp 67) 38 rfl w.heap.size 64 ie (.agg #[.int .i64 0, .int .u64 0, .int .i64 0, .bool false]) 4 32 Tryd.underlying38 IE.out.1 IE.out.2.1 IE.out.2.2.1 IE.out.2.2.2 rfl (by decide) (.slice a6 n6 c6) _ _ (by simp [Act.eval, Act.put]; done) HXf.out.1 a7 n7 c7 (m.M.reverse.flatMap entC) (by simp [Act.eval, Act.put]; done) (by rw [length_flatMap_const (f := entC) (sz := 4) _ (fun x _ => rfl), HL7.out]) (fun h => HR7.out.nil h) (HR7.out.cells (by omega) (fun _ => rfl)) (ents_oneM _) (by have := Hn6.out; omega) (by decide) HXf.out.2.size ?_
    intro v8 wg hown8 hb8 hk8 hg8
    have HOg : Hid (OR wg w.heap.size 64 4 entC v8 (G ++ m.M.reverse) ∧ Below w.heap.size w wg) := hid ⟨by
      rw [← HL7.out, ← List.flatMap_append, ← List.length_append] at hown8
      exact hown8, HXf.out.2.trans hb8⟩
    clear hown8 hb8 hk8 hg8 HR7 HO7 HXf
    obtain ⟨a8, n8, c8, h8⟩ := HOg.out.1.shape
    subst h8
    have HL8 := hid HOg.out.1.lenS
    have hn8 : n8 ≤ 262144 := by have := HL8.out; rw [List.length_append] at this; have := HL7.out; omega
    have HMg := hid (HM.out.below HOg.out.2)
    have HC2 := hid (backwards_walk (HMg.out.o1.rowE (by have := HK.out.l1; omega)) (by omega))
    clear HL7
    go_wp2_with fail
    refine ⟨HOg.out.2, ?_⟩
    go_wp2_with fail
    refine HC2.out.mono ?_
    rintro y wh ⟨a9, n9, c9, rfl, ho9, hb9⟩
    have HXh : Hid (OR wh w.heap.size 64 4 entC (.slice a8 n8 c8) (G ++ m.M.reverse) ∧ Below w.heap.size w wh) := hid ⟨HOg.out.1.below hb9, HOg.out.2.trans (hb9.mono HOg.out.2.size)⟩
    have HL9 : Hid (m.I.reverse.length = n9) := hid ho9.lenS
    have hn9 : n9 ≤ 131072 := by have := HL9.out; rw [List.length_reverse] at this; have := HK.out.l1; omega
    have HR9 := hid (ho9.rowE (by have := HL9.out; omega))
    clear ho9 hb9 HC2 HOg HMg
    go_wp2_with fail
    refine ⟨HXh.out.2, ?_⟩
    refine wpList_append_row _ rfl (.tmp 68) (.tmp 74) 38 rfl w.heap.size 64 ie (.agg #[.int .i64 0, .int .u64 0, .int .i64 0, .bool false]) 4 32 Tryd.underlying38 IE.out.1 IE.out.2.1 IE.out.2.2.1 IE.out.2.2.2 rfl (by decide) (.slice a8 n8 c8) _ _ (by simp [Act.eval, Act.put]; done) HXh.out.1 a9 n9 c9 (m.I.reverse.flatMap entC) (by simp [Act.eval, Act.put]; done) (by rw [length_flatMap_const (f := entC) (sz := 4) _ (fun x _ => rfl), HL9.out]) (fun h => HR9.out.nil h) (HR9.out.cells (by omega) (fun _ => rfl)) (ents_oneM _) (by have := HL8.out; omega) (by decide) HXh.out.2.size ?_
    intro v10 wi hown10 hb10 hk10 hg10
    have HOi : Hid (OR wi w.heap.size 64 4 entC v10 (ordP m.I m.M m.kin m.kneg) ∧ Below w.heap.size w wi) := hid ⟨by
      rw [HFin.out]
      rw [← HL9.out, ← List.flatMap_append, ← List.length_append] at hown10
      exact hown10, HXh.out.2.trans hb10⟩
    clear hown10 hb10 hk10 hg10 HR9 HXh HFin HL8 HL9
    obtain ⟨a10, n10, c10, h10⟩ := HOi.out.1.shape
    subst h10
    go_wp2_with fail
    refine ⟨HOi.out.2, ?_⟩
    simp only [QN]
    go_wp2
    go_ret
    exact ⟨a10, n10, c10, rfl, HOi⟩
set_option maxRecDepth 100000 in
set_option maxHeartbeats 2000000 in
theorem mvictim_walk (h : MM B pb a1 n1 c1 a2 n2 c2 a3 n3 c3 m w) (hk : MOk m) : Calls Tryd.prog 54 #[.pointer (some ⟨pb, 0, none⟩)] w fun y w' => y = .returned (.tuple #[.int .i64 (slotO (vicM m)), .bool (vicM m).isSome]) ∧ Below w.heap.size w w' := by
  have HO := hid (order_walk h hk)
  have HV : Hid (vicM m = (ordP m.I m.M m.kin m.kneg).find? fun t => decide (t.pins = 0)) := hid rfl
  obtain ⟨l, hl⟩ : ∃ l, ordP m.I m.M m.kin m.kneg = l := ⟨_, rfl⟩
  have hll : l.length ≤ 1000000 := by
    rw [← hl]
    unfold ordP
    have h1 := hk.l1
    have h2 := hk.l2
    have h3 : (if m.kneg < (m.I.countP (·.neg) : Int) then m.I.reverse.filter (·.neg) else []).length ≤ 131072 := by
      split
      · exact Nat.le_trans (List.length_filter_le _ _) (by rw [List.length_reverse]; exact h1)
      · exact Nat.zero_le _
    have h4 : (if m.kin < (m.I.length : Int) then m.I.reverse ++ m.M.reverse else m.M.reverse ++ m.I.reverse).length ≤ 262144 := by
      (split <;> rw [List.length_append, List.length_reverse, List.length_reverse]) <;> omega
    rw [List.length_append]
    omega
  have HHl := hid hl
  rw [hl] at HV
  clear h hk hl
  go_enter Tryd.func54, Tryd.ntmps54
  go_wp2_with fail
  refine HO.out.mono ?_
  rintro y w1 ⟨a8, n8, c8, rfl, HX8⟩
  have HR : Hid (RowOf w1 4 entC a8 n8 c8 l) := hid (by rw [← HHl.out]; exact HX8.out.1.rowE (by rw [HHl.out]; exact hll))
  have HL8 : Hid (l.length = n8) := hid HR.out.1
  have hn8 : n8 ≤ 1000000 := by rw [← HL8.out]; exact hll
  have HB1 := hid HX8.out.2
  clear HX8 HO hll HHl
  go_upto_region 2 with fail
  go_loopw [9] (fun v wr => ∃ i : Nat, i ≤ n8 ∧ v = .int .i64 (i : Int) ∧ Hid ((∀ t ∈ l.take i, decide (t.pins = 0) = false) ∧ Below w.heap.size w wr ∧ Below w1.heap.size w1 wr)) (fun v _ => n8 - (intOf v).toNat)
  case atStart => exact ⟨0, by omega, rfl, hid ⟨by simp, HB1.out, Below.refl _ _⟩⟩
  case round =>
  obtain ⟨i, hi, rfl, HX⟩ := hrel
  by_cases hin : i < n8
  · as_aux_lemma =>
    have di : decide ((i : Int) < (n8 : Int)) = true := decide_eq_true (by omega)
    have hii : (i : Int) < (n8 : Int) := by omega
    obtain ⟨t, b, off, ht, rfl, q0, q1, q2, q3⟩ := rowE_at (HR.out.below HX.out.2.2) hin
    have HT := hid ht
    clear ht
    obtain ⟨p9, hp9⟩ : ∃ p, wr.heap.size = p := ⟨_, rfl⟩
    have HB9 : Hid ((Below w.heap.size w (wr.alloc (.cells #[.int .i64 t.slot, .int .u64 t.key, .int .i64 t.pins, .bool t.neg] 64)) ∧ Below w1.heap.size w1 (wr.alloc (.cells #[.int .i64 t.slot, .int .u64 t.key, .int .i64 t.pins, .bool t.neg] 64))) ∧ Blk (wr.alloc (.cells #[.int .i64 t.slot, .int .u64 t.key, .int .i64 t.pins, .bool t.neg] 64)) p9 64 [.int .i64 t.slot, .int .u64 t.key, .int .i64 t.pins, .bool t.neg]) := hid (by
      have k1 := Blk.new wr [.int .i64 t.slot, .int .u64 t.key, .int .i64 t.pins, .bool t.neg] 64
      rw [hp9] at k1
      exact ⟨⟨HX.out.2.1.trans ((nbel wr _).mono HX.out.2.1.size), HX.out.2.2.trans ((nbel wr _).mono HX.out.2.2.size)⟩, k1⟩)
    go_upto_region 4 with fail
    generalize wr.alloc (.cells #[.int .i64 t.slot, .int .u64 t.key, .int .i64 t.pins, .bool t.neg] 64) = w9 at HB9 ⊢
    have m0 : w9.cell? ⟨p9, 0, none⟩ = some (.int .i64 t.slot) := HB9.out.2.cell 0
    have m2 : w9.cell? ⟨p9, 2, none⟩ = some (.int .i64 t.pins) := HB9.out.2.cell 2
    by_cases he : t.pins = 0
    · have de : (t.pins == 0) = true := by rw [key_beqI]; exact decide_eq_true he
      have HF : Hid (vicM m = some t ∧ Below w.heap.size w w9) := hid ⟨by
        rw [HV.out]
        refine find_first HT.out (decide_eq_true he) ?_
        intro j hj u hu
        exact HX.out.1 u (List.mem_of_getElem? (i := j) (by rw [List.getElem?_take, if_pos hj]; exact hu)), HB9.out.1.1⟩
      clear he HT HB9 HX q0 q1 q2 q3
      go_wp2
      refine bodyPost_ret (results_tmp2 Tryd.results54 _ _ _) rfl ?_
      exact ⟨by rw [HF.out.1]; rfl, HF.out.2⟩
    · have de : (t.pins == 0) = false := by rw [key_beqI]; exact decide_eq_false he
      have HF : Hid ((∀ t ∈ l.take (i + 1), decide (t.pins = 0) = false) ∧ Below w.heap.size w w9 ∧ Below w1.heap.size w1 w9) := hid ⟨by
        rw [List.take_add_one, HT.out]
        intro u hu
        rcases List.mem_append.1 hu with h1 | h1
        · exact HX.out.1 u h1
        · simp only [Option.toList_some, List.mem_singleton] at h1
          rw [h1]
          exact decide_eq_false he, HB9.out.1⟩
      clear he HT HB9 HX q0 q1 q2 q3
      go_wp2
      exact ⟨⟨i + 1, by omega, by go_num, HF⟩, by simp [intOf]; omega⟩
  · as_aux_lemma =>
    have di : decide ((i : Int) < (n8 : Int)) = false := decide_eq_false (by omega)
    have HF : Hid (vicM m = none ∧ Below w.heap.size w wr) := hid ⟨by
      have h1 := HX.out.1
      rw [List.take_of_length_le (by have := HL8.out; omega)] at h1
      rw [HV.out, List.find?_eq_none]
      intro u hu e
      rw [h1 u hu] at e
      exact absurd e (by simp), HX.out.2.1⟩
    clear HX
    go_wp2
    refine bodyPost_ret (results_tmp2 Tryd.results54 _ _ _) rfl ?_
    exact ⟨by rw [HF.out.1]; rfl, HF.out.2⟩
def mtM (sl kin : Int) (kout : Nat) (kneg : Int) : MS := ⟨sl, kin, kout, kneg, [], [], []⟩
set_option maxRecDepth 100000 in
set_option maxHeartbeats 1000000 in
theorem mnew_walk (sl kin : Int) (kout : Nat) (kneg : Int) (B : Nat) (w : World) (hB : B ≤ w.heap.size) : Calls Tryd.prog 24 #[.agg #[.int .i64 sl, .int .i64 kin, .int .i64 (kout : Int), .int .i64 kneg]] w fun y w' => ∃ pb, y = .returned (.pointer (some ⟨pb, 0, none⟩)) ∧ w.heap.size ≤ pb ∧ Hid (MX B pb (mtM sl kin kout kneg) w' ∧ Below w.heap.size w w') := by
  obtain ⟨p2, hp2⟩ : ∃ p, w.heap.size = p := ⟨_, rfl⟩
  go_enter Tryd.func24, Tryd.ntmps24
  go_upto_region 1 with fail
  obtain ⟨w2, hw2⟩ : ∃ w2, w.alloc (.cells #[.int .i64 sl, .int .i64 kin, .int .i64 (kout : Int), .int .i64 kneg] 31) = w2 := ⟨_, rfl⟩
  have HB2 : Hid (Below w.heap.size w w2 ∧ Blk w2 p2 31 [.int .i64 sl, .int .i64 kin, .int .i64 (kout : Int), .int .i64 kneg]) := hid (by
    have k1 := Blk.new w [.int .i64 sl, .int .i64 kin, .int .i64 (kout : Int), .int .i64 kneg] 31
    rw [hp2] at k1
    rw [← hw2]
    exact ⟨nbel w _, k1⟩)
  (try simp only [hw2])
  clear hw2
  have m0 : w2.cell? ⟨p2, 0, none⟩ = some (.int .i64 sl) := HB2.out.2.cell 0
  have m1 : w2.cell? ⟨p2, 1, none⟩ = some (.int .i64 kin) := HB2.out.2.cell 1
  have m2 : w2.cell? ⟨p2, 2, none⟩ = some (.int .i64 (kout : Int)) := HB2.out.2.cell 2
  have m3 : w2.cell? ⟨p2, 3, none⟩ = some (.int .i64 kneg) := HB2.out.2.cell 3
  obtain ⟨p3, hp3⟩ : ∃ p, w2.heap.size = p := ⟨_, rfl⟩
  have HF : Hid (MX B p3 (mtM sl kin kout kneg) (w2.alloc (.cells #[.int .i64 sl, .int .i64 kin, .int .i64 (kout : Int), .int .i64 kneg, .slice none 0 0, .slice none 0 0, .slice none 0 0] 88)) ∧ Below w.heap.size w (w2.alloc (.cells #[.int .i64 sl, .int .i64 kin, .int .i64 (kout : Int), .int .i64 kneg, .slice none 0 0, .slice none 0 0, .slice none 0 0] 88))) := hid (by
    have k1 := Blk.new w2 [.int .i64 sl, .int .i64 kin, .int .i64 (kout : Int), .int .i64 kneg, .slice none 0 0, .slice none 0 0, .slice none 0 0] 88
    rw [hp3] at k1
    have g1 := HB2.out.1.size
    exact ⟨⟨none, 0, 0, none, 0, 0, none, 0, 0, ⟨k1, OR.nil _ _ _ _ _, OR.nil _ _ _ _ _, OR.nil _ _ _ _ _, fun g hg => (by cases hg), by omega⟩⟩, HB2.out.1.trans ((nbel w2 _).mono HB2.out.1.size)⟩)
  have hle : w.heap.size ≤ p3 := by have := HB2.out.1.size; omega
  go_wp2
  go_ret
  exact ⟨p3, rfl, hle, HF⟩
end
end Go.Proofs.Qxb6500892aDoor
