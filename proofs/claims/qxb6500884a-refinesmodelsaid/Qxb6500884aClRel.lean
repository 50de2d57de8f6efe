/- Equal, Overlaps, Single. -/
import Derived.Test.Qxb6500884aClUni
import Derived.Laws.StructEq
namespace Go.Proofs.Qxb6500884a
open Go.RowKit
set_option linter.unusedSimpArgs false
set_option linter.unusedVariables false

theorem neq_iv (x y x' y' : Int) (w : World) : (binOp .neq 67 (.agg #[.int .i64 x, .int .i64 y]) (.agg #[.int .i64 x', .int .i64 y'])).run Try.prog w = .ok (.bool (!decide ((x, y) = (x', y')))) w := by
  rw [run_neq_struct]
  simp [go_sem, part]
  by_cases h1 : x = x'
  · by_cases h2 : y = y' <;> simp [h1, h2]
  · simp [h1]
/-- Two boxes. -/
structure Bb (w0 : World) (K : List (Nat × List Value)) (w : World) : Prop where
  bel : Below w0.heap.size w0 w
  keep : ∀ x ∈ K, Blk w x.1 30 x.2
theorem Bb.below {w0 w w' : World} {K : List (Nat × List Value)} (h : Bb w0 K w) (hb : Below w.heap.size w w') : Bb w0 K w' := ⟨h.bel.trans (hb.mono h.bel.size), fun x hx => (h.keep x hx).below hb⟩
theorem Bb.two (w : World) (s1 s2 : Value) {q : Nat} (hq : w.heap.size = q) : Bb w [(q, [s1]), (q + 1, [s2])] ((w.alloc (.cells #[s1] 30)).alloc (.cells #[s2] 30)) := by
  have s1' : ∀ (x : World) (o : Obj), (x.alloc o).heap.size = x.heap.size + 1 := fun x o => by simp
  have b0 := Blk.new w [s1] 30
  have b1 := Blk.new (w.alloc (.cells #[s1] 30)) [s2] 30
  rw [hq] at b0
  rw [s1', hq] at b1
  refine ⟨(nbel w _).alloc (by rw [s1']; omega) _, fun x hx => ?_⟩
  simp at hx
  rcases hx with rfl | rfl
  · exact b0.alloc _
  · exact b1
set_option maxRecDepth 100000 in
set_option maxHeartbeats 2000000 in
theorem equal_walk (a1 : Option Addr) (n1 c1 : Nat) (l1 : List (Int × Int)) (a2 : Option Addr) (n2 c2 : Nat) (l2 : List (Int × Int)) (w : World) (hr1 : IvRow w a1 n1 c1 l1) (hr2 : IvRow w a2 n2 c2 l2) :
    Calls Try.prog 34 #[.agg #[.slice a1 n1 c1], .agg #[.slice a2 n2 c2]] w fun e w' => e = .returned (.bool (decide (l1 = l2))) ∧ Below w.heap.size w w' := by
  have HR1 := hid hr1
  have HR2 := hid hr2
  have hl1 := hr1.len
  have hl2 := hr2.len
  have hn47 := hr1.1.2.2.1.1
  clear hr1 hr2
  obtain ⟨q, hq⟩ : ∃ q, w.heap.size = q := ⟨_, rfl⟩
  have HO0 := hid (Bb.two w (.slice a1 n1 c1) (.slice a2 n2 c2) hq)
  obtain ⟨q2, hq2⟩ : ∃ q2, q + 1 = q2 := ⟨_, rfl⟩
  rw [hq2] at HO0
  obtain ⟨K, hK⟩ : ∃ K, [(q, [Value.slice a1 n1 c1]), (q2, [.slice a2 n2 c2])] = K := ⟨_, rfl⟩
  rw [hK] at HO0
  have Hk1 : Hid ((q, [Value.slice a1 n1 c1]) ∈ K) := hid (by rw [← hK]; simp)
  have Hk2 : Hid ((q2, [Value.slice a2 n2 c2]) ∈ K) := hid (by rw [← hK]; simp)
  have Hq2 := hid hq2
  obtain ⟨B, hB⟩ : ∃ B, decide (l1 = l2) = B := ⟨_, rfl⟩
  have HBv := hid hB
  rw [hB]
  clear hK hB
  go_enter Try.func34, Try.ntmps34
  go_upto_region 1 with fail
  generalize (w.alloc (.cells #[Value.slice a1 n1 c1] 30)).alloc (.cells #[Value.slice a2 n2 c2] 30) = w1 at HO0 ⊢
  clear hq2
  have b1 : w1.cell? ⟨q, 0, none⟩ = some (.slice a1 n1 c1) := (HO0.out.keep _ Hk1.out).cell 0
  have b2 : w1.cell? ⟨q2, 0, none⟩ = some (.slice a2 n2 c2) := (HO0.out.keep _ Hk2.out).cell 0
  by_cases hnn : n1 = n2
  rotate_left
  · as_aux_lemma =>
    have hb0 : B = false := by rw [← HBv.out]; exact decide_eq_false (fun h => hnn (by rw [← hl1, ← hl2, h]))
    have dn : ((n1 : Int) != (n2 : Int)) = true := by simp; omega
    have dn' : (n1 != n2) = true := by simpa using hnn
    subst hb0
    go_wp2
    go_ret
    exact ⟨rfl, by have h := HO0.out.bel; first | exact h | (rw [hq] at h; exact h)⟩
  subst hnn
  go_wp2_with fail
  go_loopw [17] (fun i wr => ∃ k : Nat, k ≤ n1 ∧ i = .int .i64 k ∧ Hid (l1.take k = l2.take k) ∧ Hid (Bb w K wr)) (fun i _ => n1 - (intOf i).toNat)
  case atStart => exact ⟨0, Nat.zero_le _, rfl, hid (by simp), HO0⟩
  case round =>
    clear HO0 b1 b2
    obtain ⟨k, hk, rfl, HTk, HO⟩ := hrel
    by_cases hlt : k < n1
    rotate_left
    · as_aux_lemma =>
      have dk : decide ((k : Int) < (n1 : Int)) = false := decide_eq_false (by omega)
      have hb0 : B = true := by
        rw [← HBv.out]
        have h := HTk.out
        rw [List.take_of_length_le (by omega), List.take_of_length_le (by omega)] at h
        exact decide_eq_true h
      subst hb0
      go_wp2
      go_ret
      exact ⟨rfl, by have h := HO.out.bel; first | exact h | (rw [hq] at h; exact h)⟩
    have dk : decide ((k : Int) < (n1 : Int)) = true := decide_eq_true (by omega)
    have i1 : (k : Int) < (n1 : Int) := by omega
    obtain ⟨p, hp, f1, f2, bA, offA, rfl, hbA, e1, e2⟩ := (HR1.out.below HO.out.bel).get hlt
    obtain ⟨p', hp', g1, g2, bB, offB, rfl, hbB, e3, e4⟩ := (HR2.out.below HO.out.bel).get hlt
    obtain ⟨x, y⟩ := p
    obtain ⟨x', y'⟩ := p'
    dsimp only at e1 e2 e3 e4
    have Hp := hid hp
    have Hp' := hid hp'
    have hneq := fun w => neq_iv x y x' y' w
    have HO2 := hid (HO.out.below (nbel wr (.cells #[.int .i64 x, .int .i64 y] 67)))
    obtain ⟨p0, hp0⟩ : ∃ p0, wr.heap.size = p0 := ⟨_, rfl⟩
    have hbn := Blk.new wr [.int .i64 x, .int .i64 y] 67
    rw [hp0] at hbn
    have t3 : ∀ nn, ((wr.alloc (.cells [Value.int .i64 x, .int .i64 y].toArray 67)).drewN nn).cell? ⟨bB, offB + k * 2, none⟩ = some (.int .i64 x') := fun nn => by rw [← e3]; exact (nbel wr _).cell hbB
    have t4 : ∀ nn, ((wr.alloc (.cells [Value.int .i64 x, .int .i64 y].toArray 67)).drewN nn).cell? ⟨bB, offB + k * 2 + 1, none⟩ = some (.int .i64 y') := fun nn => by rw [← e4]; exact (nbel wr _).cell hbB
    clear hp hp'
    go_upto_region 6 with fail
    obtain ⟨w2, hw2⟩ : ∃ w2, wr.alloc (.cells #[.int .i64 x, .int .i64 y] 67) = w2 := ⟨_, rfl⟩
    have hw2' : wr.alloc (.cells [Value.int .i64 x, .int .i64 y].toArray 67) = w2 := hw2
    rw [hw2'] at hbn t3 t4
    rw [hw2] at HO2
    try simp only [hw2]
    have s0 : ∀ nn, (w2.drewN nn).cell? ⟨p0, 0, none⟩ = some (.int .i64 x) := fun nn => (hbn.drewN nn).cell 0
    have s1 : ∀ nn, (w2.drewN nn).cell? ⟨p0, 1, none⟩ = some (.int .i64 y) := fun nn => (hbn.drewN nn).cell 1
    have s2 : ∀ nn, (w2.drewN nn).cell? ⟨q2, 0, none⟩ = some (.slice (some ⟨bB, offB, none⟩) n1 c2) := fun nn => ((HO2.out.keep _ Hk2.out).drewN nn).cell 0
    clear hw2 hw2' hbn e1 e2 e3 e4
    by_cases hpp : (x, y) = (x', y')
    · as_aux_lemma =>
      have hd : (!decide ((x, y) = (x', y'))) = false := by rw [decide_eq_true hpp]; rfl
      rw [hd] at hneq
      have HT2 : Hid (l1.take (k + 1) = l2.take (k + 1)) := hid (by rw [← take_two Hp.out, ← take_two Hp'.out, HTk.out, hpp])
      clear hpp hd
      go_quiet (fail)
      have HO3 := hid (HO2.out.below (Drew.below ⟨nq, rfl⟩ _))
      generalize w2.drewN nq = w3 at HO3 ⊢
      clear s0 s1 s2 t3 t4
      go_wp2
      exact ⟨⟨k + 1, by omega, by go_num, HT2, HO3⟩, by simp [intOf]; omega⟩
    · as_aux_lemma =>
      have hd : (!decide ((x, y) = (x', y'))) = true := by rw [decide_eq_false hpp]; rfl
      rw [hd] at hneq
      have hb0 : B = false := by
        rw [← HBv.out]
        refine decide_eq_false (fun h => hpp ?_)
        have h1 := Hp.out
        rw [h, Hp'.out] at h1
        cases h1
        rfl
      subst hb0
      clear hpp hd
      go_quiet (fail)
      have HO3 := hid (HO2.out.below (Drew.below ⟨nq, rfl⟩ _))
      generalize w2.drewN nq = w3 at HO3 ⊢
      clear s0 s1 s2 t3 t4
      go_wp2
      go_ret
      exact ⟨rfl, by have h := HO3.out.bel; first | exact h | (rw [hq] at h; exact h)⟩
set_option maxRecDepth 100000 in
theorem single_walk (x : Int) (w : World) : Calls Try.prog 41 #[.int .i64 x] w fun e w' => CP (fun z => decide (x ≤ z) && decide (z ≤ x)) w e w' := by
  obtain ⟨r, hr⟩ : ∃ r, w.heap.size = r := ⟨_, rfl⟩
  have hb := Blk.new w [.slice none 0 0] 30
  rw [hr] at hb
  have HB := hid hb
  have HRg := hid (range_walk x x (w.alloc (.cells #[.slice none 0 0] 30)))
  have HBe := hid (nbel w (.cells #[.slice none 0 0] 30))
  clear hb
  go_enter Try.func41, Try.ntmps41
  go_wp2_with fail
  refine (HRg.out).mono ?_
  rintro e w2 ⟨⟨a, n, c, l, rfl, hrow, hN, hm, hty⟩, hb2⟩
  have HTy := hid hty
  have HB2 := hid (HB.out.below hb2)
  have HBe2 : Hid (Below w.heap.size w w2) := hid (HBe.out.trans (hb2.mono HBe.out.size))
  have HRow := hid hrow
  have HN := hid hN
  have HM := hid hm
  have I0 : Hid ((Try.prog.info? 30).map (·.size) = some [Value.slice a n c].length) := hid info_reg
  clear hb2 hrow hN hm hty HRg HB
  go_wp2_with (refine wpList_store_blk rfl 30 _ _ rfl r rfl [.slice a n c] rfl HB2.out rfl I0.out (fun v hv => by simp at hv; subst hv; rfl) ?_; intro w9 HB9 HU9)
  have hag := HTy.out.ne HB2.out (by decide)
  have hty9 := HTy.out.upd HB2.out (by decide) HU9.out
  exact bodyPost_ret (results_blk Try.results41 rfl (show AggOf Try.prog 30 (List.length [_]) from AggOf.struct Try.underlying30 info_reg) HB9.out) rfl
    ⟨⟨a, n, c, l, rfl, HRow.out.upd HU9.out hag, HN.out, HM.out, hty9⟩, HBe2.out.trans (HU9.out.below (by omega) HBe2.out.size)⟩
end Go.Proofs.Qxb6500884a
