/- zzSmall1, clip, normal, Contains. -/
import Derived.Test.Qxb6500884aClOps
import Derived.Test.Qxb6500884aMid
import Derived.BigQuiet
import Derived.Deep.DeepCutAuto
namespace Go.Proofs.Qxb6500884a
open Go.RowKit
set_option linter.unusedSimpArgs false
set_option linter.unusedVariables false

theorem nbel (w : World) (o : Obj) : Below w.heap.size w (w.alloc o) := (Below.refl _ w).alloc (Nat.le_refl _) o
set_option maxRecDepth 100000 in
set_option maxHeartbeats 1000000 in
theorem small_walk (a : Option Addr) (n c : Nat) (l : List COp) (w : World) (hs : Script w a n c l) :
    Calls Try.prog 11 #[.slice a n c] w fun e w' => ∃ r, e = .returned (.bool r) ∧ w' = w ∧ (r = true → n ≤ 65536 ∧ ∀ o ∈ l, o.inn ≤ 65536 ∧ o.rn ≤ 65536) := by
  have HS := hid hs
  have hl := hs.1.1
  have hn := hs.1.2.2.1.1
  clear hs
  go_enter Try.func11, Try.ntmps11
  by_cases h1 : 65536 < n
  · have d1 : decide ((65536 : Int) < (n : Int)) = true := decide_eq_true (by omega)
    go_wp2
    go_ret
    exact ⟨false, rfl, rfl, fun h => by cases h⟩
  have d1 : decide ((65536 : Int) < (n : Int)) = false := decide_eq_false (by omega)
  go_wp2_with fail
  go_loopw [3, 4] (fun v i wr => wr = w ∧ ∃ (k m : Nat), k ≤ n ∧ m ≤ 65536 ∧ v = .int .i64 m ∧ i = .int .i64 k ∧ Hid (∀ (j : Nat) (o : COp), j < k → l[j]? = some o → o.inn ≤ 65536 ∧ o.rn ≤ 65536)) (fun _ i _ => n - (intOf i).toNat)
  case atStart => exact ⟨rfl, 0, n, Nat.zero_le _, by omega, rfl, rfl, hid (fun j o h => by omega)⟩
  case round =>
    obtain ⟨rfl, k, m, hk, hm, rfl, rfl, HJ⟩ := hrel
    by_cases hlt : k < n
    rotate_left
    · have dk : decide ((k : Int) < (n : Int)) = false := decide_eq_false (by omega)
      go_wp2
      go_ret
      refine ⟨true, rfl, rfl, fun _ => ⟨by omega, fun o ho => ?_⟩⟩
      obtain ⟨j, hj⟩ := List.mem_iff_getElem?.1 ho
      exact HJ.out j o (by have := (List.getElem?_eq_some_iff.1 hj).1; omega) hj
    · obtain ⟨o, ho, hok, b, off, rfl, hb, c0, c1, c2, c3, c4⟩ := HS.out.at hlt
      have Ho := hid ho
      have b1 : o.inn ≤ 140737488351232 := hok.iv.1.2.2.1.1
      have b2 : o.rn ≤ 140737488351232 := hok.rg.1.2.2.1.1
      obtain ⟨kind, oa, ob, ia, inn, ic, iv, ra, rn, rc, rg⟩ := o
      dsimp only at c0 c1 c2 c3 c4 b1 b2
      have dk : decide ((k : Int) < (n : Int)) = true := decide_eq_true (by omega)
      have i1 : (k : Int) < (n : Int) := by omega
      clear ho hok
      by_cases h2 : 65536 < m + inn
      · have d2 : decide ((65536 : Int) < (m : Int) + (inn : Int)) = true := decide_eq_true (by omega)
        go_wp2
        go_ret
        exact ⟨false, rfl, rfl, fun h => by cases h⟩
      have d2 : decide ((65536 : Int) < (m : Int) + (inn : Int)) = false := decide_eq_false (by omega)
      by_cases h3 : 65536 < m + inn + rn
      · have d3 : decide ((65536 : Int) < (m : Int) + (inn : Int) + (rn : Int)) = true := decide_eq_true (by omega)
        go_wp2
        go_ret
        exact ⟨false, rfl, rfl, fun h => by cases h⟩
      have d3 : decide ((65536 : Int) < (m : Int) + (inn : Int) + (rn : Int)) = false := decide_eq_false (by omega)
      go_wp2
      exact ⟨⟨by first | rfl | trivial, k + 1, m + inn + rn, by omega, by omega, by go_num, by go_num, hid (fun j o hj ho => by
        rcases Nat.lt_or_ge j k with h | h
        · exact HJ.out j o h ho
        · have : j = k := by omega
          subst this
          rw [Ho.out] at ho
          cases ho
          exact ⟨by show inn ≤ 65536; omega, by show rn ≤ 65536; omega⟩)⟩, by simp [intOf]; omega⟩
theorem info_iv : (Try.prog.info? 67).map (·.size) = some 2 := by kernel_rfl
theorem aggIv : AggOf Try.prog 67 2 := AggOf.struct Try.underlying67 info_iv
theorem blk_two (w : World) (l1 l2 : List Value) (t1 t2 : TypeId) :
    Blk ((w.alloc (.cells l1.toArray t1)).alloc (.cells l2.toArray t2)).drew (w.heap.size + 1) t2 l2 ∧ Below w.heap.size w ((w.alloc (.cells l1.toArray t1)).alloc (.cells l2.toArray t2)).drew := by
  have s1 : ∀ (x : World) (o : Obj), (x.alloc o).heap.size = x.heap.size + 1 := fun x o => by simp
  have b2 := Blk.new (w.alloc (.cells l1.toArray t1)) l2 t2
  rw [s1] at b2
  exact ⟨b2.drewN 1, ((nbel w _).alloc (by rw [s1]; omega) _).trans (Drew.below ⟨1, rfl⟩ _)⟩
/-- An interval cut down to the alphabet. -/
def clipP (p : Int × Int) : Int × Int := (if p.1 < 0 then 0 else p.1, if 196607 < p.2 then 196607 else p.2)
def clipB (p : Int × Int) : Bool := decide ((clipP p).1 ≤ (clipP p).2)
set_option maxRecDepth 100000 in
set_option maxHeartbeats 1000000 in
theorem clip_walk (x y : Int) (w : World) :
    Calls Try.prog 35 #[.agg #[.int .i64 x, .int .i64 y]] w fun e w' => e = .returned (.tuple #[.agg (ivC (clipP (x, y))).toArray, .bool (clipB (x, y))]) ∧ Below w.heap.size w w' := by
  obtain ⟨q, hq⟩ : ∃ q, w.heap.size = q := ⟨_, rfl⟩
  have e1 : clipP (x, y) = (if x < 0 then 0 else x, if 196607 < y then 196607 else y) := rfl
  have e2 : clipB (x, y) = decide ((clipP (x, y)).1 ≤ (clipP (x, y)).2) := rfl
  have H1 := hid e1
  have H2 := hid e2
  clear e1 e2
  go_enter Try.func35, Try.ntmps35
  by_cases hx : x < 0
  · have dx : decide (x < 0) = true := decide_eq_true hx
    by_cases hy : 196607 < y
    · have dy : decide (196607 < y) = true := decide_eq_true hy
      have Hx := hid hx
      have Hy := hid hy
      go_upto_region 5 with fail
      go_region
      go_wp2
      have hk := blk_two w [.int .i64 0, .int .i64 196607] [.int .i64 0, .int .i64 196607] 67 67
      have hc : clipP (x, y) = (0, 196607) := by rw [H1.out, if_pos Hx.out, if_pos Hy.out]
      rw [hq] at hk
      exact bodyPost_ret (results_cell_tmp Try.results35 rfl (show AggOf Try.prog 67 (List.length [_, _]) from aggIv) hk.1) rfl ⟨by rw [H2.out, hc]; first | rfl | simp [ivC], by first | exact hk.2 | (rw [hq]; exact hk.2)⟩
    · have dy : decide (196607 < y) = false := decide_eq_false hy
      have Hx := hid hx
      have Hy := hid hy
      go_upto_region 5 with fail
      go_region
      go_wp2
      have hk := blk_two w [.int .i64 0, .int .i64 y] [.int .i64 0, .int .i64 y] 67 67
      have hc : clipP (x, y) = (0, y) := by rw [H1.out, if_pos Hx.out, if_neg (Int.not_lt.2 Hy.out)]
      rw [hq] at hk
      exact bodyPost_ret (results_cell_tmp Try.results35 rfl (show AggOf Try.prog 67 (List.length [_, _]) from aggIv) hk.1) rfl ⟨by rw [H2.out, hc]; first | rfl | simp [ivC], by first | exact hk.2 | (rw [hq]; exact hk.2)⟩
  · have dx : decide (x < 0) = false := decide_eq_false hx
    by_cases hy : 196607 < y
    · have dy : decide (196607 < y) = true := decide_eq_true hy
      have Hx := hid hx
      have Hy := hid hy
      go_upto_region 5 with fail
      go_region
      go_wp2
      have hk := blk_two w [.int .i64 x, .int .i64 196607] [.int .i64 x, .int .i64 196607] 67 67
      have hc : clipP (x, y) = (x, 196607) := by rw [H1.out, if_neg (Int.not_lt.2 Hx.out), if_pos Hy.out]
      rw [hq] at hk
      exact bodyPost_ret (results_cell_tmp Try.results35 rfl (show AggOf Try.prog 67 (List.length [_, _]) from aggIv) hk.1) rfl ⟨by rw [H2.out, hc]; first | rfl | simp [ivC], by first | exact hk.2 | (rw [hq]; exact hk.2)⟩
    · have dy : decide (196607 < y) = false := decide_eq_false hy
      have Hx := hid hx
      have Hy := hid hy
      go_upto_region 5 with fail
      go_region
      go_wp2
      have hk := blk_two w [.int .i64 x, .int .i64 y] [.int .i64 x, .int .i64 y] 67 67
      have hc : clipP (x, y) = (x, y) := by rw [H1.out, if_neg (Int.not_lt.2 Hx.out), if_neg (Int.not_lt.2 Hy.out)]
      rw [hq] at hk
      exact bodyPost_ret (results_cell_tmp Try.results35 rfl (show AggOf Try.prog 67 (List.length [_, _]) from aggIv) hk.1) rfl ⟨by rw [H2.out, hc]; first | rfl | simp [ivC], by first | exact hk.2 | (rw [hq]; exact hk.2)⟩

/-- Sorted, disjoint, not adjacent, not empty, within the alphabet. -/
structure Nrm (l : List (Int × Int)) : Prop where
  rng : ∀ p ∈ l, 0 ≤ p.1 ∧ p.1 ≤ p.2 ∧ p.2 ≤ 196607
  gap : ∀ (i : Nat) (p q : Int × Int), l[i]? = some p → l[i + 1]? = some q → p.2 + 1 < q.1
set_option maxRecDepth 100000 in
set_option maxHeartbeats 1000000 in
theorem normal_walk (a : Option Addr) (n c : Nat) (l : List (Int × Int)) (w : World) (hr : IvRow w a n c l) (hN : Nrm l) :
    Calls Try.prog 13 #[.slice a n c] w fun e w' => e = .returned (.bool true) ∧ Below w.heap.size w w' := by
  have HR := hid hr
  have hl := hr.len
  have hn := hr.1.2.2.1.1
  clear hr
  go_enter Try.func13, Try.ntmps13
  go_wp2_with fail
  go_loopw [7] (fun i wr => ∃ k : Nat, k ≤ n ∧ i = .int .i64 k ∧ Hid (Below w.heap.size w wr)) (fun i _ => n - (intOf i).toNat)
  case atStart => exact ⟨0, Nat.zero_le _, rfl, hid (Below.refl _ _)⟩
  case round =>
    obtain ⟨k, hk, rfl, HB⟩ := hrel
    by_cases hlt : k < n
    rotate_left
    · have dk : decide ((k : Int) < (n : Int)) = false := decide_eq_false (by omega)
      go_wp2
      go_ret
      exact ⟨rfl, HB.out⟩
    · obtain ⟨p, hp, f1, f2, b, off, rfl, hb, c1, c2⟩ := (HR.out.below HB.out).get hlt
      obtain ⟨x, y⟩ := p
      have hrg := hN.rng _ (List.mem_of_getElem? hp)
      dsimp only at c1 c2 hrg
      have dk : decide ((k : Int) < (n : Int)) = true := decide_eq_true (by omega)
      have i1 : (k : Int) < (n : Int) := by omega
      have d1 : decide (x < 0) = false := decide_eq_false (by omega)
      have d2 : decide (196607 < y) = false := decide_eq_false (by omega)
      have d3 : decide (y < x) = false := decide_eq_false (by omega)
      have hw := HB.out.size
      by_cases hk0 : k = 0
      · subst hk0
        simp only [Nat.zero_mul, Nat.add_zero] at c1 c2
        go_upto_region 6 with fail
        go_quiet (fail)
        go_wp2
        exact ⟨⟨1, by omega, by go_num, hid ((HB.out.alloc hw _).trans (Drew.below ⟨nq, rfl⟩ _))⟩, by simp [intOf]; omega⟩
      · obtain ⟨j, rfl⟩ : ∃ j, k = j + 1 := ⟨k - 1, by omega⟩
        obtain ⟨p', hp', g1, g2, b', off', he, hb', c1', c2'⟩ := (HR.out.below HB.out).get (show j < n by omega)
        cases he
        have hgap := hN.gap j _ _ hp' hp
        obtain ⟨x', y'⟩ := p'
        have hrg' := hN.rng _ (List.mem_of_getElem? hp')
        dsimp only at c1' c2' hgap hrg'
        have e1 : ((j + 1 : Nat) : Int) = (j : Int) + 1 := by omega
        have d4 : decide (x ≤ y' + 1) = false := decide_eq_false (by omega)
        have d5 : decide ((0 : Int) < (j : Int) + 1) = true := decide_eq_true (by omega)
        obtain ⟨p0, hp0⟩ : ∃ p0, wr.heap.size = p0 := ⟨_, rfl⟩
        have hb2 := Blk.new wr [.int .i64 x, .int .i64 y] 67
        rw [hp0] at hb2
        have HB2 : Hid (Below w.heap.size w (wr.alloc (.cells [Value.int .i64 x, .int .i64 y].toArray 67))) := hid (HB.out.alloc hw _)
        have c2a : (wr.alloc (.cells [Value.int .i64 x, .int .i64 y].toArray 67)).cell? ⟨b, off + j * 2 + 1, none⟩ = some (.int .i64 y') := by rw [← c2']; exact (nbel wr _).cell hb'
        rw [e1] at dk i1
        simp only [e1]
        go_upto_region 6 with fail
        obtain ⟨w2, hw2⟩ : ∃ w2, wr.alloc (.cells #[Value.int .i64 x, .int .i64 y] 67) = w2 := ⟨_, rfl⟩
        have hw2' : wr.alloc (.cells [Value.int .i64 x, .int .i64 y].toArray 67) = w2 := hw2
        rw [hw2'] at hb2 HB2 c2a
        simp only [hw2]
        have a0 : ∀ nn, (w2.drewN nn).cell? ⟨p0, 0, none⟩ = some (.int .i64 x) := fun nn => (hb2.drewN nn).cell 0
        have a1 : ∀ nn, (w2.drewN nn).cell? ⟨b, off + j * 2 + 1, none⟩ = some (.int .i64 y') := fun nn => c2a
        have j1 : (j : Int) < (n : Int) := by omega
        have y1 : -9223372036854775808 ≤ y' + 1 ∧ y' + 1 ≤ 9223372036854775807 := by omega
        clear hw2 hw2' c1 c2 c1' c2' hb2 c2a
        go_quiet (fail)
        go_wp2
        exact ⟨⟨j + 1 + 1, by omega, by go_num, hid (HB2.out.trans (Drew.below ⟨nq, rfl⟩ _))⟩, by simp [intOf]; omega⟩
end Go.Proofs.Qxb6500884a
