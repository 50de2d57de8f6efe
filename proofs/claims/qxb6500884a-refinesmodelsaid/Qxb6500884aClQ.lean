/- A class's questions: IsEmpty, IsAll, Min, Max, Count. -/
import Derived.Test.Qxb6500884aClCon
namespace Go.Proofs.Qxb6500884a
open Go.RowKit
set_option linter.unusedSimpArgs false
set_option linter.unusedVariables false

theorem Nrm.low {l : List (Int × Int)} (h : Nrm l) : ∀ (i : Nat) (p : Int × Int), l[i]? = some p → 2 * (i : Int) ≤ p.1 := by
  intro i
  induction i with
  | zero => intro p hp; have := h.rng p (List.mem_of_getElem? hp); omega
  | succ i ih =>
    intro p hp
    have hlt := (List.getElem?_eq_some_iff.1 hp).1
    obtain ⟨q, hq⟩ : ∃ q, l[i]? = some q := ⟨_, List.getElem?_eq_getElem (by omega)⟩
    have h1 := ih q hq
    have h2 := h.gap i q p hq hp
    have h3 := h.rng q (List.mem_of_getElem? hq)
    omega
theorem Nrm.short {l : List (Int × Int)} (h : Nrm l) : l.length ≤ 98304 := by
  rcases Nat.eq_zero_or_pos l.length with h0 | h0
  · omega
  · obtain ⟨p, hp⟩ : ∃ p, l[l.length - 1]? = some p := ⟨_, List.getElem?_eq_getElem (by omega)⟩
    have h1 := h.low _ p hp
    have h2 := h.rng p (List.mem_of_getElem? hp)
    omega
def minL (l : List (Int × Int)) : Int := (l.head?.map (·.1)).getD 0
def maxL (l : List (Int × Int)) : Int := (l.getLast?.map (·.2)).getD 0
def countL (l : List (Int × Int)) : Int := (l.map fun p => p.2 - p.1 + 1).sum
theorem count_take {l : List (Int × Int)} {k : Nat} {p : Int × Int} (h : l[k]? = some p) : countL (l.take (k + 1)) = countL (l.take k) + (p.2 - p.1 + 1) := by
  unfold countL
  rw [List.take_add_one, h]
  simp
/-- What was counted lies below the last interval's end. -/
theorem Nrm.count {l : List (Int × Int)} (h : Nrm l) : ∀ k, 0 ≤ countL (l.take k) ∧ (∀ p, 0 < k → l[k - 1]? = some p → countL (l.take k) ≤ p.2 + 1) ∧ (k = 0 → countL (l.take k) = 0) := by
  intro k
  induction k with
  | zero => simp [countL]
  | succ k ih =>
    refine ⟨?_, fun p _ hp => ?_, fun h => by omega⟩
    · cases hk : l[k]? with
      | none => rw [List.take_add_one, hk]; simpa using ih.1
      | some p =>
        rw [count_take hk]
        have := h.rng p (List.mem_of_getElem? hk)
        have := ih.1
        omega
    · rw [Nat.add_sub_cancel] at hp
      rw [count_take hp]
      have h1 := h.rng p (List.mem_of_getElem? hp)
      rcases Nat.eq_zero_or_pos k with h0 | h0
      · have := ih.2.2 h0; omega
      · have hlt := (List.getElem?_eq_some_iff.1 hp).1
        obtain ⟨q, hq⟩ : ∃ q, l[k - 1]? = some q := ⟨_, List.getElem?_eq_getElem (by omega)⟩
        have h2 := ih.2.1 q h0 hq
        have h3 := h.gap (k - 1) q p hq (by rw [show k - 1 + 1 = k by omega]; exact hp)
        omega
theorem Nrm.count_le {l : List (Int × Int)} (h : Nrm l) (k : Nat) : 0 ≤ countL (l.take k) ∧ countL (l.take k) ≤ 196608 := by
  refine ⟨(h.count k).1, ?_⟩
  by_cases hk : k ≤ l.length
  · rcases Nat.eq_zero_or_pos k with h0 | h0
    · have := (h.count k).2.2 h0; omega
    · obtain ⟨q, hq⟩ : ∃ q, l[k - 1]? = some q := ⟨_, List.getElem?_eq_getElem (by omega)⟩
      have h1 := (h.count k).2.1 q h0 hq
      have h2 := h.rng q (List.mem_of_getElem? hq)
      omega
  · rw [List.take_of_length_le (by omega)]
    have e : l.take l.length = l := List.take_of_length_le (Nat.le_refl _)
    rcases Nat.eq_zero_or_pos l.length with h0 | h0
    · rw [List.eq_nil_of_length_eq_zero h0]; simp [countL]
    · obtain ⟨q, hq⟩ : ∃ q, l[l.length - 1]? = some q := ⟨_, List.getElem?_eq_getElem (by omega)⟩
      have h1 := (h.count l.length).2.1 q h0 hq
      have h2 := h.rng q (List.mem_of_getElem? hq)
      rw [e] at h1
      omega
/-- A class's box. -/
structure Bx (w0 : World) (q : Nat) (a : Option Addr) (n c : Nat) (l : List (Int × Int)) (w : World) : Prop where
  bel : Below w0.heap.size w0 w
  bq : Blk w q 30 [.slice a n c]
  row : IvRow w a n c l
theorem Bx.below {w0 w w' : World} {q : Nat} {a : Option Addr} {n c : Nat} {l : List (Int × Int)} (h : Bx w0 q a n c l w) (hb : Below w.heap.size w w') : Bx w0 q a n c l w' := ⟨h.bel.trans (hb.mono h.bel.size), h.bq.below hb, h.row.below hb⟩
theorem Bx.new {w : World} {a : Option Addr} {n c : Nat} {l : List (Int × Int)} (h : IvRow w a n c l) {q : Nat} (hq : w.heap.size = q) : Bx w q a n c l (w.alloc (.cells #[.slice a n c] 30)) := by
  have hb := Blk.new w [.slice a n c] 30
  rw [hq] at hb
  exact ⟨nbel w _, hb, h.below (nbel w _)⟩
set_option maxRecDepth 100000 in
theorem isEmpty_walk (a : Option Addr) (n c : Nat) (l : List (Int × Int)) (w : World) (hr : IvRow w a n c l) :
    Calls Try.prog 23 #[.agg #[.slice a n c]] w fun e w' => e = .returned (.bool l.isEmpty) ∧ Below w.heap.size w w' := by
  obtain ⟨q, hq⟩ : ∃ q, w.heap.size = q := ⟨_, rfl⟩
  have HX := hid (Bx.new hr hq)
  have he : ((n : Int) == 0) = l.isEmpty := by rw [← hr.len]; cases l <;> simp; omega
  have he2 : (n == 0) = l.isEmpty := by rw [← hr.len]; cases l <;> simp
  clear hr
  go_enter Try.func23, Try.ntmps23
  go_upto_region 1 with fail
  generalize w.alloc (.cells #[.slice a n c] 30) = w1 at HX ⊢
  have c0 : w1.cell? ⟨q, 0, none⟩ = some (.slice a n c) := HX.out.bq.cell 0
  go_wp2
  go_ret
  exact ⟨by first | rfl | (rw [he]; rfl) | (rw [he2]; rfl), by have h := HX.out.bel; first | exact h | (rw [hq] at h; exact h)⟩
set_option maxRecDepth 100000 in
theorem count_walk (a : Option Addr) (n c : Nat) (l : List (Int × Int)) (w : World) (hr : IvRow w a n c l) (hN : Nrm l) :
    Calls Try.prog 28 #[.agg #[.slice a n c]] w fun e w' => e = .returned (.int .i64 (countL l)) ∧ Below w.heap.size w w' := by
  obtain ⟨q, hq⟩ : ∃ q, w.heap.size = q := ⟨_, rfl⟩
  have HX := hid (Bx.new hr hq)
  have hl := hr.len
  have hn := hr.1.2.2.1.1
  clear hr
  go_enter Try.func28, Try.ntmps28
  go_upto_region 1 with fail
  generalize w.alloc (.cells #[.slice a n c] 30) = w1 at HX ⊢
  have c0 : w1.cell? ⟨q, 0, none⟩ = some (.slice a n c) := HX.out.bq.cell 0
  go_wp2_with fail
  go_loopw [3, 9] (fun v i wr => ∃ k : Nat, k ≤ n ∧ v = .int .i64 (countL (l.take k)) ∧ i = .int .i64 k ∧ Hid (Bx w q a n c l wr)) (fun _ i _ => n - (intOf i).toNat)
  case atStart => exact ⟨0, Nat.zero_le _, by simp [countL], rfl, HX⟩
  case round =>
    clear c0 HX
    obtain ⟨k, hk, rfl, rfl, HX⟩ := hrel
    by_cases hlt : k < n
    · obtain ⟨p, hp, f1, f2, b, off, rfl, hb, e1, e2⟩ := HX.out.row.get hlt
      obtain ⟨x, y⟩ := p
      have hrg := hN.rng _ (List.mem_of_getElem? hp)
      have hct := count_take hp
      have hcl := hN.count_le k
      dsimp only at e1 e2 hct hrg
      obtain ⟨C, hC⟩ : ∃ C, countL (l.take k) = C := ⟨_, rfl⟩
      rw [hC] at hct hcl
      rw [hC]
      have Hct := hid hct
      have dk : decide ((k : Int) < (n : Int)) = true := decide_eq_true (by omega)
      have i1 : (k : Int) < (n : Int) := by omega
      have HX2 := hid (HX.out.below (nbel wr (.cells #[.int .i64 x, .int .i64 y] 67)))
      clear hp hct hC
      go_wp2
      exact ⟨⟨k + 1, by omega, by rw [Hct.out], by go_num, HX2⟩, by simp [intOf]; omega⟩
    · have dk : decide ((k : Int) < (n : Int)) = false := decide_eq_false (by omega)
      rw [List.take_of_length_le (by omega)]
      obtain ⟨C, hC⟩ : ∃ C, countL l = C := ⟨_, rfl⟩
      rw [hC]
      have HC := hid hC
      clear hC
      go_wp2
      go_ret
      exact ⟨by rw [HC.out]; rfl, by have h := HX.out.bel; first | exact h | (rw [hq] at h; exact h)⟩
set_option maxRecDepth 100000 in
theorem min_walk (a : Option Addr) (n c : Nat) (l : List (Int × Int)) (w : World) (hr : IvRow w a n c l) :
    Calls Try.prog 26 #[.agg #[.slice a n c]] w fun e w' => e = .returned (.tuple #[.int .i64 (minL l), .bool (!l.isEmpty)]) ∧ Below w.heap.size w w' := by
  obtain ⟨q, hq⟩ : ∃ q, w.heap.size = q := ⟨_, rfl⟩
  have HX := hid (Bx.new hr hq)
  have hl := hr.len
  clear hr
  go_enter Try.func26, Try.ntmps26
  go_upto_region 1 with fail
  generalize w.alloc (.cells #[.slice a n c] 30) = w1 at HX ⊢
  have c0 : w1.cell? ⟨q, 0, none⟩ = some (.slice a n c) := HX.out.bq.cell 0
  by_cases hn : n = 0
  · have hl0 : l = [] := List.eq_nil_of_length_eq_zero (by omega)
    subst hn hl0
    go_wp2
    exact bodyPost_ret (v := .tuple #[.int .i64 0, .bool false]) (by simp [results, Try.results26, go_sem]) rfl ⟨rfl, by have h := HX.out.bel; first | exact h | (rw [hq] at h; exact h)⟩
  · obtain ⟨p, hp, f1, f2, b, off, rfl, hb, e1, e2⟩ := HX.out.row.get (show 0 < n by omega)
    have hm : minL l = p.1 := by cases l with | nil => simp at hp | cons x t => simp at hp; subst hp; rfl
    have hem : l.isEmpty = false := by cases l with | nil => simp at hp | cons x t => rfl
    have Hm := hid hm
    have Hem := hid hem
    simp only [Nat.zero_mul, Nat.add_zero] at e1 e2
    have dz : ((n : Int) == 0) = false := by simp; omega
    have dz' : (n == 0) = false := by simp; omega
    have i1 : (0 : Int) < (n : Int) := by omega
    have i1' : 0 < n := by omega
    clear hp hm hem
    go_wp2
    exact bodyPost_ret (v := .tuple #[.int .i64 p.1, .bool true]) (by simp [results, Try.results26, go_sem]) rfl ⟨by rw [Hm.out, Hem.out]; rfl, by have h := HX.out.bel; first | exact h | (rw [hq] at h; exact h)⟩
set_option maxRecDepth 100000 in
theorem max_walk (a : Option Addr) (n c : Nat) (l : List (Int × Int)) (w : World) (hr : IvRow w a n c l) :
    Calls Try.prog 27 #[.agg #[.slice a n c]] w fun e w' => e = .returned (.tuple #[.int .i64 (maxL l), .bool (!l.isEmpty)]) ∧ Below w.heap.size w w' := by
  obtain ⟨q, hq⟩ : ∃ q, w.heap.size = q := ⟨_, rfl⟩
  have HX := hid (Bx.new hr hq)
  have hl := hr.len
  have hn47 := hr.1.2.2.1.1
  clear hr
  go_enter Try.func27, Try.ntmps27
  go_upto_region 1 with fail
  generalize w.alloc (.cells #[.slice a n c] 30) = w1 at HX ⊢
  have c0 : w1.cell? ⟨q, 0, none⟩ = some (.slice a n c) := HX.out.bq.cell 0
  by_cases hn : n = 0
  · have hl0 : l = [] := List.eq_nil_of_length_eq_zero (by omega)
    subst hn hl0
    go_wp2
    exact bodyPost_ret (v := .tuple #[.int .i64 0, .bool false]) (by simp [results, Try.results27, go_sem]) rfl ⟨rfl, by have h := HX.out.bel; first | exact h | (rw [hq] at h; exact h)⟩
  · obtain ⟨m, hm0⟩ : ∃ m, n - 1 = m := ⟨_, rfl⟩
    obtain ⟨p, hp, f1, f2, b, off, rfl, hb, e1, e2⟩ := HX.out.row.get (show m < n by omega)
    have hm : maxL l = p.2 := by
      unfold maxL
      rw [List.getLast?_eq_getElem?, hl, hm0, hp]
      rfl
    have hem : l.isEmpty = false := by cases l with | nil => simp at hp | cons x t => rfl
    have Hm := hid hm
    have Hem := hid hem
    have dz : ((n : Int) == 0) = false := by simp; omega
    have dz' : (n == 0) = false := by simp; omega
    have e3 : (n : Int) - 1 = (m : Int) := by omega
    have i1 : (m : Int) < (n : Int) := by omega
    clear hp hm hem hm0
    go_wp2
    exact bodyPost_ret (v := .tuple #[.int .i64 p.2, .bool true]) (by simp [results, Try.results27, go_sem]) rfl ⟨by rw [Hm.out, Hem.out]; rfl, by have h := HX.out.bel; first | exact h | (rw [hq] at h; exact h)⟩
def allB (l : List (Int × Int)) : Bool := decide (l = [(0, 196607)])
set_option maxRecDepth 100000 in
theorem isAll_walk (a : Option Addr) (n c : Nat) (l : List (Int × Int)) (w : World) (hr : IvRow w a n c l) :
    Calls Try.prog 29 #[.agg #[.slice a n c]] w fun e w' => e = .returned (.bool (allB l)) ∧ Below w.heap.size w w' := by
  obtain ⟨q, hq⟩ : ∃ q, w.heap.size = q := ⟨_, rfl⟩
  have HX := hid (Bx.new hr hq)
  have hl := hr.len
  clear hr
  go_enter Try.func29, Try.ntmps29
  go_upto_region 1 with fail
  generalize w.alloc (.cells #[.slice a n c] 30) = w1 at HX ⊢
  have c0 : w1.cell? ⟨q, 0, none⟩ = some (.slice a n c) := HX.out.bq.cell 0
  by_cases hn : n = 1
  · subst hn
    obtain ⟨p, hp, f1, f2, b, off, rfl, hb, e1, e2⟩ := HX.out.row.get (show 0 < 1 by omega)
    obtain ⟨x, y⟩ := p
    have hl1 : l = [(x, y)] := by
      cases l with
      | nil => simp at hp
      | cons z t =>
        simp at hp hl
        subst hp hl
        rfl
    simp only [Nat.zero_mul, Nat.add_zero] at e1 e2
    have Hl := hid hl1
    clear hp hl1
    by_cases hx : x = 0
    · subst hx
      by_cases hy : y = 196607
      · subst hy
        go_wp2
        go_ret
        exact ⟨by rw [show allB l = true by unfold allB; rw [Hl.out]; rfl]; rfl, by have h := HX.out.bel; first | exact h | (rw [hq] at h; exact h)⟩
      · have dy : (y == 196607) = false := by simpa using hy
        have Hy := hid hy
        clear hy
        go_wp2
        go_ret
        exact ⟨by rw [show allB l = false by unfold allB; rw [Hl.out]; exact decide_eq_false (fun h => by simp at h; exact Hy.out h)]; rfl, by have h := HX.out.bel; first | exact h | (rw [hq] at h; exact h)⟩
    · have dx : (x == 0) = false := by simpa using hx
      have Hx := hid hx
      clear hx
      go_wp2
      go_ret
      exact ⟨by rw [show allB l = false by unfold allB; rw [Hl.out]; exact decide_eq_false (fun h => by simp at h; exact Hx.out h.1)]; rfl, by have h := HX.out.bel; first | exact h | (rw [hq] at h; exact h)⟩
  · have d1 : ((n : Int) == 1) = false := by simp; omega
    have d1' : (n == 1) = false := by simp; omega
    go_wp2
    go_ret
    exact ⟨by rw [show allB l = false by unfold allB; exact decide_eq_false (fun h => by rw [h] at hl; simp at hl; omega)]; rfl, by have h := HX.out.bel; first | exact h | (rw [hq] at h; exact h)⟩
end Go.Proofs.Qxb6500884a
