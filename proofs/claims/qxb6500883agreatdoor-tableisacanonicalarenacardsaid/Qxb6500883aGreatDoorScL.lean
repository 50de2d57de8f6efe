/- Lines and columns: newLineTable, place. -/
import Derived.Test.Qxb6500883aGreatDoorScK
import Derived.Great.BuildSlice
namespace Go.Proofs.Qxb6500883aGreatDoor
open Go.RowKit
set_option linter.unusedSimpArgs false
set_option linter.unusedVariables false
/-- Rows of ints. -/
def rtI : RK Nat := ⟨3, 124, 1, 8, fun x => [.int .i64 (x : Int)]⟩
theorem okI : RKok Tryz.prog rtI := ⟨Tryz.underlying124, info_of' (z := .int .i64 0) (by kernel_rfl) rfl, by decide, by decide, fun _ => rfl, fun x u hu => by simp [rtI] at hu; subst hu; rfl⟩
theorem rtI_get (l : List Nat) (i : Nat) : (l.flatMap rtI.f)[i]? = l[i]?.map (fun x => .int .i64 (x : Int)) := by
  have : l.flatMap rtI.f = l.map (fun (x : Nat) => (.int .i64 (x : Int) : Value)) := by
    induction l with
    | nil => rfl
    | cons b l ih => rw [List.flatMap_cons, ih]; rfl
  rw [this, List.getElem?_map]
theorem OwR.one {α : Type} {K : RK α} {w : World} {g n0 : Nat} {x : α} (h : Blk w g K.t (K.f x)) (hl : (K.f x).length = K.n) (hg : n0 ≤ g) : OwR K n0 w (.slice (some ⟨g, 0, none⟩) 1 1) [x] := by
  have e : [x].flatMap K.f = K.f x := by simp
  refine ⟨?_, .inr ⟨g, 1, (K.f x).toArray, rfl, hg, h, Nat.le_refl _, by decide, ?_, ?_⟩⟩
  · rw [e, hl]; simp
  · simp [hl]
  · rw [e]
    show ((K.f x).toArray.toList).take (1 * K.n) = K.f x
    rw [List.toList_toArray, Nat.one_mul, ← hl, List.take_length]
/-- Where the lines begin, of the first i bytes. -/
def stF (bs : List UInt8) : Nat → List Nat
  | 0 => [0]
  | i + 1 => if cN bs i = 10 then stF bs i ++ [i + 1] else stF bs i
def curS (p : Nat × Nat) (b : UInt8) : Nat × Nat := if b.toNat = 10 then (p.1 + 1, 1) else (p.1, p.2 + 1)
/-- Line and column, by counting. -/
def placeP (l : List UInt8) : Nat × Nat := l.foldl curS (1, 1)
section
variable (bs : List UInt8)
theorem stF_s (i : Nat) : stF bs (i + 1) = if cN bs i = 10 then stF bs i ++ [i + 1] else stF bs i := rfl
theorem stF_len (i : Nat) : 1 ≤ (stF bs i).length ∧ (stF bs i).length ≤ i + 1 := by
  induction i with
  | zero => exact ⟨Nat.le_refl _, Nat.le_refl _⟩
  | succ i ih => unfold stF; split <;> (try rw [List.length_append, List.length_singleton]) <;> omega
theorem stF_le (i : Nat) : ∀ x ∈ stF bs i, x ≤ i := by
  induction i with
  | zero => intro x hx; simp [stF] at hx; omega
  | succ i ih =>
    unfold stF
    split
    · intro x hx
      rcases List.mem_append.1 hx with h | h
      · have := ih x h; omega
      · simp at h; omega
    · intro x hx; have := ih x hx; omega
theorem stF_pre (i k : Nat) : ∃ r : List Nat, stF bs (i + k) = stF bs i ++ r ∧ ∀ x ∈ r, i < x := by
  induction k with
  | zero => exact ⟨[], by simp, fun x hx => by cases hx⟩
  | succ k ih =>
    obtain ⟨r, h1, h2⟩ := ih
    rw [show i + (k + 1) = i + k + 1 by omega, stF_s]
    split
    · refine ⟨r ++ [i + k + 1], by rw [h1, List.append_assoc], fun x hx => ?_⟩
      rcases List.mem_append.1 hx with h | h
      · exact h2 x h
      · simp at h; omega
    · exact ⟨r, h1, h2⟩
/-- Which lines begin at or ahead of a place. -/
theorem stF_iff {p n : Nat} (hp : p ≤ n) {j x : Nat} (hj : (stF bs n)[j]? = some x) : x ≤ p ↔ j < (stF bs p).length := by
  obtain ⟨r, h1, h2⟩ := stF_pre bs p (n - p)
  rw [show p + (n - p) = n by omega] at h1
  rw [h1] at hj
  by_cases hlt : j < (stF bs p).length
  · rw [List.getElem?_append_left hlt] at hj
    exact ⟨fun _ => hlt, fun _ => stF_le bs p x (List.mem_of_getElem? hj)⟩
  · rw [List.getElem?_append_right (by omega)] at hj
    have := h2 x (List.mem_of_getElem? hj)
    exact ⟨fun h => by omega, fun h => absurd h hlt⟩
theorem stF_lens {p n : Nat} (hp : p ≤ n) : (stF bs p).length ≤ (stF bs n).length := by
  obtain ⟨r, h1, h2⟩ := stF_pre bs p (n - p)
  rw [show p + (n - p) = n by omega] at h1
  rw [h1, List.length_append]
  omega
theorem stF_get {p n : Nat} (hp : p ≤ n) {j : Nat} (hj : j < (stF bs p).length) : (stF bs n)[j]? = (stF bs p)[j]? := by
  obtain ⟨r, h1, h2⟩ := stF_pre bs p (n - p)
  rw [show p + (n - p) = n by omega] at h1
  rw [h1, List.getElem?_append_left hj]
/-- Counting and looking up give the same. -/
theorem place_st {p : Nat} (hp : p ≤ bs.length) : ∃ x, (stF bs p)[(stF bs p).length - 1]? = some x ∧ x ≤ p ∧ placeP (bs.take p) = ((stF bs p).length, p - x + 1) := by
  induction p with
  | zero => exact ⟨0, rfl, Nat.le_refl _, rfl⟩
  | succ p ih =>
    obtain ⟨x, h1, h2, h3⟩ := ih (by omega)
    have hb : bs.take (p + 1) = bs.take p ++ [bs[p]] := by
      rw [List.take_add_one, List.getElem?_eq_getElem (by omega)]; rfl
    have hc : cN bs p = (bs[p]).toNat := by
      unfold cN
      rw [List.getD_eq_getElem?_getD, List.getElem?_eq_getElem (by omega)]; rfl
    have hpl : placeP (bs.take (p + 1)) = curS (placeP (bs.take p)) bs[p] := by
      unfold placeP
      rw [hb, List.foldl_append]; rfl
    rw [hpl, h3]
    unfold curS
    rw [stF_s, hc]
    by_cases h10 : (bs[p]).toNat = 10
    · rw [if_pos h10, if_pos h10]
      refine ⟨p + 1, ?_, Nat.le_refl _, ?_⟩
      · rw [List.length_append, List.length_singleton, List.getElem?_append_right (by omega)]
        simp
      · rw [List.length_append, List.length_singleton]
        simp
    · rw [if_neg h10, if_neg h10]
      refine ⟨x, h1, by omega, ?_⟩
      have : p - x + 1 + 1 = p + 1 - x + 1 := by omega
      rw [this]
end
/-- A line table in memory. -/
structure LtM (n0 : Nat) (w : World) (q : Nat) (l : List Nat) : Prop where
  row : ∃ v, Blk w q 216 [v] ∧ OwR rtI n0 w v l
  lo : n0 ≤ q
section
variable {w w' : World} {a : Option Addr} {n c : Nat} {bs : List UInt8}
/-- The table under way. -/
structure LtU (w : World) (v : Value) (l : List Nat) (w1 : World) : Prop where
  row : OwR rtI w.heap.size w1 v l
  bel : Below w.heap.size w w1
set_option maxRecDepth 100000 in
set_option maxHeartbeats 1000000 in
theorem newLineTableW (h : Src w a n c bs) : Calls Tryz.prog 96 #[.slice a n c] w fun e w' => ∃ q, e = .returned (.pointer (some ⟨q, 0, none⟩)) ∧ Hid (LtM w.heap.size w' q (stF bs n) ∧ Below w.heap.size w w') := by
  have hnl := h.len
  have hle := h.le
  have HS := hid h
  obtain ⟨p, hp⟩ : ∃ p, w.heap.size = p := ⟨_, rfl⟩
  have H1 : Hid (LtU w (.slice (some ⟨p, 0, none⟩) 1 1) (stF bs 0) (w.alloc (.cells #[.int .i64 0] 3))) := hid (by
    have k := Blk.new w [.int .i64 0] 3
    rw [hp] at k
    exact ⟨OwR.one (K := rtI) (x := 0) k rfl (by omega), nbel w _⟩)
  clear h
  go_enter Tryz.func96, Tryz.ntmps96
  go_upto_region 2 with fail
  (try simp only [hp])
  generalize hw1 : w.alloc _ = w1 at H1 ⊢
  clear hw1 hp
  go_upto_region 3 with fail
  go_loopw [3, 9] (fun v u wr => ∃ (j : Nat) (ax : Option Addr) (m q : Nat), u = .int .i64 (j : Int) ∧ v = .slice ax m q ∧ j ≤ n ∧ Hid (LtU w (.slice ax m q) (stF bs j) wr)) (fun _ u _ => n - (intOf u).toNat)
  case atStart => exact ⟨0, some ⟨p, 0, none⟩, 1, 1, rfl, rfl, Nat.zero_le _, H1⟩
  case round =>
  clear H1
  obtain ⟨j, ax, m, q, rfl, rfl, hj, HK⟩ := hrel
  by_cases hjn : j < n
  rotate_left
  · as_aux_lemma =>
    have d1 : decide ((j : Int) < (n : Int)) = false := decide_eq_false (by omega)
    obtain rfl : j = n := by omega
    obtain ⟨p2, hp2⟩ : ∃ p, wr.heap.size = p := ⟨_, rfl⟩
    have HF : Hid (LtM w.heap.size (wr.alloc (.cells #[.slice ax m q] 216)) p2 (stF bs j) ∧ Below w.heap.size w (wr.alloc (.cells #[.slice ax m q] 216))) := hid (by
      have k := Blk.new wr [.slice ax m q] 216
      rw [hp2] at k
      have hz := HK.out.bel.size
      exact ⟨⟨⟨_, k, HK.out.row.below (nbel wr _)⟩, by omega⟩, HK.out.bel.trans ((nbel wr _).mono hz)⟩)
    go_wp2
    go_ret
    exact ⟨p2, by subst hp2; rfl, HF⟩
  have d1 : decide ((j : Int) < (n : Int)) = true := decide_eq_true (by omega)
  obtain ⟨b, off, rfl, _, hc⟩ := (HS.out.below HK.out.bel).cell hjn
  obtain ⟨x, hx⟩ : ∃ x, cN bs j = x := ⟨_, rfl⟩
  rw [hx] at hc
  have Hx := hid hx
  clear hx
  by_cases h10 : x = 10
  rotate_left
  · as_aux_lemma =>
    have d2 : ((x : Int) == 10) = false := by simp; omega
    have HF : Hid (LtU w (.slice ax m q) (stF bs (j + 1)) wr) := hid (by
      have e : stF bs (j + 1) = stF bs j := by show (if _ then _ else _) = _; rw [if_neg (by rw [Hx.out]; exact h10)]
      rw [e]; exact HK.out)
    go_wp2
    exact ⟨⟨j + 1, ax, m, q, by go_num, rfl, by omega, HF⟩, by simp [intOf]; omega⟩
  · as_aux_lemma =>
    have d2 : ((x : Int) == 10) = true := by simp; omega
    have He : Hid (stF bs (j + 1) = stF bs j ++ [j + 1]) := hid (by show (if _ then _ else _) = _; rw [if_pos (by rw [Hx.out]; exact h10)])
    clear h10
    go_wp2_with (at_builtin; refine stopHere ?_)
    intro _
    obtain ⟨k8, hk8⟩ : ∃ k, wr.heap.size = k := ⟨_, rfl⟩
    obtain ⟨wf, hwf⟩ : ∃ wf, wr.alloc (.cells #[.int .i64 ((j : Int) + 1)] 3) = wf := ⟨_, rfl⟩
    have HJf : Hid (LtU w (.slice ax m q) (stF bs j) wf) := hid (by rw [← hwf]; exact ⟨HK.out.row.below (nbel wr _), HK.out.bel.trans ((nbel wr _).mono HK.out.bel.size)⟩)
    have HNw : Hid (∀ ad, some (⟨k8, 0, none⟩ : Addr) = some ad → ∀ i u, ([j + 1].flatMap rtI.f)[i]? = some u → wf.cell? (ad.add i) = some u) := hid (by rw [← hwf]; exact newX rtI wr (j + 1) _ hk8.symm)
    (try simp only [hwf, hk8])
    clear hwf hk8 HK
    refine wpList_app_l okI rfl _ _ HJf.out.row rfl [j + 1] rfl (some ⟨k8, 0, none⟩) 1 1 rfl rfl (fun h => by cases h) HNw.out (by
      have h1 := stF_len bs j
      show ((stF bs j).length + 1) * 8 ≤ _
      omega) HJf.out.bel.size ?_
    intro v9 w9 hr9 hk9 hg9
    obtain ⟨a9, q9, rfl⟩ := hr9.out.shape
    have HR : Hid (LtU w (.slice a9 (stF bs j ++ [j + 1]).length q9) (stF bs (j + 1)) w9) := hid ⟨by rw [He.out]; exact hr9.out, HJf.out.bel.trans (hk9.out.below HJf.out.row.hi HJf.out.bel.size)⟩
    generalize (stF bs j ++ [j + 1]).length = n9 at HR ⊢
    clear HJf hr9 hk9 hg9 HNw He
    go_wp2
    exact ⟨⟨j + 1, a9, n9, q9, by go_num, rfl, by omega, HR⟩, by simp [intOf]; omega⟩
end
end Go.Proofs.Qxb6500883aGreatDoor
