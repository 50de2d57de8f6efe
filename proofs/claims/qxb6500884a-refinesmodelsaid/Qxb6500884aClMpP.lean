/- MintermsPartition: plain laws. -/
import Derived.Test.Qxb6500884aClLstP
import Derived.Test.Qxb6500884aClIdx
namespace Go.Proofs.Qxb6500884a
open Go.RowKit
set_option linter.unusedSimpArgs false
set_option linter.unusedVariables false

/-- The block that holds a code point. -/
def ownN (P : PSt) (pt : Int → List UInt8) (x : Nat) : Nat := P.pats.idxOf (pt (x : Int))
theorem PI.ownIn {pt : Int → List UInt8} {P : PSt} (h : PI pt P 196608) {x : Nat} (hx : x < 196608) : pt (x : Int) ∈ P.pats := h.all _ (by omega) (by omega)
theorem PI.ownLt {pt : Int → List UInt8} {P : PSt} (h : PI pt P 196608) {x : Nat} (hx : x < 196608) : ownN P pt x < P.lists.length := by
  rw [← h.len]
  exact List.idxOf_lt_length_of_mem (h.ownIn hx)
theorem PI.ownGet {pt : Int → List UInt8} {P : PSt} (h : PI pt P 196608) {x : Nat} (hx : x < 196608) : P.pats[ownN P pt x]? = some (pt (x : Int)) := by
  have h1 := h.ownIn hx
  have h2 : ownN P pt x < P.pats.length := List.idxOf_lt_length_of_mem h1
  rw [List.getElem?_eq_getElem h2]
  congr 1
  exact List.getElem_idxOf h2
theorem nodup_at {α : Type} {l : List α} (h : l.Nodup) {i j : Nat} {s : α} (hi : l[i]? = some s) (hj : l[j]? = some s) : i = j := by
  obtain ⟨h1, h2⟩ := List.getElem?_eq_some_iff.1 hi
  obtain ⟨h3, h4⟩ := List.getElem?_eq_some_iff.1 hj
  have h5 := List.pairwise_iff_getElem.1 h
  rcases Nat.lt_trichotomy i j with e | e | e
  · exact absurd (h2.trans h4.symm) (h5 i j h1 h3 e)
  · exact e
  · exact absurd (h4.trans h2.symm) (h5 j i h3 h1 e)
theorem PI.ownIff {pt : Int → List UInt8} {P : PSt} (h : PI pt P 196608) {x b : Nat} (hx : x < 196608) : P.pats[b]? = some (pt (x : Int)) ↔ ownN P pt x = b :=
  ⟨fun hb => nodup_at h.nodup (h.ownGet hx) hb, fun e => by rw [← e]; exact h.ownGet hx⟩
theorem PI.patAt {pt : Int → List UInt8} {P : PSt} {st : Int} (h : PI pt P st) {b : Nat} (hb : b < P.lists.length) : ∃ s, P.pats[b]? = some s := ⟨P.pats[b]'(by rw [h.len]; exact hb), List.getElem?_eq_getElem _⟩
theorem PI.memOwn {pt : Int → List UInt8} {P : PSt} (h : PI pt P 196608) {b : Nat} {l : List (Int × Int)} (hb : P.lists[b]? = some l) {x : Nat} (hx : x < 196608) : memB l (x : Int) = decide (ownN P pt x = b) := by
  obtain ⟨s, hs⟩ := h.patAt (List.getElem?_eq_some_iff.1 hb).1
  rw [(h.cls b s l hs hb).2.2, decide_eq_true (show (0 : Int) ≤ (x : Int) by omega), decide_eq_true (show (x : Int) < 196608 by omega), Bool.true_and, Bool.true_and, decide_eq_decide, ← h.ownIff hx, hs]
  constructor
  · intro e; rw [e]
  · intro e; injection e with e; exact e.symm
theorem PI.lsNe {pt : Int → List UInt8} {P : PSt} {st : Int} (h : PI pt P st) {b : Nat} {l : List (Int × Int)} (hb : P.lists[b]? = some l) : Nrm l ∧ l ≠ [] := by
  obtain ⟨s, hs⟩ := h.patAt (List.getElem?_eq_some_iff.1 hb).1
  have := h.cls b s l hs hb
  exact ⟨this.1, this.2.1⟩
/-- The least member of a block. -/
def leaN (P : PSt) (b : Nat) : Int := minL (P.lists.getD b [])
theorem leaN_at {P : PSt} {b : Nat} {l : List (Int × Int)} (hb : P.lists[b]? = some l) : leaN P b = minL l := by
  unfold leaN
  rw [List.getD_eq_getElem?_getD, hb]
  rfl
theorem PI.leaOwn {pt : Int → List UInt8} {P : PSt} (h : PI pt P 196608) {b : Nat} (hb : b < P.lists.length) : ∃ y : Nat, y < 196608 ∧ leaN P b = (y : Int) ∧ ownN P pt y = b ∧ ∀ z, z < y → ownN P pt z ≠ b := by
  have hl : P.lists[b]? = some (P.lists[b]) := List.getElem?_eq_getElem hb
  obtain ⟨hN, hne⟩ := h.lsNe hl
  rw [leaN_at hl, ← least_eq hN hne]
  rcases lstA_is (fun i => memB P.lists[b] (i : Int)) 196608 with ⟨h1, h2⟩ | ⟨i, h1, h2, h3, h4⟩
  · exfalso
    obtain ⟨s, hs⟩ := h.patAt hb
    have hc := h.cls b s _ hs hl
    cases hL : P.lists[b] with
    | nil => exact hne hL
    | cons p t =>
      have hp := hN.rng p (by rw [hL]; simp)
      have hm := h2 p.1.toNat (by omega)
      rw [hL] at hm
      have := memB_in (l := p :: t) (x := p.1) (p := p) (by simp) (Int.le_refl _) hp.2.1
      rw [Int.toNat_of_nonneg hp.1, this] at hm
      cases hm
  · refine ⟨i, h1, h2, ?_, fun z hz => ?_⟩
    · have := h.memOwn hl h1
      rw [h3] at this
      exact of_decide_eq_true this.symm
    · have := h.memOwn hl (show z < 196608 by omega)
      rw [h4 z hz] at this
      exact of_decide_eq_false this.symm
theorem PI.leaAsc {pt : Int → List UInt8} {P : PSt} (h : PI pt P 196608) {b c : Nat} (hbc : b < c) (hc : c < P.lists.length) : leaN P b < leaN P c := by
  have hl : P.lists[b]? = some (P.lists[b]) := List.getElem?_eq_getElem (by omega)
  have hl' : P.lists[c]? = some (P.lists[c]) := List.getElem?_eq_getElem hc
  obtain ⟨_, hne⟩ := h.lsNe hl
  obtain ⟨_, hne'⟩ := h.lsNe hl'
  rw [leaN_at hl, leaN_at hl']
  cases e1 : P.lists[b] with
  | nil => exact absurd e1 hne
  | cons p t =>
    cases e2 : P.lists[c] with
    | nil => exact absurd e2 hne'
    | cons q s =>
      rw [e1] at hl
      rw [e2] at hl'
      exact h.asc b c _ _ p q hbc hl hl' rfl rfl
/-- Going down: the least member met so far. -/
def LeD (f : Nat → Nat) (b k : Nat) (v : Int) : Prop := (v = -1 ∧ ∀ y, k ≤ y → y < 196608 → f y ≠ b) ∨ ∃ y, k ≤ y ∧ y < 196608 ∧ v = (y : Int) ∧ f y = b ∧ ∀ z, k ≤ z → z < y → f z ≠ b
theorem LeD.zero (f : Nat → Nat) (b : Nat) : LeD f b 196608 (-1) := .inl ⟨rfl, fun y h1 h2 => by omega⟩
theorem LeD.hit {f : Nat → Nat} {b k : Nat} {v : Int} (hk : k < 196608) (he : f k = b) : LeD f b k (k : Int) := .inr ⟨k, Nat.le_refl _, hk, rfl, he, fun z h1 h2 => by omega⟩
theorem LeD.miss {f : Nat → Nat} {b k : Nat} {v : Int} (h : LeD f b (k + 1) v) (he : f k ≠ b) : LeD f b k v := by
  rcases h with ⟨h1, h2⟩ | ⟨y, h1, h2, h3, h4, h5⟩
  · exact .inl ⟨h1, fun y hy hy2 => if e : y = k then e ▸ he else h2 y (by omega) hy2⟩
  · exact .inr ⟨y, by omega, h2, h3, h4, fun z hz hz2 => if e : z = k then e ▸ he else h5 z (by omega) hz2⟩
theorem PI.leD {pt : Int → List UInt8} {P : PSt} (h : PI pt P 196608) {b : Nat} (hb : b < P.lists.length) {v : Int} (hv : LeD (ownN P pt) b 0 v) : v = leaN P b := by
  obtain ⟨y, h1, h2, h3, h4⟩ := h.leaOwn hb
  rcases hv with ⟨_, h5⟩ | ⟨z, _, h5, h6, h7, h8⟩
  · exact absurd h3 (h5 y (Nat.zero_le _) h1)
  · rw [h2, h6]
    by_cases e : y < z
    · exact absurd h3 (h8 y (Nat.zero_le _) e)
    · by_cases e2 : z < y
      · exact absurd h7 (h4 z e2)
      · omega
/-- The owners while block b is gone through from above. -/
def owV (f : Nat → Nat) (b k x : Nat) : Int := if f x < b ∨ (f x = b ∧ k ≤ x) then (f x : Int) else -1
theorem owV_start (f : Nat → Nat) {x : Nat} (hx : x < 196608) : owV f 0 196608 x = -1 := by
  unfold owV
  rw [if_neg (by omega)]
theorem owV_next (f : Nat → Nat) (b : Nat) {x : Nat} (hx : x < 196608) : owV f b 0 x = owV f (b + 1) 196608 x := by
  unfold owV
  congr 1
  simp only [eq_iff_iff]
  omega
theorem owV_at (f : Nat → Nat) {b k : Nat} (he : f k = b) : owV f b (k + 1) k = -1 := by
  unfold owV
  rw [if_neg (by omega)]
theorem owV_hit (f : Nat → Nat) {b k : Nat} (he : f k = b) (x : Nat) : (if x = k then (b : Int) else owV f b (k + 1) x) = owV f b k x := by
  unfold owV
  by_cases e : x = k
  · subst e
    rw [if_pos rfl, if_pos (by omega), he]
  · rw [if_neg e]
    congr 1
    simp only [eq_iff_iff]
    omega
theorem owV_miss (f : Nat → Nat) {b k : Nat} (he : f k ≠ b) (x : Nat) : owV f b (k + 1) x = owV f b k x := by
  unfold owV
  by_cases e : x = k
  · subst e
    by_cases h : f x < b
    · rw [if_pos (.inl h), if_pos (.inl h)]
    · rw [if_neg (by omega), if_neg (by omega)]
  · congr 1
    simp only [eq_iff_iff]
    omega
theorem owV_all (f : Nat → Nat) {n : Nat} {x : Nat} (h : f x < n) (k : Nat) : owV f n k x = (f x : Int) := by
  unfold owV
  rw [if_pos (.inl h)]
/-- A block of ints told by a function. -/
def intL (n : Nat) (f : Nat → Int) : List Value := (List.range n).map fun i => .int .i64 (f i)
theorem intL_len (n : Nat) (f : Nat → Int) : (intL n f).length = n := by unfold intL; rw [List.length_map, List.length_range]
theorem intL_get {n : Nat} (f : Nat → Int) {i : Nat} (h : i < n) : (intL n f)[i]? = some (.int .i64 (f i)) := by
  unfold intL
  rw [List.getElem?_map, List.getElem?_range h]
  rfl
theorem intL_ext {n : Nat} {f g : Nat → Int} (h : ∀ i, i < n → f i = g i) : intL n f = intL n g := by
  unfold intL
  exact List.map_congr_left fun i hi => by rw [h i (List.mem_range.1 hi)]
theorem intL_set {n : Nat} (f : Nat → Int) {c : Nat} (h : c < n) (v : Int) : (intL n f).set c (.int .i64 v) = intL n (fun i => if i = c then v else f i) := by
  apply List.ext_getElem?
  intro i
  by_cases hi : i < n
  · rw [intL_get _ hi, List.getElem?_set, intL_len]
    by_cases e : c = i
    · subst e
      rw [if_pos rfl, if_pos hi, if_pos rfl]
    · rw [if_neg e, intL_get _ hi, if_neg (Ne.symm e)]
  · rw [List.getElem?_eq_none (by rw [List.length_set, intL_len]; omega), List.getElem?_eq_none (by rw [intL_len]; omega)]
theorem intL_rep (n : Nat) (v : Int) : List.replicate n (Value.int .i64 v) = intL n (fun _ => v) := by
  unfold intL
  rw [List.map_const', List.length_range]
/-- A block of bools told by a function. -/
def bolL (n : Nat) (f : Nat → Bool) : List Value := (List.range n).map fun i => .bool (f i)
theorem bolL_len (n : Nat) (f : Nat → Bool) : (bolL n f).length = n := by unfold bolL; rw [List.length_map, List.length_range]
theorem bolL_get {n : Nat} (f : Nat → Bool) {i : Nat} (h : i < n) : (bolL n f)[i]? = some (.bool (f i)) := by
  unfold bolL
  rw [List.getElem?_map, List.getElem?_range h]
  rfl
theorem bolL_ext {n : Nat} {f g : Nat → Bool} (h : ∀ i, i < n → f i = g i) : bolL n f = bolL n g := by
  unfold bolL
  exact List.map_congr_left fun i hi => by rw [h i (List.mem_range.1 hi)]
theorem bolL_set {n : Nat} (f : Nat → Bool) {c : Nat} (h : c < n) (v : Bool) : (bolL n f).set c (.bool v) = bolL n (fun i => if i = c then v else f i) := by
  apply List.ext_getElem?
  intro i
  by_cases hi : i < n
  · rw [bolL_get _ hi, List.getElem?_set, bolL_len]
    by_cases e : c = i
    · subst e
      rw [if_pos rfl, if_pos hi, if_pos rfl]
    · rw [if_neg e, bolL_get _ hi, if_neg (Ne.symm e)]
  · rw [List.getElem?_eq_none (by rw [List.length_set, bolL_len]; omega), List.getElem?_eq_none (by rw [bolL_len]; omega)]
theorem bolL_rep (n : Nat) (v : Bool) : List.replicate n (Value.bool v) = bolL n (fun _ => v) := by
  unfold bolL
  rw [List.map_const', List.length_range]
/-- Each block is inside or outside each member of the family, wholly. -/
theorem PI.wholly {pt : Int → List UInt8} {P : PSt} {Ls : List (List (Int × Int))} (h : PI pt P 196608) (hp : ∀ x y, 0 ≤ x → x ≤ 196607 → 0 ≤ y → y ≤ 196607 → (pt x = pt y ↔ ∀ l ∈ Ls, memB l x = memB l y)) {l : List (Int × Int)} (hl : l ∈ Ls) {x : Nat} (hx : x < 196608) : memB l (x : Int) = memB l (leaN P (ownN P pt x)) := by
  obtain ⟨y, h1, h2, h3, _⟩ := h.leaOwn (h.ownLt hx)
  rw [h2]
  refine (hp x y (by omega) (by omega) (by omega) (by omega)).1 ?_ l hl
  have h4 := h.ownGet hx
  have h5 := h.ownGet h1
  rw [h3, h4] at h5
  injection h5
/-- Some member tells two blocks apart. -/
theorem PI.apart {pt : Int → List UInt8} {P : PSt} {Ls : List (List (Int × Int))} (h : PI pt P 196608) (hp : ∀ x y, 0 ≤ x → x ≤ 196607 → 0 ≤ y → y ≤ 196607 → (pt x = pt y ↔ ∀ l ∈ Ls, memB l x = memB l y)) {b d : Nat} (hb : b < P.lists.length) (hd : d < b) : ∃ l ∈ Ls, memB l (leaN P b) ≠ memB l (leaN P d) := by
  obtain ⟨y, h1, h2, h3, _⟩ := h.leaOwn hb
  obtain ⟨z, k1, k2, k3, _⟩ := h.leaOwn (show d < P.lists.length by omega)
  rw [h2, k2]
  have hne : ¬ pt (y : Int) = pt (z : Int) := fun e => by
    have h4 := h.ownGet h1
    have h5 := h.ownGet k1
    rw [h3] at h4
    rw [k3, ← e] at h5
    have := nodup_at h.nodup h4 h5
    omega
  rw [hp _ _ (by omega) (by omega) (by omega) (by omega)] at hne
  simpa using hne
attribute [irreducible] intL bolL
end Go.Proofs.Qxb6500884a
