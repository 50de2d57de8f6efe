/- Roles of blocks, frames by roles, blocks as functions, rows of whatever elements that the world owns. Nothing here speaks of one program. -/
import Derived.Test.Qxb6500883aGreatDoorMapF
import Derived.Test.Qxb6500883aGreatDoorOwn
import Derived.KernelRfl
import Derived.WalkKit
import Derived.WalkSpells
namespace Go.Proofs.Qxb6500883aGreatDoor
open Go.RowKit
set_option linter.unusedSimpArgs false
set_option linter.unusedVariables false

/-- Roles of blocks: 0 is no role. -/
abbrev Rl := Nat → Nat
/-- Only blocks with a role in X are written; new ones may be made and given roles. -/
structure Fr (X : Nat → Bool) (ρ : Rl) (w : World) (ρ' : Rl) (w' : World) : Prop where
  os : w'.os = w.os
  tape : w'.tape = w.tape
  output : w'.output = w.output
  size : w.heap.size ≤ w'.heap.size
  old : ∀ g, g < w.heap.size → ρ' g = ρ g
  nw : ∀ g, w'.heap.size ≤ g → ρ' g = ρ g
  blk : ∀ g, g < w.heap.size → X (ρ g) = false → w'.heap[g]? = w.heap[g]?
theorem Fr.refl (X : Nat → Bool) (ρ : Rl) (w : World) : Fr X ρ w ρ w := ⟨rfl, rfl, rfl, Nat.le_refl _, fun _ _ => rfl, fun _ _ => rfl, fun _ _ _ => rfl⟩
theorem Fr.trans {X : Nat → Bool} {ρ ρ' ρ'' : Rl} {w w' w'' : World} (h : Fr X ρ w ρ' w') (k : Fr X ρ' w' ρ'' w'') : Fr X ρ w ρ'' w'' :=
  ⟨k.os.trans h.os, k.tape.trans h.tape, k.output.trans h.output, Nat.le_trans h.size k.size, fun g hg => (k.old g (Nat.lt_of_lt_of_le hg h.size)).trans (h.old g hg), fun g hg => (k.nw g hg).trans (h.nw g (Nat.le_trans k.size hg)), fun g hg h0 => (k.blk g (Nat.lt_of_lt_of_le hg h.size) (by rw [h.old g hg]; exact h0)).trans (h.blk g hg h0)⟩
theorem Fr.mono {X Y : Nat → Bool} {ρ ρ' : Rl} {w w' : World} (h : Fr X ρ w ρ' w') (hx : ∀ c, X c = true → Y c = true) : Fr Y ρ w ρ' w' :=
  ⟨h.os, h.tape, h.output, h.size, h.old, h.nw, fun g hg h0 => h.blk g hg (by cases e : X (ρ g) with | false => rfl | true => rw [hx _ e] at h0; cases h0)⟩
theorem Fr.below {X : Nat → Bool} {ρ : Rl} {w w' : World} (h : Below w.heap.size w w') : Fr X ρ w ρ w' := ⟨h.os, h.tape, h.output, h.size, fun _ _ => rfl, fun _ _ => rfl, fun g hg _ => h.block g hg⟩
theorem Fr.upd {X : Nat → Bool} {ρ : Rl} {w w' : World} {g : Nat} (h : Upd g w w') (hg : X (ρ g) = true) : Fr X ρ w ρ w' := ⟨h.os, h.tape, h.output, h.size, fun _ _ => rfl, fun _ _ => rfl, fun k hk h0 => h.block k hk (fun e => by rw [e, hg] at h0; cases h0)⟩
theorem Fr.set {X : Nat → Bool} {ρ : Rl} {w : World} {p : Addr} (v : Value) (hg : X (ρ p.block) = true) : Fr X ρ w ρ (w.setCell p v) := Fr.upd ((Upd.refl p.block w).setCell rfl v) hg
theorem Fr.alloc (X : Nat → Bool) (ρ : Rl) (w : World) (o : Obj) (c : Nat) : Fr X ρ w (fup ρ w.heap.size c) (w.alloc o) := by
  have hs : (w.alloc o).heap.size = w.heap.size + 1 := by simp
  exact ⟨rfl, rfl, rfl, by omega, fun g hg => fup_ne _ _ (by omega), fun g hg => fup_ne _ _ (by omega), fun g hg _ => Below.heap_alloc _ _ _ hg⟩
theorem Fr.dom {X : Nat → Bool} {ρ ρ' : Rl} {w w' : World} (h : Fr X ρ w ρ' w') (hd : ∀ g, ρ g ≠ 0 → g < w.heap.size) : ∀ g, ρ' g ≠ 0 → g < w'.heap.size := fun g hg => by
  rcases Nat.lt_or_ge g w'.heap.size with h1 | h1
  · exact h1
  · rw [h.nw g h1] at hg
    exact Nat.lt_of_lt_of_le (hd g hg) h.size
/-- What lies below the world's blocks stays. -/
theorem Fr.toBelow {X : Nat → Bool} {ρ ρ' : Rl} {w w' : World} {B : Nat} (h : Fr X ρ w ρ' w') (hB : B ≤ w.heap.size) (h0 : ∀ g, g < B → ρ g = 0) (hX : X 0 = false) : Below B w w' := ⟨h.os, h.tape, h.output, h.size, fun g hg => h.blk g (by omega) (by rw [h0 g hg]; exact hX)⟩
theorem Fr.keep {X : Nat → Bool} {ρ ρ' : Rl} {w w' : World} {g c : Nat} {t : TypeId} {cs : List Value} (h : Fr X ρ w ρ' w') (hb : Blk w g t cs) (hc : ρ g = c) (hX : X c = false) : Blk w' g t cs := hb.of (h.blk g hb.lt (by rw [hc]; exact hX))

/-- Cells told by a function. -/
def fnC (n : Nat) (f : Nat → Value) : List Value := (List.range n).map f
theorem fnC_len (n : Nat) (f : Nat → Value) : (fnC n f).length = n := by simp [fnC]
theorem fnC_get {n : Nat} (f : Nat → Value) {i : Nat} (h : i < n) : (fnC n f)[i]? = some (f i) := by simp [fnC, h]
theorem fnC_set {n : Nat} (f : Nat → Value) {i : Nat} (h : i < n) (v : Value) : (fnC n f).set i v = fnC n (fup f i v) := by
  apply List.ext_getElem?
  intro j
  by_cases hj : j = i
  · subst hj
    rw [List.getElem?_set_self (by rw [fnC_len]; exact h), fnC_get _ h, fup_self]
  · rw [List.getElem?_set_ne (fun e => hj e.symm)]
    by_cases hj2 : j < n
    · rw [fnC_get _ hj2, fnC_get _ hj2, fup_ne _ _ hj]
    · rw [List.getElem?_eq_none (by rw [fnC_len]; omega), List.getElem?_eq_none (by rw [fnC_len]; omega)]
theorem fnC_congr {n : Nat} {f g : Nat → Value} (h : ∀ i, i < n → f i = g i) : fnC n f = fnC n g := by
  unfold fnC
  apply List.map_congr_left
  intro i hi
  exact h i (List.mem_range.1 hi)
theorem fup_map {α : Type} (q : α → Value) (f : Nat → α) (k : Nat) (x : α) : fup (fun i => q (f i)) k (q x) = fun i => q (fup f k x i) := by
  funext i
  by_cases h : i = k
  · subst h; rw [fup_self, fup_self]
  · rw [fup_ne _ _ h, fup_ne _ _ h]

/-- A kind of row: the element's type, the slice's, cells and bytes of an element, its cells. -/
structure RK (α : Type) where
  t : TypeId
  s : TypeId
  n : Nat
  b : Nat
  f : α → List Value
structure RKok {α : Type} (P : Program) (K : RK α) : Prop where
  un : P.underlying K.s = some (.slice K.t)
  info : ∃ i z, P.info? K.t = some i ∧ i.zero = some z ∧ i.size = K.n ∧ i.bytes = K.b ∧ z.cells.size = K.n
  pos : 0 < K.n
  bpos : 0 < K.b
  len : ∀ x, (K.f x).length = K.n
  one : ∀ x, ∀ u ∈ K.f x, u.oneCell' = true
theorem RKok.one' {α : Type} {P : Program} {K : RK α} (h : RKok P K) (l : List α) : ∀ u ∈ l.flatMap K.f, u.oneCell' = true := by
  intro u hu
  obtain ⟨x, _, hx⟩ := List.mem_flatMap.1 hu
  exact h.one x u hx
theorem RKok.len' {α : Type} {P : Program} {K : RK α} (h : RKok P K) (l : List α) : (l.flatMap K.f).length = l.length * K.n := length_flatMap_const l (fun x _ => h.len x)
/-- A row that the world owns, in a block of role c. -/
structure RowX {α : Type} (K : RK α) (w : World) (ρ : Rl) (c : Nat) (v : Value) (xs : List α) : Prop where
  own : w.ownsRow 0 K.t K.n v xs.length (xs.flatMap K.f)
  role : ∀ g, v.ownBlock = some g → ρ g = c
section
variable {α : Type} {P : Program} {K : RK α} {w w' : World} {ρ ρ' : Rl} {c : Nat} {v v' : Value} {xs ys : List α}
theorem RowX.of (h : RowX K w ρ c v xs) (hb : ∀ g, g < w.heap.size → ρ g = c → w'.heap[g]? = w.heap[g]? ∧ ρ' g = ρ g) : RowX K w' ρ' c v xs := by
  obtain ⟨h1, h2⟩ := h
  obtain ⟨h3, h4⟩ := h1
  rcases h4 with ⟨rfl, h5⟩ | ⟨g, cap, cur, rfl, h5, h6, h7⟩
  · exact ⟨⟨h3, .inl ⟨rfl, h5⟩⟩, fun g hg => by cases hg⟩
  · have hr := h2 g rfl
    have hlt := (Array.getElem?_eq_some_iff.1 h6).1
    obtain ⟨e1, e2⟩ := hb g hlt hr
    exact ⟨⟨h3, .inr ⟨g, cap, cur, rfl, h5, by rw [e1]; exact h6, h7⟩⟩, fun g' hg' => by cases hg'; rw [e2]; exact hr⟩
theorem RowX.fr {X : Nat → Bool} (h : RowX K w ρ c v xs) (hf : Fr X ρ w ρ' w') (hX : X c = false) : RowX K w' ρ' c v xs := h.of (fun g hg hr => ⟨hf.blk g hg (by rw [hr]; exact hX), hf.old g hg⟩)
theorem RowX.nil (K : RK α) (w : World) (ρ : Rl) (c : Nat) : RowX K w ρ c (.slice none 0 0) [] := ⟨World.ownsRow_nil _ _ _ _, fun g hg => by cases hg⟩
theorem RowX.shape (h : RowX K w ρ c v xs) : ∃ a q, v = .slice a xs.length q := by
  rcases h.own.2 with ⟨rfl, h0⟩ | ⟨g, cap, cur, rfl, _⟩
  · rw [h0]; exact ⟨none, 0, rfl⟩
  · exact ⟨_, _, rfl⟩
theorem RowX.get (h : RowX K w ρ c v xs) (hp : 0 < K.n) (hl : ∀ x, (K.f x).length = K.n) {i : Nat} {x : α} (hx : xs[i]? = some x) : ∃ g q, v = .slice (some ⟨g, 0, none⟩) xs.length q ∧ g < w.heap.size ∧ ∀ j, j < K.n → w.cell? ⟨g, i * K.n + j, none⟩ = (K.f x)[j]? := by
  have hi := (List.getElem?_eq_some_iff.1 hx).1
  rcases h.own.2 with ⟨rfl, h0⟩ | ⟨g, cap, cur, rfl, _, hg, hn, hc, hs, ht⟩
  · omega
  · refine ⟨g, cap, rfl, (Array.getElem?_eq_some_iff.1 hg).1, fun j hj => ?_⟩
    have hlt : i * K.n + j < xs.length * K.n := by
      have : (i + 1) * K.n ≤ xs.length * K.n := Nat.mul_le_mul_right _ hi
      rw [Nat.add_mul, Nat.one_mul] at this; omega
    have e1 : (xs.flatMap K.f)[i * K.n + j]? = (K.f x)[j]? := by
      rw [getElem?_flatMap_const hp xs (fun x _ => hl x)]
      have d1 : (i * K.n + j) / K.n = i := by rw [Nat.mul_comm, Nat.mul_add_div hp, Nat.div_eq_of_lt hj]; omega
      have d2 : (i * K.n + j) % K.n = j := by rw [Nat.mul_comm, Nat.mul_add_mod, Nat.mod_eq_of_lt hj]
      rw [d1, d2, hx]; rfl
    rw [← e1, ← ht, List.getElem?_take, if_pos hlt]
    simp [World.cell?, hg]
/-- All the cells of a row, at its very address. -/
theorem RowX.src {ax : Option Addr} {n q : Nat} (h : RowX K w ρ c (.slice ax n q) xs) : (∀ ad, ax = some ad → ∀ j u, (xs.flatMap K.f)[j]? = some u → w.cell? (ad.add j) = some u) ∧ (ax = none → n = 0 ∧ q = 0) ∧ xs.length = n := by
  rcases h.own.2 with ⟨h0, h1⟩ | ⟨g, cap, cur, he, _, hg, hn, hc, hs, ht⟩
  · injection h0 with e1 e2 e3
    subst e1 e2 e3
    exact ⟨fun ad had => (by cases had), fun _ => ⟨rfl, rfl⟩, h1⟩
  · injection he with e1 e2 e3
    subst e1 e2 e3
    refine ⟨fun ad had j u hu => ?_, fun h => (by cases h), rfl⟩
    cases had
    exact h.own.cells rfl j u hu
theorem RowX.cap {ax : Option Addr} {n q : Nat} (h : RowX K w ρ c (.slice ax n q) xs) : q ≤ maxLen ∧ n ≤ q := by
  rcases h.own.2 with ⟨h0, h1⟩ | ⟨g, cap, cur, he, h5, hg, hn, hc, hs, ht⟩
  · injection h0 with e1 e2 e3
    subst e2 e3
    exact ⟨Nat.zero_le _, Nat.le_refl _⟩
  · injection he with e1 e2 e3
    subst e2 e3
    exact ⟨by omega, by omega⟩
/-- A beginning of the row. -/
theorem RowX.cut {ax : Option Addr} {n q : Nat} (h : RowX K w ρ c (.slice ax n q) xs) (hl : ∀ x, (K.f x).length = K.n) {j : Nat} (hj : j ≤ xs.length) : RowX K w ρ c (.slice ax j q) (xs.take j) := by
  have hll : (xs.take j).length = j := by rw [List.length_take]; omega
  have hfl : ((xs.take j).flatMap K.f).length = j * K.n := by rw [length_flatMap_const _ (fun x _ => hl x), hll]
  rcases h.own.2 with ⟨h0, h1⟩ | ⟨g', cap, cur, he, h5, hg, hn, hc, hs, ht⟩
  · injection h0 with e1 e2 e3
    subst e1 e2 e3
    obtain rfl : j = 0 := by omega
    exact ⟨⟨by rw [hfl, hll], .inl ⟨rfl, hll⟩⟩, fun g hg => by cases hg⟩
  · injection he with h1 h2 h3
    subst h1 h2 h3
    refine ⟨⟨by rw [hfl, hll], .inr ⟨g', q, cur, by rw [hll], h5, hg, by omega, hc, hs, ?_⟩⟩, fun g' hg' => h.role g' hg'⟩
    rw [hll]
    have e1 : (xs.take j).flatMap K.f = (xs.flatMap K.f).take (j * K.n) := by
      have e2 : xs.flatMap K.f = (xs.take j).flatMap K.f ++ (xs.drop j).flatMap K.f := by rw [← List.flatMap_append, List.take_append_drop]
      rw [e2, List.take_left' hfl]
    rw [e1, ← ht, List.take_take]
    congr 1
    have : j * K.n ≤ xs.length * K.n := Nat.mul_le_mul_right _ hj
    omega
/-- A row has grown. -/
theorem RowX.grow (h : RowX K w ρ c v xs) (ho : w'.ownsRow 0 K.t K.n v' (xs.length + ys.length) (xs.flatMap K.f ++ ys.flatMap K.f)) (hB : Below 0 w w')
    (hk : ∀ k, k < w.heap.size → (∀ g, v.ownBlock = some g → k ≠ g) → w'.heap[k]? = w.heap[k]?) (hg : ∀ g, v'.ownBlock = some g → v.ownBlock = some g ∨ g = w.heap.size) :
    ∃ ρ' : Rl, RowX K w' ρ' c v' (xs ++ ys) ∧ Fr (fun r => r == c) ρ w ρ' w' ∧ (∀ g, v'.ownBlock = some g → v.ownBlock = some g ∨ w.heap.size ≤ g) ∧ (∀ k, k < w.heap.size → (∀ g, v.ownBlock = some g → k ≠ g) → w'.heap[k]? = w.heap[k]?) := by
  refine ⟨fun g => if v'.ownBlock = some g then c else ρ g, ⟨?_, fun g hg' => by rw [if_pos hg']⟩, ⟨hB.os, hB.tape, hB.output, hB.size, fun g hg' => ?_, fun g hg' => ?_, fun g hg' hne => hk g hg' (fun g' hg2 e => by rw [e, h.role g' hg2] at hne; simp at hne)⟩, fun g h1 => ?_, hk⟩
  · rw [List.length_append, List.flatMap_append]
    exact ho
  · show (if v'.ownBlock = some g then c else ρ g) = _
    by_cases hb : v'.ownBlock = some g
    · rw [if_pos hb]
      rcases hg g hb with h1 | h1
      · exact (h.role g h1).symm
      · omega
    · rw [if_neg hb]
  · show (if v'.ownBlock = some g then c else ρ g) = _
    by_cases hb : v'.ownBlock = some g
    · have := (ho.lt g hb).2; omega
    · rw [if_neg hb]
  · rcases hg g h1 with h2 | h2
    · exact .inl h2
    · exact .inr (by omega)
/-- Elements appended to a row. -/
theorem wpList_app_x {ops : Array Oper} {rest : List Oper} {o : Oper} {a : Act} {Q : Exit → Act → World → Prop} (hK : RKok P K) (hgd : o.guard = none) (s x : Operand) (hA : RowX K w ρ c v xs)
    (ho : o.op = .call { callee := .builtin .append, args := #[s, x], argTypes := #[K.s, K.s] })
    (ys : List α) (hs : a.eval s = v) (ax : Option Addr) (n k : Nat) (hx : a.eval x = .slice ax n k) (hm : ys.length = n) (hm0 : ax = none → n = 0 ∧ k = 0)
    (hnews : ∀ ad, ax = some ad → ∀ j u, (ys.flatMap K.f)[j]? = some u → w.cell? (ad.add j) = some u) (hb : (xs.length + n) * K.b ≤ 140737488355328)
    (h : ∀ v' w' ρ', Hid (RowX K w' ρ' c v' (xs ++ ys)) → Hid (Fr (fun r => r == c) ρ w ρ' w') → (∀ g, v'.ownBlock = some g → v.ownBlock = some g ∨ w.heap.size ≤ g) → Hid (∀ k, k < w.heap.size → (∀ g, v.ownBlock = some g → k ≠ g) → w'.heap[k]? = w.heap[k]?) → wpList P ops Q rest (a.put o.dst v') w') : wpList P ops Q (o :: rest) a w := by
  obtain ⟨i0, z0, hi, hz0, hz1, hz2, hz3⟩ := hK.info
  subst hm
  refine wpList_append_row w hgd s x K.s ho 0 K.t i0 z0 K.n K.b hK.un hi hz0 hz1 hz2 hz3 hK.pos v xs.length (xs.flatMap K.f) hs hA.own ax ys.length k (ys.flatMap K.f) hx (hK.len' ys) hm0 hnews (hK.one' ys) hb hK.bpos (Nat.zero_le _) ?_
  intro v' w' h1 h2 h3 h4
  obtain ⟨ρ', r1, r2, r3, r4⟩ := hA.grow h1 h2 h3 h4
  exact h v' w' ρ' (hid r1) (hid r2) r3 (hid r4)
theorem newX (K : RK α) (W : World) (x : α) (g : Nat) (hg : g = W.heap.size) : ∀ ad, some (⟨g, 0, none⟩ : Addr) = some ad → ∀ j u, ([x].flatMap K.f)[j]? = some u → (W.alloc (.cells (K.f x).toArray K.t)).cell? (ad.add j) = some u := by
  have : [x].flatMap K.f = K.f x := by simp
  rw [this]
  exact newRow W (K.f x) K.t g hg
end
theorem nbel (w : World) (o : Obj) : Below w.heap.size w (w.alloc o) := Below.alloc (Below.refl _ _) (Nat.le_refl _) _
end Go.Proofs.Qxb6500883aGreatDoor
