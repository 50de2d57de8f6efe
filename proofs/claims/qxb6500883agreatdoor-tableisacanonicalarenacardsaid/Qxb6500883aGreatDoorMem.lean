/- Slices that came in, read as lists: shared by the laws of the seats. Nothing here speaks of one program. -/
import Derived.ProofKit
import Derived.ChangeArms
import Derived.ChangeSlices
import Derived.Laws.Rows
import Derived.Below
import Derived.SizedLaws
namespace Go.Proofs.Qxb6500883aGreatDoor
open Go.RowKit

/-- Keep a fact from the walk, under its own name. -/
theorem hid {p : Prop} (h : p) : Hid p := h

/-- The slice value '.slice a n c' leads to a row of elements of 'sz' cells each, whose cells are what 'f' says of the members of 'l'. -/
def RowOf {α : Type} (w : World) (sz : Nat) (f : α → List Value) (a : Option Addr) (n c : Nat) (l : List α) : Prop :=
  l.length = n ∧ n ≤ c ∧ (n ≤ 140737488351232 ∧ c ≤ maxLen ∧ (a = none → c = 0)) ∧ ∀ i (h : i < l.length), ∃ b off, a = some ⟨b, off, none⟩ ∧ b < w.heap.size ∧ ∀ j, j < sz → w.cell? ⟨b, off + i * sz + j, none⟩ = (f l[i])[j]?

theorem RowOf.below {α : Type} {w w' : World} {sz : Nat} {f : α → List Value} {a : Option Addr} {n c : Nat} {l : List α} (h : RowOf w sz f a n c l) (hb : Below w.heap.size w w') : RowOf w' sz f a n c l := by
  refine ⟨h.1, h.2.1, h.2.2.1, fun i hi => ?_⟩
  obtain ⟨b, off, ha, hlt, hc⟩ := h.2.2.2 i hi
  exact ⟨b, off, ha, Nat.lt_of_lt_of_le hlt hb.size, fun j hj => by rw [hb.cell hlt]; exact hc j hj⟩

theorem choose_below {α : Type} [Inhabited α] {n : Nat} {p : Nat → α → Prop} (h : ∀ i, i < n → ∃ x, p i x) : ∃ f : Nat → α, ∀ i, i < n → p i (f i) := by
  classical
  refine ⟨fun i => if hi : i < n then Classical.choose (h i hi) else default, fun i hi => ?_⟩
  simp only [dif_pos hi]
  exact Classical.choose_spec (h i hi)

theorem addr_add_block (a : Addr) (n : Nat) : (a.add n).block = a.block := by unfold Addr.add; split <;> rfl

theorem addr_add_add (a : Addr) (i j : Nat) : (a.add i).add j = a.add (i + j) := by
  unfold Addr.add
  by_cases hi : i = 0 <;> by_cases hj : j = 0 <;> simp [hi, hj, Nat.add_assoc]

theorem RowOf.len {α : Type} {w : World} {sz : Nat} {f : α → List Value} {a : Option Addr} {n c : Nat} {l : List α} (h : RowOf w sz f a n c l) : l.length = n := h.1
theorem RowOf.nil {α : Type} {w : World} {sz : Nat} {f : α → List Value} {a : Option Addr} {n c : Nat} {l : List α} (h : RowOf w sz f a n c l) (ha : a = none) : n = 0 ∧ c = 0 := by
  have h1 := h.2.1
  have h2 := h.2.2.1.2.2 ha
  omega
theorem RowOf.cell {α : Type} {w : World} {sz : Nat} {f : α → List Value} {a : Option Addr} {n c : Nat} {l : List α} (h : RowOf w sz f a n c l) {k : Nat} (hk : k < n) :
    ∃ x, l[k]? = some x ∧ ∃ b off, a = some ⟨b, off, none⟩ ∧ b < w.heap.size ∧ ∀ j, j < sz → w.cell? ⟨b, off + k * sz + j, none⟩ = (f x)[j]? := by
  have hk' : k < l.length := by rw [h.1]; exact hk
  exact ⟨l[k], List.getElem?_eq_getElem hk', h.2.2.2 k hk'⟩
theorem RowOf.cell1 {α : Type} {w : World} {f : α → List Value} {a : Option Addr} {n c : Nat} {l : List α} (h : RowOf w 1 f a n c l) {k : Nat} (hk : k < n) :
    ∃ x, l[k]? = some x ∧ ∃ b off, a = some ⟨b, off, none⟩ ∧ b < w.heap.size ∧ w.cell? ⟨b, off + k, none⟩ = (f x)[0]? := by
  obtain ⟨x, hx, b, off, ha, hb, hc⟩ := h.cell hk
  exact ⟨x, hx, b, off, ha, hb, by simpa using hc 0 (by omega)⟩

section
variable {H : Type} {enc : TypeId × Value → H} {P : Program} {w : World} {base : Nat} {spare : Nat → Bool} {held : Bool}

/-- Every string, slice and map of the datum lies within the form's own reach. -/
def Sz (P : Program) (t : TypeId) (d : DataW H) : Prop := ∀ n ∈ d.weights P t, n ≤ reachBytes

theorem weights_all_mem {e : TypeId} : ∀ {ds : List (DataW H)} {d : DataW H}, d ∈ ds → ∀ n ∈ d.weights P e, n ∈ DataW.weightsAll P e ds
  | d0 :: ds, d, hd, n, hn => by
    simp only [DataW.weightsAll, List.mem_append]
    rcases List.mem_cons.1 hd with rfl | hd
    · exact .inl hn
    · exact .inr (weights_all_mem hd n hn)

theorem Sz.elem {t e : TypeId} {elems rest : List (DataW H)} (ht : P.underlying t = some (.slice e)) (h : Sz P t (.slice elems rest)) {d : DataW H} (hd : d ∈ elems) : Sz P e d := fun n hn =>
  h n (by simp only [DataW.weights, ht]; exact List.mem_cons_of_mem _ (List.mem_append_left _ (weights_all_mem hd n hn)))

theorem Sz.len {t e : TypeId} {elems rest : List (DataW H)} (ht : P.underlying t = some (.slice e)) (h : Sz P t (.slice elems rest)) (hb : 0 < P.bytesOf e) : elems.length ≤ 140737488351232 := by
  have := h _ (by simp only [DataW.weights, ht]; exact List.mem_cons_self)
  have h2 := Nat.le_mul_of_pos_right (elems.length + rest.length) hb
  unfold reachBytes at this
  omega

theorem Sz.field {t : TypeId} {fs : Array Field} {parts : List (DataW H)} (ht : P.underlying t = some (.struct fs)) (h : Sz P t (.agg parts)) {i : Nat} {f : Field} {d : DataW H} (hf : fs[i]? = some f) (hd : parts[i]? = some d) : Sz P f.type d := fun n hn =>
  h n (by
    simp only [DataW.weights, ht]
    exact DataW.weights_mem_each (j := i) (t := f.type) (by rw [List.getElem?_map, Array.getElem?_toList, hf]; rfl) hd n hn)

theorem Sz.string {t : TypeId} {s : ByteArray} (h : Sz P t (.lit (.string s.data.toList) : DataW H)) : s.size ≤ 140737488351232 := by
  have := h s.data.toList.length (by simp [DataW.weights])
  simpa [reachBytes] using this

/-- A slice opened: its value; every element's cells and the element's own reading. -/
theorem open_rows {t e : TypeId} {fuel sz : Nat} {cs : List Value} {x : DataW H × List MemPlace} (ht : P.underlying t = some (.slice e)) (hc : P.cellsOf e = sz) (hsz : 0 < sz) (hby : 0 < P.bytesOf e) (h : DataW.trod enc P w base spare held fuel t cs = some x) (hw : Sz P t x.1) :
    ∃ (a : Option Addr) (len cap : Nat), cs = [.slice a len cap] ∧ len ≤ cap ∧ (len ≤ 140737488351232 ∧ cap ≤ maxLen ∧ (a = none → cap = 0)) ∧ ∀ i, i < len → ∃ b off, a = some ⟨b, off, none⟩ ∧ b < w.heap.size ∧ ∃ cs' fl y, cs'.length = sz ∧ (∀ j, j < sz → w.cell? ⟨b, off + i * sz + j, none⟩ = cs'[j]?) ∧ DataW.trod enc P w base spare held fl e cs' = some y ∧ Sz P e y.1 := by
  rcases DataW.trod_slice ht h with ⟨rfl, _⟩ | ⟨a, len, cap, elems, rest, n, _, rfl, rfl, _, hl, hm, hlen, hel, _, _⟩
  · exact ⟨none, 0, 0, rfl, Nat.le_refl _, ⟨Nat.zero_le _, Nat.zero_le _, fun _ => rfl⟩, fun i hi => absurd hi (Nat.not_lt_zero _)⟩
  · have hx : ∀ i, i < len → ∃ cs' y, w.cells? base (a.add (i * P.cellsOf e)) (P.cellsOf e) = some cs' ∧ DataW.trod enc P w base spare held n e cs' = some y ∧ Sz P e y.1 := fun i hi => by
      have := hel i hi
      rw [List.getElem?_eq_getElem (by omega)] at this
      obtain ⟨cs', h1, h2⟩ := Option.bind_eq_some_iff.1 this
      exact ⟨cs', _, h1, h2, hw.elem ht (List.mem_map_of_mem (List.getElem_mem _))⟩
    have hrl : len ≤ 140737488351232 := by have := hw.len ht hby; simpa [hlen] using this
    refine ⟨some a, len, cap, rfl, hl, ⟨hrl, hm, fun h => by cases h⟩, fun i hi => ?_⟩
    obtain ⟨cs', y, h1, h2, h3⟩ := hx i hi
    rw [hc] at h1
    obtain ⟨_, hlen', hcell⟩ := World.cells?_some h1
    have h0 := hcell 0 hsz
    obtain ⟨v, hv⟩ : ∃ v, cs'[0]? = some v := ⟨_, List.getElem?_eq_getElem (by omega)⟩
    rw [hv] at h0
    have hblk := block_lt_of_cell h0
    obtain ⟨b, off, spot⟩ := a
    have hspot : spot = none := by
      obtain ⟨cs0, _, g1, _, _⟩ := hx 0 (by omega)
      rw [hc] at g1
      obtain ⟨_, hl0, hc0⟩ := World.cells?_some g1
      have g0 := hc0 0 hsz
      obtain ⟨v', hv'⟩ : ∃ v, cs0[0]? = some v := ⟨_, List.getElem?_eq_getElem (by omega)⟩
      rw [hv'] at g0
      simpa [Addr.add] using World.cell?_spot g0
    subst hspot
    refine ⟨b, off, rfl, ?_, cs', n, y, hlen', fun j hj => ?_, h2, h3⟩
    · rw [addr_add_block, addr_add_block] at hblk; exact hblk
    · rw [← hcell j hj, addr_add_add]
      congr 1
      unfold Addr.add
      split
      · simp; omega
      · simp [Nat.add_assoc]

/-- From 'each element reads as some x' to a list. -/
theorem row_list {α : Type} [Inhabited α] {len sz : Nat} {a : Option Addr} {cap : Nat} {f : α → List Value} {q : α → Prop} (hl : len ≤ cap) (hm : len ≤ 140737488351232 ∧ cap ≤ maxLen ∧ (a = none → cap = 0))
    (h : ∀ i, i < len → ∃ x : α, (∃ b off, a = some ⟨b, off, none⟩ ∧ b < w.heap.size ∧ ∀ j, j < sz → w.cell? ⟨b, off + i * sz + j, none⟩ = (f x)[j]?) ∧ q x) :
    ∃ l : List α, RowOf w sz f a len cap l ∧ ∀ x ∈ l, q x := by
  obtain ⟨g, hg⟩ := choose_below h
  refine ⟨(List.range len).map g, ⟨by simp, hl, hm, fun i hi => ?_⟩, fun x hx => ?_⟩
  · simp at hi ⊢
    exact (hg i hi).1
  · simp at hx
    obtain ⟨i, hi, rfl⟩ := hx
    exact (hg i hi).2

end

end Go.Proofs.Qxb6500883aGreatDoor
