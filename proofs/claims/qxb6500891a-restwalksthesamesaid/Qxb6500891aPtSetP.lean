/- A path as it lies in memory. -/
import Derived.Test.Qxb6500891aPtSplit
namespace Go.Proofs.Qxb6500891a
open Go.RowKit
set_option linter.unusedSimpArgs false
set_option linter.unusedVariables false

def sub (l : List Nat) (a b : Nat) : List Nat := (l.drop a).take (b - a)
theorem sub_next {l : List Nat} {a j x : Nat} (ha : a ≤ j) (hx : l[j]? = some x) : sub l a (j + 1) = sub l a j ++ [x] := by
  unfold sub
  rw [show j + 1 - a = (j - a) + 1 by omega, List.take_add_one, List.getElem?_drop, show a + (j - a) = j by omega, hx]
  rfl
theorem sub_nil (l : List Nat) (a : Nat) : sub l a a = [] := by simp [sub]
theorem sub_len {l : List Nat} {a b : Nat} (h : b ≤ l.length) : (sub l a b).length = b - a := by simp [sub]; omega
theorem hash_next (h : Int) (l : List Nat) (x : Nat) : hashL h (l ++ [x]) = hB (hashL h l) x := by simp [hashL]
def cleanB (l : List Nat) : Prop := ∀ x ∈ l, x ≠ 0 ∧ x ≠ 47
theorem sub_drop {l : List Nat} {i j : Nat} (hij : i ≤ j) (hj : j ≤ l.length) : l.drop i = sub l i j ++ l.drop j := by
  unfold sub
  conv => lhs; rw [← List.take_append_drop (j - i) (l.drop i)]
  rw [List.drop_drop, show i + (j - i) = j by omega]
theorem split_slash {l : List Nat} {i : Nat} (h : l[i]? = some 47) : splitV (l.drop i) = splitV (l.drop (i + 1)) := by
  obtain ⟨hlt, he⟩ := List.getElem?_eq_some_iff.1 h
  rw [List.drop_eq_getElem_cons hlt, he, splitV_slash]
theorem split_word {l : List Nat} {i j : Nat} (hij : i < j) (hj : j ≤ l.length) (hc : cleanB (sub l i j)) (hend : j = l.length ∨ l[j]? = some 47) : splitV (l.drop i) = (sub l i j, decide (j < l.length)) :: splitV (l.drop j) := by
  have hn : sub l i j ≠ [] := fun e => by have := sub_len (l := l) (a := i) hj; rw [e] at this; simp at this; omega
  have h47 : ∀ x ∈ sub l i j, x ≠ 47 := fun x hx => (hc x hx).2
  rw [sub_drop (Nat.le_of_lt hij) hj]
  rcases hend with h | h
  · rw [List.drop_of_length_le (show l.length ≤ j by omega), List.append_nil, splitV_last hn h47, splitV_nil, decide_eq_false (by omega)]
  · obtain ⟨hlt, he⟩ := List.getElem?_eq_some_iff.1 h
    rw [split_slash h, List.drop_eq_getElem_cons hlt, he, splitV_word hn h47, decide_eq_true hlt]

structure Sp where
  a : Nat
  b : Nat
  cls : Int
  sl : Bool
def spC (l : List Nat) (s : Sp) : List Value := [.int .u8 (s.a : Int), .int .u8 (s.b : Int), .int .u8 s.cls, .bool s.sl, .int .u32 (hashL 2166136261 (sub l s.a s.b))]
structure SpOk (l : List Nat) (s : Sp) : Prop where
  lt : s.a < s.b
  le : s.b ≤ l.length
  sh : s.b - s.a ≤ 32
  cl : cleanB (sub l s.a s.b)
  cls : s.cls = clsL (sub l s.a s.b)
/-- The components laid so far, in the cells of a block from o on. -/
structure Comps (cs : List Value) (o : Nat) (l : List Nat) (sp : List Sp) : Prop where
  cell : ∀ i s, sp[i]? = some s → ∀ j v, (spC l s)[j]? = some v → cs[o + 257 + i * 5 + j]? = some v
  ok : ∀ s ∈ sp, SpOk l s
theorem Comps.nil (cs : List Value) (o : Nat) (l : List Nat) : Comps cs o l [] := ⟨fun i s h => by simp at h, fun s h => by cases h⟩
theorem splice_get {cs ns : List Value} {o j : Nat} {v : Value} (hv : ns[j]? = some v) (ho : o ≤ cs.length) : (splice cs o ns)[o + j]? = some v := by
  have hj := (List.getElem?_eq_some_iff.1 hv).1
  unfold splice
  rw [List.append_assoc, List.getElem?_append_right (by simp; omega), List.getElem?_append_left (by simp; omega)]
  rw [List.length_take, Nat.min_eq_left ho, show o + j - o = j by omega]
  exact hv
theorem splice_out {cs ns : List Value} {o i : Nat} (h : i < o ∨ o + ns.length ≤ i) (ho : o + ns.length ≤ cs.length) : (splice cs o ns)[i]? = cs[i]? := by
  unfold splice
  rcases h with h | h
  · rw [List.append_assoc, List.getElem?_append_left (by simp; omega), List.getElem?_take, if_pos h]
  · rw [List.append_assoc, List.getElem?_append_right (by simp; omega), List.getElem?_append_right (by simp; omega), List.getElem?_drop]
    congr 1
    simp
    omega
theorem splice_len {cs ns : List Value} {o : Nat} (ho : o + ns.length ≤ cs.length) : (splice cs o ns).length = cs.length := by
  unfold splice
  simp
  omega
theorem Comps.add {cs : List Value} {o : Nat} {l : List Nat} {sp : List Sp} (h : Comps cs o l sp) {s : Sp} (hs : SpOk l s) (hfit : o + 257 + sp.length * 5 + 5 ≤ cs.length) :
    Comps (splice cs (o + 257 + sp.length * 5) (spC l s)) o l (sp ++ [s]) := by
  have hl : (spC l s).length = 5 := rfl
  refine ⟨fun i s' hi j v hv => ?_, fun s' hs' => ?_⟩
  · have hj := (List.getElem?_eq_some_iff.1 hv).1
    have hj5 : (spC l s').length = 5 := rfl
    rcases Nat.lt_or_ge i sp.length with hlt | hge
    · rw [List.getElem?_append_left hlt] at hi
      rw [splice_out (.inl (by omega)) (by omega)]
      exact h.cell i s' hi j v hv
    · have hi2 : i = sp.length := by
        have := (List.getElem?_eq_some_iff.1 hi).1
        simp at this
        omega
      subst hi2
      rw [List.getElem?_append_right (Nat.le_refl _)] at hi
      simp at hi
      subst hi
      exact splice_get hv (by omega)
  · rcases List.mem_append.1 hs' with h' | h'
    · exact h.ok s' h'
    · simp at h'
      subst h'
      exact hs
/-- Cells that stay: all but those of the path at o. -/
def Same (cs ds : List Value) (o : Nat) : Prop := cs.length = ds.length ∧ (∀ i, i < o ∨ o + 897 ≤ i → ds[i]? = cs[i]?) ∧ ((∀ v ∈ cs, v.oneCell' = true) → ∀ v ∈ ds, v.oneCell' = true)
theorem Same.refl (cs : List Value) (o : Nat) : Same cs cs o := ⟨rfl, fun _ _ => rfl, fun h => h⟩
theorem one_set {cs : List Value} {k : Nat} {v : Value} (h : ∀ v ∈ cs, v.oneCell' = true) (h1 : v.oneCell' = true) : ∀ u ∈ cs.set k v, u.oneCell' = true := fun u hu => by
  rcases List.mem_or_eq_of_mem_set hu with h2 | h2
  · exact h u h2
  · rw [h2]; exact h1
theorem Same.splice {cs ds ns : List Value} {o k : Nat} (h : Same cs ds o) (h1 : o ≤ k) (h2 : k + ns.length ≤ o + 897) (h3 : o + 897 ≤ cs.length) (h4 : ∀ v ∈ ns, v.oneCell' = true) : Same cs (splice ds k ns) o := by
  have h0 := h.1
  refine ⟨by rw [splice_len (by omega)]; exact h.1, fun i hi => ?_, fun ho u hu => ?_⟩
  · rw [splice_out (by omega) (by omega)]
    exact h.2.1 i hi
  · unfold Go.Proofs.Qxb6500891a.splice at hu
    rcases List.mem_append.1 hu with h5 | h5
    · rcases List.mem_append.1 h5 with h6 | h6
      · exact h.2.2 ho u (List.mem_of_mem_take h6)
      · exact h4 u h6
    · exact h.2.2 ho u (List.mem_of_mem_drop h5)
theorem Same.set {cs ds : List Value} {o k : Nat} {v : Value} (h : Same cs ds o) (h1 : o ≤ k) (h2 : k < o + 897) (h3 : v.oneCell' = true) : Same cs (ds.set k v) o := by
  refine ⟨by simp [h.1], fun i hi => ?_, fun ho => one_set (h.2.2 ho) h3⟩
  rw [List.getElem?_set_ne (by omega)]
  exact h.2.1 i hi
theorem Comps.set {cs : List Value} {o : Nat} {l : List Nat} {sp : List Sp} {k : Nat} {v : Value} (h : Comps cs o l sp) (hk : k < o + 257) : Comps (cs.set k v) o l sp :=
  ⟨fun i s hi j u hu => by rw [List.getElem?_set_ne (by omega)]; exact h.cell i s hi j u hu, h.ok⟩
theorem Comps.splice {cs ns : List Value} {o : Nat} {l : List Nat} {sp : List Sp} {k : Nat} (h : Comps cs o l sp) (hk : k + ns.length ≤ o + 257) (hl : o + 257 ≤ cs.length) : Comps (splice cs k ns) o l sp :=
  ⟨fun i s hi j u hu => by rw [splice_out (.inr (by omega)) (by omega)]; exact h.cell i s hi j u hu, h.ok⟩

def vwS (l : List Nat) (s : Sp) : List Nat × Bool := (sub l s.a s.b, s.sl)
/-- The path of the bytes l, split as sp says. -/
structure PathOk (cs : List Value) (o : Nat) (l : List Nat) (sp : List Sp) : Prop where
  sz : cs[o + 255]? = some (.int .i64 (l.length : Int))
  ct : cs[o + 256]? = some (.int .i64 (sp.length : Int))
  raw : ∀ (k x : Nat), l[k]? = some x → cs[o + k]? = some (.int .u8 (x : Int))
  cp : Comps cs o l sp
  n255 : l.length ≤ 255
  n128 : sp.length ≤ 128
  bytes : ∀ x ∈ l, x < 256
  slash : ∀ i s, sp[i]? = some s → i + 1 < sp.length → s.sl = true
  vw : sp.map (vwS l) = splitV l
theorem ByteRow.sub {w : World} {b off n c : Nat} {l : List Nat} (h : ByteRow w (some ⟨b, off, none⟩) n c l) {i j : Nat} (hij : i < j) (hj : j ≤ n) : ByteRow w (some ⟨b, off + i, none⟩) (j - i) (c - i) (sub l i j) := by
  have hl := h.len
  have hc := h.1.2.1
  have hm := h.1.2.2.1
  refine ⟨⟨sub_len (by omega), by omega, ⟨by omega, by omega, fun e => by cases e⟩, fun k hk => ?_⟩, fun x hx => h.2 x (List.mem_of_mem_drop (List.mem_of_mem_take hx))⟩
  rw [sub_len (by omega)] at hk
  obtain ⟨x, hx, _, b', off', e, hb, cx⟩ := h.get (show i + k < n by omega)
  cases e
  refine ⟨b, off + i, rfl, hb, fun q hq => ?_⟩
  have : q = 0 := by omega
  subst this
  have hs : (Go.Proofs.Qxb6500891a.sub l i j)[k]? = some x := by
    unfold Go.Proofs.Qxb6500891a.sub
    rw [List.getElem?_take, if_pos (by omega), List.getElem?_drop]
    exact hx
  rw [(List.getElem_eq_iff _).2 hs, show off + i + k * 1 + 0 = off + (i + k) by omega]
  exact cx
end Go.Proofs.Qxb6500891a
