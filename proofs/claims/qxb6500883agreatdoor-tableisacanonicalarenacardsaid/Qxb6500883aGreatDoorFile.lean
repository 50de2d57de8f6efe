/- A slice of one-cell elements in a block, from whatever place in it on; append of one element. Nothing here speaks of one program. -/
import Derived.Test.Qxb6500883aGreatDoorRoom
import Derived.Deep.AppendSrc
namespace Go.Proofs.Qxb6500883aGreatDoor
open Go.RowKit
set_option linter.unusedSimpArgs false
set_option linter.unusedVariables false

/-- nil, or a part of a block: its elements, and room behind them. -/
structure Fl (w : World) (e : TypeId) (a : Option Addr) (n c : Nat) (xs : List Value) : Prop where
  len : xs.length = n
  le : n ≤ c
  mx : c ≤ maxLen
  out : (a = none ∧ c = 0) ∨ ∃ g off cs, a = some ⟨g, off, none⟩ ∧ Blk w g e cs ∧ off + c ≤ cs.length ∧ ∀ i, i < n → cs[off + i]? = xs[i]?
def blkO (a : Option Addr) : Option Nat := a.map (·.block)
/-- All blocks that stood are as they were, but for one at most. -/
structure UpdO (o : Option Nat) (w w' : World) : Prop where
  os : w'.os = w.os
  tape : w'.tape = w.tape
  output : w'.output = w.output
  size : w.heap.size ≤ w'.heap.size
  block : ∀ k, k < w.heap.size → o ≠ some k → w'.heap[k]? = w.heap[k]?
theorem UpdO.refl (o : Option Nat) (w : World) : UpdO o w w := ⟨rfl, rfl, rfl, Nat.le_refl _, fun _ _ _ => rfl⟩
theorem UpdO.blk {o : Option Nat} {w w' : World} (h : UpdO o w w') {g : Nat} {t : TypeId} {cs : List Value} (hb : Blk w g t cs) (hne : o ≠ some g) : Blk w' g t cs := by
  unfold Blk
  rw [h.block g hb.lt hne]
  exact hb
theorem UpdO.below {o : Option Nat} {w w' : World} (h : UpdO o w w') {B : Nat} (hB : B ≤ w.heap.size) (ho : ∀ k, o = some k → B ≤ k) : Below B w w' :=
  ⟨h.os, h.tape, h.output, h.size, fun k hk => h.block k (by omega) (fun e => by have := ho k e; omega)⟩
theorem Fl.ty {w : World} {e : TypeId} {a : Option Addr} {n c : Nat} {xs : List Value} (h : Fl w e a n c xs) : ∀ k, blkO a = some k → ∃ cs, Blk w k e cs := fun k hk => by
  rcases h.out with ⟨rfl, _⟩ | ⟨g, off, cs, rfl, hb, _⟩
  · cases hk
  · cases hk
    exact ⟨cs, hb⟩
theorem Fl.ne {w : World} {e t : TypeId} {a : Option Addr} {n c g : Nat} {xs ds : List Value} (h : Fl w e a n c xs) (hb : Blk w g t ds) (hne : e ≠ t) : blkO a ≠ some g := fun hk => by
  obtain ⟨cs, hc⟩ := h.ty g hk
  unfold Blk at hb hc
  rw [hb] at hc
  injection hc with h1
  injection h1 with _ h2
  exact hne h2.symm
theorem Fl.of {w w' : World} {e : TypeId} {a : Option Addr} {n c : Nat} {xs : List Value} (h : Fl w e a n c xs) (hk : ∀ k cs, blkO a = some k → Blk w k e cs → Blk w' k e cs) : Fl w' e a n c xs := by
  refine ⟨h.len, h.le, h.mx, ?_⟩
  rcases h.out with h1 | ⟨g, off, cs, rfl, hb, h2, h3⟩
  · exact .inl h1
  · exact .inr ⟨g, off, cs, rfl, hk g cs rfl hb, h2, h3⟩
theorem Fl.below {w w' : World} {e : TypeId} {a : Option Addr} {n c : Nat} {xs : List Value} (h : Fl w e a n c xs) (hb : Below w.heap.size w w') : Fl w' e a n c xs := h.of fun k cs _ hc => hc.below hb
theorem Fl.updO {w w' : World} {e : TypeId} {a : Option Addr} {n c : Nat} {xs : List Value} {o : Option Nat} (h : Fl w e a n c xs) (hu : UpdO o w w') (hne : ∀ k, blkO a = some k → o ≠ some k) : Fl w' e a n c xs := h.of fun k cs hk hc => hu.blk hc (hne k hk)
theorem Fl.cell {w : World} {e : TypeId} {a : Option Addr} {n c : Nat} {xs : List Value} (h : Fl w e a n c xs) {i : Nat} (hi : i < n) : ∃ g off, a = some ⟨g, off, none⟩ ∧ w.cell? ⟨g, off + i, none⟩ = xs[i]? := by
  rcases h.out with ⟨_, h1⟩ | ⟨g, off, cs, rfl, hb, h2, h3⟩
  · have := h.le; omega
  · exact ⟨g, off, rfl, by rw [hb.cell]; exact h3 i hi⟩
theorem Fl.nil (w : World) (e : TypeId) : Fl w e none 0 0 [] := ⟨rfl, Nat.le_refl _, by unfold maxLen; omega, .inl ⟨rfl, rfl⟩⟩
theorem Fl.made {w : World} {e : TypeId} {g n : Nat} {xs : List Value} (hb : Blk w g e xs) (hn : xs.length = n) (hm : n ≤ maxLen) : Fl w e (some ⟨g, 0, none⟩) n n xs :=
  ⟨hn, Nat.le_refl _, hm, .inr ⟨g, 0, xs, rfl, hb, by omega, fun i _ => by rw [Nat.zero_add]⟩⟩
theorem Fl.room {w : World} {e : TypeId} {g n : Nat} {xs : List Value} (hb : Blk w g e xs) (hn : xs.length = n) (hm : n ≤ maxLen) : Fl w e (some ⟨g, 0, none⟩) 0 n [] :=
  ⟨rfl, Nat.zero_le _, hm, .inr ⟨g, 0, xs, rfl, hb, by omega, fun i hi => by omega⟩⟩
/-- Without its first. -/
theorem Fl.tail {w : World} {e : TypeId} {g off n c : Nat} {x : Value} {xs : List Value} (h : Fl w e (some ⟨g, off, none⟩) (n + 1) c (x :: xs)) : Fl w e (some ⟨g, off + 1, none⟩) n (c - 1) xs := by
  have h1 := h.le
  have h2 := h.mx
  have h3 := h.len
  refine ⟨by simpa using h3, by omega, by omega, ?_⟩
  rcases h.out with ⟨h4, _⟩ | ⟨g', off', cs, he, hb, h5, h6⟩
  · cases h4
  · cases he
    refine .inr ⟨g, off + 1, cs, rfl, hb, by omega, fun i hi => ?_⟩
    have := h6 (i + 1) (by omega)
    rw [List.getElem?_cons_succ] at this
    rw [← this]
    congr 1
    omega
section
variable {P : Program} {w : World}
theorem run_append_file (t ty e : TypeId) (i : TypeInfo) (z : Value) (bytes : Nat) (ht : P.underlying t = some (.slice e)) (hi : P.info? e = some i) (hz : i.zero = some z) (hsize : i.size = 1) (hby : i.bytes = bytes) (hzs : z.cells.size = 1)
    (a : Option Addr) (n c : Nat) (xs : List Value) (hF : Fl w e a n c xs) (g : Nat) (u : Value) (hu : w.cell? ⟨g, 0, none⟩ = some u) (h1 : u.oneCell' = true) (m : Nat) (hbytes : (n + 1) * bytes ≤ 140737488355328) (hb1 : 0 < bytes) :
    ∃ a' c' w', (Builtin.append_ #[t, t] ty #[.slice a n c, .slice (some ⟨g, 0, none⟩) 1 m]).run P w = .ok (.slice a' (n + 1) c') w' ∧ Fl w' e a' (n + 1) c' (xs ++ [u]) ∧ UpdO (blkO a) w w' ∧ (blkO a' = blkO a ∨ blkO a' = some w.heap.size) ∧ a' ≠ none := by
  subst hby
  have hle := Nat.le_mul_of_pos_right (n + 1) hb1
  have h63 : n + 1 ≤ maxLen := by unfold maxLen; omega
  have hn1 : ([u] : List Value).length = 1 * i.size := by rw [hsize]; rfl
  have hnews : ∀ j v, ([u] : List Value)[j]? = some v → w.cell? ((⟨g, 0, none⟩ : Addr).add j) = some v := fun j v hj => by
    cases j with
    | zero =>
      simp at hj
      subst hj
      simpa [Addr.add] using hu
    | succ j => simp at hj
  have hlen := hF.len
  rcases hF.out with ⟨rfl, rfl⟩ | ⟨b, off, cs, rfl, hb, h2, h3⟩
  · have hn0 : n = 0 := by have := hF.le; omega
    subst hn0
    have hx : xs = [] := List.eq_nil_of_length_eq_zero hlen
    subst hx
    have hr := run_append_nil (P := P) w t ty e i z ht hi hz ⟨g, 0, none⟩ 1 m [u] hn1 hnews (by omega) (by omega) (by simp at hbytes; omega)
    have h5 := size_zeroCells z.cells (grownCap w 1 0 e - 1)
    have h6 := grownCap_ge w 1 0 e
    have h7 := grownCap_le_maxLen w 1 0 e h63
    generalize grownCap w 1 0 e = gc at hr h5 h6 h7
    obtain ⟨Z, hZ⟩ : ∃ Z : List Value, Builtin.zeroCells z.cells (gc - 1) = Z.toArray := ⟨(Builtin.zeroCells z.cells (gc - 1)).toList, by simp⟩
    rw [hZ, show ([u].toArray ++ Z.toArray) = (u :: Z).toArray by simp] at hr
    rw [hZ, hzs] at h5
    simp at h5
    refine ⟨_, _, _, hr, ⟨rfl, h6, h7, .inr ⟨w.heap.size, 0, _, rfl, Blk.new w.drew (u :: Z) e, by simp; omega, fun i hi => ?_⟩⟩, ⟨rfl, rfl, rfl, by simp, fun k hk _ => Below.heap_alloc w.drew _ _ hk⟩, .inr rfl, by simp⟩
    have : i = 0 := by omega
    subst this
    simp
  · by_cases hroom : n + 1 ≤ c
    · have hcell : ∀ j, j < ([u] : List Value).length → (w.cell? ⟨b, off + n * i.size + j, none⟩).isSome = true := fun j hj => by
        rw [hb.cell, hsize]
        simp at hj
        simp
        omega
      have hfr : ∀ j, j < ([u] : List Value).length → w.frozen? ⟨b, off + n * i.size + j, none⟩ = false := fun j hj => hb.frozen _
      have hs : Src P i.size t (.slice (some ⟨g, 0, none⟩) 1 m) 1 [u] w := Src.ofSlice w ht ⟨g, 0, none⟩ 1 m [u] hn1 hnews (fun v hv => by simp at hv; subst hv; exact h1)
      have hr := run_append_room_src (P := P) w t t ty e i ht hi b off n c _ 1 [u] hs hroom hcell hfr
      rw [hsize, Nat.mul_one] at hr
      have hsc : w.setCells b (off + n) [u] = w.setCell ⟨b, off + n, none⟩ u := by simp [World.setCells]
      rw [hsc] at hr
      refine ⟨_, _, _, hr, ⟨by simp [hlen], hroom, hF.mx, .inr ⟨b, off, cs.set (off + n) u, rfl, hb.set (off + n) u, by simpa using h2, fun j hj => ?_⟩⟩, ⟨rfl, rfl, rfl, by simp [World.setCell], fun k hk hne => Below.heap_setCell _ _ _ _ (fun e => hne (by simp [blkO]; exact e.symm))⟩, .inl rfl, by simp⟩
      by_cases hjn : j = n
      · subst hjn
        rw [List.getElem?_set_self (by omega), List.getElem?_append_right (by omega)]
        simp [hlen]
      · rw [List.getElem?_set_ne (by omega), h3 j (by omega), List.getElem?_append_left (by omega)]
    · have holds : ∀ j v, xs[j]? = some v → w.cell? ((⟨b, off, none⟩ : Addr).add j) = some v := fun j v hj => by
        have hlt := (List.getElem?_eq_some_iff.1 hj).1
        have e1 : (⟨b, off, none⟩ : Addr).add j = ⟨b, off + j, none⟩ := by unfold Addr.add; split <;> simp_all
        rw [e1, hb.cell, h3 j (by omega), hj]
      have hr := run_append_grow (P := P) w t ty e i z ht hi hz ⟨b, off, none⟩ n c xs (by rw [hsize, Nat.mul_one]; exact hlen) holds ⟨g, 0, none⟩ 1 m [u] hn1 hnews (by omega) (by omega) (growslice_fits (by have := hF.le; omega) hbytes)
      have h5 := size_zeroCells z.cells (grownCap w (n + 1) c e - (n + 1))
      have h6 := grownCap_ge w (n + 1) c e
      have h7 := grownCap_le_maxLen w (n + 1) c e h63
      generalize grownCap w (n + 1) c e = gc at hr h5 h6 h7
      obtain ⟨Z, hZ⟩ : ∃ Z : List Value, Builtin.zeroCells z.cells (gc - (n + 1)) = Z.toArray := ⟨(Builtin.zeroCells z.cells (gc - (n + 1))).toList, by simp⟩
      rw [hZ, show (xs.toArray ++ [u].toArray ++ Z.toArray) = (xs ++ [u] ++ Z).toArray by simp] at hr
      rw [hZ, hzs] at h5
      simp at h5
      refine ⟨_, _, _, hr, ⟨by simp [hlen], h6, h7, .inr ⟨w.heap.size, 0, _, rfl, Blk.new w.drew (xs ++ [u] ++ Z) e, by simp [hlen]; omega, fun j hj => ?_⟩⟩, ⟨rfl, rfl, rfl, by simp, fun k hk _ => Below.heap_alloc w.drew _ _ hk⟩, .inr rfl, by simp⟩
      rw [Nat.zero_add, List.getElem?_append_left (by simp [hlen]; omega)]
/-- 'f = append(f, x)', one cell an element. -/
theorem wpList_append_file {ops : Array Oper} {rest : List Oper} {o : Oper} {act : Act} {Q : Exit → Act → World → Prop} (hgd : o.guard = none) (s x : Operand) (t : TypeId)
    (ho : o.op = .call { callee := .builtin .append, args := #[s, x], argTypes := #[t, t] })
    (e : TypeId) (i : TypeInfo) (z : Value) (bytes : Nat) (ht : P.underlying t = some (.slice e)) (hi : P.info? e = some i) (hz : i.zero = some z) (hsize : i.size = 1) (hby : i.bytes = bytes) (hzs : z.cells.size = 1)
    (a : Option Addr) (n c : Nat) (xs : List Value) (hs : act.eval s = .slice a n c) (hF : Fl w e a n c xs) (g m : Nat) (u : Value) (hx : act.eval x = .slice (some ⟨g, 0, none⟩) 1 m) (hu : w.cell? ⟨g, 0, none⟩ = some u) (h1 : u.oneCell' = true) (hbytes : (n + 1) * bytes ≤ 140737488355328) (hb1 : 0 < bytes)
    (h : ∀ a' c' w', Fl w' e a' (n + 1) c' (xs ++ [u]) → UpdO (blkO a) w w' → (blkO a' = blkO a ∨ blkO a' = some w.heap.size) → a' ≠ none → wpList P ops Q rest (act.put o.dst (.slice a' (n + 1) c')) w') : wpList P ops Q (o :: rest) act w := by
  refine wpList_plain hgd fun _ hK => ?_
  obtain ⟨a', c', w', hr, h2, h3, h4, h5⟩ := run_append_file (P := P) (w := w) t o.type e i z bytes ht hi hz hsize hby hzs a n c xs hF g u hu h1 m hbytes hb1
  unfold Oper.wp execOp
  simp only [ho, resolve, invoke, builtin, Sem.run_bind, Sem.run_pure, Result.andThen_ok, List.map_toArray, List.map_cons, List.map_nil, hs, hx, hr]
  exact hK _ _ (h a' c' w' h2 h3 h4 h5)
end
end Go.Proofs.Qxb6500883aGreatDoor
