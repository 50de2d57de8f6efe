/- Texts of scripts: appending to a row that bears a mark. -/
import Derived.Test.Qxb6500883aGreatDoorScTk
namespace Go.Proofs.Qxb6500883aGreatDoor
open Go.RowKit
set_option linter.unusedSimpArgs false
set_option linter.unusedVariables false
section
variable {w w' : World} {n0 : Nat} {v v' : Value} {ds rs : List UInt8} {g n cap : Nat}
/-- A row with spare room; none of its cells is frozen. -/
structure Mk (w : World) (g n cap : Nat) (rs : List UInt8) : Prop where
  b : ∃ cur fz, w.heap[g]? = some (.cells cur 5 fz) ∧ cur.size ≤ fz.1 ∧ cur.size = cap ∧ cur.toList.take n = rs.map byV
  ln : rs.length = n
  le : n ≤ cap
  mx : cap ≤ maxLen
theorem Mk.lt (h : Mk w g n cap rs) : g < w.heap.size := by obtain ⟨cur, fz, h1, _⟩ := h.b; exact (Array.getElem?_eq_some_iff.1 h1).1
theorem Mk.cell (h : Mk w g n cap rs) {j : Nat} {u : Value} (hu : (rs.map byV)[j]? = some u) : w.cell? ⟨g, j, none⟩ = some u := by
  obtain ⟨cur, fz, h1, _, _, h4⟩ := h.b
  rw [cell_of_row w g j _ _ fz h1]
  rw [← h4, List.getElem?_take] at hu
  split at hu
  · simpa using hu
  · cases hu
theorem Mk.isSome (h : Mk w g n cap rs) {j : Nat} (hj : j < cap) : (w.cell? ⟨g, j, none⟩).isSome = true := by
  obtain ⟨cur, fz, h1, _, h3, h4⟩ := h.b
  rw [cell_of_row w g j _ _ fz h1, Array.getElem?_eq_getElem (by omega)]
  rfl
theorem Mk.unf (h : Mk w g n cap rs) {j : Nat} (hj : j < cap) : w.frozen? ⟨g, j, none⟩ = false := by
  obtain ⟨cur, ⟨lo, hi⟩, h1, h2, h3, h4⟩ := h.b
  simp only [World.frozen?, h1, Bool.and_eq_false_iff, decide_eq_false_iff_not]
  left
  simp only at h2
  omega
theorem Mk.below (h : Mk w g n cap rs) (hb : Below w.heap.size w w') : Mk w' g n cap rs := by
  obtain ⟨cur, fz, h1, h2⟩ := h.b
  exact ⟨⟨cur, fz, by rw [hb.block g h.lt]; exact h1, h2⟩, h.ln, h.le, h.mx⟩
theorem wpList_app_mk {ops : Array Oper} {rest : List Oper} {o : Oper} {a : Act} {Q : Exit → Act → World → Prop} (hgd : o.guard = none) (sl x : Operand) (hM : Mk w g n cap rs)
    (ho : o.op = .call { callee := .builtin .append, args := #[sl, x], argTypes := #[28, 28] })
    (hs : a.eval sl = .slice (some ⟨g, 0, none⟩) n cap) (ax : Option Addr) (m k : Nat) (hx : a.eval x = .slice ax m k) (ys : List UInt8) (hy : ys.length = m) (hm0 : ax = none → m = 0 ∧ k = 0)
    (hnews : ∀ ad, ax = some ad → ∀ j u, (ys.map byV)[j]? = some u → w.cell? (ad.add j) = some u) (hb : n + m ≤ 140000000000000)
    (h : ∀ g' cap' w', n + m ≤ cap' → cap' ≤ maxLen → Hid (∀ j u, ((rs ++ ys).map byV)[j]? = some u → w'.cell? ⟨g', j, none⟩ = some u) → Hid (Below g w w' ∧ g' < w'.heap.size) → wpList Tryz.prog ops Q rest (a.put o.dst (.slice (some ⟨g', 0, none⟩) (n + m) cap')) w') : wpList Tryz.prog ops Q (o :: rest) a w := by
  obtain ⟨i0, z0, hi, hz0, hz1, hz2, hz3⟩ := okB.info
  have hz1 : i0.size = 1 := hz1
  have hz2 : i0.bytes = 1 := hz2
  have hz3 : z0.cells.size = 1 := hz3
  have hn := hM.ln
  have hone : ∀ u ∈ ys.map byV, u.oneCell' = true := fun u hu => by
    obtain ⟨b, _, rfl⟩ := List.mem_map.1 hu
    rfl
  have hsrc : Go.Src Tryz.prog i0.size 28 (.slice ax m k) m (ys.map byV) w := by
    rw [hz1]
    cases ax with
    | none =>
      obtain ⟨e1, e2⟩ := hm0 rfl
      subst e1 e2
      obtain rfl : ys = [] := List.eq_nil_of_length_eq_zero hy
      exact Go.Src.ofNil w okB.un 0
    | some ad => exact Go.Src.ofSlice w okB.un ad m k (ys.map byV) (by rw [List.length_map]; omega) (hnews ad rfl) hone
  by_cases hroom : n + m ≤ cap
  · have hlen : (ys.map byV).length = m := by rw [List.length_map]; exact hy
    have hr := run_append_room_src (P := Tryz.prog) w 28 28 o.type 5 i0 okB.un hi g 0 n cap (.slice ax m k) m (ys.map byV) hsrc hroom (fun j hj => by rw [hz1]; exact hM.isSome (by omega)) (fun j hj => by rw [hz1]; exact hM.unf (by omega))
    refine Go.Lib.wpList_append_run w hgd sl x 28 28 ho _ _ hs hx _ _ hr (h g cap _ hroom hM.mx (hid ?_) (hid ?_))
    · intro j u hu
      have e : 0 + n * i0.size = n := by rw [hz1]; omega
      rw [e]
      rw [List.map_append] at hu
      by_cases hj : j < n
      · rw [World.cell?_setCells_out g (ys.map byV) n w ⟨g, j, none⟩ (fun _ _ => .inl hj)]
        rw [List.getElem?_append_left (by rw [List.length_map]; omega)] at hu
        exact hM.cell hu
      · rw [List.getElem?_append_right (by rw [List.length_map]; omega), List.length_map, hn] at hu
        have hj2 := (List.getElem?_eq_some_iff.1 hu).1
        have := World.cell?_setCells_in g (ys.map byV) n w (fun q hq => hM.isSome (by omega)) (j - n) hj2
        have e2 : n + (j - n) = j := by omega
        rw [e2] at this
        rw [this]
        rw [List.getElem?_eq_getElem hj2] at hu
        exact hu
    · have hu := Upd.setCells g (ys.map byV) (0 + n * i0.size) (Upd.refl g w)
      exact ⟨hu.below (Nat.le_refl _) (Nat.le_of_lt hM.lt), Nat.lt_of_lt_of_le hM.lt hu.size⟩
  · have hold : (Builtin.firstCells i0.size n (.slice (some ⟨g, 0, none⟩) n cap)).run Tryz.prog w.drew = .ok (rs.map byV).toArray w.drew := run_firstCells_some w.drew i0.size n ⟨g, 0, none⟩ n cap (rs.map byV) (by rw [List.length_map, hz1]; omega) (fun j u hu => by rw [add_lit, Nat.zero_add]; exact hM.cell hu)
    have hr := run_append_grow_src (P := Tryz.prog) w 28 28 o.type 5 i0 z0 okB.un hi hz0 (some ⟨g, 0, none⟩) n cap (rs.map byV) hold (.slice ax m k) m (ys.map byV) hsrc (by omega) (by omega) (growslice_fits (by omega) (by rw [hz2]; omega))
    have hge := grownCap_ge w (n + m) cap 5
    have hcm : grownCap w (n + m) cap 5 ≤ maxLen := grownCap_le_maxLen w (n + m) cap 5 (by unfold maxLen; omega)
    refine Go.Lib.wpList_append_run w hgd sl x 28 28 ho _ _ hs hx _ _ hr (h _ _ _ hge hcm (hid ?_) (hid ⟨⟨rfl, rfl, rfl, by simp, fun q hq => heap_alloc_old w.drew _ (show q < w.drew.heap.size from Nat.lt_trans hq hM.lt)⟩, by simp⟩))
    intro j u hu
    rw [cell_of_row _ w.heap.size j _ _ _ (heap_alloc_new w.drew _)]
    have hj2 := (List.getElem?_eq_some_iff.1 hu).1
    have e : (rs.map byV ++ ys.map byV).toArray = ((rs ++ ys).map byV).toArray := by rw [List.map_append]
    rw [e, Array.getElem?_append_left (by simpa using hj2)]
    simpa using hu
end
end Go.Proofs.Qxb6500883aGreatDoor
