/- The model in memory. -/
import Derived.Test.Qxb6500887aGreatAzEd
import Derived.Deep.DeepCutAuto
namespace Go.Proofs.Qxb6500887aGreat
open Go.RowKit
set_option linter.unusedSimpArgs false
set_option linter.unusedVariables false
/-- What the model holds, entry for entry. -/
structure ES where
  W : Nat → Nat
  C : Nat → Nat
  K : Nat → Bool
  G : Nat → Bool
  T : Nat → Nat
  v : Nat
structure ML where
  m : Nat
  w : Nat
  c : Nat
  k : Nat
  g : Nat
  t : Nat
def ML.all (l : ML) : List Nat := [l.m, l.w, l.c, l.k, l.g, l.t]
def mdC (l : ML) (v : Nat) : List Value := [.slice (some ⟨l.w, 0, none⟩) 32768 32768, .slice (some ⟨l.c, 0, none⟩) 16384 16384, .slice (some ⟨l.k, 0, none⟩) 16384 16384, .slice (some ⟨l.g, 0, none⟩) 32768 32768, .slice (some ⟨l.t, 0, none⟩) 2048 2048, .int .u64 (v : Int)]
def bwC (n : Nat) (f : Nat → Bool) : List Value := fnC n (fun i => .bool (f i))
def inC (n : Nat) (f : Nat → Nat) : List Value := fnC n (fun i => .int .i64 ((f i : Nat) : Int))
structure MM (l : ML) (E : ES) (w : World) : Prop where
  m : Blk w l.m 109 (mdC l E.v)
  ws : Blk w l.w 29 (wdC 32768 E.W)
  c : Blk w l.c 29 (wdC 16384 E.C)
  k : Blk w l.k 4 (bwC 16384 E.K)
  g : Blk w l.g 4 (bwC 32768 E.G)
  t : Blk w l.t 3 (inC 2048 E.T)
  wc : l.w ≠ l.c
  kg : l.k ≠ l.g
  wl : ∀ i, E.W i < 18446744073709551616
  cl : ∀ i, E.C i ≤ 3
  tl : ∀ i, E.T i ≤ 15
  vl : E.v < 18446744073709551616
section
variable {l : ML} {E : ES} {w w' w0 : World}
theorem MM.lts (h : MM l E w) : ∀ g ∈ l.all, g < w.heap.size := by
  intro g hg
  simp only [ML.all, List.mem_cons, List.not_mem_nil, or_false] at hg
  rcases hg with rfl | rfl | rfl | rfl | rfl | rfl
  · exact h.m.lt
  · exact h.ws.lt
  · exact h.c.lt
  · exact h.k.lt
  · exact h.g.lt
  · exact h.t.lt
theorem MM.of (h : MM l E w) (hk : ∀ g ∈ l.all, g < w.heap.size → w'.heap[g]? = w.heap[g]?) : MM l E w' := by
  have hl := h.lts
  simp only [ML.all, List.mem_cons, List.not_mem_nil, or_false, forall_eq_or_imp, forall_eq] at hk hl
  obtain ⟨k1, k2, k3, k4, k5, k6⟩ := hk
  obtain ⟨l1, l2, l3, l4, l5, l6⟩ := hl
  exact ⟨h.m.of (k1 l1), h.ws.of (k2 l2), h.c.of (k3 l3), h.k.of (k4 l4), h.g.of (k5 l5), h.t.of (k6 l6), h.wc, h.kg, h.wl, h.cl, h.tl, h.vl⟩
theorem MM.below (h : MM l E w) (hb : Below w.heap.size w w') : MM l E w' := h.of (fun g _ hlt => hb.block g hlt)
theorem MM.cells (h : MM l E w) : w.cell? ⟨l.m, 0, none⟩ = some (.slice (some ⟨l.w, 0, none⟩) 32768 32768) ∧ w.cell? ⟨l.m, 1, none⟩ = some (.slice (some ⟨l.c, 0, none⟩) 16384 16384) ∧ w.cell? ⟨l.m, 2, none⟩ = some (.slice (some ⟨l.k, 0, none⟩) 16384 16384) ∧ w.cell? ⟨l.m, 3, none⟩ = some (.slice (some ⟨l.g, 0, none⟩) 32768 32768) ∧ w.cell? ⟨l.m, 4, none⟩ = some (.slice (some ⟨l.t, 0, none⟩) 2048 2048) ∧ w.cell? ⟨l.m, 5, none⟩ = some (.int .u64 (E.v : Int)) := ⟨h.m.cell 0, h.m.cell 1, h.m.cell 2, h.m.cell 3, h.m.cell 4, h.m.cell 5⟩
theorem MM.word (h : MM l E w) {i : Nat} (hi : i < 32768) : w.cell? ⟨l.w, i, none⟩ = some (.int .u64 ((E.W i : Nat) : Int)) := by rw [h.ws.cell i]; exact fnC_get _ hi
theorem MM.count (h : MM l E w) {i : Nat} (hi : i < 16384) : w.cell? ⟨l.c, i, none⟩ = some (.int .u64 ((E.C i : Nat) : Int)) := by rw [h.c.cell i]; exact fnC_get _ hi
theorem MM.mark (h : MM l E w) {i : Nat} (hi : i < 16384) : w.cell? ⟨l.k, i, none⟩ = some (.bool (E.K i)) := by rw [h.k.cell i]; exact fnC_get _ hi
theorem MM.log (h : MM l E w) {i : Nat} (hi : i < 32768) : w.cell? ⟨l.g, i, none⟩ = some (.bool (E.G i)) := by rw [h.g.cell i]; exact fnC_get _ hi
theorem MM.tally (h : MM l E w) {i : Nat} (hi : i < 2048) : w.cell? ⟨l.t, i, none⟩ = some (.int .i64 ((E.T i : Nat) : Int)) := by rw [h.t.cell i]; exact fnC_get _ hi
/-- The blocks of different kinds are different. -/
theorem MM.ne (h : MM l E w) : l.m ≠ l.w ∧ l.m ≠ l.c ∧ l.m ≠ l.k ∧ l.m ≠ l.g ∧ l.m ≠ l.t ∧ l.w ≠ l.k ∧ l.w ≠ l.g ∧ l.w ≠ l.t ∧ l.c ≠ l.k ∧ l.c ≠ l.g ∧ l.c ≠ l.t ∧ l.k ≠ l.t ∧ l.g ≠ l.t :=
  ⟨h.m.tneA h.ws (by decide), h.m.tneA h.c (by decide), h.m.tneA h.k (by decide), h.m.tneA h.g (by decide), h.m.tneA h.t (by decide), h.ws.tneA h.k (by decide), h.ws.tneA h.g (by decide), h.ws.tneA h.t (by decide), h.c.tneA h.k (by decide), h.c.tneA h.g (by decide), h.c.tneA h.t (by decide), h.k.tneA h.t (by decide), h.g.tneA h.t (by decide)⟩
/-- A step of the model under way. -/
structure MD (w0 : World) (l : ML) (E : ES) (w : World) : Prop where
  mm : MM l E w
  u : UL l.all w0 w
theorem MD.start (h : MM l E w) : MD w l E w := ⟨h, UL.refl _ _⟩
theorem MD.below (h : MD w0 l E w) (hb : Below w.heap.size w w') : MD w0 l E w' := ⟨h.mm.below hb, h.u.then hb⟩
theorem ML.in_m (l : ML) : l.m ∈ l.all := by simp [ML.all]
theorem ML.in_w (l : ML) : l.w ∈ l.all := by simp [ML.all]
theorem ML.in_c (l : ML) : l.c ∈ l.all := by simp [ML.all]
theorem ML.in_k (l : ML) : l.k ∈ l.all := by simp [ML.all]
theorem ML.in_g (l : ML) : l.g ∈ l.all := by simp [ML.all]
theorem ML.in_t (l : ML) : l.t ∈ l.all := by simp [ML.all]
theorem MD.ver (h : MD w0 l E w) {v : Nat} (hv : v < 18446744073709551616) : MD w0 l { E with v := v } (w.setCell ⟨l.m, 5, none⟩ (.int .u64 (v : Int))) := by
  have hu : Upd l.m w (w.setCell ⟨l.m, 5, none⟩ (.int .u64 (v : Int))) := (Upd.refl l.m w).setCell rfl _
  obtain ⟨e1, e2, e3, e4, e5, _⟩ := h.mm.ne
  exact ⟨⟨h.mm.m.set 5 _, h.mm.ws.upd hu e1.symm, h.mm.c.upd hu e2.symm, h.mm.k.upd hu e3.symm, h.mm.g.upd hu e4.symm, h.mm.t.upd hu e5.symm, h.mm.wc, h.mm.kg, h.mm.wl, h.mm.cl, h.mm.tl, hv⟩, h.u.trans (UL.ofUpd hu l.in_m)⟩
theorem MD.putW (h : MD w0 l E w) {i x : Nat} (hi : i < 32768) (hx : x < 18446744073709551616) : MD w0 l { E with W := fup E.W i x } (w.setCell ⟨l.w, i, none⟩ (.int .u64 (x : Int))) := by
  have hu : Upd l.w w (w.setCell ⟨l.w, i, none⟩ (.int .u64 (x : Int))) := (Upd.refl l.w w).setCell rfl _
  obtain ⟨e1, e2, e3, e4, e5, e6, e7, e8, e9, e10, e11, e12, e13⟩ := h.mm.ne
  refine ⟨⟨h.mm.m.upd hu e1, ?_, h.mm.c.upd hu h.mm.wc.symm, h.mm.k.upd hu e6.symm, h.mm.g.upd hu e7.symm, h.mm.t.upd hu e8.symm, h.mm.wc, h.mm.kg, fun j => ?_, h.mm.cl, h.mm.tl, h.mm.vl⟩, h.u.trans (UL.ofUpd hu l.in_w)⟩
  · have := h.mm.ws.set i (.int .u64 (x : Int))
    unfold wdC at this ⊢
    rw [fnC_set _ hi, fup_map (fun y : Nat => Value.int .u64 (y : Int)) E.W i x] at this
    exact this
  · by_cases e : j = i
    · rw [e]; show fup E.W i x i < _; rw [fup_self]; exact hx
    · show fup E.W i x j < _; rw [fup_ne _ _ e]; exact h.mm.wl j
theorem MD.putC (h : MD w0 l E w) {i x : Nat} (hi : i < 16384) (hx : x ≤ 3) : MD w0 l { E with C := fup E.C i x } (w.setCell ⟨l.c, i, none⟩ (.int .u64 (x : Int))) := by
  have hu : Upd l.c w (w.setCell ⟨l.c, i, none⟩ (.int .u64 (x : Int))) := (Upd.refl l.c w).setCell rfl _
  obtain ⟨e1, e2, e3, e4, e5, e6, e7, e8, e9, e10, e11, e12, e13⟩ := h.mm.ne
  refine ⟨⟨h.mm.m.upd hu e2, h.mm.ws.upd hu h.mm.wc, ?_, h.mm.k.upd hu e9.symm, h.mm.g.upd hu e10.symm, h.mm.t.upd hu e11.symm, h.mm.wc, h.mm.kg, h.mm.wl, fun j => ?_, h.mm.tl, h.mm.vl⟩, h.u.trans (UL.ofUpd hu l.in_c)⟩
  · have := h.mm.c.set i (.int .u64 (x : Int))
    unfold wdC at this ⊢
    rw [fnC_set _ hi, fup_map (fun y : Nat => Value.int .u64 (y : Int)) E.C i x] at this
    exact this
  · by_cases e : j = i
    · rw [e]; show fup E.C i x i ≤ _; rw [fup_self]; exact hx
    · show fup E.C i x j ≤ _; rw [fup_ne _ _ e]; exact h.mm.cl j
theorem MD.putK (h : MD w0 l E w) {i : Nat} {x : Bool} (hi : i < 16384) : MD w0 l { E with K := fup E.K i x } (w.setCell ⟨l.k, i, none⟩ (.bool x)) := by
  have hu : Upd l.k w (w.setCell ⟨l.k, i, none⟩ (.bool x)) := (Upd.refl l.k w).setCell rfl _
  obtain ⟨e1, e2, e3, e4, e5, e6, e7, e8, e9, e10, e11, e12, e13⟩ := h.mm.ne
  refine ⟨⟨h.mm.m.upd hu e3, h.mm.ws.upd hu e6, h.mm.c.upd hu e9, ?_, h.mm.g.upd hu h.mm.kg.symm, h.mm.t.upd hu e12.symm, h.mm.wc, h.mm.kg, h.mm.wl, h.mm.cl, h.mm.tl, h.mm.vl⟩, h.u.trans (UL.ofUpd hu l.in_k)⟩
  have := h.mm.k.set i (.bool x)
  unfold bwC at this ⊢
  rw [fnC_set _ hi, fup_map (fun y : Bool => Value.bool y) E.K i x] at this
  exact this
theorem MD.putG (h : MD w0 l E w) {i : Nat} {x : Bool} (hi : i < 32768) : MD w0 l { E with G := fup E.G i x } (w.setCell ⟨l.g, i, none⟩ (.bool x)) := by
  have hu : Upd l.g w (w.setCell ⟨l.g, i, none⟩ (.bool x)) := (Upd.refl l.g w).setCell rfl _
  obtain ⟨e1, e2, e3, e4, e5, e6, e7, e8, e9, e10, e11, e12, e13⟩ := h.mm.ne
  refine ⟨⟨h.mm.m.upd hu e4, h.mm.ws.upd hu e7, h.mm.c.upd hu e10, h.mm.k.upd hu h.mm.kg, ?_, h.mm.t.upd hu e13.symm, h.mm.wc, h.mm.kg, h.mm.wl, h.mm.cl, h.mm.tl, h.mm.vl⟩, h.u.trans (UL.ofUpd hu l.in_g)⟩
  have := h.mm.g.set i (.bool x)
  unfold bwC at this ⊢
  rw [fnC_set _ hi, fup_map (fun y : Bool => Value.bool y) E.G i x] at this
  exact this
theorem MD.putT (h : MD w0 l E w) {i x : Nat} (hi : i < 2048) (hx : x ≤ 15) : MD w0 l { E with T := fup E.T i x } (w.setCell ⟨l.t, i, none⟩ (.int .i64 (x : Int))) := by
  have hu : Upd l.t w (w.setCell ⟨l.t, i, none⟩ (.int .i64 (x : Int))) := (Upd.refl l.t w).setCell rfl _
  obtain ⟨e1, e2, e3, e4, e5, e6, e7, e8, e9, e10, e11, e12, e13⟩ := h.mm.ne
  refine ⟨⟨h.mm.m.upd hu e5, h.mm.ws.upd hu e8, h.mm.c.upd hu e11, h.mm.k.upd hu e12, h.mm.g.upd hu e13, ?_, h.mm.wc, h.mm.kg, h.mm.wl, h.mm.cl, fun j => ?_, h.mm.vl⟩, h.u.trans (UL.ofUpd hu l.in_t)⟩
  · have := h.mm.t.set i (.int .i64 (x : Int))
    unfold inC at this ⊢
    rw [fnC_set _ hi, fup_map (fun y : Nat => Value.int .i64 (y : Int)) E.T i x] at this
    exact this
  · by_cases e : j = i
    · rw [e]; show fup E.T i x i ≤ _; rw [fup_self]; exact hx
    · show fup E.T i x j ≤ _; rw [fup_ne _ _ e]; exact h.mm.tl j
end
end Go.Proofs.Qxb6500887aGreat
