/- What the law TalliesCountExtents holds, plainly and in memory. -/
import Derived.Test.Qxb6500887aArTal2
import Derived.Test.Qxb6500887aArExtW
import Derived.Test.Qxb6500887aOwn
namespace Go.Proofs.Qxb6500887a
open Go.RowKit
set_option linter.unusedSimpArgs false
set_option linter.unusedVariables false

/-- Touches. -/
def tch (e : Nat × Nat) (i : Nat) : Bool := decide (loL e.1 ≤ i) && decide (i ≤ hiL e.1 e.2)
def nT (l : List (Nat × Nat)) (i : Nat) : Nat := l.countP fun e => tch e i
theorem tch_inR (k n i : Nat) : tch (k, n) i = inR (loL k) (hiL k n + 1) i := by
  unfold tch inR
  congr 1
  exact decide_eq_decide.2 (by simp; omega)
theorem nT_app (l : List (Nat × Nat)) (k n i : Nat) : nT (l ++ [(k, n)]) i = incR (loL k) (hiL k n + 1) (nT l) i := by
  unfold nT incR
  rw [List.countP_append, List.countP_singleton, tch_inR]
  cases inR (loL k) (hiL k n + 1) i <;> rfl
theorem nT_del {l : List (Nat × Nat)} {j k n : Nat} (h : l[j]? = some (k, n)) (i : Nat) : nT (l.take j ++ l.drop (j + 1)) i = decR (loL k) (hiL k n + 1) (nT l) i := by
  obtain ⟨hj, e⟩ := List.getElem?_eq_some_iff.1 h
  have hl : l = l.take j ++ (k, n) :: l.drop (j + 1) := by
    conv => lhs; rw [← List.take_append_drop j l]
    rw [List.drop_eq_getElem_cons hj, e]
  have hc : nT l i = nT (l.take j ++ l.drop (j + 1)) i + (inR (loL k) (hiL k n + 1) i).toNat := by
    conv => lhs; rw [hl]
    unfold nT
    rw [List.countP_append, List.countP_cons, List.countP_append, tch_inR]
    cases inR (loL k) (hiL k n + 1) i
    · simp
    · simp; omega
  unfold decR
  omega
theorem nT_pos {l : List (Nat × Nat)} {j k n : Nat} (h : l[j]? = some (k, n)) {i : Nat} (h1 : loL k ≤ i) (h2 : i < hiL k n + 1) : nT l i ≠ 0 := by
  unfold nT
  rw [Ne, List.countP_eq_zero]
  intro hh
  have := hh (k, n) (List.mem_of_getElem? h)
  apply this
  rw [tch_inR]
  exact inR_iff.2 ⟨h1, h2⟩
def exC (e : Nat × Nat) : List Value := [.int .i64 (e.1 : Int), .int .i64 (e.2 : Int)]
theorem exC_one (l : List (Nat × Nat)) : ∀ u ∈ l.flatMap exC, u.oneCell' = true := fun u hu => by
  obtain ⟨t, _, ht⟩ := List.mem_flatMap.1 hu
  simp only [exC, List.mem_cons, List.not_mem_nil, or_false] at ht
  rcases ht with rfl | rfl <;> rfl
theorem info_ext : ∃ i, Try.prog.info? 64 = some i ∧ i.zero = some (.agg #[.int .i64 0, .int .i64 0]) ∧ i.size = 2 ∧ i.bytes = 16 := by
  have h : (Try.prog.info? 64).map (fun i => (i.zero, i.size, i.bytes)) = some (some (.agg #[.int .i64 0, .int .i64 0]), 2, 16) := by kernel_rfl
  obtain ⟨i, hi, he⟩ := Option.map_eq_some_iff.1 h
  simp only [Prod.mk.injEq] at he
  exact ⟨i, hi, he.1, he.2.1, he.2.2⟩
/-- The row of the extents held. -/
def OH (w : World) (base : Nat) (v : Value) (l : List (Nat × Nat)) : Prop := w.ownsRow base 64 2 v l.length (l.flatMap exC)
section
variable {w w' : World} {base : Nat} {v : Value} {l : List (Nat × Nat)}
theorem OH.keep (h : OH w base v l) (hk : ∀ g, v.ownBlock = some g → w'.heap[g]? = w.heap[g]?) : OH w' base v l := by
  refine ⟨h.1, ?_⟩
  rcases h.2 with h2 | ⟨g, cap, cur, h2, h3, h4, h5⟩
  · exact .inl h2
  · exact .inr ⟨g, cap, cur, h2, h3, by rw [hk g (by rw [h2]; rfl)]; exact h4, h5⟩
theorem OH.blk (h : OH w base v l) {g : Nat} (hg : v.ownBlock = some g) : base ≤ g ∧ ∃ cs, Blk w g 64 cs := by
  rcases h.2 with ⟨h2, _⟩ | ⟨g', cap, cur, h2, h3, h4, h5⟩
  · rw [h2] at hg; cases hg
  · rw [h2] at hg
    obtain rfl : g' = g := by simpa [Value.ownBlock] using hg
    exact ⟨h3, cur.toList, h4⟩
theorem OH.shape (h : OH w base v l) : ∃ a n c, v = .slice a n c := by
  rcases h.2 with ⟨h2, _⟩ | ⟨g', cap, cur, h2, _⟩
  · exact ⟨_, _, _, h2⟩
  · exact ⟨_, _, _, h2⟩
theorem OH.below (h : OH w base v l) (hb : Below w.heap.size w w') : OH w' base v l := h.keep fun g hg => hb.block g (by obtain ⟨_, cs, k⟩ := h.blk hg; exact k.lt)
theorem OH.upd {g : Nat} {t : TypeId} {cs : List Value} (h : OH w base v l) (hg : Blk w g t cs) (ht : t ≠ 64) (hu : Upd g w w') : OH w' base v l := h.keep fun k hk => by
  obtain ⟨_, ds, kb⟩ := h.blk hk
  exact hu.block k kb.lt (kb.tneA hg (Ne.symm ht))
theorem OH.ua {A b : Nat} (h : OH w base v l) (hu : UA A b w w') {ca cb : List Value} {ta tb : TypeId} (hA : Blk w A ta ca) (hb : Blk w b tb cb) (h1 : ta ≠ 64) (h2 : tb ≠ 64) : OH w' base v l := h.keep fun k hk => by
  obtain ⟨_, ds, kb⟩ := h.blk hk
  exact hu.block k kb.lt (kb.tneA hA (Ne.symm h1)) (kb.tneA hb (Ne.symm h2))
theorem OH.len {a : Option Addr} {n c : Nat} (h : OH w base (.slice a n c) l) : l.length = n := by
  rcases h.2 with ⟨h2, h3⟩ | ⟨g, cap, cur, h2, _⟩
  · cases h2; exact h3
  · cases h2; rfl
theorem OH.row {a : Option Addr} {n c : Nat} (h : OH w base (.slice a n c) l) (hl : l.length ≤ 1000000) : RowOf w 2 exC a n c l := by
  obtain ⟨a', n', c', e, hr⟩ := ownsRow_row (α := Nat × Nat) (f := exC) (sz := 2) (by omega) (fun _ => rfl) (by omega) h
  cases e
  exact hr
/-- The row's beginning. -/
theorem OH.take {a : Option Addr} {n c j : Nat} (h : OH w base (.slice a n c) l) (hj : j ≤ n) : (l = [] ∧ a = none ∧ n = 0) ∨ (OH w base (.slice a j c) (l.take j) ∧ ∃ g, a = some ⟨g, 0, none⟩ ∧ n ≤ c) := by
  have hl := h.len
  rcases h.2 with ⟨h2, h3⟩ | ⟨g, cap, cur, h2, h3, h4, h5, h6, h7, h8⟩
  · cases h2
    exact .inl ⟨List.eq_nil_of_length_eq_zero h3, rfl, rfl⟩
  · simp only [Value.slice.injEq] at h2
    obtain ⟨rfl, h2n, rfl⟩ := h2
    right
    have hk : ∀ M : List (Nat × Nat), (M.flatMap exC).length = M.length * 2 := fun M => length_flatMap_const (f := exC) (sz := 2) M (fun x _ => rfl)
    have ht : (l.take j).length = j := by rw [List.length_take]; omega
    refine ⟨⟨by rw [hk], .inr ⟨g, c, cur, by rw [ht], h3, h4, by rw [ht]; omega, h6, h7, ?_⟩⟩, g, rfl, by omega⟩
    rw [ht]
    have e := congrArg (List.take (j * 2)) h8
    rw [List.take_take, Nat.min_eq_left (by omega)] at e
    rw [e]
    conv => lhs; rw [← List.take_append_drop j l, List.flatMap_append]
    rw [List.take_left' (by rw [hk, ht])]
end
/-- The law's array of counts. -/
def wantL (g : Nat → Nat) : List Value := (List.range 2048).map fun i => .int .i64 ((g i : Nat) : Int)
theorem wantL_len (g : Nat → Nat) : (wantL g).length = 2048 := by unfold wantL; simp
theorem wantL_get (g : Nat → Nat) {i : Nat} (hi : i < 2048) : (wantL g)[i]? = some (.int .i64 ((g i : Nat) : Int)) := by
  unfold wantL
  rw [List.getElem?_map, List.getElem?_range hi]
  rfl
theorem wantL_set (g h : Nat → Nat) {i : Nat} (hi : i < 2048) (hh : ∀ j, j < 2048 → h j = if j = i then h i else g j) : (wantL g).set i (.int .i64 ((h i : Nat) : Int)) = wantL h := by
  apply List.ext_getElem?
  intro j
  rw [List.getElem?_set, wantL_len]
  by_cases hj : j < 2048
  · rw [wantL_get h hj]
    by_cases e : i = j
    · subst e
      rw [if_pos rfl, if_pos hi]
    · rw [if_neg e, wantL_get g hj, hh j hj, if_neg (fun q => e q.symm)]
  · rw [List.getElem?_eq_none (by rw [wantL_len]; omega), if_neg (by omega), List.getElem?_eq_none (by rw [wantL_len]; omega)]
theorem wantL_congr {g h : Nat → Nat} (hh : ∀ i, i < 2048 → g i = h i) : wantL g = wantL h := by
  unfold wantL
  exact List.map_congr_left fun i hi => by rw [hh i (List.mem_range.1 hi)]
theorem zero_arr (w : World) : (zeroValue 74).run Try.prog w = .ok (.agg (wantL fun _ => 0).toArray) w := by kernel_rfl
/-- The law's machine: the arena, the counts in pw, the held extents in v. -/
structure LM (w0 : World) (A t b pw : Nat) (f g : Nat → Nat) (v : Value) (l : List (Nat × Nat)) (w : World) : Prop where
  ar : AT A t b f w
  wk : Blk w pw 74 (wantL g)
  oh : OH w w0.heap.size v l
  ok : ∀ e ∈ l, EOk e.1 e.2
  bel : Below w0.heap.size w0 w
  lo : w0.heap.size ≤ A ∧ w0.heap.size ≤ t ∧ w0.heap.size ≤ b ∧ w0.heap.size ≤ pw
section
variable {w0 w w' : World} {A t b pw : Nat} {f f' g g' : Nat → Nat} {v : Value} {l : List (Nat × Nat)}
theorem LM.below (h : LM w0 A t b pw f g v l w) (hb : Below w.heap.size w w') : LM w0 A t b pw f g v l w' := ⟨h.ar.below hb, h.wk.below hb, h.oh.below hb, h.ok, h.bel.trans (hb.mono h.bel.size), h.lo⟩
/-- The arena's operations. -/
theorem LM.ua (h : LM w0 A t b pw f g v l w) (ha : AT A t b f' w') (hu : UA A b w w') : LM w0 A t b pw f' g v l w' := by
  obtain ⟨v0, v1, v2, v3, ver, k⟩ := h.ar.ar
  obtain ⟨_, ⟨c2, b2⟩⟩ := h.ar.t4.blks
  have hs := h.bel.size
  obtain ⟨l1, l2, l3, l4⟩ := h.lo
  exact ⟨ha, hu.blk h.wk (h.wk.tneA k (by decide)) (h.wk.tneA b2 (by decide)), h.oh.ua hu k b2 (by decide) (by decide), h.ok, h.bel.trans ⟨hu.os, hu.tape, hu.output, hu.size, fun i hi => hu.block i (by omega) (by omega) (by omega)⟩, h.lo⟩
/-- One count is written. -/
theorem LM.put (h : LM w0 A t b pw f g v l w) {i : Nat} (hi : i < 2048) (hh : ∀ j, j < 2048 → g' j = if j = i then g' i else g j) : LM w0 A t b pw f g' v l (w.setCell ⟨pw, i, none⟩ (.int .i64 ((g' i : Nat) : Int))) := by
  have hu : Upd pw w (w.setCell ⟨pw, i, none⟩ (.int .i64 ((g' i : Nat) : Int))) := (Upd.refl pw w).setCell rfl _
  obtain ⟨v0, v1, v2, v3, ver, k⟩ := h.ar.ar
  obtain ⟨⟨c1, b1⟩, ⟨c2, b2⟩⟩ := h.ar.t4.blks
  refine ⟨⟨⟨v0, v1, v2, v3, ver, k.upd hu (k.tneA h.wk (by decide))⟩, h.ar.t4.upd hu (b1.tneA h.wk (by decide)) (b2.tneA h.wk (by decide))⟩, ?_, h.oh.upd h.wk (by decide) hu, h.ok, h.bel.trans (hu.below h.lo.2.2.2 h.bel.size), h.lo⟩
  have := h.wk.set i (.int .i64 ((g' i : Nat) : Int))
  rw [wantL_set g g' hi hh] at this
  exact this
theorem LM.congr (h : LM w0 A t b pw f g v l w) (h1 : ∀ i, i < 2048 → f i = f' i) (h2 : ∀ i, i < 2048 → g i = g' i) : LM w0 A t b pw f' g' v l w := ⟨⟨h.ar.ar, h.ar.t4.congr h1⟩, by rw [← wantL_congr h2]; exact h.wk, h.oh, h.ok, h.bel, h.lo⟩
theorem LM.cell (h : LM w0 A t b pw f g v l w) {i : Nat} (hi : i < 2048) : w.cell? ⟨pw, i, none⟩ = some (.int .i64 ((g i : Nat) : Int)) ∧ w.frozen? ⟨pw, i, none⟩ = false := ⟨by rw [h.wk.cell, wantL_get g hi], h.wk.frozen _⟩
end
end Go.Proofs.Qxb6500887a
