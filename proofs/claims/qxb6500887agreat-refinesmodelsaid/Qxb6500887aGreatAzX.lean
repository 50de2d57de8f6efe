/- Own records of integers, for the reports; fieldsSound, links. -/
import Derived.Test.Qxb6500887aGreatAzW
namespace Go.Proofs.Qxb6500887aGreat
open Go.RowKit
set_option linter.unusedSimpArgs false
set_option linter.unusedVariables false

def inV (x : Int) : Value := .int .i64 x
/-- A block of integers. -/
def IBk (n : Nat) (t : TypeId) (g : Nat) (w : World) : Prop := ∃ xs : List Int, xs.length = n ∧ Blk w g t (xs.map inV)
theorem IBk.below {n g : Nat} {t : TypeId} {w w' : World} (h : IBk n t g w) (hb : Below w.heap.size w w') : IBk n t g w' := by
  obtain ⟨xs, h1, h2⟩ := h
  exact ⟨xs, h1, h2.below hb⟩
theorem IBk.upd {n g k : Nat} {t : TypeId} {w w' : World} (h : IBk n t g w) (hu : Upd k w w') (hk : g ≠ k) : IBk n t g w' := by
  obtain ⟨xs, h1, h2⟩ := h
  exact ⟨xs, h1, h2.upd hu hk⟩
theorem IBk.cell {n g : Nat} {t : TypeId} {w : World} (h : IBk n t g w) {i : Nat} (hi : i < n) : ∃ x : Int, w.cell? ⟨g, i, none⟩ = some (.int .i64 x) := by
  obtain ⟨xs, h1, h2⟩ := h
  refine ⟨xs[i]'(by omega), ?_⟩
  rw [h2.cell i, List.getElem?_map, List.getElem?_eq_getElem (by omega)]
  rfl
theorem IBk.frozen {n g : Nat} {t : TypeId} {w : World} (h : IBk n t g w) (i : Nat) : w.frozen? ⟨g, i, none⟩ = false := by
  obtain ⟨xs, h1, h2⟩ := h
  exact h2.frozen i
theorem IBk.put {n g : Nat} {t : TypeId} {w : World} (h : IBk n t g w) (i : Nat) (x : Int) : IBk n t g (w.setCell ⟨g, i, none⟩ (.int .i64 x)) := by
  obtain ⟨xs, h1, h2⟩ := h
  refine ⟨xs.set i x, by simpa using h1, ?_⟩
  have := h2.set i (.int .i64 x)
  rw [List.map_set]
  exact this
theorem inV_one (xs : List Int) : ∀ u ∈ xs.map inV, u.oneCell' = true := by
  intro u hu
  obtain ⟨x, _, rfl⟩ := List.mem_map.1 hu
  rfl
/-- An arena that is only read, own records of integers and fixed blocks beside it. -/
structure RG (l : AL) (S : AS) (w0 : World) (gs : List (Nat × TypeId × Nat)) (bs : List (Nat × TypeId × List Value)) (w : World) : Prop where
  am0 : AM l S w0
  bel : Below w0.heap.size w0 w
  ints : ∀ p ∈ gs, IBk p.2.2 p.2.1 p.1 w
  fix : ∀ p ∈ bs, Blk w p.1 p.2.1 p.2.2
  lo : ∀ p ∈ gs, w0.heap.size ≤ p.1
  ne : ∀ p ∈ gs, ∀ q ∈ bs, p.1 ≠ q.1
  nn : ∀ p ∈ gs, ∀ q ∈ gs, p.1 = q.1 → p = q
section
variable {l : AL} {S : AS} {w w' w0 : World} {gs : List (Nat × TypeId × Nat)} {bs : List (Nat × TypeId × List Value)}
theorem RG.am (h : RG l S w0 gs bs w) : AM l S w := h.am0.below h.bel
theorem RG.below (h : RG l S w0 gs bs w) (hb : Below w.heap.size w w') : RG l S w0 gs bs w' := ⟨h.am0, h.bel.trans (hb.mono h.bel.size), fun p hp => (h.ints p hp).below hb, fun p hp => (h.fix p hp).below hb, h.lo, h.ne, h.nn⟩
theorem RG.start (h : AM l S w) : RG l S w [] [] w := ⟨h, Below.refl _ _, fun p hp => absurd hp (List.not_mem_nil), fun p hp => absurd hp (List.not_mem_nil), fun p hp => absurd hp (List.not_mem_nil), fun p hp => absurd hp (List.not_mem_nil), fun p hp => absurd hp (List.not_mem_nil)⟩
theorem RG.put (h : RG l S w0 gs bs w) {g : Nat} {t : TypeId} {n : Nat} (hp : (g, t, n) ∈ gs) (i : Nat) (x : Int) : RG l S w0 gs bs (w.setCell ⟨g, i, none⟩ (.int .i64 x)) := by
  have hu : Upd g w (w.setCell ⟨g, i, none⟩ (.int .i64 x)) := (Upd.refl g w).setCell rfl _
  refine ⟨h.am0, h.bel.trans (hu.below (h.lo _ hp) h.bel.size), fun q hq => ?_, fun q hq => (h.fix q hq).upd hu (fun e => h.ne _ hp q hq e.symm), h.lo, h.ne, h.nn⟩
  by_cases e : q.1 = g
  · have : q = (g, t, n) := h.nn q hq _ hp e
    subst this
    exact (h.ints _ hp).put i x
  · exact (h.ints q hq).upd hu e
theorem RG.newI (h : RG l S w0 gs bs w) {g : Nat} (hg : w.heap.size = g) (t : TypeId) (xs : List Int) : RG l S w0 ((g, t, xs.length) :: gs) bs (w.alloc (.cells (xs.map inV).toArray t)) := by
  have hb := nbel w (.cells (xs.map inV).toArray t)
  have hn := Blk.new w (xs.map inV) t
  rw [hg] at hn
  have h' := h.below hb
  have lt1 : ∀ p ∈ gs, p.1 < g := fun p hp => by
    obtain ⟨_, _, h2⟩ := h.ints p hp
    have := h2.lt
    omega
  have lt2 : ∀ p ∈ bs, p.1 < g := fun p hp => by
    have := (h.fix p hp).lt
    omega
  refine ⟨h.am0, h'.bel, fun p hp => ?_, h'.fix, fun p hp => ?_, fun p hp q hq => ?_, fun p hp q hq e => ?_⟩
  · rcases List.mem_cons.1 hp with rfl | hp
    · exact ⟨xs, rfl, hn⟩
    · exact h'.ints p hp
  · rcases List.mem_cons.1 hp with rfl | hp
    · have := h.bel.size; show _ ≤ g; omega
    · exact h.lo p hp
  · rcases List.mem_cons.1 hp with rfl | hp
    · have := lt2 q hq; show g ≠ _; omega
    · exact h.ne p hp q hq
  · rcases List.mem_cons.1 hp with rfl | hp
    · rcases List.mem_cons.1 hq with rfl | hq
      · rfl
      · have := lt1 q hq
        have e' : g = q.1 := e
        omega
    · rcases List.mem_cons.1 hq with rfl | hq
      · have := lt1 p hp
        have e' : p.1 = g := e
        omega
      · exact h.nn p hp q hq e
theorem RG.newF (h : RG l S w0 gs bs w) {g : Nat} (hg : w.heap.size = g) (t : TypeId) (cs : List Value) : RG l S w0 gs ((g, t, cs) :: bs) (w.alloc (.cells cs.toArray t)) := by
  have hb := nbel w (.cells cs.toArray t)
  have hn := Blk.new w cs t
  rw [hg] at hn
  have h' := h.below hb
  have lt1 : ∀ p ∈ gs, p.1 < g := fun p hp => by
    obtain ⟨_, _, h2⟩ := h.ints p hp
    have := h2.lt
    omega
  refine ⟨h.am0, h'.bel, h'.ints, fun p hp => ?_, h.lo, fun p hp q hq => ?_, h.nn⟩
  · rcases List.mem_cons.1 hp with rfl | hp
    · exact hn
    · exact h'.fix p hp
  · rcases List.mem_cons.1 hq with rfl | hq
    · have := lt1 p hp; show p.1 ≠ g; omega
    · exact h.ne p hp q hq
theorem RG.icell (h : RG l S w0 gs bs w) {g : Nat} {t : TypeId} {n : Nat} (hp : (g, t, n) ∈ gs) {i : Nat} (hi : i < n) : (∃ x : Int, w.cell? ⟨g, i, none⟩ = some (.int .i64 x)) ∧ w.frozen? ⟨g, i, none⟩ = false := ⟨(h.ints _ hp).cell hi, (h.ints _ hp).frozen i⟩
/-- A record of the same shape written whole. -/
theorem RG.whole (h : RG l S w0 gs bs w) {g : Nat} {t : TypeId} {n : Nat} (hp : (g, t, n) ∈ gs) (hu : Upd g w w') (hb : IBk n t g w') : RG l S w0 gs bs w' := by
  refine ⟨h.am0, h.bel.trans (hu.below (h.lo _ hp) h.bel.size), fun q hq => ?_, fun q hq => (h.fix q hq).upd hu (fun e => h.ne _ hp q hq e.symm), h.lo, h.ne, h.nn⟩
  by_cases e : q.1 = g
  · have : q = (g, t, n) := h.nn q hq _ hp e
    subst this
    exact hb
  · exact (h.ints q hq).upd hu e
end
theorem info_us : (Tryz.prog.info? 34).map (·.size) = some 8 := by kernel_rfl
theorem agg_us : AggOf Tryz.prog 34 8 := AggOf.struct Tryz.underlying34 (by kernel_rfl)
theorem info_rp : (Tryz.prog.info? 36).map (·.size) = some 5 := by kernel_rfl
theorem agg_rp : AggOf Tryz.prog 36 5 := AggOf.struct Tryz.underlying36 (by kernel_rfl)
theorem info_lr : (Tryz.prog.info? 38).map (·.size) = some 3 := by kernel_rfl
theorem agg_lr : AggOf Tryz.prog 38 3 := AggOf.struct Tryz.underlying38 (by kernel_rfl)
theorem info_ce : (Tryz.prog.info? 44).map (·.size) = some 8 := by kernel_rfl
theorem agg_ce : AggOf Tryz.prog 44 8 := AggOf.struct Tryz.underlying44 (by kernel_rfl)
theorem info_bi : (Tryz.prog.info? 41).map (·.size) = some 7 := by kernel_rfl
theorem agg_bi : AggOf Tryz.prog 41 7 := AggOf.struct Tryz.underlying41 (by kernel_rfl)
end Go.Proofs.Qxb6500887aGreat
