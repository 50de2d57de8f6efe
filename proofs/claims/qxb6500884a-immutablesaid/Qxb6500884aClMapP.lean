/- A map whose keys are registers' addresses. -/
import Derived.Test.Qxb6500884aClMild
import Derived.LaidEql
import Derived.Maps.OwnSet
namespace Go.Proofs.Qxb6500884a
open Go.RowKit
set_option linter.unusedSimpArgs false
set_option linter.unusedVariables false

def ptK (r : Nat) : Value := .pointer (some ⟨r, 0, none⟩)
def IsReg (w : World) (r : Nat) : Prop := ∃ ds, Blk w r 40 ds
theorem size_reg (w : World) : (sizeOf 40).run Try.prog w = .ok 2 w := by kernel_rfl
theorem eq_ptr (r s : Nat) (w : World) (hr : IsReg w r) (hs : IsReg w s) : (Op.equal 38 (ptK r) (ptK s)).run Try.prog w = .ok (decide (r = s)) w := by
  obtain ⟨d1, hr⟩ := hr
  obtain ⟨d2, hs⟩ := hs
  show (Op.equalIn (9999 + 1) 38 (ptK r) (ptK s)).run Try.prog w = _
  unfold ptK
  rw [Op.equalIn]
  by_cases h : r = s
  · subst h
    simp [run_underlying Try.underlying38, size_reg, run_sameAddr_same]
  · simp [run_underlying Try.underlying38, size_reg, h]
    rw [run_sameAddr_other w (a := ⟨r, 0, none⟩) (b := ⟨s, 0, none⟩) (fun e => h (by injection e)) hr hs]
def findK (r : Nat) : List (Nat × Value) → Option Value
  | [] => none
  | p :: L => if r = p.1 then some p.2 else findK r L
theorem ask_find (w : World) (r : Nat) (hr : IsReg w r) : ∀ (L : List (Nat × Value)) (es : List MapEntry) (i : Nat), es.map (fun e => (e.key, e.val)) = L.map (fun p => (ptK p.1, p.2)) → (∀ p ∈ L, IsReg w p.1) →
    ∃ o, (Instr.findAsking 38 (ptK r) es i).run Try.prog w = .ok o w ∧ o.map (·.2) = findK r L
  | [], es, i, h, _ => by
    simp at h
    subst h
    exact ⟨none, by simp [Instr.findAsking], rfl⟩
  | p :: L, [], i, h, _ => by simp at h
  | p :: L, e :: es, i, h, hk => by
    simp only [List.map_cons, List.cons.injEq, Prod.mk.injEq] at h
    have h1 := eq_ptr r p.1 w hr (hk p (by simp))
    by_cases e1 : r = p.1
    · exact ⟨some (i, e.val), by rw [e1] at h1 ⊢; simp [Instr.findAsking, h.1.1, h1], by simp [findK, e1, h.1.2]⟩
    · obtain ⟨o, h2, h3⟩ := ask_find w r hr L es (i + 1) h.2 (fun q hq => hk q (by simp [hq]))
      exact ⟨o, by simp [Instr.findAsking, h.1.1, h1, e1, h2], by rw [h3]; simp [findK, e1]⟩
theorem find_key (w : World) (r : Nat) (hr : IsReg w r) (L : List (Nat × Value)) (es : List MapEntry) (h : es.map (fun e => (e.key, e.val)) = L.map (fun p => (ptK p.1, p.2))) (hk : ∀ p ∈ L, IsReg w p.1) :
    ∃ o, (Instr.findKey 38 (ptK r) es).run Try.prog w = .ok o w ∧ o.map (·.2) = findK r L := by
  unfold Instr.findKey
  cases es with
  | nil =>
    cases L with
    | nil => exact ⟨none, by simp [run_underlying Try.underlying38, Instr.findNow], rfl⟩
    | cons p L => simp at h
  | cons e es =>
    obtain ⟨o, h2, h3⟩ := ask_find w r hr L (e :: es) 0 h hk
    exact ⟨o, by simp [run_underlying Try.underlying38, Instr.findNow, Instr.sameNow, ptK]; exact h2, h3⟩
/-- The map at block m holds L, oldest first. -/
def PMp (w : World) (m : Nat) (L : List (Nat × Value)) : Prop := ∃ es clock, w.heap[m]? = some (.map es clock) ∧ es.toList.map (fun e => (e.key, e.val)) = L.map (fun p => (ptK p.1, p.2))
theorem PMp.lt {w : World} {m : Nat} {L : List (Nat × Value)} (h : PMp w m L) : m < w.heap.size := by
  obtain ⟨es, clock, h1, _⟩ := h
  exact (Array.getElem?_eq_some_iff.1 h1).1
theorem PMp.of {w w' : World} {m : Nat} {L : List (Nat × Value)} (h : PMp w m L) (he : w'.heap[m]? = w.heap[m]?) : PMp w' m L := by
  obtain ⟨es, clock, h1, h2⟩ := h
  exact ⟨es, clock, by rw [he]; exact h1, h2⟩
theorem PMp.below {w w' : World} {m : Nat} {L : List (Nat × Value)} (h : PMp w m L) (hb : Below w.heap.size w w') : PMp w' m L := h.of (hb.block m h.lt)
theorem PMp.ne {w : World} {m g : Nat} {L : List (Nat × Value)} {t : TypeId} {ds : List Value} (h : PMp w m L) (hb : Blk w g t ds) : m ≠ g := fun e => by
  subst e
  obtain ⟨es, clock, h1, _⟩ := h
  unfold Blk at hb
  rw [hb] at h1
  cases h1
theorem PMp.new (w : World) {m : Nat} (hm : w.heap.size = m) : PMp (w.alloc (.map #[] 0)) m [] := ⟨#[], 0, by rw [← hm]; exact (MapKept.heap_alloc w _).1, rfl⟩
theorem check_ptr (b : Bool) (r : Nat) (w : World) : (Instr.checkKey b 10000 38 (ptK r)).run Try.prog w = .ok () w := by
  unfold ptK
  rw [Instr.checkKey]
  simp [run_underlying Try.underlying38]
theorem zero_ivs (w : World) : (zeroValue 25).run Try.prog w = .ok (.slice none 0 0) w := by kernel_rfl
theorem PMp.look {w : World} {m : Nat} {L : List (Nat × Value)} (h : PMp w m L) (r : Nat) (hr : IsReg w r) (hk : ∀ p ∈ L, IsReg w p.1) :
    (Instr.lookup 64 (.map (some m)) (ptK r) false).run Try.prog w = .ok ((findK r L).getD (.slice none 0 0)) w := by
  obtain ⟨es, clock, h1, h2⟩ := h
  obtain ⟨o, h3, h4⟩ := find_key w r hr L es.toList h2 hk
  rw [← h4]
  unfold Instr.lookup
  cases o with
  | none => simp [run_underlying Try.underlying64, h1, MapKept.run_getObj_map h1, check_ptr, h3, zero_ivs]
  | some q => simp [run_underlying Try.underlying64, h1, MapKept.run_getObj_map h1, check_ptr, h3]
theorem PMp.put {w : World} {m : Nat} {L : List (Nat × Value)} (h : PMp w m L) (r : Nat) (v : Value) (hr : IsReg w r) (hk : ∀ p ∈ L, IsReg w p.1) (hn : findK r L = none) :
    ∃ o, (Instr.mapUpdate 64 (.map (some m)) (ptK r) v).run Try.prog w = .ok () { w with heap := w.heap.setIfInBounds m o } ∧ PMp { w with heap := w.heap.setIfInBounds m o } m (L ++ [(r, v)]) := by
  have hlt := h.lt
  obtain ⟨es, clock, h1, h2⟩ := h
  obtain ⟨o, h3, h4⟩ := find_key w r hr L es.toList h2 hk
  rw [hn] at h4
  cases o with
  | some q => cases h4
  | none =>
    refine ⟨.map (es.push ⟨ptK r, v, clock⟩) (clock + 1), ?_, es.push ⟨ptK r, v, clock⟩, clock + 1, ?_, ?_⟩
    · unfold Instr.mapUpdate
      simp [run_underlying Try.underlying64, h1, MapKept.run_getObj_map h1, check_ptr, h3]
      exact MapKept.run_setObj_map _ h1
    · simp [hlt]
    · simp [h2]
end Go.Proofs.Qxb6500884a
