/- A map from keys to slots. -/
import Derived.Test.Qxb6500892aTqPap3
import Derived.Maps.OwnSet
namespace Go.Proofs.Qxb6500892a
open Go.RowKit
set_option linter.unusedSimpArgs false
set_option linter.unusedVariables false

def kvE (p : Nat × Nat) : Value × Value := (.int .u64 (p.1 : Int), .int .i64 (p.2 : Int))
def fiU (k : Nat) : List (Nat × Nat) → Nat → Option (Nat × Nat)
  | [], _ => none
  | p :: L, i => if k = p.1 then some (i, p.2) else fiU k L (i + 1)
theorem find_now (k : Nat) : ∀ (Mp : List (Nat × Nat)) (es : List MapEntry) (i : Nat), es.map (fun e => (e.key, e.val)) = Mp.map kvE → Instr.findNow (.int .u64) (.int .u64 (k : Int)) es i = some ((fiU k Mp i).map fun q => (q.1, .int .i64 (q.2 : Int)))
  | [], es, i, h => by
    simp at h
    subst h
    rfl
  | p :: L, [], i, h => by simp at h
  | p :: L, e :: es, i, h => by
    simp only [List.map_cons, List.cons.injEq, Prod.mk.injEq, kvE] at h
    have hs : Instr.sameNow (.int .u64) (.int .u64 (k : Int)) e.key = some (decide (k = p.1)) := by
      rw [h.1.1]
      simp only [Instr.sameNow, if_true]
      rw [key_beq]
    unfold Instr.findNow fiU
    rw [hs]
    by_cases e1 : k = p.1
    · rw [decide_eq_true e1, if_pos e1, h.1.2]
      rfl
    · rw [decide_eq_false e1, if_neg e1]
      exact find_now k L es (i + 1) h.2
theorem fiU_mem {k v : Nat} : ∀ {Mp : List (Nat × Nat)} {i : Nat}, (Mp.map (·.1)).Nodup → (k, v) ∈ Mp → ∃ j, fiU k Mp i = some (i + j, v) ∧ j < Mp.length ∧ Mp.eraseIdx j = Mp.filter (fun p => decide (p.1 ≠ k))
  | [], _, _, h => by simp at h
  | p :: L, i, hn, h => by
    rw [List.map_cons, List.nodup_cons] at hn
    unfold fiU
    rcases List.mem_cons.1 h with h1 | h1
    · subst h1
      refine ⟨0, by simp, by simp, ?_⟩
      rw [List.filter_cons, if_neg (by simp), List.eraseIdx_cons_zero]
      symm
      rw [List.filter_eq_self]
      intro q hq
      exact decide_eq_true (fun e => hn.1 (by rw [← e]; exact List.mem_map.2 ⟨q, hq, rfl⟩))
    · have hne : k ≠ p.1 := fun e => hn.1 (by rw [← e]; exact List.mem_map.2 ⟨(k, v), h1, rfl⟩)
      obtain ⟨j, h2, h3, h4⟩ := fiU_mem (i := i + 1) hn.2 h1
      refine ⟨j + 1, by rw [if_neg hne, h2]; congr 2; omega, by simp; omega, ?_⟩
      have hd : decide (p.1 ≠ k) = true := decide_eq_true (fun e => hne e.symm)
      rw [List.filter_cons, if_pos hd, List.eraseIdx_cons_succ, h4]
theorem fiU_none {k : Nat} : ∀ {Mp : List (Nat × Nat)} {i : Nat}, (∀ v, (k, v) ∉ Mp) → fiU k Mp i = none
  | [], _, _ => rfl
  | p :: L, i, h => by
    unfold fiU
    rw [if_neg (fun e => h p.2 (by rw [e]; simp)), fiU_none (fun v hv => h v (by simp [hv]))]
theorem erase_map {α β : Type} (f : α → β) : ∀ (l : List α) (j : Nat), (l.eraseIdx j).map f = (l.map f).eraseIdx j
  | [], _ => by simp
  | a :: l, 0 => by simp
  | a :: l, j + 1 => by simp [erase_map f l j]
/-- The map at block m holds Mp. -/
def PMu (w : World) (m : Nat) (Mp : List (Nat × Nat)) : Prop := ∃ es clock, w.heap[m]? = some (.map es clock) ∧ es.toList.map (fun e => (e.key, e.val)) = Mp.map kvE
section
variable {w w' : World} {m : Nat} {Mp : List (Nat × Nat)}
theorem PMu.lt (h : PMu w m Mp) : m < w.heap.size := by
  obtain ⟨es, clock, h1, _⟩ := h
  exact (Array.getElem?_eq_some_iff.1 h1).1
theorem PMu.of (h : PMu w m Mp) (he : w'.heap[m]? = w.heap[m]?) : PMu w' m Mp := by
  obtain ⟨es, clock, h1, h2⟩ := h
  exact ⟨es, clock, by rw [he]; exact h1, h2⟩
theorem PMu.below (h : PMu w m Mp) (hb : Below w.heap.size w w') : PMu w' m Mp := h.of (hb.block m h.lt)
theorem PMu.ne {g : Nat} {t : TypeId} {ds : List Value} (h : PMu w m Mp) (hb : Blk w g t ds) : m ≠ g := fun e => by
  subst e
  obtain ⟨es, clock, h1, _⟩ := h
  unfold Blk at hb
  rw [hb] at h1
  cases h1
theorem PMu.new (w : World) {m : Nat} (hm : w.heap.size = m) : PMu (w.alloc (.map #[] 0)) m [] := ⟨#[], 0, by rw [← hm]; exact (MapKept.heap_alloc w _).1, rfl⟩
theorem und_u64 : Try.prog.underlying 27 = some (.int .u64) := Try.underlying27
theorem check_u64 (b : Bool) (k : Nat) (w : World) : (Instr.checkKey b 10000 27 (.int .u64 (k : Int))).run Try.prog w = .ok () w := by
  rw [Instr.checkKey]
  simp [run_underlying und_u64]
theorem find_u64 (k : Nat) (es : List MapEntry) (w : World) (h : es.map (fun e => (e.key, e.val)) = Mp.map kvE) : (Instr.findKey 27 (.int .u64 (k : Int)) es).run Try.prog w = .ok ((fiU k Mp 0).map fun q => (q.1, .int .i64 (q.2 : Int))) w := by
  unfold Instr.findKey
  simp [run_underlying und_u64, find_now k Mp es 0 h]
theorem zero_int (w : World) : (zeroValue 3).run Try.prog w = .ok (.int .i64 0) w := by kernel_rfl
/-- A look-up. -/
theorem PMu.look (h : PMu w m Mp) (k : Nat) : (Instr.lookup 38 (.map (some m)) (.int .u64 (k : Int)) true).run Try.prog w = .ok (.tuple #[.int .i64 ((((fiU k Mp 0).map (·.2)).getD 0 : Nat) : Int), .bool (fiU k Mp 0).isSome]) w := by
  obtain ⟨es, clock, h1, h2⟩ := h
  have h3 := find_u64 (w := w) k es.toList h2
  unfold Instr.lookup
  cases hf : fiU k Mp 0 with
  | none =>
    rw [hf] at h3
    simp [run_underlying Try.underlying38, h1, MapKept.run_getObj_map h1, check_u64, h3, zero_int]
  | some q =>
    rw [hf] at h3
    simp [run_underlying Try.underlying38, h1, MapKept.run_getObj_map h1, check_u64, h3]
theorem PMu.len (h : PMu w m Mp) (ty : TypeId) : (Builtin.len_ #[38] ty #[.map (some m)]).run Try.prog w = .ok (.int .i64 (Mp.length : Int)) w := by
  obtain ⟨es, clock, h1, h2⟩ := h
  have h3 : es.size = Mp.length := by
    have := congrArg List.length h2
    simpa using this
  simp [Builtin.len_, run_underlying Try.underlying38, MapKept.run_getObj_map h1, h3, goInt]
theorem upd_obj (w : World) (m : Nat) (o : Obj) : Upd m w { w with heap := w.heap.setIfInBounds m o } := ⟨rfl, rfl, rfl, by simp, fun k hk hne => by simp [Array.getElem?_setIfInBounds, Ne.symm hne]⟩
/-- A new key. -/
theorem PMu.put (h : PMu w m Mp) (k v : Nat) (hn : fiU k Mp 0 = none) :
    ∃ w', (Instr.mapUpdate 38 (.map (some m)) (.int .u64 (k : Int)) (.int .i64 (v : Int))).run Try.prog w = .ok () w' ∧ PMu w' m (Mp ++ [(k, v)]) ∧ Upd m w w' := by
  have hlt := h.lt
  obtain ⟨es, clock, h1, h2⟩ := h
  have h3 := find_u64 (w := w) k es.toList h2
  rw [hn] at h3
  refine ⟨{ w with heap := w.heap.setIfInBounds m (.map (es.push ⟨.int .u64 (k : Int), .int .i64 (v : Int), clock⟩) (clock + 1)) }, ?_, ⟨es.push ⟨.int .u64 (k : Int), .int .i64 (v : Int), clock⟩, clock + 1, ?_, ?_⟩, upd_obj w m _⟩
  · unfold Instr.mapUpdate
    simp [run_underlying Try.underlying38, h1, MapKept.run_getObj_map h1, check_u64, h3]
    exact MapKept.run_setObj_map _ h1
  · simp [hlt]
  · simp [h2, kvE]
/-- A key goes. -/
theorem PMu.del (h : PMu w m Mp) {k v : Nat} (hn : (Mp.map (·.1)).Nodup) (hk : (k, v) ∈ Mp) (ty : TypeId) :
    ∃ w', (Builtin.delete_ #[38, 27] ty #[.map (some m), .int .u64 (k : Int)]).run Try.prog w = .ok (.tuple #[]) w' ∧ PMu w' m (Mp.filter fun p => decide (p.1 ≠ k)) ∧ Upd m w w' := by
  have hlt := h.lt
  obtain ⟨es, clock, h1, h2⟩ := h
  have h3 := find_u64 (w := w) k es.toList h2
  obtain ⟨j, h4, h5, h6⟩ := fiU_mem (i := 0) hn hk
  rw [h4] at h3
  refine ⟨{ w with heap := w.heap.setIfInBounds m (.map (es.eraseIdxIfInBounds j) clock) }, ?_, ⟨es.eraseIdxIfInBounds j, clock, ?_, ?_⟩, upd_obj w m _⟩
  · unfold Builtin.delete_
    simp [run_underlying Try.underlying38, h1, MapKept.run_getObj_map h1, check_u64, h3]
    rw [MapKept.run_setObj_map _ h1]
    rfl
  · simp [hlt]
  · rw [← h6]
    have h7 : (es.eraseIdxIfInBounds j).toList = es.toList.eraseIdx j := by simp
    rw [h7, erase_map, h2, erase_map]
end
end Go.Proofs.Qxb6500892a
