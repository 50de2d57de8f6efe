/- Maps keyed by 64-bit numbers: an entry made and then written (a, b = x, y). -/
import Derived.Test.Qxb6500889aDoorMapN
namespace Go.Proofs.Qxb6500889aDoor
open Go.RowKit
open Go.ChangeMaps (setBlock)
set_option linter.unusedSimpArgs false
set_option linter.unusedVariables false
section
variable {w w' : World} {m : Nat} {E : List Ent}
theorem born_last {E : List Ent} {ck : Nat} (h : ∀ e ∈ E, e.b < ck) (e0 : Ent) (he : e0.b = ck) : ((E ++ [e0]).map entOf).toArray.findIdx? (fun e => (e.born : Int) == (ck : Int)) = some E.length := by
  rw [List.findIdx?_toArray, List.map_append, List.findIdx?_append]
  have h1 : (E.map entOf).findIdx? (fun e => (e.born : Int) == (ck : Int)) = none := by
    rw [List.findIdx?_eq_none_iff]
    intro x hx
    obtain ⟨e, h2, rfl⟩ := List.mem_map.1 hx
    have := h e h2
    have hb : (entOf e).born = e.b := rfl
    rw [hb, keyN_beq, decide_eq_false (by omega)]
  rw [h1]
  have hb : (entOf e0).born = ck := he
  simp [List.findIdx?_cons, hb]
variable {P : Program} {mt kt vt : TypeId} (hmt : P.underlying mt = some (.map kt vt)) (hkt : P.underlying kt = some (.int .u64))
include hmt hkt in
/-- A new key's entry, and then its value. -/
theorem PN.entry (h : PN w m E) (k : Nat) (hk : ∀ e ∈ E, e.k ≠ k) {z : Value} (hz : ∀ w, (zeroValue vt).run P w = .ok z w) :
    ∃ w' b, (Instr.mapEntry mt (.map (some m)) (.int .u64 (k : Int))).run P w = .ok (.tuple #[z, .int .i64 ((b : Nat) : Int)]) w' ∧ PN w' m (E ++ [⟨k, z, b⟩]) ∧ Upd m w w' ∧
      ∀ w2 v, w2.heap[m]? = w'.heap[m]? → ∃ w3, (Instr.entryStore mt (.map (some m)) (.int .i64 ((b : Nat) : Int)) v).run P w2 = .ok () w3 ∧ PN w3 m (E ++ [⟨k, v, b⟩]) ∧ Upd m w2 w3 := by
  have hlt := h.lt
  obtain ⟨ck, h1, h2⟩ := h
  have h3 := find_N hkt (E := E) k w
  rw [fiE_none hk] at h3
  have hwf : ∀ v : Value, WfE (E ++ [⟨k, v, ck⟩]) (ck + 1) := fun v => by
    refine ⟨?_, ?_, fun e he => ?_⟩
    · rw [List.map_append, List.nodup_append]
      refine ⟨h2.ks, by simp, fun a ha b hb => ?_⟩
      simp at hb
      obtain ⟨e, he, rfl⟩ := List.mem_map.1 ha
      rw [hb]
      exact hk e he
    · rw [List.map_append, List.nodup_append]
      refine ⟨h2.bs, by simp, fun a ha b hb => ?_⟩
      simp at hb
      obtain ⟨e, he, rfl⟩ := List.mem_map.1 ha
      have := h2.lt e he
      omega
    · rcases List.mem_append.1 he with h' | h'
      · have := h2.lt e h'; omega
      · simp at h'; subst h'; simp
  have hnew : ({ w with heap := w.heap.setIfInBounds m (.map ((E ++ [Ent.mk k z ck]).map entOf).toArray (ck + 1)) } : World).heap[m]? = some (.map ((E ++ [Ent.mk k z ck]).map entOf).toArray (ck + 1)) := by simp [hlt]
  refine ⟨{ w with heap := w.heap.setIfInBounds m (.map ((E ++ [Ent.mk k z ck]).map entOf).toArray (ck + 1)) }, ck, ?_, ⟨ck + 1, hnew, hwf z⟩, updN_obj w m _, fun w2 v hw2 => ?_⟩
  · have hp : ((E ++ [Ent.mk k z ck]).map entOf).toArray = (E.map entOf).toArray.push ⟨.int .u64 (k : Int), z, ck⟩ := by simp [entOf]
    rw [hp]
    unfold Instr.mapEntry
    simp [run_underlying hmt, MapKept.run_getObj_map h1, check_N hkt, h3, hz]
    rw [MapKept.run_setObj_map _ h1]
    rfl
  · rw [hnew] at hw2
    have hl2 : m < w2.heap.size := by
      by_cases e : m < w2.heap.size
      · exact e
      · rw [Array.getElem?_eq_none (by omega)] at hw2; cases hw2
    have hmod : ((E ++ [Ent.mk k z ck]).map entOf).toArray.modify E.length (fun e => { e with val := v }) = ((E ++ [Ent.mk k v ck]).map entOf).toArray := by
      apply Array.ext'
      rw [Array.toList_modify]
      apply List.ext_getElem?
      intro i
      rw [List.getElem?_modify]
      by_cases hi : E.length = i
      · subst hi
        simp [entOf]
      · rcases Nat.lt_or_ge i E.length with h | h
        · simp [List.getElem?_append_left, h, hi]
        · have h6 : E.length < i := by omega
          simp [hi, List.getElem?_append_right, h]
          rw [List.getElem?_eq_none (by simp; omega), List.getElem?_eq_none (by simp; omega)]
    refine ⟨{ w2 with heap := w2.heap.setIfInBounds m (.map ((E ++ [Ent.mk k v ck]).map entOf).toArray (ck + 1)) }, ?_, ⟨ck + 1, by simp [hl2], hwf v⟩, updN_obj w2 m _⟩
    have hix := born_last h2.lt ⟨k, z, ck⟩ rfl
    rw [← hmod]
    generalize ((E ++ [Ent.mk k z ck]).map entOf).toArray = arr at hw2 hix ⊢
    unfold Instr.entryStore
    simp only [Sem.run_bind, MapKept.run_getObj_map hw2, Result.andThen_ok]
    have hai : (asInt (.int .i64 (ck : Int))).run P w2 = .ok (ck : Int) w2 := rfl
    rw [hai, Result.andThen_ok, hix]
    exact MapKept.run_setObj_map _ hw2
end
end Go.Proofs.Qxb6500889aDoor
