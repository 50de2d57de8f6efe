/- Maps keyed by 64-bit numbers as functions to optional values. Nothing here speaks of one program. -/
import Derived.Test.Qxb6500883aGreatDoorMapN
namespace Go.Proofs.Qxb6500883aGreatDoor
open Go.RowKit
open Go.ChangeMaps (setBlock)
set_option linter.unusedSimpArgs false
set_option linter.unusedVariables false

def fup {α : Type} (f : Nat → α) (k : Nat) (v : α) : Nat → α := fun i => if i = k then v else f i
theorem fup_self {α : Type} (f : Nat → α) (k : Nat) (v : α) : fup f k v k = v := by simp [fup]
theorem fup_ne {α : Type} (f : Nat → α) {k i : Nat} (v : α) (h : i ≠ k) : fup f k v i = f i := by simp [fup, h]
theorem fup_same {α : Type} (f : Nat → α) (k : Nat) : fup f k (f k) = f := by
  funext i
  by_cases h : i = k
  · subst h; exact fup_self _ _ _
  · exact fup_ne _ _ h
theorem fup_fup {α : Type} (f : Nat → α) (k : Nat) (u v : α) : fup (fup f k u) k v = fup f k v := by
  funext i
  by_cases h : i = k
  · subst h; rw [fup_self, fup_self]
  · rw [fup_ne _ _ h, fup_ne _ _ h, fup_ne _ _ h]
theorem Blk.of {w w' : World} {g : Nat} {t : TypeId} {cs : List Value} (h : Blk w g t cs) (he : w'.heap[g]? = w.heap[g]?) : Blk w' g t cs := by
  unfold Blk
  rw [he]
  exact h
/-- One entry's value is another. -/
def setE (k : Nat) (v : Value) (E : List Ent) : List Ent := E.map fun p => if p.k = k then { p with v := v } else p
theorem setE_k (k : Nat) (v : Value) (E : List Ent) : (setE k v E).map (·.k) = E.map (·.k) := by
  unfold setE
  rw [List.map_map]
  apply List.map_congr_left
  intro p _
  simp only [Function.comp]
  split <;> rfl
theorem setE_b (k : Nat) (v : Value) (E : List Ent) : (setE k v E).map (·.b) = E.map (·.b) := by
  unfold setE
  rw [List.map_map]
  apply List.map_congr_left
  intro p _
  simp only [Function.comp]
  split <;> rfl
theorem setE_mod {k : Nat} {v : Value} : ∀ {E : List Ent} {j : Nat} {e : Ent}, (E.map (·.k)).Nodup → E[j]? = some e → e.k = k → (E.map entOf).modify j (fun x => { x with key := .int .u64 (k : Int), val := v }) = (setE k v E).map entOf
  | [], _, _, _, h, _ => by simp at h
  | p :: L, 0, e, hn, h, hk => by
    simp at h
    subst h
    rw [List.map_cons, List.nodup_cons] at hn
    have h1 : setE k v L = L := by
      unfold setE
      conv => rhs; rw [← List.map_id L]
      apply List.map_congr_left
      intro q hq
      rw [if_neg (fun e' => hn.1 (by rw [hk, ← e']; exact List.mem_map.2 ⟨q, hq, rfl⟩))]
      rfl
    have h2 : setE k v (p :: L) = { p with v := v } :: L := by
      show (if p.k = k then { p with v := v } else p) :: setE k v L = _
      rw [if_pos hk, h1]
    rw [h2]
    simp [entOf, hk]
  | p :: L, j + 1, e, hn, h, hk => by
    simp at h
    rw [List.map_cons, List.nodup_cons] at hn
    have hp : p.k ≠ k := fun e' => hn.1 (by rw [e', ← hk]; exact List.mem_map.2 ⟨e, List.mem_of_getElem? h, rfl⟩)
    have h2 : setE k v (p :: L) = p :: setE k v L := by
      show (if p.k = k then { p with v := v } else p) :: setE k v L = _
      rw [if_neg hp]
    have ih := setE_mod (v := v) hn.2 h hk
    rw [h2, List.map_cons, List.map_cons, ← ih]
    simp
section
variable {w w' : World} {m : Nat} {E : List Ent}
variable {P : Program} {mt kt vt : TypeId} (hmt : P.underlying mt = some (.map kt vt)) (hkt : P.underlying kt = some (.int .u64))
include hmt hkt in
/-- A key that is there gets another value. -/
theorem PN.set (h : PN w m E) {e : Ent} (he : e ∈ E) (v : Value) :
    ∃ w', (Instr.mapUpdate mt (.map (some m)) (.int .u64 (e.k : Int)) v).run P w = .ok () w' ∧ PN w' m (setE e.k v E) ∧ Upd m w w' := by
  have hlt := h.lt
  obtain ⟨ck, h1, h2⟩ := h
  have h3 := find_N hkt (E := E) e.k w
  obtain ⟨j, h4, h5, _, h6⟩ := fiE_mem (i := 0) h2.ks he
  rw [Nat.zero_add] at h4
  rw [h4] at h3
  have hj : ((E.map entOf).toArray[j]?.map (·.key)).getD (.int .u64 (e.k : Int)) = .int .u64 (e.k : Int) := by simp [h6, entOf]
  have hmod := setE_mod (k := e.k) (v := v) h2.ks h6 rfl
  refine ⟨{ w with heap := w.heap.setIfInBounds m (.map ((setE e.k v E).map entOf).toArray ck) }, ?_, ⟨ck, by simp [hlt], ⟨by rw [setE_k]; exact h2.ks, by rw [setE_b]; exact h2.bs, fun x hx => ?_⟩⟩, updN_obj w m _⟩
  · unfold Instr.mapUpdate
    simp only [run_underlying hmt, Sem.run_bind, MapKept.run_getObj_map h1, check_N hkt, h3, Result.andThen_ok, hj, Instr.keyThatStays, Instr.sameBits]
    simp [MapKept.run_setObj_map _ h1, hmod]
  · unfold setE at hx
    obtain ⟨p, hp, rfl⟩ := List.mem_map.1 hx
    have := h2.lt p hp
    split <;> exact this
end
/-- The map at block m is the function f. -/
def MF (w : World) (m : Nat) (f : Nat → Option Value) : Prop := ∃ E, PN w m E ∧ (∀ e ∈ E, f e.k = some e.v) ∧ ∀ a v, f a = some v → ∃ e ∈ E, e.k = a
section
variable {w w' : World} {m : Nat} {f : Nat → Option Value}
theorem MF.lt (h : MF w m f) : m < w.heap.size := by
  obtain ⟨E, h1, _⟩ := h
  exact h1.lt
theorem MF.of (h : MF w m f) (he : w'.heap[m]? = w.heap[m]?) : MF w' m f := by
  obtain ⟨E, h1, h2⟩ := h
  exact ⟨E, h1.of he, h2⟩
theorem MF.below (h : MF w m f) (hb : Below w.heap.size w w') : MF w' m f := h.of (hb.block m h.lt)
theorem MF.upd {g : Nat} (h : MF w m f) (hu : Upd g w w') (hne : m ≠ g) : MF w' m f := h.of (hu.block m h.lt hne)
theorem MF.ne {g : Nat} {t : TypeId} {ds : List Value} (h : MF w m f) (hb : Blk w g t ds) : m ≠ g := by
  obtain ⟨E, h1, _⟩ := h
  exact h1.ne hb
theorem MF.new (w : World) {m : Nat} (hm : w.heap.size = m) : MF (w.alloc (.map #[] 0)) m (fun _ => none) := ⟨[], PN.new w hm, fun (e : Ent) (he : e ∈ ([] : List Ent)) => by simp at he, fun (a : Nat) (v : Value) (h : none = some v) => by simp at h⟩
theorem MF.congr {g : Nat → Option Value} (h : MF w m f) (hg : ∀ a, g a = f a) : MF w m g := by
  have : g = f := funext hg
  rw [this]
  exact h
variable {P : Program} {mt kt vt : TypeId} (hmt : P.underlying mt = some (.map kt vt)) (hkt : P.underlying kt = some (.int .u64))
theorem MF.absent {E : List Ent} (h2 : ∀ e ∈ E, f e.k = some e.v) {k : Nat} (hk : f k = none) : ∀ e ∈ E, e.k ≠ k := fun e he hc => by
  have := h2 e he
  rw [hc, hk] at this
  cases this
include hmt hkt in
theorem MF.look (h : MF w m f) (k : Nat) {z : Value} (hz : ∀ w, (zeroValue vt).run P w = .ok z w) : (Instr.lookup mt (.map (some m)) (.int .u64 (k : Int)) false).run P w = .ok ((f k).getD z) w := by
  obtain ⟨E, h1, h2, h3⟩ := h
  cases hf : f k with
  | none => exact h1.lookZ hmt hkt (MF.absent h2 hf) hz
  | some v =>
    obtain ⟨e, he, rfl⟩ := h3 k v hf
    have := h1.look hmt hkt he
    rw [h2 e he] at hf
    cases hf
    exact this
include hmt hkt in
theorem MF.lookT (h : MF w m f) (k : Nat) {z : Value} (hz : ∀ w, (zeroValue vt).run P w = .ok z w) : (Instr.lookup mt (.map (some m)) (.int .u64 (k : Int)) true).run P w = .ok (.tuple #[(f k).getD z, .bool (f k).isSome]) w := by
  obtain ⟨E, h1, h2, h3⟩ := h
  cases hf : f k with
  | none => exact h1.lookTZ hmt hkt (MF.absent h2 hf) hz
  | some v =>
    obtain ⟨e, he, rfl⟩ := h3 k v hf
    have := h1.lookT hmt hkt he
    rw [h2 e he] at hf
    cases hf
    exact this
include hmt hkt in
theorem MF.put (h : MF w m f) (k : Nat) (v : Value) : ∃ w', (Instr.mapUpdate mt (.map (some m)) (.int .u64 (k : Int)) v).run P w = .ok () w' ∧ MF w' m (fup f k (some v)) ∧ Upd m w w' := by
  obtain ⟨E, h1, h2, h3⟩ := h
  cases hf : f k with
  | none =>
    obtain ⟨w', b, g1, g2, g3⟩ := h1.put hmt hkt k v (MF.absent h2 hf)
    refine ⟨w', g1, ⟨_, g2, fun e he => ?_, fun a u ha => ?_⟩, g3⟩
    · rcases List.mem_append.1 he with h' | h'
      · rw [fup_ne _ _ (MF.absent h2 hf e h')]; exact h2 e h'
      · simp at h'; subst h'; exact fup_self _ _ _
    · by_cases hak : a = k
      · subst hak; exact ⟨⟨a, v, b⟩, by simp, rfl⟩
      · rw [fup_ne _ _ hak] at ha
        obtain ⟨e, he, hk⟩ := h3 a u ha
        exact ⟨e, by simp [he], hk⟩
  | some u =>
    obtain ⟨e, he, rfl⟩ := h3 k u hf
    obtain ⟨w', g1, g2, g3⟩ := h1.set hmt hkt he v
    refine ⟨w', g1, ⟨_, g2, fun x hx => ?_, fun a u ha => ?_⟩, g3⟩
    · unfold setE at hx
      obtain ⟨p, hp, rfl⟩ := List.mem_map.1 hx
      by_cases hpk : p.k = e.k
      · rw [if_pos hpk]; show fup f e.k (some v) p.k = some v; rw [hpk, fup_self]
      · rw [if_neg hpk, fup_ne _ _ hpk]; exact h2 p hp
    · have : ∃ x ∈ E, x.k = a := by
        by_cases hak : a = e.k
        · exact ⟨e, he, hak.symm⟩
        · rw [fup_ne _ _ hak] at ha
          exact h3 a u ha
      obtain ⟨x, hx, rfl⟩ := this
      refine ⟨_, List.mem_map.2 ⟨x, hx, rfl⟩, ?_⟩
      split <;> rfl
theorem PN.delZ {E : List Ent} (hmt : P.underlying mt = some (.map kt vt)) (hkt : P.underlying kt = some (.int .u64)) (h : PN w m E) {k : Nat} (hk : ∀ e ∈ E, e.k ≠ k) (ty : TypeId) : ∃ w', (Builtin.delete_ #[mt, kt] ty #[.map (some m), .int .u64 (k : Int)]).run P w = .ok (.tuple #[]) w' ∧ PN w' m E ∧ Upd m w w' := by
  have hlt := h.lt
  obtain ⟨ck, h1, h2⟩ := h
  have h3 := find_N hkt (E := E) k w
  rw [fiE_none hk] at h3
  refine ⟨{ w with heap := w.heap.setIfInBounds m (.map (E.map entOf).toArray ck) }, ?_, ⟨ck, by simp [hlt], h2⟩, updN_obj w m _⟩
  unfold Builtin.delete_
  simp [run_underlying hmt, MapKept.run_getObj_map h1, check_N hkt, h3]
  rw [MapKept.run_setObj_map _ h1]
  rfl
include hmt hkt in
theorem MF.del (h : MF w m f) (k : Nat) (ty : TypeId) : ∃ w', (Builtin.delete_ #[mt, kt] ty #[.map (some m), .int .u64 (k : Int)]).run P w = .ok (.tuple #[]) w' ∧ MF w' m (fup f k none) ∧ Upd m w w' := by
  obtain ⟨E, h1, h2, h3⟩ := h
  cases hf : f k with
  | none =>
    obtain ⟨w', g1, g2, g3⟩ := h1.delZ hmt hkt (MF.absent h2 hf) ty
    refine ⟨w', g1, ?_, g3⟩
    rw [← hf, fup_same]
    exact ⟨E, g2, h2, h3⟩
  | some u =>
    obtain ⟨e, he, rfl⟩ := h3 k u hf
    obtain ⟨w', g1, g2, g3⟩ := h1.del hmt hkt he ty
    refine ⟨w', g1, ⟨_, g2, fun x hx => ?_, fun a u ha => ?_⟩, g3⟩
    · obtain ⟨h4, h5⟩ := List.mem_filter.1 hx
      rw [fup_ne _ _ (of_decide_eq_true h5)]
      exact h2 x h4
    · have hak : a ≠ e.k := fun hc => by rw [hc, fup_self] at ha; cases ha
      rw [fup_ne _ _ hak] at ha
      obtain ⟨x, hx, rfl⟩ := h3 a u ha
      exact ⟨x, List.mem_filter.2 ⟨hx, decide_eq_true hak⟩, rfl⟩
end
end Go.Proofs.Qxb6500883aGreatDoor
