/- Maps keyed by 64-bit numbers, of whatever values, with their births: look-up, length, put, delete, range. Nothing here speaks of one program. -/
import Derived.Test.Qxb6500883aGreatDoorBlk
import Derived.Maps.RangeRun
import Derived.Maps.RangeWalk
namespace Go.Proofs.Qxb6500883aGreatDoor
open Go.RowKit
open Go.ChangeMaps (setBlock)
set_option linter.unusedSimpArgs false
set_option linter.unusedVariables false

structure Ent where
  k : Nat
  v : Value
  b : Nat
def entOf (e : Ent) : MapEntry := ⟨.int .u64 (e.k : Int), e.v, e.b⟩
def fiE (k : Nat) : List Ent → Nat → Option (Nat × Value)
  | [], _ => none
  | p :: L, i => if k = p.k then some (i, p.v) else fiE k L (i + 1)
theorem keyN_beq (k p : Nat) : ((k : Int) == (p : Int)) = decide (k = p) := by
  rw [Bool.eq_iff_iff]
  simp
  omega
theorem find_nowN (k : Nat) : ∀ (E : List Ent) (i : Nat), Instr.findNow (.int .u64) (.int .u64 (k : Int)) (E.map entOf) i = some (fiE k E i)
  | [], i => rfl
  | p :: L, i => by
    have hs : Instr.sameNow (.int .u64) (.int .u64 (k : Int)) (entOf p).key = some (decide (k = p.k)) := by
      simp only [entOf, Instr.sameNow, if_true]
      rw [keyN_beq]
    rw [List.map_cons]
    unfold Instr.findNow fiE
    rw [hs]
    by_cases e1 : k = p.k
    · rw [decide_eq_true e1, if_pos e1]
      rfl
    · rw [decide_eq_false e1, if_neg e1]
      exact find_nowN k L (i + 1)
structure WfE (E : List Ent) (ck : Nat) : Prop where
  ks : (E.map (·.k)).Nodup
  bs : (E.map (·.b)).Nodup
  lt : ∀ e ∈ E, e.b < ck
theorem fiE_mem {e : Ent} : ∀ {E : List Ent} {i : Nat}, (E.map (·.k)).Nodup → e ∈ E → ∃ j, fiE e.k E i = some (i + j, e.v) ∧ j < E.length ∧ E.eraseIdx j = E.filter (fun p => decide (p.k ≠ e.k)) ∧ E[j]? = some e
  | [], _, _, h => by simp at h
  | p :: L, i, hn, h => by
    rw [List.map_cons, List.nodup_cons] at hn
    unfold fiE
    rcases List.mem_cons.1 h with h1 | h1
    · subst h1
      refine ⟨0, by simp, by simp, ?_, rfl⟩
      rw [List.filter_cons, if_neg (by simp), List.eraseIdx_cons_zero]
      symm
      rw [List.filter_eq_self]
      intro q hq
      exact decide_eq_true (fun e' => hn.1 (by rw [← e']; exact List.mem_map.2 ⟨q, hq, rfl⟩))
    · have hne : e.k ≠ p.k := fun e' => hn.1 (by rw [← e']; exact List.mem_map.2 ⟨e, h1, rfl⟩)
      obtain ⟨j, h2, h3, h4, h5⟩ := fiE_mem (i := i + 1) hn.2 h1
      refine ⟨j + 1, by rw [if_neg hne, h2]; congr 2; omega, by simp; omega, ?_, by simpa using h5⟩
      have hd : decide (p.k ≠ e.k) = true := decide_eq_true (fun e' => hne e'.symm)
      rw [List.filter_cons, if_pos hd, List.eraseIdx_cons_succ, h4]
theorem fiE_none {k : Nat} : ∀ {E : List Ent} {i : Nat}, (∀ e ∈ E, e.k ≠ k) → fiE k E i = none
  | [], _, _ => rfl
  | p :: L, i, h => by
    unfold fiE
    rw [if_neg (fun e => h p (by simp) e.symm), fiE_none (fun e he => h e (by simp [he]))]
theorem eraseN_map {α β : Type} (f : α → β) : ∀ (l : List α) (j : Nat), (l.eraseIdx j).map f = (l.map f).eraseIdx j
  | [], _ => by simp
  | a :: l, 0 => by simp
  | a :: l, j + 1 => by simp [eraseN_map f l j]
theorem inj_of_nodup {α β : Type} {f : α → β} : ∀ {l : List α}, (l.map f).Nodup → ∀ {x y : α}, x ∈ l → y ∈ l → f x = f y → x = y
  | [], _, _, _, h, _, _ => by cases h
  | a :: l, hn, x, y, hx, hy, hf => by
    rw [List.map_cons, List.nodup_cons] at hn
    rcases List.mem_cons.1 hx with hx1 | hx1
    · rcases List.mem_cons.1 hy with hy1 | hy1
      · rw [hx1, hy1]
      · exact absurd (List.mem_map.2 ⟨y, hy1, by rw [← hf, hx1]⟩) hn.1
    · rcases List.mem_cons.1 hy with hy1 | hy1
      · exact absurd (List.mem_map.2 ⟨x, hx1, by rw [hf, hy1]⟩) hn.1
      · exact inj_of_nodup hn.2 hx1 hy1 hf
/-- The map at block m holds E. -/
def PN (w : World) (m : Nat) (E : List Ent) : Prop := ∃ ck, w.heap[m]? = some (.map (E.map entOf).toArray ck) ∧ WfE E ck
section
variable {w w' : World} {m : Nat} {E : List Ent}
theorem PN.lt (h : PN w m E) : m < w.heap.size := by
  obtain ⟨ck, h1, _⟩ := h
  exact (Array.getElem?_eq_some_iff.1 h1).1
theorem PN.of (h : PN w m E) (he : w'.heap[m]? = w.heap[m]?) : PN w' m E := by
  obtain ⟨ck, h1, h2⟩ := h
  exact ⟨ck, by rw [he]; exact h1, h2⟩
theorem PN.below (h : PN w m E) (hb : Below w.heap.size w w') : PN w' m E := h.of (hb.block m h.lt)
theorem PN.upd {g : Nat} (h : PN w m E) (hu : Upd g w w') (hne : m ≠ g) : PN w' m E := h.of (hu.block m h.lt hne)
theorem PN.nek (h : PN w m E) : (E.map (·.k)).Nodup := by
  obtain ⟨ck, _, h2⟩ := h
  exact h2.ks
theorem PN.ne {g : Nat} {t : TypeId} {ds : List Value} (h : PN w m E) (hb : Blk w g t ds) : m ≠ g := fun e => by
  subst e
  obtain ⟨ck, h1, _⟩ := h
  unfold Blk at hb
  rw [hb] at h1
  cases h1
theorem PN.new (w : World) {m : Nat} (hm : w.heap.size = m) : PN (w.alloc (.map #[] 0)) m [] := ⟨0, by rw [← hm]; exact (MapKept.heap_alloc w _).1, ⟨by simp, by simp, fun e he => by cases he⟩⟩
variable {P : Program} {mt kt vt : TypeId} (hmt : P.underlying mt = some (.map kt vt)) (hkt : P.underlying kt = some (.int .u64))
include hkt in
theorem check_N (b : Bool) (k : Nat) (w : World) : (Instr.checkKey b 10000 kt (.int .u64 (k : Int))).run P w = .ok () w := by
  rw [Instr.checkKey]
  simp [run_underlying hkt]
include hkt in
theorem find_N (k : Nat) (w : World) : (Instr.findKey kt (.int .u64 (k : Int)) (E.map entOf)).run P w = .ok (fiE k E 0) w := by
  unfold Instr.findKey
  simp [run_underlying hkt, find_nowN k E 0]
include hmt hkt in
theorem PN.look (h : PN w m E) {e : Ent} (he : e ∈ E) : (Instr.lookup mt (.map (some m)) (.int .u64 (e.k : Int)) false).run P w = .ok e.v w := by
  obtain ⟨ck, h1, h2⟩ := h
  have h3 := find_N hkt (E := E) e.k w
  obtain ⟨j, h4, _⟩ := fiE_mem (i := 0) h2.ks he
  rw [h4] at h3
  unfold Instr.lookup
  simp [run_underlying hmt, MapKept.run_getObj_map h1, check_N hkt, h3]
include hmt hkt in
theorem PN.lookZ (h : PN w m E) {k : Nat} (hk : ∀ e ∈ E, e.k ≠ k) {z : Value} (hz : ∀ w, (zeroValue vt).run P w = .ok z w) : (Instr.lookup mt (.map (some m)) (.int .u64 (k : Int)) false).run P w = .ok z w := by
  obtain ⟨ck, h1, h2⟩ := h
  have h3 := find_N hkt (E := E) k w
  rw [fiE_none hk] at h3
  unfold Instr.lookup
  simp [run_underlying hmt, MapKept.run_getObj_map h1, check_N hkt, h3, hz]
include hmt hkt in
theorem PN.lookT (h : PN w m E) {e : Ent} (he : e ∈ E) : (Instr.lookup mt (.map (some m)) (.int .u64 (e.k : Int)) true).run P w = .ok (.tuple #[e.v, .bool true]) w := by
  obtain ⟨ck, h1, h2⟩ := h
  have h3 := find_N hkt (E := E) e.k w
  obtain ⟨j, h4, _⟩ := fiE_mem (i := 0) h2.ks he
  rw [h4] at h3
  unfold Instr.lookup
  simp [run_underlying hmt, MapKept.run_getObj_map h1, check_N hkt, h3]
include hmt hkt in
theorem PN.lookTZ (h : PN w m E) {k : Nat} (hk : ∀ e ∈ E, e.k ≠ k) {z : Value} (hz : ∀ w, (zeroValue vt).run P w = .ok z w) : (Instr.lookup mt (.map (some m)) (.int .u64 (k : Int)) true).run P w = .ok (.tuple #[z, .bool false]) w := by
  obtain ⟨ck, h1, h2⟩ := h
  have h3 := find_N hkt (E := E) k w
  rw [fiE_none hk] at h3
  unfold Instr.lookup
  simp [run_underlying hmt, MapKept.run_getObj_map h1, check_N hkt, h3, hz]
include hmt in
theorem PN.len (h : PN w m E) (ty : TypeId) : (Builtin.len_ #[mt] ty #[.map (some m)]).run P w = .ok (.int .i64 (E.length : Int)) w := by
  obtain ⟨ck, h1, h2⟩ := h
  simp [Builtin.len_, run_underlying hmt, MapKept.run_getObj_map h1, goInt]
theorem updN_obj (w : World) (m : Nat) (o : Obj) : Upd m w { w with heap := w.heap.setIfInBounds m o } := ⟨rfl, rfl, rfl, by simp, fun k hk hne => by simp [Array.getElem?_setIfInBounds, Ne.symm hne]⟩
include hmt hkt in
/-- A new key. -/
theorem PN.put (h : PN w m E) (k : Nat) (v : Value) (hk : ∀ e ∈ E, e.k ≠ k) :
    ∃ w' b, (Instr.mapUpdate mt (.map (some m)) (.int .u64 (k : Int)) v).run P w = .ok () w' ∧ PN w' m (E ++ [⟨k, v, b⟩]) ∧ Upd m w w' := by
  have hlt := h.lt
  obtain ⟨ck, h1, h2⟩ := h
  have h3 := find_N hkt (E := E) k w
  rw [fiE_none hk] at h3
  refine ⟨{ w with heap := w.heap.setIfInBounds m (.map ((E.map entOf).toArray.push ⟨.int .u64 (k : Int), v, ck⟩) (ck + 1)) }, ck, ?_, ⟨ck + 1, ?_, ?_⟩, updN_obj w m _⟩
  · unfold Instr.mapUpdate
    simp [run_underlying hmt, MapKept.run_getObj_map h1, check_N hkt, h3]
    rw [MapKept.run_setObj_map _ h1]
  · simp [hlt, entOf]
  · refine ⟨?_, ?_, fun e he => ?_⟩
    · rw [List.map_append, List.nodup_append]
      refine ⟨h2.ks, by simp, fun a ha b hb => ?_⟩
      simp at hb
      obtain ⟨e, he, rfl⟩ := List.mem_map.1 ha
      rw [hb]
      exact hk e he
    · rw [List.map_append, List.nodup_append]
      refine ⟨h2.bs, by simp, fun a ha b hb => ?_⟩
      simp at hb
      obtain ⟨e, he, rfl⟩ := List.mem_map.1 ha
      have := h2.lt e he
      omega
    · rcases List.mem_append.1 he with h' | h'
      · have := h2.lt e h'; omega
      · simp at h'; subst h'; simp
include hmt hkt in
/-- A key that is there, with the very value. -/
theorem PN.putSame (h : PN w m E) {e : Ent} (he : e ∈ E) :
    ∃ w', (Instr.mapUpdate mt (.map (some m)) (.int .u64 (e.k : Int)) e.v).run P w = .ok () w' ∧ PN w' m E ∧ Upd m w w' := by
  have hlt := h.lt
  obtain ⟨ck, h1, h2⟩ := h
  have h3 := find_N hkt (E := E) e.k w
  obtain ⟨j, h4, h5, _, h6⟩ := fiE_mem (i := 0) h2.ks he
  rw [Nat.zero_add] at h4
  rw [h4] at h3
  have hj : ((E.map entOf).toArray[j]?.map (·.key)).getD (.int .u64 (e.k : Int)) = .int .u64 (e.k : Int) := by simp [h6, entOf]
  have hmod : (E.map entOf).modify j (fun x => { x with key := .int .u64 (e.k : Int), val := e.v }) = E.map entOf := by
    apply List.ext_getElem?
    intro i
    rw [List.getElem?_modify]
    by_cases hij : j = i
    · subst hij
      simp [h6, entOf]
    · simp [hij]
  refine ⟨{ w with heap := w.heap.setIfInBounds m (.map (E.map entOf).toArray ck) }, ?_, ⟨ck, by simp [hlt], h2⟩, updN_obj w m _⟩
  unfold Instr.mapUpdate
  simp only [run_underlying hmt, Sem.run_bind, MapKept.run_getObj_map h1, check_N hkt, h3, Result.andThen_ok, hj, Instr.keyThatStays, Instr.sameBits]
  simp [MapKept.run_setObj_map _ h1, hmod]
include hmt hkt in
/-- A key goes. -/
theorem PN.del (h : PN w m E) {e : Ent} (he : e ∈ E) (ty : TypeId) :
    ∃ w', (Builtin.delete_ #[mt, kt] ty #[.map (some m), .int .u64 (e.k : Int)]).run P w = .ok (.tuple #[]) w' ∧ PN w' m (E.filter fun p => decide (p.k ≠ e.k)) ∧ Upd m w w' := by
  have hlt := h.lt
  obtain ⟨ck, h1, h2⟩ := h
  have h3 := find_N hkt (E := E) e.k w
  obtain ⟨j, h4, h5, h6, _⟩ := fiE_mem (i := 0) h2.ks he
  rw [Nat.zero_add] at h4
  rw [h4] at h3
  refine ⟨{ w with heap := w.heap.setIfInBounds m (.map ((E.map entOf).toArray.eraseIdxIfInBounds j) ck) }, ?_, ⟨ck, ?_, ?_⟩, updN_obj w m _⟩
  · unfold Builtin.delete_
    simp [run_underlying hmt, MapKept.run_getObj_map h1, check_N hkt, h3]
    rw [MapKept.run_setObj_map _ h1]
    rfl
  · have h7 : (E.map entOf).toArray.eraseIdxIfInBounds j = ((E.filter fun p => decide (p.k ≠ e.k)).map entOf).toArray := by
      apply Array.toList_inj.1
      have h8 : ((E.map entOf).toArray.eraseIdxIfInBounds j).toList = (E.map entOf).eraseIdx j := by simp
      rw [h8, ← eraseN_map, h6]
    rw [← h7]
    simp [hlt]
  · have hsub : (E.filter fun p => decide (p.k ≠ e.k)).Sublist E := List.filter_sublist
    exact ⟨h2.ks.sublist (hsub.map _), h2.bs.sublist (hsub.map _), fun x hx => h2.lt x (List.mem_filter.1 hx).1⟩
end
def PNk (w : World) (m : Nat) (E : List Ent) (ck : Nat) : Prop := w.heap[m]? = some (.map (E.map entOf).toArray ck) ∧ WfE E ck
theorem PN.k {w : World} {m : Nat} {E : List Ent} (h : PN w m E) : ∃ ck, PNk w m E ck := h
theorem PNk.pn {w : World} {m ck : Nat} {E : List Ent} (h : PNk w m E ck) : PN w m E := ⟨ck, h⟩
theorem PNk.of {w w' : World} {m ck : Nat} {E : List Ent} (h : PNk w m E ck) (he : w'.heap[m]? = w.heap[m]?) : PNk w' m E ck := ⟨by rw [he]; exact h.1, h.2⟩
theorem entOf_inj : ∀ {E F : List Ent}, E.map entOf = F.map entOf → E = F
  | [], [], _ => rfl
  | [], f :: F, h => by simp at h
  | e :: E, [], h => by simp at h
  | e :: E, f :: F, h => by
    rw [List.map_cons, List.map_cons] at h
    injection h with h1 h2
    rw [entOf_inj h2]
    congr 1
    obtain ⟨k, v, b⟩ := e
    obtain ⟨k', v', b'⟩ := f
    simp only [entOf] at h1
    injection h1 with h3 h4 h5
    injection h3 with _ h3
    have : k = k' := by omega
    subst this h4 h5
    rfl
theorem PNk.uniq {w : World} {m ck ck' : Nat} {E F : List Ent} (h : PNk w m E ck) (h' : PNk w m F ck') : E = F ∧ ck = ck' := by
  have h1 := h.1
  rw [h'.1] at h1
  injection h1 with h1
  injection h1 with h1 h2
  exact ⟨(entOf_inj (by simpa using h1)).symm, h2.symm⟩
theorem PNk.del {w : World} {m ck : Nat} {E : List Ent} {P : Program} {mt kt vt : TypeId} (hmt : P.underlying mt = some (.map kt vt)) (hkt : P.underlying kt = some (.int .u64)) (h : PNk w m E ck) {e : Ent} (he : e ∈ E) (ty : TypeId) :
    ∃ w', (Builtin.delete_ #[mt, kt] ty #[.map (some m), .int .u64 (e.k : Int)]).run P w = .ok (.tuple #[]) w' ∧ PNk w' m (E.filter fun p => decide (p.k ≠ e.k)) ck ∧ Upd m w w' := by
  have hlt := h.pn.lt
  obtain ⟨h1, h2⟩ := h
  have h3 := find_N hkt (E := E) e.k w
  obtain ⟨j, h4, h5, h6, _⟩ := fiE_mem (i := 0) h2.ks he
  rw [Nat.zero_add] at h4
  rw [h4] at h3
  refine ⟨{ w with heap := w.heap.setIfInBounds m (.map ((E.map entOf).toArray.eraseIdxIfInBounds j) ck) }, ?_, ⟨?_, ?_⟩, updN_obj w m _⟩
  · unfold Builtin.delete_
    simp [run_underlying hmt, MapKept.run_getObj_map h1, check_N hkt, h3]
    rw [MapKept.run_setObj_map _ h1]
    rfl
  · have h7 : (E.map entOf).toArray.eraseIdxIfInBounds j = ((E.filter fun p => decide (p.k ≠ e.k)).map entOf).toArray := by
      apply Array.toList_inj.1
      have h8 : ((E.map entOf).toArray.eraseIdxIfInBounds j).toList = (E.map entOf).eraseIdx j := by simp
      rw [h8, ← eraseN_map, h6]
    rw [← h7]
    simp [hlt]
  · have hsub : (E.filter fun p => decide (p.k ≠ e.k)).Sublist E := List.filter_sublist
    exact ⟨h2.ks.sublist (hsub.map _), h2.bs.sublist (hsub.map _), fun x hx => h2.lt x (List.mem_filter.1 hx).1⟩
/-- An iterator over the map at m, at block r: the keys T are still to come. -/
def IT (w : World) (r m : Nat) (E : List Ent) (T : List Nat) : Prop := ∃ since seen c0, w.heap[r]? = some (.mapIter (some m) since seen c0) ∧ since ≤ c0 ∧ (∀ e ∈ E, e.b < since) ∧ (∀ e ∈ E, seen.contains e.b = !(T.contains e.k)) ∧ (∀ k ∈ T, ∃ e ∈ E, e.k = k) ∧ T.Nodup ∧ (∃ ck, w.heap[m]? = some (.map (E.map entOf).toArray ck) ∧ since ≤ ck)
section
variable {w w' : World} {r m : Nat} {E : List Ent} {T : List Nat} {P : Program}
theorem IT.lt (h : IT w r m E T) : r < w.heap.size := by
  obtain ⟨_, _, _, h1, _⟩ := h
  exact (Array.getElem?_eq_some_iff.1 h1).1
theorem IT.of (h : IT w r m E T) (h1 : w'.heap[r]? = w.heap[r]?) (h2 : w'.heap[m]? = w.heap[m]?) : IT w' r m E T := by
  obtain ⟨a, b, c, h3, h4, h5, h6, h7, h8, ck, h9, h10⟩ := h
  exact ⟨a, b, c, by rw [h1]; exact h3, h4, h5, h6, h7, h8, ck, by rw [h2]; exact h9, h10⟩
/-- A key that has come is deleted. -/
theorem IT.del {ck : Nat} (h : IT w r m E T) {k : Nat} (hk : k ∉ T) (h0 : PNk w m E ck) (hp : PNk w' m (E.filter fun p => decide (p.k ≠ k)) ck) (hr : w'.heap[r]? = w.heap[r]?) : IT w' r m (E.filter fun p => decide (p.k ≠ k)) T := by
  obtain ⟨a, b, c, h3, h4, h5, h6, h7, h8, ck', h9, h10⟩ := h
  have hck : ck' = ck := by have := h0.1; rw [h9] at this; injection this with this; injection this with _ this
  subst hck
  refine ⟨a, b, c, by rw [hr]; exact h3, h4, fun e he => h5 e (List.mem_filter.1 he).1, fun e he => h6 e (List.mem_filter.1 he).1, fun q hq => ?_, h8, ck', hp.1, h10⟩
  obtain ⟨e, he, hek⟩ := h7 q hq
  exact ⟨e, List.mem_filter.2 ⟨he, decide_eq_true (fun h' => hk (by rw [← h', hek]; exact hq))⟩, hek⟩
theorem IT.rne (h : IT w r m E T) : r ≠ m := by
  obtain ⟨_, _, _, h1, _, _, _, _, _, _, h2, _⟩ := h
  intro e
  rw [e, h2] at h1
  cases h1
theorem IT.blk (h : IT w r m E T) {g : Nat} {t : TypeId} {ds : List Value} (hb : Blk w g t ds) : r ≠ g := by
  obtain ⟨_, _, _, h1, _⟩ := h
  intro e
  unfold Blk at hb
  rw [e, hb] at h1
  cases h1
theorem PN.range {mt kt vt : TypeId} (hmt : P.underlying mt = some (.map kt vt)) (h : PN w m E) :
    ∃ w', (Instr.range mt (.map (some m))).run P w = .ok (.pointer (some ⟨w.heap.size, 0, none⟩)) w' ∧ IT w' w.heap.size m E (E.map (·.k)) ∧ Below w.heap.size w w' ∧ w'.heap.size = w.heap.size + 1 ∧ (∃ ob, w' = w.alloc ob) := by
  have hlt := h.lt
  obtain ⟨ck, h1, h2⟩ := h
  refine ⟨w.alloc (.mapIter (some m) ck #[] ck), ?_, ⟨ck, #[], ck, ?_, Nat.le_refl _, h2.lt, fun e he => ?_, fun k hk => ?_, h2.ks, ck, ?_, Nat.le_refl _⟩, Below.alloc (Below.refl _ _) (Nat.le_refl _) _, by simp, ⟨_, rfl⟩⟩
  · unfold Instr.range
    simp [run_underlying hmt, MapKept.run_getObj_map h1, newObj, Sem.run]
  · exact (MapKept.heap_alloc w _).1
  · have : (E.map (·.k)).contains e.k = true := by simp; exact ⟨e, he, rfl⟩
    rw [this]
    simp
  · obtain ⟨e, he, rfl⟩ := List.mem_map.1 hk
    exact ⟨e, he, rfl⟩
  · have : (w.alloc (.mapIter (some m) ck #[] ck)).heap[m]? = w.heap[m]? := by
      show (w.heap.push _)[m]? = _
      rw [Array.getElem?_push]
      rw [if_neg (by omega)]
    rw [this]
    exact h1
/-- The step. -/
theorem IT.next (h : IT w r m E T) (hp : PN w m E) (ty : TypeId) :
    (T = [] ∧ (Instr.next (.pointer (some ⟨r, 0, none⟩)) false ty).run P w = .ok (.tuple #[.bool false]) w) ∨
    ∃ e w', e ∈ E ∧ e.k ∈ T ∧ (Instr.next (.pointer (some ⟨r, 0, none⟩)) false ty).run P w = .ok (.tuple #[.bool true, .int .u64 (e.k : Int), e.v]) w' ∧ PN w' m E ∧ IT w' r m E (T.filter fun k => decide (k ≠ e.k)) ∧ Upd r w w' ∧ w'.heap.size = w.heap.size ∧
      (Instr.entry (.pointer (some ⟨r, 0, none⟩))).run P w' = .ok (.tuple #[.int .u64 (e.k : Int), e.v]) w' := by
  have hne := h.rne
  have hrl := h.lt
  have hml := hp.lt
  obtain ⟨since, seen, c0, h1, h2, h3, h4, h5, h6, ck, h7, h8⟩ := h
  obtain ⟨ck', h7', hwf⟩ := hp
  have hck : ck' = ck := by rw [h7] at h7'; injection h7' with h; injection h with _ h; exact h.symm
  subst hck
  rcases run_next_at (P := P) w ty r m since c0 seen (E.map entOf).toArray ck' h1 h7 (fun x hx => by
    simp at hx
    obtain ⟨e, he, rfl⟩ := hx
    exact h3 e he) h2 with ⟨g1, g2⟩ | ⟨x, hx, w1, g1, g2⟩
  · refine .inl ⟨?_, g2⟩
    cases hT : T with
    | nil => rfl
    | cons k T' =>
      exfalso
      obtain ⟨e, he, hek⟩ := h5 k (by rw [hT]; simp)
      have := all_seen (E.map entOf).toArray seen g1 (entOf e) (by simp; exact ⟨e, he, rfl⟩)
      have h9 := h4 e he
      have : seen.contains e.b = true := this
      rw [this, hT, hek] at h9
      simp at h9
  · obtain ⟨hxm, hxs⟩ := mem_left hx
    simp at hxm
    obtain ⟨e, he, rfl⟩ := hxm
    have heT : e.k ∈ T := by
      have h9 := h4 e he
      have : seen.contains e.b = false := hxs
      rw [this] at h9
      simpa using h9.symm
    have hh : w1.heap = w.heap := by rcases g1 with rfl | rfl <;> rfl
    have ho : w1.os = w.os ∧ w1.tape = w.tape ∧ w1.output = w.output := by rcases g1 with rfl | rfl <;> exact ⟨rfl, rfl, rfl⟩
    have hset : ∀ o, (setBlock w1 r o).heap[r]? = some o := fun o => by simp [setBlock, hh, hrl]
    have hoth : ∀ o k, k ≠ r → (setBlock w1 r o).heap[k]? = w.heap[k]? := fun o k hk => by simp [setBlock, hh, Array.getElem?_setIfInBounds, Ne.symm hk]
    refine .inr ⟨e, _, he, heT, g2, ⟨ck', by rw [hoth _ _ hne.symm]; exact h7, hwf⟩, ⟨since, seen.push e.b, ck', hset _, h8, h3, fun e' he' => ?_, fun k hk => h5 k (List.mem_filter.1 hk).1, h6.sublist List.filter_sublist, ck', by rw [hoth _ _ hne.symm]; exact h7, h8⟩, ?_, ?_, ?_⟩
    · have h9 := h4 e' he'
      have hpush : (seen.push e.b).contains e'.b = (seen.contains e'.b || (e'.b == e.b)) := contains_push seen e.b e'.b
      rw [hpush, h9]
      by_cases hk : e'.k = e.k
      · have : e' = e := by
          obtain ⟨j, _, _, _, hj⟩ := fiE_mem (i := 0) hwf.ks he
          obtain ⟨j', _, _, _, hj'⟩ := fiE_mem (i := 0) hwf.ks he'
          exact inj_of_nodup hwf.ks he' he hk
        subst this
        simp
      · have hb : (e'.b == e.b) = false := by
          rw [beq_eq_false_iff_ne]
          intro hb
          apply hk
          have : e' = e := inj_of_nodup hwf.bs he' he hb
          rw [this]
        rw [hb, Bool.or_false]
        congr 1
        rw [Bool.eq_iff_iff, List.contains_iff_mem, List.contains_iff_mem, List.mem_filter]
        simp [hk]
    · exact ⟨ho.1, ho.2.1, ho.2.2, by simp [setBlock, hh], fun k hk hne' => hoth _ k hne'⟩
    · simp [setBlock, hh]
    · exact run_entry_at _ r m since seen (E.map entOf).toArray ck' (entOf e) (hset _) (by rw [hoth _ _ hne.symm]; exact h7) (by simp; exact ⟨e, he, rfl⟩) (by simpa [Function.comp_def, entOf] using hwf.bs)
theorem IT.left (h : IT w r m E T) : World.rangeLeft w m r = (E.filter fun e => T.contains e.k).length := by
  obtain ⟨since, seen, c0, h1, h2, h3, h4, h5, h6, ck, h7, h8⟩ := h
  unfold World.rangeLeft
  rw [h7, h1]
  show (leftOf (E.map entOf).toArray seen).size = _
  unfold leftOf
  rw [← Array.length_toList, List.filter_toArray]
  show (List.filter (fun e => !seen.contains e.born) (E.map entOf)).length = _
  clear h7 h1 h3 h5
  induction E with
  | nil => rfl
  | cons e E ih =>
    have h9 := h4 e (by simp)
    have ih' := ih (fun e' he' => h4 e' (by simp [he']))
    simp only [List.map_cons, List.filter_cons]
    have h10 : (!seen.contains (entOf e).born) = T.contains e.k := by
      show (!seen.contains e.b) = _
      rw [h9, Bool.not_not]
    rw [h10]
    split
    · simpa using ih'
    · exact ih'
theorem left_less {E : List Ent} {T : List Nat} {e : Ent} (he : e ∈ E) (hk : e.k ∈ T) : (E.filter fun x => (T.filter fun k => decide (k ≠ e.k)).contains x.k).length < (E.filter fun x => T.contains x.k).length := by
  have hle : ∀ (G : List Ent), (G.filter fun x => (T.filter fun k => decide (k ≠ e.k)).contains x.k).length ≤ (G.filter fun x => T.contains x.k).length := by
    intro G
    induction G with
    | nil => simp
    | cons g G ih =>
      simp only [List.filter_cons]
      by_cases h1 : (T.filter fun k => decide (k ≠ e.k)).contains g.k = true
      · have h2 : T.contains g.k = true := by simp at h1 ⊢; exact h1.1
        rw [if_pos h1, if_pos h2]
        simpa using ih
      · rw [if_neg h1]
        split
        · rw [List.length_cons]; omega
        · exact ih
  clear hle
  induction E with
  | nil => cases he
  | cons g G ih =>
    have hle : ∀ (G : List Ent), (G.filter fun x => (T.filter fun k => decide (k ≠ e.k)).contains x.k).length ≤ (G.filter fun x => T.contains x.k).length := by
      intro G
      induction G with
      | nil => simp
      | cons g G ih =>
        simp only [List.filter_cons]
        by_cases h1 : (T.filter fun k => decide (k ≠ e.k)).contains g.k = true
        · have h2 : T.contains g.k = true := by simp at h1 ⊢; exact h1.1
          rw [if_pos h1, if_pos h2]
          simpa using ih
        · rw [if_neg h1]
          split
          · rw [List.length_cons]; omega
          · exact ih
    simp only [List.filter_cons]
    by_cases h1 : (T.filter fun k => decide (k ≠ e.k)).contains g.k = true
    · have h2 : T.contains g.k = true := by simp at h1 ⊢; exact h1.1
      have h3 : e ∈ G := by
        rcases List.mem_cons.1 he with h | h
        · rw [← h] at h1
          simp at h1
        · exact h
      rw [if_pos h1, if_pos h2]
      have := ih h3
      simpa using this
    · rw [if_neg h1]
      rcases List.mem_cons.1 he with h | h
      · rw [← h, if_pos (by simpa using hk)]
        have := hle G
        rw [List.length_cons]
        omega
      · have := ih h
        split
        · rw [List.length_cons]; omega
        · exact this
section
variable {ops : Array Oper} {rest : List Oper} {o : Oper} {a : Act} {Q : Exit → Act → World → Prop}
theorem wpList_range_pn (hg : o.guard = none) (x : Operand) (t : TypeId) (hop : o.op = Op.range t x) {kt vt : TypeId} (ht : P.underlying t = some (.map kt vt)) (m : Nat) (E : List Ent) (hx : a.eval x = .map (some m)) (hp : PN w m E)
    (hK : ∀ w', IT w' w.heap.size m E (E.map (·.k)) → Below w.heap.size w w' → w'.heap.size = w.heap.size + 1 → wpList P ops Q rest (a.put o.dst (.pointer (some ⟨w.heap.size, 0, none⟩))) w') : wpList P ops Q (o :: rest) a w := by
  refine wpList_plain hg fun K' hK' => ?_
  obtain ⟨w', hrun, r1, r2, r3, _⟩ := hp.range ht
  unfold Oper.wp
  simp [execOp, hop, hx, hrun, Result.andThen]
  exact hK' _ _ (hK w' r1 r2 r3)
theorem wpList_next_pn (hg : o.guard = none) (it : Operand) (hop : o.op = Op.next it false) (r m : Nat) (E : List Ent) (T : List Nat) (hit : a.eval it = .pointer (some ⟨r, 0, none⟩)) (hp : PN w m E) (hi : IT w r m E T)
    (hDone : T = [] → wpList P ops Q rest (a.put o.dst (.tuple #[.bool false])) w)
    (hMore : ∀ (e : Ent) (w' : World), e ∈ E → e.k ∈ T → PN w' m E → IT w' r m E (T.filter fun k => decide (k ≠ e.k)) → Upd r w w' → w'.heap.size = w.heap.size → (Instr.entry (.pointer (some ⟨r, 0, none⟩))).run P w' = .ok (.tuple #[.int .u64 (e.k : Int), e.v]) w' → wpList P ops Q rest (a.put o.dst (.tuple #[.bool true, .int .u64 (e.k : Int), e.v])) w') : wpList P ops Q (o :: rest) a w := by
  refine wpList_plain hg fun K' hK' => ?_
  unfold Oper.wp
  rcases hi.next (P := P) hp o.type with ⟨h0, hrun⟩ | ⟨e, w', h1, h2, hrun, h3, h4, h5, h6, h7⟩
  · simp [execOp, hop, hit, hrun, Result.andThen]
    exact hK' _ _ (hDone h0)
  · simp [execOp, hop, hit, hrun, Result.andThen]
    exact hK' _ _ (hMore e w' h1 h2 h3 h4 h5 h6 h7)
end
end
end Go.Proofs.Qxb6500883aGreatDoor
