/- Maps keyed by whatever type: strings, numbers, structs. Look-up and put; the map as a function. Nothing here speaks of one program. -/
import Derived.Test.Qxb6500883aGreatDoorMapN
import Derived.WideKeyRuns
namespace Go.Proofs.Qxb6500883aGreatDoor
open Go.RowKit
open Go.ChangeMaps (setBlock)
set_option linter.unusedSimpArgs false
set_option linter.unusedVariables false
set_option linter.unusedSectionVars false
structure EntG (α : Type) where
  k : α
  v : Value
  b : Nat
def entG {α : Type} (kv : α → Value) (e : EntG α) : MapEntry := ⟨kv e.k, e.v, e.b⟩
def fiG {α : Type} [DecidableEq α] (k : α) : List (EntG α) → Nat → Option (Nat × Value)
  | [], _ => none
  | p :: L, i => if k = p.k then some (i, p.v) else fiG k L (i + 1)
/-- Keys of this type: looked for by their values. -/
structure KeyOk {α : Type} [DecidableEq α] (P : Program) (kt : TypeId) (kv : α → Value) : Prop where
  chk : ∀ b k w, (Instr.checkKey b 10000 kt (kv k)).run P w = .ok () w
  fnd : ∀ (E : List (EntG α)) k w, (Instr.findKey kt (kv k) (E.map (entG kv))).run P w = .ok (fiG k E 0) w
  bits : ∀ k, Instr.sameBits 10000 (kv k) (kv k) = true
section
variable {α : Type} [DecidableEq α] {P : Program} {kt : TypeId} {kv : α → Value}
theorem findNowG {d : TypeDesc} (hs : ∀ a b, Instr.sameNow d (kv a) (kv b) = some (decide (a = b))) (k : α) : ∀ (E : List (EntG α)) (i : Nat), Instr.findNow d (kv k) (E.map (entG kv)) i = some (fiG k E i)
  | [], i => rfl
  | p :: L, i => by
    have h1 : Instr.sameNow d (kv k) (entG kv p).key = some (decide (k = p.k)) := hs k p.k
    rw [List.map_cons]
    unfold Instr.findNow fiG
    rw [h1]
    by_cases e1 : k = p.k
    · rw [decide_eq_true e1, if_pos e1]
      rfl
    · rw [decide_eq_false e1, if_neg e1]
      exact findNowG hs k L (i + 1)
/-- Keys of a plain type. -/
theorem KeyOk.plain {d : TypeDesc} (hd : P.underlying kt = some d) (hc : ∀ b k w, (Instr.checkKey b 10000 kt (kv k)).run P w = .ok () w) (hs : ∀ a b, Instr.sameNow d (kv a) (kv b) = some (decide (a = b))) (hb : ∀ k, Instr.sameBits 10000 (kv k) (kv k) = true) : KeyOk P kt kv :=
  ⟨hc, fun E k w => by unfold Instr.findKey; simp [run_underlying hd, findNowG hs k E 0], hb⟩
theorem findAskG (he : ∀ a b w, (Op.equal kt (kv a) (kv b)).run P w = .ok (decide (a = b)) w) (k : α) (w : World) : ∀ (E : List (EntG α)) (i : Nat), (Instr.findAsking kt (kv k) (E.map (entG kv)) i).run P w = .ok (fiG k E i) w
  | [], i => rfl
  | p :: L, i => by
    rw [List.map_cons]
    unfold Instr.findAsking fiG
    have h1 := he k p.k w
    have e0 : (entG kv p).key = kv p.k := rfl
    rw [e0]
    by_cases e1 : k = p.k
    · rw [decide_eq_true e1] at h1
      simp only [Sem.run_bind, h1, Result.andThen_ok, if_true, if_pos e1]
      rfl
    · rw [decide_eq_false e1] at h1
      simp only [Sem.run_bind, h1, Result.andThen_ok, if_neg e1]
      exact findAskG he k w L (i + 1)
/-- Keys of a struct type. -/
theorem KeyOk.struct {d : TypeDesc} (hd : P.underlying kt = some d) (hn : ∀ a b, Instr.sameNow d (kv a) (kv b) = none) (hc : ∀ b k w, (Instr.checkKey b 10000 kt (kv k)).run P w = .ok () w) (he : ∀ a b w, (Op.equal kt (kv a) (kv b)).run P w = .ok (decide (a = b)) w) (hb : ∀ k, Instr.sameBits 10000 (kv k) (kv k) = true) : KeyOk P kt kv := by
  refine ⟨hc, fun E k w => ?_, hb⟩
  unfold Instr.findKey
  cases E with
  | nil => simp [run_underlying hd, Instr.findNow, fiG]
  | cons p L =>
    have h1 : Instr.findNow d (kv k) ((p :: L).map (entG kv)) 0 = none := by
      rw [List.map_cons]
      unfold Instr.findNow
      have : Instr.sameNow d (kv k) (entG kv p).key = none := hn k p.k
      rw [this]
    simp only [Sem.run_bind, run_underlying hd, Result.andThen_ok, h1]
    exact findAskG he k w (p :: L) 0
end
structure WfG {α : Type} (E : List (EntG α)) (ck : Nat) : Prop where
  ks : (E.map (·.k)).Nodup
  bs : (E.map (·.b)).Nodup
  lt : ∀ e ∈ E, e.b < ck
section
variable {α : Type} [DecidableEq α]
theorem fiG_mem {e : EntG α} : ∀ {E : List (EntG α)} {i : Nat}, (E.map (·.k)).Nodup → e ∈ E → ∃ j, fiG e.k E i = some (i + j, e.v) ∧ j < E.length ∧ E[j]? = some e
  | [], _, _, h => by simp at h
  | p :: L, i, hn, h => by
    rw [List.map_cons, List.nodup_cons] at hn
    unfold fiG
    rcases List.mem_cons.1 h with h1 | h1
    · subst h1
      exact ⟨0, by simp, by simp, rfl⟩
    · have hne : e.k ≠ p.k := fun e' => hn.1 (by rw [← e']; exact List.mem_map.2 ⟨e, h1, rfl⟩)
      obtain ⟨j, h2, h3, h5⟩ := fiG_mem (i := i + 1) hn.2 h1
      exact ⟨j + 1, by rw [if_neg hne, h2]; congr 2; omega, by simp; omega, by simpa using h5⟩
theorem fiG_none {k : α} : ∀ {E : List (EntG α)} {i : Nat}, (∀ e ∈ E, e.k ≠ k) → fiG k E i = none
  | [], _, _ => rfl
  | p :: L, i, h => by
    unfold fiG
    rw [if_neg (fun e => h p (by simp) e.symm), fiG_none (fun e he => h e (by simp [he]))]
/-- One entry's value is another. -/
def setG (k : α) (v : Value) (E : List (EntG α)) : List (EntG α) := E.map fun p => if p.k = k then { p with v := v } else p
theorem setG_k (k : α) (v : Value) (E : List (EntG α)) : (setG k v E).map (·.k) = E.map (·.k) := by
  unfold setG
  rw [List.map_map]
  apply List.map_congr_left
  intro p _
  simp only [Function.comp]
  split <;> rfl
theorem setG_b (k : α) (v : Value) (E : List (EntG α)) : (setG k v E).map (·.b) = E.map (·.b) := by
  unfold setG
  rw [List.map_map]
  apply List.map_congr_left
  intro p _
  simp only [Function.comp]
  split <;> rfl
theorem setG_mod {kv : α → Value} {k : α} {v : Value} : ∀ {E : List (EntG α)} {j : Nat} {e : EntG α}, (E.map (·.k)).Nodup → E[j]? = some e → e.k = k → (E.map (entG kv)).modify j (fun x => { x with key := kv k, val := v }) = (setG k v E).map (entG kv)
  | [], _, _, _, h, _ => by simp at h
  | p :: L, 0, e, hn, h, hk => by
    simp at h
    subst h
    rw [List.map_cons, List.nodup_cons] at hn
    have h1 : setG k v L = L := by
      unfold setG
      conv => rhs; rw [← List.map_id L]
      apply List.map_congr_left
      intro q hq
      rw [if_neg (fun e' => hn.1 (by rw [hk, ← e']; exact List.mem_map.2 ⟨q, hq, rfl⟩))]
      rfl
    have h2 : setG k v (p :: L) = { p with v := v } :: L := by
      show (if p.k = k then { p with v := v } else p) :: setG k v L = _
      rw [if_pos hk, h1]
    rw [h2]
    simp [entG, hk]
  | p :: L, j + 1, e, hn, h, hk => by
    simp at h
    rw [List.map_cons, List.nodup_cons] at hn
    have hp : p.k ≠ k := fun e' => hn.1 (by rw [e', ← hk]; exact List.mem_map.2 ⟨e, List.mem_of_getElem? h, rfl⟩)
    have h2 : setG k v (p :: L) = p :: setG k v L := by
      show (if p.k = k then { p with v := v } else p) :: setG k v L = _
      rw [if_neg hp]
    have ih := setG_mod (kv := kv) (v := v) hn.2 h hk
    rw [h2, List.map_cons, List.map_cons, ← ih]
    simp
end
/-- The map at block m is the function f. -/
def MG {α : Type} (kv : α → Value) (w : World) (m : Nat) (f : α → Option Value) : Prop := ∃ E ck, w.heap[m]? = some (.map (E.map (entG kv)).toArray ck) ∧ WfG E ck ∧ (∀ e ∈ E, f e.k = some e.v) ∧ ∀ a v, f a = some v → ∃ e ∈ E, e.k = a
def gup {α β : Type} [DecidableEq α] (f : α → β) (k : α) (v : β) : α → β := fun i => if i = k then v else f i
theorem gup_self {α β : Type} [DecidableEq α] (f : α → β) (k : α) (v : β) : gup f k v k = v := by simp [gup]
theorem gup_ne {α β : Type} [DecidableEq α] (f : α → β) {k i : α} (v : β) (h : i ≠ k) : gup f k v i = f i := by simp [gup, h]
section
variable {α : Type} [DecidableEq α] {kv : α → Value} {w w' : World} {m : Nat} {f : α → Option Value}
theorem MG.lt (h : MG kv w m f) : m < w.heap.size := by
  obtain ⟨E, ck, h1, _⟩ := h
  exact (Array.getElem?_eq_some_iff.1 h1).1
theorem MG.of (h : MG kv w m f) (he : w'.heap[m]? = w.heap[m]?) : MG kv w' m f := by
  obtain ⟨E, ck, h1, h2⟩ := h
  exact ⟨E, ck, by rw [he]; exact h1, h2⟩
theorem MG.below (h : MG kv w m f) (hb : Below w.heap.size w w') : MG kv w' m f := h.of (hb.block m h.lt)
theorem MG.upd {g : Nat} (h : MG kv w m f) (hu : Upd g w w') (hne : m ≠ g) : MG kv w' m f := h.of (hu.block m h.lt hne)
theorem MG.ne {g : Nat} {t : TypeId} {ds : List Value} (h : MG kv w m f) (hb : Blk w g t ds) : m ≠ g := fun e => by
  subst e
  obtain ⟨E, ck, h1, _⟩ := h
  unfold Blk at hb
  rw [hb] at h1
  cases h1
theorem MG.new (kv : α → Value) (w : World) {m : Nat} (hm : w.heap.size = m) : MG kv (w.alloc (.map #[] 0)) m (fun _ => none) :=
  ⟨[], 0, by rw [← hm]; exact (MapKept.heap_alloc w _).1, ⟨by simp, by simp, fun e he => by cases he⟩, fun (e : EntG α) (he : e ∈ ([] : List (EntG α))) => by simp at he, fun (a : α) (v : Value) (h : none = some v) => by simp at h⟩
variable {P : Program} {mt kt vt : TypeId} (hmt : P.underlying mt = some (.map kt vt)) (hkt : KeyOk P kt kv)
theorem MG.absent {E : List (EntG α)} (h2 : ∀ e ∈ E, f e.k = some e.v) {k : α} (hk : f k = none) : ∀ e ∈ E, e.k ≠ k := fun e he hc => by
  have := h2 e he
  rw [hc, hk] at this
  cases this
include hmt hkt in
theorem MG.look (h : MG kv w m f) (k : α) {z : Value} (hz : ∀ w, (zeroValue vt).run P w = .ok z w) : (Instr.lookup mt (.map (some m)) (kv k) false).run P w = .ok ((f k).getD z) w := by
  obtain ⟨E, ck, h1, h2, h3, h4⟩ := h
  have h5 := hkt.fnd E k w
  cases hf : f k with
  | none =>
    rw [fiG_none (MG.absent h3 hf)] at h5
    unfold Instr.lookup
    simp [run_underlying hmt, MapKept.run_getObj_map h1, hkt.chk, h5, hz]
  | some v =>
    obtain ⟨e, he, rfl⟩ := h4 k v hf
    obtain ⟨j, h6, _⟩ := fiG_mem (i := 0) h2.ks he
    rw [h6] at h5
    rw [h3 e he] at hf
    cases hf
    unfold Instr.lookup
    simp [run_underlying hmt, MapKept.run_getObj_map h1, hkt.chk, h5]
include hmt hkt in
theorem MG.lookT (h : MG kv w m f) (k : α) {z : Value} (hz : ∀ w, (zeroValue vt).run P w = .ok z w) : (Instr.lookup mt (.map (some m)) (kv k) true).run P w = .ok (.tuple #[(f k).getD z, .bool (f k).isSome]) w := by
  obtain ⟨E, ck, h1, h2, h3, h4⟩ := h
  have h5 := hkt.fnd E k w
  cases hf : f k with
  | none =>
    rw [fiG_none (MG.absent h3 hf)] at h5
    unfold Instr.lookup
    simp [run_underlying hmt, MapKept.run_getObj_map h1, hkt.chk, h5, hz]
  | some v =>
    obtain ⟨e, he, rfl⟩ := h4 k v hf
    obtain ⟨j, h6, _⟩ := fiG_mem (i := 0) h2.ks he
    rw [h6] at h5
    rw [h3 e he] at hf
    cases hf
    unfold Instr.lookup
    simp [run_underlying hmt, MapKept.run_getObj_map h1, hkt.chk, h5]
include hmt hkt in
theorem MG.put (h : MG kv w m f) (k : α) (v : Value) : ∃ w', (Instr.mapUpdate mt (.map (some m)) (kv k) v).run P w = .ok () w' ∧ MG kv w' m (gup f k (some v)) ∧ Upd m w w' := by
  have hlt := h.lt
  obtain ⟨E, ck, h1, h2, h3, h4⟩ := h
  have h5 := hkt.fnd E k w
  cases hf : f k with
  | none =>
    have hab := MG.absent h3 hf
    rw [fiG_none hab] at h5
    refine ⟨{ w with heap := w.heap.setIfInBounds m (.map ((E.map (entG kv)).toArray.push ⟨kv k, v, ck⟩) (ck + 1)) }, ?_, ⟨E ++ [⟨k, v, ck⟩], ck + 1, ?_, ?_, fun e he => ?_, fun a u ha => ?_⟩, updN_obj w m _⟩
    · unfold Instr.mapUpdate
      simp [run_underlying hmt, MapKept.run_getObj_map h1, hkt.chk, h5]
      rw [MapKept.run_setObj_map _ h1]
    · simp [hlt, entG]
    · refine ⟨?_, ?_, fun e he => ?_⟩
      · rw [List.map_append, List.nodup_append]
        refine ⟨h2.ks, by simp, fun a ha b hb => ?_⟩
        simp at hb
        obtain ⟨e, he, rfl⟩ := List.mem_map.1 ha
        rw [hb]
        exact hab e he
      · rw [List.map_append, List.nodup_append]
        refine ⟨h2.bs, by simp, fun a ha b hb => ?_⟩
        simp at hb
        obtain ⟨e, he, rfl⟩ := List.mem_map.1 ha
        have := h2.lt e he
        omega
      · rcases List.mem_append.1 he with h' | h'
        · have := h2.lt e h'; omega
        · simp at h'; subst h'; simp
    · rcases List.mem_append.1 he with h' | h'
      · rw [gup_ne _ _ (hab e h')]; exact h3 e h'
      · simp at h'; subst h'; exact gup_self _ _ _
    · by_cases hak : a = k
      · subst hak; exact ⟨⟨a, v, ck⟩, by simp, rfl⟩
      · rw [gup_ne _ _ hak] at ha
        obtain ⟨e, he, hk⟩ := h4 a u ha
        exact ⟨e, by simp [he], hk⟩
  | some u =>
    obtain ⟨e, he, rfl⟩ := h4 k u hf
    obtain ⟨j, h6, h7, h8⟩ := fiG_mem (i := 0) h2.ks he
    rw [Nat.zero_add] at h6
    rw [h6] at h5
    have hj : ((E.map (entG kv)).toArray[j]?.map (·.key)).getD (kv e.k) = kv e.k := by simp [h8, entG]
    have hmod := setG_mod (kv := kv) (k := e.k) (v := v) h2.ks h8 rfl
    refine ⟨{ w with heap := w.heap.setIfInBounds m (.map ((setG e.k v E).map (entG kv)).toArray ck) }, ?_, ⟨setG e.k v E, ck, by simp [hlt], ⟨by rw [setG_k]; exact h2.ks, by rw [setG_b]; exact h2.bs, fun x hx => ?_⟩, fun x hx => ?_, fun a u ha => ?_⟩, updN_obj w m _⟩
    · unfold Instr.mapUpdate
      simp only [run_underlying hmt, Sem.run_bind, MapKept.run_getObj_map h1, hkt.chk, h5, Result.andThen_ok, hj, Instr.keyThatStays, hkt.bits]
      simp [MapKept.run_setObj_map _ h1, hmod]
    · unfold setG at hx
      obtain ⟨p, hp, rfl⟩ := List.mem_map.1 hx
      have := h2.lt p hp
      split <;> exact this
    · unfold setG at hx
      obtain ⟨p, hp, rfl⟩ := List.mem_map.1 hx
      by_cases hpk : p.k = e.k
      · rw [if_pos hpk]; show gup f e.k (some v) p.k = some v; rw [hpk, gup_self]
      · rw [if_neg hpk, gup_ne _ _ hpk]; exact h3 p hp
    · have : ∃ x ∈ E, x.k = a := by
        by_cases hak : a = e.k
        · exact ⟨e, he, hak.symm⟩
        · rw [gup_ne _ _ hak] at ha
          exact h4 a u ha
      obtain ⟨x, hx, rfl⟩ := this
      refine ⟨_, List.mem_map.2 ⟨x, hx, rfl⟩, ?_⟩
      split <;> rfl
end
theorem ba_beq (a b : ByteArray) : (a == b) = decide (a = b) := by
  cases a with | mk a =>
  cases b with | mk b =>
  have h : ((⟨a⟩ : ByteArray) == ⟨b⟩) = (a == b) := rfl
  rw [h, Bool.eq_iff_iff]
  simp
/-- Strings as keys. -/
theorem keyStr {P : Program} {kt : TypeId} (h : P.underlying kt = some .string) : KeyOk P kt (fun s : ByteArray => .string s) := by
  refine KeyOk.plain h (fun b k w => ?_) (fun a b => ?_) (fun k => ?_)
  · rw [Instr.checkKey]
    simp [run_underlying h]
  · show some (a == b) = _
    rw [ba_beq]
  · show (k == k) = true
    rw [ba_beq]
    simp
/-- Numbers of a kind as keys. -/
theorem keyInt {P : Program} {kt : TypeId} {ik : IntKind} (h : P.underlying kt = some (.int ik)) : KeyOk P kt (fun s : Int => .int ik s) := by
  refine KeyOk.plain h (fun b k w => ?_) (fun a b => ?_) (fun k => ?_)
  · rw [Instr.checkKey]
    simp [run_underlying h]
  · simp only [Instr.sameNow, if_true]
    congr 1
  · simp [Instr.sameBits]
end Go.Proofs.Qxb6500883aGreatDoor
