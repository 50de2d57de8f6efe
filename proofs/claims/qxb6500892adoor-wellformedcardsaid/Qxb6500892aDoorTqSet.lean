/- A set of keys: map[uint64]bool. -/
import Derived.Test.Qxb6500892aDoorTqRaw
import Derived.Test.Qxb6500892aDoorTqWfP
import Derived.Maps.OwnSet
namespace Go.Proofs.Qxb6500892aDoor
open Go.RowKit
set_option linter.unusedSimpArgs false
set_option linter.unusedVariables false

theorem nat_beq (y x : Nat) : ((y : Int) == (x : Int)) = decide (y = x) := by
  by_cases h : y = x
  · subst h; simp
  · rw [decide_eq_false h]
    exact beq_eq_false_iff_ne.2 (by omega)
def ksE (k : Nat) : Value × Value := (.int .u64 (k : Int), .bool true)
def fiS (k : Nat) : List Nat → Nat → Option Nat
  | [], _ => none
  | p :: L, i => if k = p then some i else fiS k L (i + 1)
theorem fiS_some (k : Nat) : ∀ (K : List Nat) (i : Nat), (fiS k K i).isSome = decide (k ∈ K)
  | [], i => by simp [fiS]
  | p :: L, i => by
    unfold fiS
    by_cases h : k = p
    · rw [if_pos h]; simp [h]
    · rw [if_neg h, fiS_some k L (i + 1)]; simp [h]
theorem find_nowS (k : Nat) : ∀ (K : List Nat) (es : List MapEntry) (i : Nat), es.map (fun e => (e.key, e.val)) = K.map ksE → Instr.findNow (.int .u64) (.int .u64 (k : Int)) es i = some ((fiS k K i).map fun q => (q, .bool true))
  | [], es, i, h => by
    simp at h
    subst h
    rfl
  | p :: L, [], i, h => by simp at h
  | p :: L, e :: es, i, h => by
    simp only [List.map_cons, List.cons.injEq, Prod.mk.injEq, ksE] at h
    have hs : Instr.sameNow (.int .u64) (.int .u64 (k : Int)) e.key = some (decide (k = p)) := by
      rw [h.1.1]
      simp only [Instr.sameNow, if_true]
      rw [nat_beq]
    unfold Instr.findNow fiS
    rw [hs]
    by_cases e1 : k = p
    · rw [decide_eq_true e1, if_pos e1, h.1.2]
      rfl
    · rw [decide_eq_false e1, if_neg e1]
      exact find_nowS k L es (i + 1) h.2
def PSt (w : World) (m : Nat) (K : List Nat) : Prop := ∃ es clock, w.heap[m]? = some (.map es clock) ∧ es.toList.map (fun e => (e.key, e.val)) = K.map ksE
section
variable {w w' : World} {m : Nat} {K : List Nat}
theorem PSt.lt (h : PSt w m K) : m < w.heap.size := by
  obtain ⟨es, clock, h1, _⟩ := h
  exact (Array.getElem?_eq_some_iff.1 h1).1
theorem PSt.of (h : PSt w m K) (he : w'.heap[m]? = w.heap[m]?) : PSt w' m K := by
  obtain ⟨es, clock, h1, h2⟩ := h
  exact ⟨es, clock, by rw [he]; exact h1, h2⟩
theorem PSt.ne {g : Nat} {t : TypeId} {ds : List Value} (h : PSt w m K) (hb : Blk w g t ds) : m ≠ g := fun e => by
  subst e
  obtain ⟨es, clock, h1, _⟩ := h
  unfold Blk at hb
  rw [hb] at h1
  cases h1
theorem PSt.new (w : World) {m : Nat} (hm : w.heap.size = m) : PSt (w.alloc (.map #[] 0)) m [] := ⟨#[], 0, by rw [← hm]; exact (MapKept.heap_alloc w _).1, rfl⟩
theorem und_key : Tryd.prog.underlying 29 = some (.int .u64) := Tryd.underlying29
theorem check_key (b : Bool) (k : Nat) (w : World) : (Instr.checkKey b 10000 29 (.int .u64 (k : Int))).run Tryd.prog w = .ok () w := by
  rw [Instr.checkKey]
  simp [run_underlying und_key]
theorem find_keyS (k : Nat) (es : List MapEntry) (w : World) (h : es.map (fun e => (e.key, e.val)) = K.map ksE) : (Instr.findKey 29 (.int .u64 (k : Int)) es).run Tryd.prog w = .ok ((fiS k K 0).map fun q => (q, .bool true)) w := by
  unfold Instr.findKey
  simp [run_underlying und_key, find_nowS k K es 0 h]
theorem zero_bool (w : World) : (zeroValue 4).run Tryd.prog w = .ok (.bool false) w := by kernel_rfl
theorem PSt.look (h : PSt w m K) (k : Nat) : (Instr.lookup 90 (.map (some m)) (.int .u64 (k : Int)) false).run Tryd.prog w = .ok (.bool (decide (k ∈ K))) w := by
  obtain ⟨es, clock, h1, h2⟩ := h
  have h3 := find_keyS (w := w) k es.toList h2
  rw [← fiS_some k K 0]
  unfold Instr.lookup
  cases hf : fiS k K 0 with
  | none =>
    rw [hf] at h3
    simp [run_underlying Tryd.underlying90, h1, MapKept.run_getObj_map h1, check_key, h3, zero_bool]
  | some q =>
    rw [hf] at h3
    simp [run_underlying Tryd.underlying90, h1, MapKept.run_getObj_map h1, check_key, h3]
theorem upd_objS (w : World) (m : Nat) (o : Obj) : Upd m w { w with heap := w.heap.setIfInBounds m o } := ⟨rfl, rfl, rfl, by simp, fun k hk hne => by simp [Array.getElem?_setIfInBounds, Ne.symm hne]⟩
theorem PSt.put (h : PSt w m K) (k : Nat) (hn : k ∉ K) :
    ∃ w', (Instr.mapUpdate 90 (.map (some m)) (.int .u64 (k : Int)) (.bool true)).run Tryd.prog w = .ok () w' ∧ PSt w' m (K ++ [k]) ∧ Upd m w w' := by
  have hlt := h.lt
  obtain ⟨es, clock, h1, h2⟩ := h
  have h3 := find_keyS (w := w) k es.toList h2
  have hf : fiS k K 0 = none := by
    have := fiS_some k K 0
    rw [decide_eq_false hn] at this
    simpa using this
  rw [hf] at h3
  refine ⟨{ w with heap := w.heap.setIfInBounds m (.map (es.push ⟨.int .u64 (k : Int), .bool true, clock⟩) (clock + 1)) }, ?_, ⟨es.push ⟨.int .u64 (k : Int), .bool true, clock⟩, clock + 1, ?_, ?_⟩, upd_objS w m _⟩
  · unfold Instr.mapUpdate
    simp [run_underlying Tryd.underlying90, h1, MapKept.run_getObj_map h1, check_key, h3]
    exact MapKept.run_setObj_map _ h1
  · simp [hlt]
  · simp [h2, ksE]
end
theorem info_int1 : (Tryd.prog.info? 3).map (fun i => (i.zero, i.size, i.bytes)) = some (some (.int .i64 0), 1, 8) := by kernel_rfl
theorem make_seen (n : Nat) (hn : n ≤ 100000000) (w : World) : (Instr.makeSlice 52 (.int .i64 (n : Int)) (.int .i64 (n : Int))).run Tryd.prog w = .ok (.slice (some ⟨w.heap.size, 0, none⟩) n n) (w.alloc (.cells (madeCells #[.int .i64 0] n) 3)) :=
  run_make_row' (P := Tryd.prog) 52 3 (.int .i64 0) 8 (by kernel_rfl) info_int1 rfl .i64 .i64 n (by omega) (by omega) w
theorem made_seen (n : Nat) : madeCells #[.int .i64 0] n = (seenL n fun _ => 0).toArray := by
  unfold seenL
  apply Array.ext
  · simp [madeCells, fnL_len]
  · intro c h1 h2
    have hc : c < n := by simpa [madeCells] using h1
    have h3 := fnL_get (n := n) (fun _ => Value.int .i64 0) hc
    refine Eq.trans ?_ (List.getElem?_eq_some_iff.1 h3).2.symm
    simp [madeCells, Nat.mod_one]
/-- The rows, out of what Raw gives. -/
theorem RR.of {s : ES} {L C : Nat → List Nat} (hI : EI s L C) {V : Nat → Value} {w : World} {B : Nat} (h : ∀ j, j < 8 → OR w B (rT j) 1 one (V j) (XB s s.n s.m j)) : ∃ g cp, RR s V g cp w := by
  have hn1 : 1 ≤ s.n := by have := hI.nn; have := hI.s1; omega
  have hm1 : 1 ≤ s.m := by
    have := hI.c.bw.pw
    rcases Nat.eq_zero_or_pos s.m with h0 | h0
    · rw [h0] at this; simp at this
    · exact h0
  have hl7 : ∀ j, j < 7 → XB s s.n s.m j = XN s s.n j := fun j hj => by unfold XB; exact upd_ne _ _ (by omega)
  have hx7 : XB s s.n s.m 7 = fnL s.m fun c => .int .i64 (cv (s.bk c)) := by unfold XB; exact upd_same _ _ _
  have key : ∀ j, j < 8 → ∃ g cap, V j = .slice (some ⟨g, 0, none⟩) (XB s s.n s.m j).length cap ∧ g < w.heap.size ∧ ∀ i, i < (XB s s.n s.m j).length → w.cell? ⟨g, i, none⟩ = (XB s s.n s.m j)[i]? := fun j hj => by
    have hlen : 1 ≤ (XB s s.n s.m j).length := by
      rcases Nat.lt_or_ge j 7 with h7 | h7
      · rw [hl7 j h7, XN_len s s.n h7]; exact hn1
      · obtain rfl : j = 7 := by omega
        rw [hx7, fnL_len]; exact hm1
    rcases (h j hj).2 with ⟨h1, h2⟩ | ⟨g, cap, cur, h1, h2, h3, h4, h5, h6, h7⟩
    · omega
    · refine ⟨g, cap, h1, (Array.getElem?_eq_some_iff.1 h3).1, fun i hi => ?_⟩
      have hfl : ∀ l : List Value, l.flatMap one = l := fun l => by induction l with | nil => rfl | cons a l ih => rw [List.flatMap_cons, ih]; rfl
      rw [hfl] at h7
      have hc : w.cell? ⟨g, i, none⟩ = cur.toList[i]? := by simp [World.cell?, h3]
      rw [hc, ← h7, List.getElem?_take, if_pos (by omega)]
  have hk : ∀ j, ∃ gc : Nat × Nat, j < 8 → V j = .slice (some ⟨gc.1, 0, none⟩) (XB s s.n s.m j).length gc.2 ∧ gc.1 < w.heap.size ∧ ∀ i, i < (XB s s.n s.m j).length → w.cell? ⟨gc.1, i, none⟩ = (XB s s.n s.m j)[i]? := fun j => by
    by_cases hj : j < 8
    · obtain ⟨g, c, hg⟩ := key j hj
      exact ⟨(g, c), fun _ => hg⟩
    · exact ⟨(0, 0), fun h => absurd h hj⟩
  obtain ⟨G, hG⟩ := Classical.axiomOfChoice hk
  refine ⟨fun j => (G j).1, fun j => (G j).2, fun j hj => ?_, ?_, fun j i hj hi => ?_, fun i hi => ?_, fun j hj => (hG j hj).2.1⟩
  · have := (hG j (by omega)).1
    rw [hl7 j hj, XN_len s s.n hj] at this
    exact this
  · have := (hG 7 (by omega)).1
    rw [hx7, fnL_len] at this
    exact this
  · have := (hG j (by omega)).2.2 i (by rw [hl7 j hj, XN_len s s.n hj]; exact hi)
    rw [hl7 j hj] at this
    exact this
  · have := (hG 7 (by omega)).2.2 i (by rw [hx7, fnL_len]; exact hi)
    rw [hx7, fnL_get _ hi] at this
    exact this
end Go.Proofs.Qxb6500892aDoor
