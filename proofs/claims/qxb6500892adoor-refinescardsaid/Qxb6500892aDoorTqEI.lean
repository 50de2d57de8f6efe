/- The engine's invariant; dropGhost, remember. -/
import Derived.Test.Qxb6500892aDoorTqSI
namespace Go.Proofs.Qxb6500892aDoor
open Go.RowKit
set_option linter.unusedSimpArgs false
set_option linter.unusedVariables false

/-- A node that the hash table holds. -/
def Hs (s : ES) (i : Nat) : Prop := i < s.n ∧ (s.whr i = 1 ∨ s.whr i = 2 ∨ s.whr i = 3)
structure EI (s : ES) (L C : Nat → List Nat) : Prop where
  q : QI s L
  c : CI s C (Hs s)
  nn : s.n = s.slots + s.kout
  s1 : 1 ≤ s.slots ∧ s.slots ≤ 65536 ∧ s.kout ≤ 65536 ∧ s.kin ≤ s.slots ∧ s.kneg ≤ s.slots
  slot : ∀ i, i < s.slots → s.whr i ≤ 2
  gho : ∀ i, s.slots ≤ i → i < s.n → s.whr i = 3 ∨ s.whr i = 4
  uq : ∀ i j, Hs s i → Hs s j → s.key i = s.key j → i = j
  pn : ∀ i, i < s.n → 0 ≤ s.pin i ∧ (s.pin i ≠ 0 → s.whr i = 1 ∨ s.whr i = 2)
  ng : ∀ i, i < s.n → s.neg i = true → s.whr i = 1
  negs : s.negs = ((L 1).countP s.neg : Int)
  pinned : s.pinned = ((L 1 ++ L 2).countP (fun i => decide (s.pin i ≠ 0)) : Int)
  gl : (L 3).length + (L 4).length = s.kout
structure EE (e gn gb : Nat) (w0 : World) (s : ES) (L C : Nat → List Nat) (w : World) : Prop where
  em : EM e gn gb s w
  u3 : U3 e gn gb w0 w
  ei : EI s L C
theorem EE.si {e gn gb : Nat} {w0 : World} {s : ES} {L C : Nat → List Nat} {w : World} (h : EE e gn gb w0 s L C w) : SI e gn gb w0 s L C (Hs s) w := ⟨h.em, h.u3, h.ei.q, h.ei.c⟩
theorem EE.below {e gn gb : Nat} {w0 : World} {s : ES} {L C : Nat → List Nat} {w w' : World} (h : EE e gn gb w0 s L C w) (hb : Below w.heap.size w w') : EE e gn gb w0 s L C w' := ⟨h.em.below hb, h.u3.trans (U3.ofBelow hb), h.ei⟩
theorem CI.iff {s : ES} {C : Nat → List Nat} {P P' : Nat → Prop} (h : CI s C P) (hp : ∀ j, P j ↔ P' j) : CI s C P' := ⟨h.bw, h.ch, h.nd, fun b i hb hi => ⟨(h.hs b i hb hi).1, (hp i).1 (h.hs b i hb hi).2⟩, fun i hi hpi => h.mem i hi ((hp i).2 hpi)⟩
theorem upd_upd {α : Type} (f : Nat → α) (i : Nat) (a b : α) : upd (upd f i a) i b = upd f i b := by
  funext j
  unfold upd
  split <;> rfl
theorem upd_ev {α : Type} (f : Nat → α) (i j : Nat) (a : α) : upd f i a j = if j = i then a else f j := rfl
section
variable {e gn gb : Nat} {w0 : World} {s : ES} {L C : Nat → List Nat} {P : Nat → Prop} {w : World}
set_option maxRecDepth 100000 in
theorem dropGhost_si (h : SI e gn gb w0 s L C P w) {g : Nat} (hg : g < s.n) (hw : s.whr g = 3) (hp : P g) :
    Calls Tryd.prog 43 #[.pointer (some ⟨e, 0, none⟩), .int .i32 (g : Int)] w fun x w' => x = .returned (.tuple #[]) ∧ ∃ s' C', SI e gn gb w0 s' (upd (upd L 3 ((L 3).erase g)) 4 (g :: L 4)) C' (fun j => P j ∧ j ≠ g) w' ∧ Fx s s' ∧ s'.whr = upd s.whr g 4 := by
  have H0 := hid (hashOut_si h hg hp)
  clear h
  go_enter Tryd.func43, Tryd.ntmps43
  go_wp2_with fail
  refine H0.out.mono ?_
  rintro x w1 ⟨rfl, s1, C1, h1, f1, r1⟩
  have H1 := hid (unlink_si h1 (q := 3) (i := g) (by omega) (by omega) (by rw [f1.n]; exact hg) (by rw [r1]; exact hw))
  have F1 := hid f1
  have R1 := hid r1
  clear H0 h1 f1 r1
  go_wp2_with fail
  refine H1.out.mono ?_
  rintro x w2 ⟨rfl, s2, h2, f2, r2⟩
  have H2 := hid (pushHead_si h2 (q := 4) (i := g) (by omega) (by omega) (by rw [f2.n, F1.out.n]; exact hg) (by rw [r2, upd_same]))
  have F2 := hid (F1.out.trans f2)
  have R2 : Hid (s2.whr = upd s.whr g 0) := hid (by rw [r2, R1.out])
  clear H1 h2 f2 r2 F1 R1
  go_wp2_with fail
  refine H2.out.mono ?_
  rintro x w3 ⟨rfl, s3, h3, f3, r3⟩
  have HG : Hid (∃ s' C', SI e gn gb w0 s' (upd (upd L 3 ((L 3).erase g)) 4 (g :: L 4)) C' (fun j => P j ∧ j ≠ g) w3 ∧ Fx s s' ∧ s'.whr = upd s.whr g 4) := hid ⟨s3, _, h3, F2.out.trans f3, by rw [r3, R2.out, upd_upd]⟩
  clear h3 f3 r3 H2
  go_wp2
  refine bodyPost_end (results_none Tryd.results43 _ _ _) rfl ?_
  exact ⟨rfl, HG.out⟩
end
section
variable {s s' : ES} {L C C' : Nat → List Nat}
theorem EI.hs_lt (h : EI s L C) {q : Nat} (hq : q < 5) {i : Nat} (hi : i ∈ L q) : i < s.n := (h.q.dl q hq).lt i hi
theorem EI.wh (h : EI s L C) {q : Nat} (hq : q < 5) {i : Nat} (hi : i ∈ L q) : s.whr i = q := (h.q.dl q hq).wh i hi
theorem mem_erase_lt {L : List Nat} {i j : Nat} (h : j ∈ L.erase i) : j ∈ L := List.mem_of_mem_erase h
/-- A ghost goes to the spare cells. -/
theorem EI.drop (h : EI s L C) {g : Nat} (hg : g < s.n) (hw : s.whr g = 3) (hq : QI s' (upd (upd L 3 ((L 3).erase g)) 4 (g :: L 4))) (hc : CI s' C' (fun j => Hs s j ∧ j ≠ g)) (hf : Fx s s') (hr : s'.whr = upd s.whr g 4) : EI s' (upd (upd L 3 ((L 3).erase g)) 4 (g :: L 4)) C' := by
  have hgs : s.slots ≤ g := by
    rcases Nat.lt_or_ge g s.slots with h1 | h1
    · have := h.slot g h1; omega
    · exact h1
  have hH : ∀ j, (Hs s j ∧ j ≠ g) ↔ Hs s' j := fun j => by
    unfold Hs
    rw [hf.n, hr, upd_ev]
    by_cases e : j = g
    · rw [if_pos e]
      exact ⟨fun h1 => absurd e h1.2, fun h1 => by omega⟩
    · rw [if_neg e]
      exact ⟨fun h1 => h1.1, fun h1 => ⟨h1, e⟩⟩
  refine ⟨hq, hc.iff hH, by rw [hf.n, hf.slots, hf.kout]; exact h.nn, by rw [hf.slots, hf.kout, hf.kin, hf.kneg]; exact h.s1, fun i hi => ?_, fun i hi hi2 => ?_, fun i j hi hj e => ?_, fun i hi => ?_, fun i hi e => ?_, ?_, ?_, ?_⟩
  · rw [hf.slots] at hi
    rw [hr, upd_ne _ _ (by omega)]
    exact h.slot i hi
  · rw [hf.slots] at hi
    rw [hf.n] at hi2
    rw [hr, upd_ev]
    split
    · exact .inr rfl
    · exact h.gho i hi hi2
  · rw [hf.key] at e
    exact h.uq i j ((hH i).2 hi).1 ((hH j).2 hj).1 e
  · rw [hf.n] at hi
    rw [hf.pin, hr]
    refine ⟨(h.pn i hi).1, fun h1 => ?_⟩
    have h2 := (h.pn i hi).2 h1
    rw [upd_ne _ _ (fun e => by subst e; omega)]
    exact h2
  · rw [hf.n] at hi
    rw [hf.neg] at e
    have h2 := h.ng i hi e
    rw [hr, upd_ne _ _ (fun e => by subst e; omega)]
    exact h2
  · rw [hf.negs, hf.neg, h.negs]
    rfl
  · rw [hf.pinned, hf.pin, h.pinned]
    rfl
  · have hm : g ∈ L 3 := by have := h.q.mem g hg (by omega); rw [hw] at this; exact this
    have h3 := List.length_erase_of_mem hm
    have h4 : 0 < (L 3).length := List.length_pos_of_mem hm
    have h5 := h.gl
    rw [hf.kout]
    show ((L 3).erase g).length + (g :: L 4).length = s.kout
    rw [h3, List.length_cons]
    omega
end
section
variable {e gn gb : Nat} {w0 : World} {s : ES} {L C : Nat → List Nat} {w : World}
theorem dropGhost_ee (h : EE e gn gb w0 s L C w) {g : Nat} (hg : g < s.n) (hw : s.whr g = 3) :
    Calls Tryd.prog 43 #[.pointer (some ⟨e, 0, none⟩), .int .i32 (g : Int)] w fun x w' => x = .returned (.tuple #[]) ∧ ∃ s' C', EE e gn gb w0 s' (upd (upd L 3 ((L 3).erase g)) 4 (g :: L 4)) C' w' ∧ Fx s s' ∧ s'.whr = upd s.whr g 4 := by
  refine (dropGhost_si h.si hg hw ⟨hg, .inr (.inr hw)⟩).mono ?_
  rintro x w' ⟨rfl, s', C', h1, f, r⟩
  exact ⟨rfl, s', C', ⟨h1.em, h1.u3, h.ei.drop hg hw h1.q h1.c f r⟩, f, r⟩
end
/-- What remembering a key does. -/
structure Rem (k : Nat) (s : ES) (L : Nat → List Nat) (s' : ES) (L' : Nat → List Nat) : Prop where
  n : s'.n = s.n
  m : s'.m = s.m
  slots : s'.slots = s.slots
  kin : s'.kin = s.kin
  kout : s'.kout = s.kout
  kneg : s'.kneg = s.kneg
  shift : s'.shift = s.shift
  pin : s'.pin = s.pin
  neg : s'.neg = s.neg
  negs : s'.negs = s.negs
  pinned : s'.pinned = s.pinned
  key : ∀ i, i < s.slots → s'.key i = s.key i
  whr : ∀ i, i < s.slots → s'.whr i = s.whr i
  l1 : L' 1 = L 1
  l2 : L' 2 = L 2
  gk : (L' 3).map s'.key = (k :: (L 3).map s.key).take s.kout
end Go.Proofs.Qxb6500892aDoor
