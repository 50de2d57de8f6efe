/- Own records with their contents, beside something that is only read; what the surveys answer, plainly. -/
import Derived.Test.Qxb6500887aGreatAyX
import Derived.Test.Qxb6500887aGreatAx4
import Derived.Deep.DeepCutAuto
namespace Go.Proofs.Qxb6500887aGreat
open Go.RowKit
set_option linter.unusedSimpArgs false
set_option linter.unusedVariables false
/-- Something that is only read, own blocks beside it. -/
structure OwV (B : World → Prop) (w0 : World) (gs : List (Nat × TypeId × List Value)) (w : World) : Prop where
  b0 : B w0
  st : ∀ w1 w2, B w1 → Below w1.heap.size w1 w2 → B w2
  bel : Below w0.heap.size w0 w
  own : ∀ p ∈ gs, Blk w p.1 p.2.1 p.2.2
  lo : ∀ p ∈ gs, w0.heap.size ≤ p.1
  nd : (gs.map (·.1)).Nodup
section
variable {B : World → Prop} {w w' w0 : World} {gs : List (Nat × TypeId × List Value)} {g k : Nat} {t : TypeId} {cs cs' : List Value}
theorem OwV.b (h : OwV B w0 gs w) : B w := h.st _ _ h.b0 h.bel
theorem OwV.below (h : OwV B w0 gs w) (hb : Below w.heap.size w w') : OwV B w0 gs w' := ⟨h.b0, h.st, h.bel.trans (hb.mono h.bel.size), fun p hp => (h.own p hp).below hb, h.lo, h.nd⟩
theorem OwV.drew (h : OwV B w0 gs w) (hb : Drew w w') : OwV B w0 gs w' := h.below (hb.below _)
theorem OwV.start (h : B w) (st : ∀ w1 w2, B w1 → Below w1.heap.size w1 w2 → B w2) : OwV B w [] w := ⟨h, st, Below.refl _ _, fun p hp => absurd hp List.not_mem_nil, fun p hp => absurd hp List.not_mem_nil, List.nodup_nil⟩
theorem OwV.blk (h : OwV B w0 gs w) (hk : gs[k]? = some (g, t, cs)) : Blk w g t cs := h.own (g, t, cs) (List.mem_of_getElem? hk)
theorem OwV.low (h : OwV B w0 gs w) (hk : gs[k]? = some (g, t, cs)) : w0.heap.size ≤ g := h.lo (g, t, cs) (List.mem_of_getElem? hk)
theorem OwV.new (h : OwV B w0 gs w) (hg : w.heap.size = g) (t : TypeId) (cs : List Value) : OwV B w0 ((g, t, cs) :: gs) (w.alloc (.cells cs.toArray t)) := by
  have hb := nbel w (.cells cs.toArray t)
  have hn := Blk.new w cs t
  rw [hg] at hn
  have h' := h.below hb
  refine ⟨h.b0, h.st, h'.bel, fun p hp => ?_, fun p hp => ?_, ?_⟩
  · rcases List.mem_cons.1 hp with rfl | hp
    · exact hn
    · exact h'.own p hp
  · rcases List.mem_cons.1 hp with rfl | hp
    · have := h.bel.size; show _ ≤ g; omega
    · exact h.lo p hp
  · rw [List.map_cons, List.nodup_cons]
    refine ⟨fun hm => ?_, h.nd⟩
    obtain ⟨p, hp, e⟩ := List.mem_map.1 hm
    have := (h.own p hp).lt
    have e' : p.1 = g := e
    omega
theorem OwV.whole (h : OwV B w0 gs w) (hk : gs[k]? = some (g, t, cs)) (hu : Upd g w w') (hb : Blk w' g t cs') : OwV B w0 (gs.set k (g, t, cs')) w' := by
  refine ⟨h.b0, h.st, h.bel.trans (hu.below (h.low hk) h.bel.size), fun p hp => ?_, fun p hp => ?_, ?_⟩
  · obtain ⟨j, hj⟩ := List.mem_iff_getElem?.1 hp
    by_cases ejk : j = k
    · subst ejk
      rw [List.getElem?_set_self (List.getElem?_eq_some_iff.1 hk).1] at hj
      cases hj
      exact hb
    · rw [List.getElem?_set_ne (by omega)] at hj
      refine (h.own p (List.mem_of_getElem? hj)).upd hu (fun e => ejk ?_)
      have n1 : (gs.map (·.1))[j]? = some g := by rw [List.getElem?_map, hj]; show some p.1 = _; rw [e]
      have n2 : (gs.map (·.1))[k]? = some g := by rw [List.getElem?_map, hk]; rfl
      have l1 := (List.getElem?_eq_some_iff.1 n1).1
      exact (List.getElem?_inj l1 h.nd).1 (n1.trans n2.symm)
  · rcases List.mem_or_eq_of_mem_set hp with hp | rfl
    · exact h.lo p hp
    · exact h.low hk
  · have : (gs.set k (g, t, cs')).map (·.1) = gs.map (·.1) := by
      rw [List.map_set]
      apply List.ext_getElem?
      intro j
      by_cases ejk : j = k
      · subst ejk
        rw [List.getElem?_set_self (by rw [List.length_map]; exact (List.getElem?_eq_some_iff.1 hk).1), List.getElem?_map, hk]
        rfl
      · rw [List.getElem?_set_ne (by omega)]
    rw [this]
    exact h.nd
theorem OwV.put (h : OwV B w0 gs w) (hk : gs[k]? = some (g, t, cs)) (i : Nat) (v : Value) : OwV B w0 (gs.set k (g, t, cs.set i v)) (w.setCell ⟨g, i, none⟩ v) := h.whole hk ((Upd.refl g w).setCell rfl _) ((h.blk hk).set i v)
theorem OwV.cell (h : OwV B w0 gs w) (hk : gs[k]? = some (g, t, cs)) (i : Nat) : w.cell? ⟨g, i, none⟩ = cs[i]? := (h.blk hk).cell i
theorem OwV.frozen (h : OwV B w0 gs w) (hk : gs[k]? = some (g, t, cs)) (i : Nat) : w.frozen? ⟨g, i, none⟩ = false := (h.blk hk).frozen i
/-- The first record is written and read no more: what lies below stays. -/
theorem OwV.out (h : OwV B w0 gs w) (hk : gs[k]? = some (g, t, cs)) (hu : Upd g w w') : Below w0.heap.size w0 w' := h.bel.trans (hu.below (h.low hk) h.bel.size)
end
theorem AM.stays {l : AL} {S : AS} : ∀ w1 w2, AM l S w1 → Below w1.heap.size w1 w2 → AM l S w2 := fun w1 w2 h hb => h.below hb
theorem MM.stays {l : ML} {E : ES} : ∀ w1 w2, MM l E w1 → Below w1.heap.size w1 w2 → MM l E w2 := fun w1 w2 h hb => h.below hb
/-- Sums. -/
def sumF (F : Nat → Nat) : Nat → Nat
  | 0 => 0
  | n + 1 => sumF F n + F n
theorem sumF_le {F : Nat → Nat} {m : Nat} (h : ∀ i, F i ≤ m) : ∀ n, sumF F n ≤ m * n
  | 0 => Nat.le_refl _
  | n + 1 => by
    have := sumF_le h n
    have := h n
    show sumF F n + F n ≤ m * (n + 1)
    rw [Nat.mul_succ]; omega
theorem sumF_eq {F G : Nat → Nat} : ∀ {n : Nat}, (∀ i, i < n → F i = G i) → sumF F n = sumF G n
  | 0, _ => rfl
  | n + 1, h => by show sumF F n + F n = sumF G n + G n; rw [sumF_eq (fun i hi => h i (by omega)), h n (by omega)]
/-- The arena's tables, entry for entry. -/
def abE (S : AS) : ES := ⟨S.W, eN 2 32 S.C, fun i => nzP 1 64 S.M i, fun i => nzP 1 64 S.L i, eN 4 16 S.T, S.v⟩
def fb0 (n : Nat) : Bool := n == 32
def fb1 (n : Nat) : Bool := !(n == 32) && !(n == 0)
def fb2 (n : Nat) : Bool := n == 0
/-- What a usage says. -/
def usL (E : ES) : List Nat := [sumF (fun b => flE E.T b 32) 64, cnt (fun b => fb0 (flE E.T b 32)) 64, cnt (fun b => fb1 (flE E.T b 32)) 64, cnt (fun b => fb2 (flE E.T b 32)) 64, cnt (fun g => !(E.C g == 0)) 16384, cnt (fun g => E.C g == 3) 16384, cnt E.K 16384, cnt E.G 32768]
theorem flV_eq (S : AS) {b : Nat} (hb : b < 64) : flV S (b : Int) = ((flE (abE S).T b 32 : Nat) : Int) := by
  unfold flV
  rw [if_pos (by unfold BkI; omega), show ((b : Int)).toNat = b by omega]
  unfold usN flE
  have h1 := cnt_inR (fun i => !(eN 4 16 S.T i == 0)) (lo := 32 * b) (hi := 32 * b + 32) (N := 2048) (by omega) (by omega)
  have h2 := cnt_not (fun i => decide (eN 4 16 S.T (32 * b + i) = 0)) 32
  have h3 : cnt (fun i => !(eN 4 16 S.T (32 * b + i) == 0)) (32 * b + 32 - 32 * b) = cnt (fun i => !(decide (eN 4 16 S.T (32 * b + i) = 0))) 32 := by
    rw [show 32 * b + 32 - 32 * b = 32 by omega]
    rfl
  show (32 : Int) - ((cnt _ 2048 : Nat) : Int) = ((cnt (fun i => decide (eN 4 16 S.T (32 * b + i) = 0)) 32 : Nat) : Int)
  omega
end Go.Proofs.Qxb6500887aGreat
