/- A drawn region whose heavy operations come in several orders: a tree of them, with light operations between; guards are let in. -/
import Derived.Test.Qxb6500883aGreatDoorHeavy
namespace Go.Proofs.Qxb6500883aGreatDoor
open Go Go.RowKit
set_option linter.unusedSimpArgs false
set_option linter.unusedVariables false
inductive Tr
  | leaf
  | one (i : Nat) (t : Tr)
  | two (i : Nat) (t : Tr) (j : Nat) (u : Tr)
  | tri (i : Nat) (t : Tr) (j : Nat) (u : Tr) (k : Nat) (v : Tr)
  | lit (ls : List Nat) (t : Tr)
def Tr.deep : Tr → Nat
  | .leaf => 0
  | .one _ t => t.deep + 1
  | .two _ t _ _ => t.deep + 1
  | .tri _ t _ _ _ _ => t.deep + 1
  | .lit ls t => ls.length + t.deep
def treeB (ops : Array Oper) : Tr → Array Bool → Bool
  | .leaf, listed => (Region.ready .any ops listed).isEmpty
  | .one i t, listed => decide (Region.ready .any ops listed = [i]) && ops[i]?.isSome && treeB ops t (listed.setIfInBounds i true)
  | .two i t j u, listed => decide (Region.ready .any ops listed = [i, j]) && ops[i]?.isSome && ops[j]?.isSome && treeB ops t (listed.setIfInBounds i true) && treeB ops u (listed.setIfInBounds j true) && decide (u.deep = t.deep)
  | .tri i t j u k v, listed => decide (Region.ready .any ops listed = [i, j, k]) && ops[i]?.isSome && ops[j]?.isSome && ops[k]?.isSome && treeB ops t (listed.setIfInBounds i true) && treeB ops u (listed.setIfInBounds j true) && treeB ops v (listed.setIfInBounds k true) && decide (u.deep = t.deep) && decide (v.deep = t.deep)
  | .lit ls t, listed => lightB ops (treeB ops t) ls listed
section
variable {P : Program} {ops : Array Oper} {S : World → Prop} {Q : Exit → Act → World → Prop}
def wpTr (P : Program) (ops : Array Oper) (S : World → Prop) (Q : Exit → Act → World → Prop) : Tr → Act → World → Prop
  | .leaf, a, w => Q .normal a w
  | .one i t, a, w => wpList P ops (QH S Q (wpTr P ops S Q t)) (opsAt ops.toList [i]) a w
  | .two i t j u, a, w => wpList P ops (QH S Q (wpTr P ops S Q t)) (opsAt ops.toList [i]) a w ∧ wpList P ops (QH S Q (wpTr P ops S Q u)) (opsAt ops.toList [j]) a w
  | .tri i t j u k v, a, w => wpList P ops (QH S Q (wpTr P ops S Q t)) (opsAt ops.toList [i]) a w ∧ wpList P ops (QH S Q (wpTr P ops S Q u)) (opsAt ops.toList [j]) a w ∧ wpList P ops (QH S Q (wpTr P ops S Q v)) (opsAt ops.toList [k]) a w
  | .lit ls t, a, w => ∃ aG, (∀ W : Unit → World, (∀ x, S (W x)) → wpQuiet P ops (fun w' => ∃ x, w' = W x) (fun a' => a' = aG) (opsAt ops.toList ls) a) ∧ wpTr P ops S Q t aG w
theorem tree_take {i n : Nat} {t : Tr} {listed : Array Bool} {a : Act} {w : World} (hb : ops[i]?.isSome = true) (ih : ∀ a w, S w → wpTr P ops S Q t a w → wpAnyH P .any ops Q S n (listed.setIfInBounds i true) a w) (h : wpList P ops (QH S Q (wpTr P ops S Q t)) (opsAt ops.toList [i]) a w) :
    wpOp P ops Q i (fun a' w' => S w' ∧ wpAnyH P .any ops Q S n (listed.setIfInBounds i true) a' w') a w := by
  cases ho : ops[i]? with
  | none => rw [ho] at hb; simp at hb
  | some o =>
    rw [opsAt_cons ho] at h
    simp only [opsAt, wpList] at h
    unfold wpOp
    simp only [ho]
    by_cases hw : Region.wanted o (yielded ops a.tmps) = true
    · rw [if_pos hw] at h ⊢
      rcases h with h | ⟨h4, h5⟩
      · exact .inl (wp_mono2 (fun e a w he hq => by cases e <;> first | exact absurd rfl he | exact hq) (fun a w hk => ⟨hk.1, ih a w hk.1 hk.2⟩) h)
      · exact .inr ⟨h4, by obtain ⟨a', w', h6⟩ := h5; exact ⟨a', w', h6⟩⟩
    · rw [if_neg hw] at h ⊢
      exact ⟨h.1, ih _ _ h.1 h.2⟩
theorem tree_any (hsel : ∀ (j : Nat) (o : Oper) cs b, ops[j]? = some o → o.op ≠ .select cs b) (hQ : ∀ d v c a w, Q (.panic c) (Act.put a d v) w → Q (.panic c) a w) : ∀ (t : Tr) (listed : Array Bool) (a : Act) (w : World), treeB ops t listed = true → S w → wpTr P ops S Q t a w → wpAnyH P .any ops Q S t.deep listed a w
  | .leaf, listed, a, w, hb, hS, h => by
    simp only [treeB, List.isEmpty_iff] at hb
    exact ⟨hb, h⟩
  | .one i t, listed, a, w, hb, hS, h => by
    simp only [treeB, Bool.and_eq_true, decide_eq_true_eq] at hb
    obtain ⟨⟨b1, b2⟩, b3⟩ := hb
    refine ⟨fun h0 => by rw [b1] at h0; simp at h0, fun k hk => ?_⟩
    rw [b1] at hk
    simp at hk
    subst hk
    exact tree_take b2 (fun a w hs => tree_any hsel hQ t _ a w b3 hs) h
  | .two i t j u, listed, a, w, hb, hS, h => by
    simp only [treeB, Bool.and_eq_true, decide_eq_true_eq] at hb
    obtain ⟨⟨⟨⟨⟨b1, b2⟩, b3⟩, b4⟩, b5⟩, b6⟩ := hb
    refine ⟨fun h0 => by rw [b1] at h0; simp at h0, fun k hk => ?_⟩
    rw [b1] at hk
    simp at hk
    rcases hk with rfl | rfl
    · exact tree_take b2 (fun a w hs => tree_any hsel hQ t _ a w b4 hs) h.1
    · exact tree_take b3 (fun a w hs hh => by have := tree_any hsel hQ u _ a w b5 hs hh; rw [b6] at this; exact this) h.2
  | .tri i t j u k v, listed, a, w, hb, hS, h => by
    simp only [treeB, Bool.and_eq_true, decide_eq_true_eq] at hb
    obtain ⟨⟨⟨⟨⟨⟨⟨⟨b1, b2⟩, b3⟩, b4⟩, b5⟩, b6⟩, b7⟩, b8⟩, b9⟩ := hb
    refine ⟨fun h0 => by rw [b1] at h0; simp at h0, fun q hq => ?_⟩
    rw [b1] at hq
    simp at hq
    rcases hq with rfl | rfl | rfl
    · exact tree_take b2 (fun a w hs => tree_any hsel hQ t _ a w b5 hs) h.1
    · exact tree_take b3 (fun a w hs hh => by have := tree_any hsel hQ u _ a w b6 hs hh; rw [b8] at this; exact this) h.2.1
    · exact tree_take b4 (fun a w hs hh => by have := tree_any hsel hQ v _ a w b7 hs hh; rw [b9] at this; exact this) h.2.2
  | .lit ls t, listed, a, w, hb, hS, h => by
    obtain ⟨aG, h3, h4⟩ := h
    refine lights_any (P := P) (Q := Q) (ops := ops) (aF := aG) hsel hQ hS (fun listed hl2 => tree_any hsel hQ t listed aG w hl2 hS h4) ls listed a hb (fun w' hw' => ?_)
    have e : (fun w2 : World => ∃ x : Unit, w2 = (fun _ => w') x) = fun w2 => w2 = w' := by
      funext w2
      apply propext
      exact ⟨fun ⟨_, h⟩ => h, fun h => ⟨(), h⟩⟩
    rw [← e]
    exact h3 (fun _ => w') (fun _ => hw')
/-- Light operations ls, the heavy ones by the tree t, then the tail from n on. -/
theorem wp_region_tree (S : World → Prop) (n : Nat) (ls : List Nat) (t : Tr) {id : Nat} {a : Act} {w : World} {L : List Oper} (hm : P.follows .mixedOrders = true)
    (hB : (Region.noSelect (L.take n).toArray && lightB (L.take n).toArray (treeB (L.take n).toArray t) ls (Array.replicate (L.take n).length false) && decide (ls.length + t.deep = (L.take n).length)) = true) (hT : tailTB (L.take n) (L.drop n) = true)
    (hQ : ∀ d v c a w, Q (.panic c) (Act.put a d v) w → Q (.panic c) a w) (h0 : S w.drew)
    (h : ∃ aF, (∀ W : Unit → World, (∀ x, S (W x)) → wpQuiet P (L.take n).toArray (fun w' => ∃ x, w' = W x) (fun a' => a' = aF) (opsAt (L.take n) ls) a) ∧
      wpTr P (L.take n).toArray S (QN P L.toArray (L.drop n) Q) t aF w.drew) : (Code.region id L.toArray true).wp P Q a w := by
  obtain ⟨aF, h1, h2⟩ := h
  have hsel : Region.noSelect (L.take n).toArray = true := by
    simp only [Bool.and_eq_true] at hB
    exact hB.1.1
  exact region_lights S n ls _ t.deep hm hB hT hQ h0 ⟨aF, h1, fun listed hl => tree_any (Q := QN P L.toArray (L.drop n) Q) (Region.noSelect_spec hsel) (fun d v c a w hp => hQ d v c a w hp) t listed aF w.drew hl h0 h2⟩
end
end Go.Proofs.Qxb6500883aGreatDoor
