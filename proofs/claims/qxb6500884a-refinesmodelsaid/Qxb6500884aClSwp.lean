/- The sweep over the edges, plainly. -/
import Derived.Test.Qxb6500884aClPrt
import Derived.Test.Qxb6500884aClSort
namespace Go.Proofs.Qxb6500884a
set_option linter.unusedSimpArgs false
set_option linter.unusedVariables false

theorem edgesOf_snoc (m : Nat) (l : List (Int × Int)) (p : Int × Int) : edgesOf m (l ++ [p]) = edgesOf m l ++ ((p.1, (m : Int)) :: (if p.2 < 196607 then [(p.2 + 1, (m : Int))] else [])) := by
  unfold edgesOf
  rw [List.flatMap_append]
  simp
theorem edgesFrom_snoc (l : List (Int × Int)) : ∀ (Ls : List (List (Int × Int))) (m : Nat), edgesFrom m (Ls ++ [l]) = edgesFrom m Ls ++ edgesOf (m + Ls.length) l
  | [], m => by simp [edgesFrom]
  | a :: Ls, m => by
    simp only [List.cons_append, edgesFrom, List.append_assoc]
    rw [edgesFrom_snoc l Ls (m + 1)]
    simp [Nat.add_assoc, Nat.add_comm 1]
theorem edgesOf_len (m : Nat) (l : List (Int × Int)) : (edgesOf m l).length ≤ l.length * 2 := by
  induction l with
  | nil => simp [edgesOf]
  | cons p l ih =>
    have : edgesOf m (p :: l) = ((p.1, (m : Int)) :: (if p.2 < 196607 then [(p.2 + 1, (m : Int))] else [])) ++ edgesOf m l := by unfold edgesOf; rw [List.flatMap_cons]
    rw [this, List.length_append]
    simp
    split <;> simp <;> omega
theorem edgesFrom_len : ∀ (Ls : List (List (Int × Int))) (m : Nat), (∀ l ∈ Ls, l.length ≤ 98304) → (edgesFrom m Ls).length ≤ Ls.length * 196608
  | [], m, _ => by simp [edgesFrom]
  | l :: Ls, m, h => by
    have h1 := edgesOf_len m l
    have h2 := h l (by simp)
    have h3 := edgesFrom_len Ls (m + 1) (fun q hq => h q (by simp [hq]))
    simp only [edgesFrom, List.length_append, List.length_cons]
    omega
/-- The pattern of x. -/
def ptO (sp : List (Int × Int)) (nb : Nat) (x : Int) : List UInt8 := togs (List.replicate nb 0) (sp.filter fun e => decide (e.1 ≤ x))
theorem xorL_filter (p f : Int × Int → Bool) : ∀ es : List (Int × Int), xorL ((es.filter p).map f) = xorL (es.map fun e => p e && f e)
  | [] => rfl
  | e :: es => by
    rw [List.filter_cons, List.map_cons]
    cases hp : p e with
    | true => simp only [if_true, List.map_cons, xorL, xorL_filter p f es, Bool.true_and]
    | false =>
      simp only [Bool.false_eq_true, if_false, xorL, xorL_filter p f es, Bool.false_and]
      cases xorL (es.map fun e => p e && f e) <;> rfl
theorem ptO_bit {Ls : List (List (Int × Int))} {sp : List (Int × Int)} (hN : ∀ l ∈ Ls, Nrm l) (hp : sp.Perm (edgesFrom 0 Ls)) {x : Int} (hx : x ≤ 196607) (j : Nat) : bitAt (ptO sp ((Ls.length + 7) / 8) x) j = (match Ls[j]? with | some l => memB l x | none => false) := by
  unfold ptO
  rw [bitAt_togs j _ _ (fun e he => by
    have h1 := edgesFrom_mem Ls 0 hN e (hp.subset (List.mem_filter.1 he).1)
    simp
    omega), bitAt_zero, xorL_filter]
  have h2 : xorL (sp.map fun e => decide (e.1 ≤ x) && decide (e.2 = (j : Int))) = tx sp j x := rfl
  rw [h2, tx_perm hp, tx_from hx j Ls 0 hN, if_pos (Nat.zero_le _), Nat.sub_zero]
  simp only [Bool.false_bne]
  cases Ls[j]? <;> rfl
theorem ptO_len (sp : List (Int × Int)) (nb : Nat) (x : Int) : (ptO sp nb x).length = nb := by unfold ptO; rw [togs_len]; simp
theorem ptO_iff {Ls : List (List (Int × Int))} {sp : List (Int × Int)} (hN : ∀ l ∈ Ls, Nrm l) (hp : sp.Perm (edgesFrom 0 Ls)) {x y : Int} (hx : x ≤ 196607) (hy : y ≤ 196607) : ptO sp ((Ls.length + 7) / 8) x = ptO sp ((Ls.length + 7) / 8) y ↔ ∀ l ∈ Ls, memB l x = memB l y := by
  constructor
  · intro h l hl
    obtain ⟨j, hj⟩ := List.mem_iff_getElem?.1 hl
    have h1 := ptO_bit hN hp hx j
    have h2 := ptO_bit hN hp hy j
    rw [h, h2, hj] at h1
    exact h1.symm
  · intro h
    apply bits_ext (by rw [ptO_len, ptO_len])
    intro j
    rw [ptO_bit hN hp hx, ptO_bit hN hp hy]
    cases hj : Ls[j]? with
    | none => rfl
    | some l => exact h l (List.mem_of_getElem? hj)
theorem filter_take {sp : List (Int × Int)} {i : Nat} {x : Int} (h1 : ∀ (j : Nat) (e : Int × Int), j < i → sp[j]? = some e → e.1 ≤ x) (h2 : ∀ (j : Nat) (e : Int × Int), i ≤ j → sp[j]? = some e → x < e.1) : sp.filter (fun e => decide (e.1 ≤ x)) = sp.take i := by
  conv => lhs; rw [← List.take_append_drop i sp]
  rw [List.filter_append]
  have e1 : (sp.take i).filter (fun e => decide (e.1 ≤ x)) = sp.take i := List.filter_eq_self.2 (fun e he => by
    obtain ⟨j, hj⟩ := List.mem_iff_getElem?.1 he
    have hlt := (List.getElem?_eq_some_iff.1 hj).1
    rw [List.length_take] at hlt
    rw [List.getElem?_take, if_pos (by omega)] at hj
    exact decide_eq_true (h1 j e (by omega) hj))
  have e2 : (sp.drop i).filter (fun e => decide (e.1 ≤ x)) = [] := List.filter_eq_nil_iff.2 (fun e he => by
    obtain ⟨j, hj⟩ := List.mem_iff_getElem?.1 he
    rw [List.getElem?_drop] at hj
    have := h2 (i + j) e (by omega) hj
    simp
    omega)
  rw [e1, e2, List.append_nil]
/-- Where the sweep stands: i edges are behind it, at st. -/
structure SW (sp : List (Int × Int)) (i : Nat) (st : Int) : Prop where
  past : ∀ (j : Nat) (e : Int × Int), j < i → sp[j]? = some e → e.1 ≤ st
  next : ∀ (j : Nat) (e : Int × Int), i ≤ j → sp[j]? = some e → st ≤ e.1
  strict : 0 < i → ∀ (j : Nat) (e : Int × Int), i ≤ j → sp[j]? = some e → st < e.1
  st0 : 0 ≤ st
  st1 : st ≤ 196607
theorem SW.zero {sp : List (Int × Int)} (h : ∀ e ∈ sp, 0 ≤ e.1) : SW sp 0 0 :=
  ⟨fun j e hj => by omega, fun j e _ he => h e (List.mem_of_getElem? he), fun h => by omega, by omega, by omega⟩
theorem SW.pat {sp : List (Int × Int)} {i : Nat} {st : Int} (h : SW sp i st) (ha : Asc sp) (nb : Nat) {x : Int} (hx : st ≤ x) (hn : ∀ e, sp[i]? = some e → x < e.1) : ptO sp nb x = togs (List.replicate nb 0) (sp.take i) := by
  unfold ptO
  rw [filter_take (fun j e hj he => by have := h.past j e hj he; omega) (fun j e hj he => ?_)]
  have hlt := (List.getElem?_eq_some_iff.1 he).1
  obtain ⟨e0, he0⟩ : ∃ e0, sp[i]? = some e0 := ⟨_, List.getElem?_eq_getElem (by omega)⟩
  have h1 := hn e0 he0
  rcases Nat.lt_or_ge i j with h2 | h2
  · have := ha i j e0 e h2 he0 he
    omega
  · have : j = i := by omega
    subst this
    rw [he0] at he
    cases he
    exact h1
/-- Inside a place: those up to i are at or before it. -/
structure SI (sp : List (Int × Int)) (i : Nat) (at_ : Int) : Prop where
  past : ∀ (j : Nat) (e : Int × Int), j < i → sp[j]? = some e → e.1 ≤ at_
  next : ∀ (j : Nat) (e : Int × Int), i ≤ j → sp[j]? = some e → at_ ≤ e.1
theorem SW.enter {sp : List (Int × Int)} {i : Nat} {st : Int} (h : SW sp i st) (ha : Asc sp) {e : Int × Int} (he : sp[i]? = some e) : SI sp i e.1 := by
  refine ⟨fun j f hj hf => ?_, fun j f hj hf => ?_⟩
  · have h1 := h.past j f hj hf
    have h2 := h.next i e (Nat.le_refl _) he
    omega
  · rcases Nat.lt_or_ge i j with h2 | h2
    · exact ha i j e f h2 he hf
    · have : j = i := by omega
      subst this
      rw [he] at hf
      cases hf
      omega
theorem SI.step {sp : List (Int × Int)} {i : Nat} {at_ : Int} (h : SI sp i at_) {e : Int × Int} (he : sp[i]? = some e) (h1 : e.1 = at_) : SI sp (i + 1) at_ :=
  ⟨fun j f hj hf => by
    by_cases hji : j < i
    · exact h.past j f hji hf
    · have : j = i := by omega
      subst this
      rw [he] at hf
      cases hf
      omega, fun j f hj hf => h.next j f (by omega) hf⟩
theorem SI.leave {sp : List (Int × Int)} {i : Nat} {at_ : Int} (h : SI sp i at_) (ha : Asc sp) (h0 : 0 ≤ at_) (h1 : at_ ≤ 196607) (hn : ∀ e, sp[i]? = some e → e.1 ≠ at_) : SW sp i at_ :=
  ⟨h.past, h.next, fun _ j f hj hf => by
    have h2 := h.next j f hj hf
    have hlt := (List.getElem?_eq_some_iff.1 hf).1
    obtain ⟨e0, he0⟩ : ∃ e0, sp[i]? = some e0 := ⟨_, List.getElem?_eq_getElem (by omega)⟩
    have h3 := hn e0 he0
    have h4 := h.next i e0 (Nat.le_refl _) he0
    rcases Nat.lt_or_ge i j with h5 | h5
    · have := ha i j e0 f h5 he0 hf
      omega
    · have : j = i := by omega
      subst this
      rw [he0] at hf
      cases hf
      omega, h0, h1⟩
/-- The bounds that the walk wants. -/
theorem PI.bounds {pt : Int → List UInt8} {P : PSt} {st : Int} (h : PI pt P st) (hst : st ≤ 196608) : P.lists.length ≤ 196608 ∧ P.owner.length ≤ 196608 ∧ ∀ l ∈ P.lists, l.length ≤ 196608 ∧ ∀ p ∈ l, 0 ≤ p.2 ∧ p.2 ≤ 196607 := by
  have hcls : ∀ (b : Nat) (l : List (Int × Int)), P.lists[b]? = some l → Nrm l ∧ l ≠ [] := fun b l hl => by
    have hlt := (List.getElem?_eq_some_iff.1 hl).1
    have := h.cls b _ l (List.getElem?_eq_getElem (by rw [h.len]; exact hlt)) hl
    exact ⟨this.1, this.2.1⟩
  have hhead : ∀ (b : Nat) (l : List (Int × Int)) (p : Int × Int), P.lists[b]? = some l → l.head? = some p → (b : Int) ≤ p.1 := by
    intro b
    induction b with
    | zero =>
      intro l p hl hp
      have := (hcls 0 l hl).1.rng p (by cases l with | nil => simp at hp | cons a t => simp at hp; simp [hp])
      simp
      omega
    | succ b ih =>
      intro l p hl hp
      have hlt := (List.getElem?_eq_some_iff.1 hl).1
      obtain ⟨l0, hl0⟩ : ∃ l0, P.lists[b]? = some l0 := ⟨_, List.getElem?_eq_getElem (by omega)⟩
      obtain ⟨p0, hp0⟩ : ∃ p0, l0.head? = some p0 := by
        cases l0 with
        | nil => exact absurd rfl (hcls b _ hl0).2
        | cons a t => exact ⟨a, rfl⟩
      have h1 := ih l0 p0 hl0 hp0
      have h2 := h.asc b (b + 1) l0 l p0 p (by omega) hl0 hl hp0 hp
      omega
  refine ⟨?_, ?_, fun l hl => ?_⟩
  · rcases Nat.lt_or_ge 196608 P.lists.length with hgt | hle
    · exfalso
      obtain ⟨l, hl⟩ : ∃ l, P.lists[196608]? = some l := ⟨_, List.getElem?_eq_getElem hgt⟩
      obtain ⟨p, hp⟩ : ∃ p, l.head? = some p := by
        cases l with
        | nil => exact absurd rfl (hcls _ _ hl).2
        | cons a t => exact ⟨a, rfl⟩
      have h1 := hhead _ l p hl hp
      have h2 := (hcls _ l hl).1.rng p (by cases l with | nil => simp at hp | cons a t => simp at hp; simp [hp])
      omega
    · exact hle
  · rw [← h.olen]
    have hs : ∀ (i : Nat) (x : Int), P.starts[i]? = some x → (i : Int) ≤ x := by
      intro i
      induction i with
      | zero => intro x hx; have := h.srng x (List.mem_of_getElem? hx); simp; omega
      | succ i ih =>
        intro x hx
        have hlt := (List.getElem?_eq_some_iff.1 hx).1
        obtain ⟨y, hy⟩ : ∃ y, P.starts[i]? = some y := ⟨_, List.getElem?_eq_getElem (by omega)⟩
        have h1 := ih y hy
        have h2 := h.sasc i (i + 1) y x (by omega) hy hx
        omega
    rcases Nat.lt_or_ge 196608 P.starts.length with hgt | hle
    · exfalso
      obtain ⟨x, hx⟩ : ∃ x, P.starts[196608]? = some x := ⟨_, List.getElem?_eq_getElem hgt⟩
      have h1 := hs _ x hx
      have h2 := h.srng x (List.mem_of_getElem? hx)
      omega
    · exact hle
  · obtain ⟨b, hb⟩ := List.mem_iff_getElem?.1 hl
    have hN := (hcls b l hb).1
    exact ⟨by have := hN.short; omega, fun p hp => by have := hN.rng p hp; omega⟩
end Go.Proofs.Qxb6500884a
