/- A region that draws its order: a part whose operations leave a class of worlds alone, one alloc that nobody waits for but the tail, and a tail that waits for all. Nothing here speaks of one program. -/
import Derived.Test.Qxb6500883aGreatDoorLast
import Derived.Test.Qxb6500883aGreatDoorBlk
namespace Go.Proofs.Qxb6500883aGreatDoor
open Go.RowKit
set_option linter.unusedSimpArgs false
set_option linter.unusedVariables false

section
variable {P : Program}

theorem wp_mono2 {Q Q' : Exit → Act → World → Prop} {o : Oper} {a : Act} {w : World} {K K' : Act → World → Prop} (hQ : ∀ e a w, e ≠ .normal → Q e a w → Q' e a w) (hK : ∀ a w, K a w → K' a w)
    (h : o.wp P a w K Q) : o.wp P a w K' Q' := by
  have hl : LetsOut Q → LetsOut Q' := fun ⟨a, w, h⟩ => ⟨a, w, hQ _ _ _ (by simp) h⟩
  unfold Oper.wp at h ⊢
  revert h
  cases hq : (execOp a.eval o).run P w with
  | ok nx w' =>
    cases nx with
    | value v => exact hK _ _
    | skip => exact hK _ _
    | defer d => exact hK _ _
    | enter f args =>
      intro h
      refine Calls.mono h ?_
      intro e w'' he
      cases e with
      | returned v => exact hK _ _ he
      | panicked c => exact hQ _ _ _ (by simp) he
      | outgrown => exact hl he
    | row r args =>
      intro h
      exact Rows.mono h (fun v w'' => hK _ _)
    | _ => exact fun h => h
  | halt hh w' =>
    cases hh with
    | panic v => exact hQ _ _ _ (by simp)
    | _ => exact fun h => h

/-- The post behind a part, the tail t still to come. -/
def QT (P : Program) : List Oper → List Oper → (Exit → Act → World → Prop) → Exit → Act → World → Prop
  | _, [], Q => Q
  | l, s :: t, Q => QL P l s (QT P (l ++ [s]) t Q)
def tailB : List Oper → List Oper → Bool
  | _, [] => true
  | l, s :: t => lastB l s && s.guard.isNone && tailB (l ++ [s]) t

theorem QT_exit : ∀ (t l : List Oper) (Q : Exit → Act → World → Prop) (e : Exit) (a : Act) (w : World), e ≠ .normal → (QT P l t Q e a w ↔ Q e a w)
  | [], _, _, _, _, _, _ => Iff.rfl
  | s :: t, l, Q, e, a, w, he => by
    have ih := QT_exit t (l ++ [s]) Q e a w he
    cases e with
    | normal => exact absurd rfl he
    | _ => exact ih

theorem QT_normal : ∀ (t l : List Oper) {Q : Exit → Act → World → Prop} {a : Act} {w : World}, tailB l t = true → wpList P (l ++ t).toArray Q t a w → QT P l t Q .normal a w
  | [], _, _, _, _, _, h => h
  | s :: t, l, Q, a, w, hB, h => by
    simp only [tailB, Bool.and_eq_true, Option.isNone_iff_eq_none] at hB
    obtain ⟨⟨h1, hg⟩, h2⟩ := hB
    have hw : ∀ f, Region.wanted s f = true := fun f => by simp [Region.wanted, hg]
    simp only [wpList, hw, if_true] at h
    have e : (l ++ [s]).toArray[l.length]? = some s := by simp
    simp only [QT, QL, wpOp]
    rw [e]
    simp only [hw, if_true]
    rcases h with h | ⟨h3, a', w', h4⟩
    · refine .inl (wp_mono2 (fun e a w he hq => (QT_exit t (l ++ [s]) Q e a w he).2 hq) (fun a w hk => ?_) h)
      exact QT_normal t (l ++ [s]) h2 (by simpa using hk)
    · exact .inr ⟨h3, a', w', (QT_exit t (l ++ [s]) Q _ a' w' (by simp)).2 h4⟩

theorem wpAny_tail : ∀ (t l : List Oper) {Q : Exit → Act → World → Prop} (fuel : Nat) (listed : Array Bool) (a : Act) (w : World), tailB l t = true → listed.size = l.length →
    wpAny P .any l.toArray (QT P l t Q) fuel listed a w → wpAny P .any (l ++ t).toArray Q (fuel + t.length) (listed ++ Array.replicate t.length false) a w
  | [], l, Q, fuel, listed, a, w, _, _, h => by simpa [QT] using h
  | s :: t, l, Q, fuel, listed, a, w, hB, hz, h => by
    simp only [tailB, Bool.and_eq_true] at hB
    have h1 := wpAny_last (lastOk hB.1.1) fuel listed a w hz h
    have h2 := wpAny_tail t (l ++ [s]) (Q := Q) (fuel + 1) (listed.push false) a w hB.2 (by simp [hz]) h1
    have e1 : l ++ [s] ++ t = l ++ s :: t := by simp
    have e2 : listed.push false ++ Array.replicate t.length false = listed ++ Array.replicate (s :: t).length false := by
      apply Array.ext'
      simp [List.replicate_succ]
    have e3 : fuel + 1 + t.length = fuel + (s :: t).length := by simp; omega
    rw [e1, e2, e3] at h2
    exact h2

theorem wpOp_up {md : Region.Mode} {l : List Oper} {s : Oper} (hg : ∀ (i : Nat) (o : Oper), l[i]? = some o → ∀ j b, o.guard = some (j, b) → j < i) {Q : Exit → Act → World → Prop} {j : Nat} (hj : j < l.length) {K : Act → World → Prop} {a : Act} {w : World}
    (h : wpOp P l.toArray Q j K a w) : wpOp P (l ++ [s]).toArray Q j K a w := by
  obtain ⟨o, ho⟩ : ∃ o, l[j]? = some o := ⟨l[j], by simp [hj]⟩
  have ho1 : l.toArray[j]? = some o := by simpa using ho
  have ho2 : (l ++ [s]).toArray[j]? = some o := by simp [List.getElem?_append_left hj, ho]
  have hw : Region.wanted o (yielded (l ++ [s]).toArray a.tmps) = Region.wanted o (yielded l.toArray a.tmps) := by
    unfold Region.wanted
    cases hgd : o.guard with
    | none => rfl
    | some jb =>
      obtain ⟨k, b⟩ := jb
      have h1 := hg j o ho k b hgd
      have : (l ++ [s]).toArray[k]? = l.toArray[k]? := by simp [List.getElem?_append_left (show k < l.length by omega)]
      simp only [yielded, this]
  unfold wpOp at h ⊢
  simp only [ho1] at h
  simp only [ho2, hw]
  exact h

/-- A slot that no operation still to come writes is as it will be. -/
theorem slot_kept {md : Region.Mode} {ops : Array Oper} {C : World → Prop} {aF : Act} {d : Tmp} : ∀ (fuel : Nat) (listed : Array Bool) (a : Act), listed.size = ops.size →
    (∀ (j : Nat) (o : Oper), ops[j]? = some o → listed[j]?.getD true = false → o.dst ≠ some d) → wpAnyQ P md ops C (fun a' => a' = aF) fuel listed a → a.tmps[d]? = aF.tmps[d]? := by
  intro fuel
  induction fuel with
  | zero =>
    intro listed a _ _ h
    rw [h.2]
  | succ fuel ih =>
    intro listed a hz hd h
    cases hr : Region.ready md ops listed with
    | nil => rw [h.1 hr]
    | cons i r =>
      have hi : i ∈ Region.ready md ops listed := by rw [hr]; simp
      obtain ⟨h1, h2, o, ho, _⟩ := ready_mem.1 hi
      obtain ⟨v, _, hk⟩ := yieldsIn_of_qOp ho (h.2 i hi)
      have := ih _ _ (by simpa using hz) (fun j o' ho' hl => ?_) hk
      · rw [← this]
        have hne : o.dst ≠ some d := hd i o ho h2
        cases hdst : o.dst with
        | none => rfl
        | some d' =>
          have : d' ≠ d := fun e => hne (by rw [hdst, e])
          simp [Act.put, Array.getElem?_setIfInBounds, this]
      · apply hd j o' ho'
        rw [Array.getElem?_setIfInBounds] at hl
        by_cases hij : i = j
        · subst hij
          have : i < listed.size := by omega
          simp [this] at hl
        · simpa [hij] using hl

structure AllocOk (l : List Oper) (al : Oper) (d : Tmp) : Prop where
  deps : ∀ (i : Nat) (o : Oper), l[i]? = some o → ∀ e ∈ o.after, Region.binds .any e = true → e.on < i
  guards : ∀ (i : Nat) (o : Oper), l[i]? = some o → ∀ j b, o.guard = some (j, b) → j < i
  free : ∀ e ∈ al.after, Region.binds .any e = false
  guard : al.guard = none
  dst : al.dst = some d
  apart : ∀ (i : Nat) (o : Oper), l[i]? = some o → al.apart l.toArray o = true
  once : ∀ (i j : Nat) (o o' : Oper) (x : Tmp), l[i]? = some o → l[j]? = some o' → i ≠ j → o.dst = some x → o'.dst ≠ some x
def allocB (l : List Oper) (al : Oper) : Bool :=
  (l.zipIdx.all fun oi => oi.1.after.all (fun e => !Region.binds .any e || decide (e.on < oi.2)) && (match oi.1.guard with | none => true | some (j, _) => decide (j < oi.2))) &&
  al.after.all (fun e => !Region.binds .any e) && al.guard.isNone && l.all (fun o => al.apart l.toArray o) &&
  l.zipIdx.all (fun oi => l.zipIdx.all fun oj => oi.2 == oj.2 || oi.1.dst.isNone || oi.1.dst != oj.1.dst)
theorem allocOk {l : List Oper} {al : Oper} {d : Tmp} (h : allocB l al = true) (hd : al.dst = some d) : AllocOk l al d := by
  simp only [allocB, Bool.and_eq_true, List.all_eq_true, Array.all_eq_true, decide_eq_true_eq, Bool.or_eq_true, Bool.not_eq_true', Option.isNone_iff_eq_none, beq_iff_eq, bne_iff_ne] at h
  obtain ⟨⟨⟨⟨h1, h2⟩, h3⟩, h4⟩, h5⟩ := h
  have hz : ∀ (i : Nat) (o : Oper), l[i]? = some o → (o, i) ∈ l.zipIdx := fun i o ho => by
    rw [List.mem_zipIdx_iff_getElem?]
    exact ho
  refine ⟨fun i o ho e he hbi => ?_, fun i o ho j b hg => ?_, fun e he => ?_, h3, hd, fun i o ho => h4 o (List.mem_of_getElem? ho), fun i j o o' x ho ho' hij hx hx' => ?_⟩
  · obtain ⟨k, hk, rfl⟩ := Array.mem_iff_getElem.1 he
    exact ((h1 _ (hz i o ho)).1 k hk).resolve_left (by rw [hbi]; simp)
  · have := (h1 _ (hz i o ho)).2
    rw [hg] at this
    simpa using this
  · obtain ⟨k, hk, rfl⟩ := Array.mem_iff_getElem.1 he
    exact h2 k hk
  · rcases h5 _ (hz i o ho) _ (hz j o' ho') with (h | h) | h
    · exact hij h
    · simp only at h
      rw [hx] at h
      simp at h
    · exact h (by simp only; rw [hx, hx'])

/-- The quiet part, whatever the world of the class it starts in; the frame at its end is one. -/
def Inv (P : Program) (l : List Oper) (C : World → Prop) (aF : Act) (fuel : Nat) (listed : Array Bool) (a : Act) : Prop :=
  ∀ w0, C w0 → wpAnyQ P .any l.toArray (fun w' => C w' ∧ Below w0.heap.size w0 w') (fun a' => a' = aF) fuel listed a

theorem Inv.step {l : List Oper} {al : Oper} {d : Tmp} {C : World → Prop} {aF : Act} (hok : AllocOk l al d) {fuel : Nat} {listed : Array Bool} {a : Act} {w : World} {j : Nat} {o : Oper} (h : Inv P l C aF (fuel + 1) listed a)
    (hz : listed.size = l.length) (hj : j ∈ Region.ready .any l.toArray listed) (ho : l[j]? = some o) (hw : C w) :
    ∃ v, YieldsIn P l.toArray (fun w' => C w' ∧ Below w.heap.size w w') o v a ∧ Inv P l C aF fuel (listed.setIfInBounds j true) (a.put o.dst v) := by
  have ho1 : l.toArray[j]? = some o := by simpa using ho
  obtain ⟨v, hy, hk⟩ := yieldsIn_of_qOp ho1 ((h w hw).2 j hj)
  refine ⟨v, hy, fun w0 hw0 => ?_⟩
  obtain ⟨v0, _, hk0⟩ := yieldsIn_of_qOp ho1 ((h w0 hw0).2 j hj)
  have : a.put o.dst v0 = a.put o.dst v := by
    cases hd : o.dst with
    | none => rfl
    | some x =>
      have kept : ∀ (C' : World → Prop) (u : Value), wpAnyQ P .any l.toArray C' (fun a' => a' = aF) fuel (listed.setIfInBounds j true) (a.put o.dst u) → (a.put o.dst u).tmps[x]? = aF.tmps[x]? := fun C' u hu =>
        slot_kept (d := x) fuel _ _ (by simpa using hz) (fun k o' ho' hl => by
          have hjk : j ≠ k := fun e => by
            subst e
            have hlt : j < listed.size := by have := (List.getElem?_eq_some_iff.1 ho).1; omega
            simp [hlt] at hl
          exact hok.once j k o o' x ho (by simpa using ho') hjk hd) hu
      have e1 := kept _ v hk
      have e0 := kept _ v0 hk0
      rw [hd] at e1 e0
      rw [← e1] at e0
      by_cases hx : x < a.tmps.size
      · simp [Act.put, hx] at e0
        rw [e0]
      · simp [Act.put, Array.setIfInBounds_eq_of_size_le (Nat.le_of_not_lt hx)]
  rw [← this]
  exact hk0

theorem ready_up2 {l : List Oper} {al : Oper} {d : Tmp} (hok : AllocOk l al d) {listed : Array Bool} (hz : listed.size = l.length) (b : Bool) {i : Nat} (hi : i < l.length) :
    i ∈ Region.ready .any (l ++ [al]).toArray (listed.push b) ↔ i ∈ Region.ready .any l.toArray listed := by
  have ho : (l ++ [al]).toArray[i]? = l.toArray[i]? := by simp [List.getElem?_append_left hi]
  rw [ready_mem, ready_mem, push_get hz hi, ho]
  have e1 : i < (l ++ [al]).toArray.size ↔ i < l.toArray.size := by simp; omega
  rw [e1]
  refine and_congr_right fun _ => and_congr_right fun _ => ?_
  refine exists_congr fun o => and_congr_right fun hoo => ?_
  refine forall_congr' fun e => forall_congr' fun he => forall_congr' fun hbi => ?_
  have := hok.deps i o (by simpa using hoo) e he hbi
  rw [push_get hz (by omega)]

theorem set_push {listed : Array Bool} {n i : Nat} (hz : listed.size = n) (hi : i < n) (b : Bool) : (listed.push b).setIfInBounds i true = (listed.setIfInBounds i true).push b := by
  apply Array.ext_getElem?
  intro j
  simp only [Array.getElem?_setIfInBounds, Array.getElem?_push, Array.size_setIfInBounds, Array.size_push]
  by_cases hj : j = listed.size
  · simp [hj, show ¬ i = listed.size by omega]
  · by_cases hij : i = j
    · subst hij
      simp [hj, show i < listed.size by omega]
      omega
    · simp [hj, hij]
theorem set_last {listed : Array Bool} {n : Nat} (hz : listed.size = n) : (listed.push false).setIfInBounds n true = listed.push true := by
  rw [← hz]
  apply Array.ext_getElem?
  intro i
  rw [Array.getElem?_setIfInBounds, Array.getElem?_push, Array.getElem?_push]
  by_cases hi : listed.size = i
  · simp [hi.symm]
  · simp [hi, show ¬ i = listed.size from fun e => hi e.symm]

section
variable {l : List Oper} {al : Oper} {d : Tmp} {C : World → Prop} {aF : Act} {Q : Exit → Act → World → Prop} {Z : Nat → World → Prop}

theorem alloc_after (hok : AllocOk l al d) (hsel : ∀ (j : Nat) (o : Oper) cs b, l[j]? = some o → o.op ≠ .select cs b)
    (hZ : ∀ g w w', Z g w → Below w.heap.size w w' → Z g w') (hQ : ∀ g w, C w → Z g w → Q .normal (aF.put (some d) (.pointer (some ⟨g, 0, none⟩))) w) :
    ∀ (fuel : Nat) (listed : Array Bool) (a : Act) (w : World) (g : Nat), listed.size = l.length → Inv P l C aF fuel listed a → C w → Z g w →
      wpAny P .any (l ++ [al]).toArray Q fuel (listed.push true) (a.put (some d) (.pointer (some ⟨g, 0, none⟩))) w := by
  have nol : ∀ {listed : Array Bool} {i : Nat}, listed.size = l.length → i ∈ Region.ready .any (l ++ [al]).toArray (listed.push true) → i < l.length := fun hz hi => by
    have h1 := (ready_mem.1 hi).1
    have h2 := (ready_mem.1 hi).2.1
    simp at h1
    rcases Nat.lt_or_ge _ l.length with h | h
    · exact h
    · exfalso
      have : _ = l.length := Nat.le_antisymm (Nat.le_of_lt_succ h1) h
      rw [this, ← hz] at h2
      simp at h2
  have nil : ∀ {listed : Array Bool}, listed.size = l.length → (Region.ready .any (l ++ [al]).toArray (listed.push true) = [] ↔ Region.ready .any l.toArray listed = []) := fun {listed} hz => by
    constructor
    · intro h
      apply List.eq_nil_iff_forall_not_mem.2
      intro i hi
      have hlt : i < l.length := by simpa using (ready_mem.1 hi).1
      have := (ready_up2 hok hz true hlt).2 hi
      rw [h] at this
      simp at this
    · intro h
      apply List.eq_nil_iff_forall_not_mem.2
      intro i hi
      have hlt := nol hz hi
      have := (ready_up2 hok hz true hlt).1 hi
      rw [h] at this
      simp at this
  intro fuel
  induction fuel with
  | zero =>
    intro listed a w g hz h hw hg
    have := h w hw
    refine ⟨(nil hz).2 this.1, ?_⟩
    rw [this.2]
    exact hQ g w hw hg
  | succ fuel ih =>
    intro listed a w g hz h hw hg
    refine ⟨fun h0 => ?_, fun i hi => ?_⟩
    · rw [(h w hw).1 ((nil hz).1 h0)]
      exact hQ g w hw hg
    · have hlt := nol hz hi
      have hm := (ready_up2 hok hz true hlt).1 hi
      obtain ⟨o, ho⟩ : ∃ o, l[i]? = some o := ⟨l[i], by simp [hlt]⟩
      obtain ⟨v, hy, hI⟩ := h.step hok hz hm ho hw
      obtain ⟨p1, p2, p3⟩ := Oper.apart_spec (hok.apart i o ho)
      have hy' := hy.of_same (a' := a.put (some d) (.pointer (some ⟨g, 0, none⟩))) (execOp_put o (fun cs b => hsel i o cs b ho) a _ _ (fun x hx => p1 x (by rw [hok.dst]; exact hx))) (wanted_put o a _ _ (fun x hx => p1 x (by rw [hok.dst]; exact hx)))
      have hq := hy'.qOp (K := fun a' => a' = (a.put (some d) (.pointer (some ⟨g, 0, none⟩))).put o.dst v) (by simpa using ho) rfl
      rw [set_push hz hlt]
      refine wpOp_up (md := .any) hok.guards hlt (wpOp_of_qOp (C := fun w' => C w' ∧ Below w.heap.size w w') ⟨hw, Below.refl _ _⟩ (fun a' w' hw' ha' => ?_) hq)
      subst ha'
      rw [Act.put_comm a _ v (fun x hx => by have := p2 x (by rw [hok.dst]; exact hx); exact this)]
      exact ih _ _ w' g (by simpa using hz) hI hw'.1 (hZ g w w' hg hw'.2)

theorem alloc_before {obj : Obj} (hok : AllocOk l al d) (hsel : ∀ (j : Nat) (o : Oper) cs b, l[j]? = some o → o.op ≠ .select cs b)
    (hrun : ∀ (a : Act) w, (execOp a.eval al).run P w = .ok (.value (.pointer (some ⟨w.heap.size, 0, none⟩))) (w.alloc obj))
    (hC : ∀ w, C w → C (w.alloc obj)) (hZ0 : ∀ w, C w → Z w.heap.size (w.alloc obj))
    (hZ : ∀ g w w', Z g w → Below w.heap.size w w' → Z g w') (hQ : ∀ g w, C w → Z g w → Q .normal (aF.put (some d) (.pointer (some ⟨g, 0, none⟩))) w) :
    ∀ (fuel : Nat) (listed : Array Bool) (a : Act) (w : World), listed.size = l.length → Inv P l C aF fuel listed a → C w →
      wpAny P .any (l ++ [al]).toArray Q (fuel + 1) (listed.push false) a w := by
  have own : ∀ {listed : Array Bool}, listed.size = l.length → l.length ∈ Region.ready .any (l ++ [al]).toArray (listed.push false) := fun {listed} hz =>
    ready_mem.2 ⟨by simp, by simp [← hz], al, by simp, fun e he hb => by rw [hok.free e he] at hb; simp at hb⟩
  have take : ∀ (fuel : Nat) (listed : Array Bool) (a : Act) (w : World), listed.size = l.length → Inv P l C aF fuel listed a → C w →
      wpOp P (l ++ [al]).toArray Q l.length (wpAny P .any (l ++ [al]).toArray Q fuel ((listed.push false).setIfInBounds l.length true)) a w := fun fuel listed a w hz h hw => by
    rw [set_last hz]
    have e : (l ++ [al]).toArray[l.length]? = some al := by simp
    unfold wpOp
    simp only [e, Region.wanted, hok.guard, if_true]
    left
    unfold Oper.wp
    rw [hrun]
    simp only [Oper.upon, hok.dst]
    exact alloc_after hok hsel hZ hQ fuel listed a _ _ hz h (hC w hw) (hZ0 w hw)
  intro fuel
  induction fuel with
  | zero =>
    intro listed a w hz h hw
    refine ⟨fun h0 => ?_, fun i hi => ?_⟩
    · have := own hz
      rw [h0] at this
      simp at this
    · have h1 := (ready_mem.1 hi).1
      by_cases hlt : i < l.length
      · have hm := (ready_up2 hok hz false hlt).1 hi
        rw [(h w hw).1] at hm
        simp at hm
      · have hil : i = l.length := by simp at h1; omega
        subst hil
        exact take 0 listed a w hz h hw
  | succ fuel ih =>
    intro listed a w hz h hw
    refine ⟨fun h0 => ?_, fun i hi => ?_⟩
    · have := own hz
      rw [h0] at this
      simp at this
    · have h1 := (ready_mem.1 hi).1
      by_cases hlt : i < l.length
      · have hm := (ready_up2 hok hz false hlt).1 hi
        obtain ⟨o, ho⟩ : ∃ o, l[i]? = some o := ⟨l[i], by simp [hlt]⟩
        obtain ⟨v, hy, hI⟩ := h.step hok hz hm ho hw
        have hq := hy.qOp (K := fun a' => a' = a.put o.dst v) (by simpa using ho) rfl
        rw [set_push hz hlt]
        refine wpOp_up (md := .any) hok.guards hlt (wpOp_of_qOp (C := fun w' => C w' ∧ Below w.heap.size w w') ⟨hw, Below.refl _ _⟩ (fun a' w' hw' ha' => ?_) hq)
        subst ha'
        exact ih _ _ w' (by simpa using hz) hI hw'.1
      · have hil : i = l.length := by simp at h1; omega
        subst hil
        exact take (fuel + 1) listed a w hz h hw
end

/-- A region that draws its order: n quiet operations (calls that make new memory among them), one alloc, a tail that waits for all. -/
theorem wp_region_alloc {C : World → Prop} (n B : Nat) {t : TypeId} {zs : List Value} {id : Nat} {Q : Exit → Act → World → Prop} {a : Act} {w : World} {L : List Oper} {al : Oper} {d : Tmp}
    (hal : L[n]? = some al) (hd : al.dst = some d) (hm : P.follows .mixedOrders = true)
    (hB : Region.lexB .any (L.take n).toArray = true) (hA : allocB (L.take n) al = true) (hT : tailB (L.take n ++ [al]) (L.drop (n + 1)) = true)
    (hrun : ∀ (a : Act) w, (execOp a.eval al).run P w = .ok (.value (.pointer (some ⟨w.heap.size, 0, none⟩))) (w.alloc (.cells zs.toArray t)))
    (hC : ∀ w w', C w → Below w.heap.size w w' → C w') (hs : ∀ w, C w → B ≤ w.heap.size) (h0 : C w)
    (hqQ : ∃ aF : Act, (∀ (X : Type) (W : X → World), Nonempty X → (∀ x, C (W x)) → (∀ x w', Below (W x).heap.size (W x) w' → ∃ y, w' = W y) →
      wpQuiet P (L.take n).toArray (fun w' => ∃ x, w' = W x) (fun a' => a' = aF) (L.take n) a) ∧
      (∀ g wx, B ≤ g → C wx → Blk wx g t zs → wpList P L.toArray Q (L.drop (n + 1)) (aF.put (some d) (.pointer (some ⟨g, 0, none⟩))) wx)) :
    (Code.region id L.toArray true).wp P Q a w := by
  obtain ⟨aF, hq, hQ⟩ := hqQ
  obtain ⟨l, hl⟩ : ∃ l, L.take n = l := ⟨_, rfl⟩
  obtain ⟨r, hr⟩ : ∃ r, L.drop (n + 1) = r := ⟨_, rfl⟩
  have hL : L = (l ++ [al]) ++ r := by
    have h1 : n < L.length := (List.getElem?_eq_some_iff.1 hal).1
    have h2 : L[n] = al := (List.getElem?_eq_some_iff.1 hal).2
    rw [← hl, ← hr, ← h2]
    simp
  rw [hl] at hB hA hT hq
  rw [hr] at hT hQ
  subst hL
  clear hl hr hal
  simp only [Region.lexB, Bool.and_eq_true] at hB
  have hsel := Region.noSelect_spec hB.1
  have hok := allocOk hA hd
  have hinv : Inv P l C aF l.length (Array.replicate l.length false) a := fun w0 hw0 => by
    obtain ⟨X, W, hX, hI⟩ := class_mk (fun w' => C w' ∧ Below w0.heap.size w0 w')
    have hne : Nonempty X := ⟨(hI w0 ⟨hw0, Below.refl _ _⟩).choose⟩
    have e : (fun w' => C w' ∧ Below w0.heap.size w0 w') = fun w' => ∃ x, w' = W x := by
      funext w'
      apply propext
      exact ⟨hI w', fun ⟨x, hx⟩ => hx ▸ hX x⟩
    rw [e]
    have h1 := hq X W hne (fun x => (hX x).1) (fun x w' hb => hI _ ⟨hC _ _ (hX x).1 hb, (hX x).2.trans (hb.mono (hX x).2.size)⟩)
    exact wpAnyQ_lex (md := .any) hB.1 l 0 (Array.replicate l.length false) a (by simp) (by simpa using hB.2) h1
  have h1 := alloc_before (P := P) (Q := QT P (l ++ [al]) r Q) (Z := fun g w => B ≤ g ∧ Blk w g t zs) hok (fun j o cs b ho => hsel j o cs b (by simpa using ho)) hrun
    (fun w hw => hC _ _ hw (Below.alloc (Below.refl _ _) (Nat.le_refl _) _)) (fun w hw => ⟨hs w hw, Blk.new _ _ _⟩)
    (fun g w w' hg hb => ⟨hg.1, hg.2.below hb⟩) (fun g wx hw hg => QT_normal r (l ++ [al]) hT (hQ g wx hg.1 hw hg.2)) l.length (Array.replicate l.length false) a w.drew (by simp) hinv (hC _ _ h0 (Drew.below ⟨1, rfl⟩ _))
  have h2 := wpAny_tail r (l ++ [al]) (Q := Q) (l.length + 1) ((Array.replicate l.length false).push false) a w.drew hT (by simp) h1
  refine wp_region_any hm ?_
  have e1 : (l ++ [al] ++ r).toArray.size = l.length + 1 + r.length := by simp; omega
  have e2 : (Array.replicate l.length false).push false ++ Array.replicate r.length false = Array.replicate (l.length + 1 + r.length) false := by
    apply Array.ext'
    simp only [Array.toList_append, Array.toList_push, Array.toList_replicate]
    refine List.eq_replicate_iff.2 ⟨by simp; omega, fun b hb => ?_⟩
    simp at hb
    rcases hb with h | h | h
    · exact h.2
    · exact h
    · exact h.2
  rw [e1, ← e2]
  exact h2
end
end Go.Proofs.Qxb6500883aGreatDoor
