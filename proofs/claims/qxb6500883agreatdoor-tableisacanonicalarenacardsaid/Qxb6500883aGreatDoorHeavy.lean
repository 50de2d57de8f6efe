/- A region that draws its order: light operations (one value each in every world of a class, the world left as it is), heavy ones in a chain (calls, appends, allocs), a tail that waits for all. The light ones first, then the chain, then the tail. -/
import Derived.Test.Qxb6500883aGreatDoorLastT
import Derived.OrdersHeld
namespace Go.Proofs.Qxb6500883aGreatDoor
open Go.RowKit
set_option linter.unusedSimpArgs false
set_option linter.unusedVariables false
section
variable {P : Program} {ops : Array Oper} {Q : Exit → Act → World → Prop} {S : World → Prop}

/-- In every world of the class the operation leads from frame a to frame b, the world as it was. -/
def Lit (P : Program) (ops : Array Oper) (S : World → Prop) (o : Oper) (a b : Act) : Prop := ∀ w, S w → ∃ v, YieldsIn P ops (fun w' => w' = w) o v a ∧ a.put o.dst v = b

theorem put_same {a : Act} {d e : Option Tmp} {v v' u : Value} {ds : List Deferred} (h : a.put d v = a.put d v') (hne : ∀ x, d = some x → e ≠ some x) :
    ((({ a with defers := ds } : Act).put e u).put d v) = ((({ a with defers := ds } : Act).put e u).put d v') := by
  cases d with
  | none => rfl
  | some x =>
    by_cases hx : x < a.tmps.size
    · have h1 := congrArg (fun b : Act => b.tmps[x]?) h
      simp [Act.put, hx] at h1
      rw [h1]
    · cases e with
      | none => simp [Act.put, Array.setIfInBounds_eq_of_size_le (Nat.le_of_not_lt hx)]
      | some y =>
        have hx2 : (a.tmps.setIfInBounds y u).size ≤ x := by simpa using Nat.le_of_not_lt hx
        simp [Act.put, Array.setIfInBounds_eq_of_size_le hx2]

theorem yields_moved {C : World → Prop} {o : Oper} {v : Value} {a : Act} (hs : ∀ cs b, o.op ≠ .select cs b) {e : Option Tmp} (he : ∀ x, e = some x → x ∉ o.looksAt ops) (u : Value) (ds : List Deferred) (h : YieldsIn P ops C o v a) :
    YieldsIn P ops C o v (({ a with defers := ds } : Act).put e u) :=
  YieldsIn.of_same (a := ({ a with defers := ds } : Act)) (h.of_same rfl rfl) (execOp_put o hs _ e u he) (wanted_put o _ e u he)

/-- An operation that does not look at slot d, nor writes it, does the same whether the slot is laid or not. -/
theorem wpOp_away {j : Nat} {oj : Oper} {d : Option Tmp} {v : Value} (hj : ops[j]? = some oj) (hs : ∀ cs b, oj.op ≠ .select cs b) (h1 : ∀ x, d = some x → x ∉ oj.looksAt ops) (h2 : ∀ x, d = some x → oj.dst ≠ some x)
    (hQ : ∀ c a w, Q (.panic c) (a.put d v) w → Q (.panic c) a w) {K : Act → World → Prop} {a : Act} {w : World} (h : wpOp P ops Q j K (a.put d v) w) :
    wpOp P ops Q j (fun a' w' => (∃ u ds, a' = (({ a with defers := ds } : Act).put oj.dst u)) ∧ K (a'.put d v) w') a w := by
  have plain : ∀ u w', K ((a.put d v).put oj.dst u) w' → (∃ u' ds, a.put oj.dst u = (({ a with defers := ds } : Act).put oj.dst u')) ∧ K ((a.put oj.dst u).put d v) w' := fun u w' hk =>
    ⟨⟨u, a.defers, rfl⟩, by rw [← Act.put_comm a v u h2]; exact hk⟩
  have hx := execOp_put oj hs a d v h1
  unfold wpOp at h ⊢
  simp only [hj] at h ⊢
  rw [wanted_put oj a d v h1] at h
  by_cases hw : Region.wanted oj (yielded ops a.tmps) = true
  · rw [if_pos hw] at h ⊢
    rcases h with h | ⟨hk, hl⟩
    · left
      unfold Oper.wp at h ⊢
      rw [hx] at h
      revert h
      cases hr : (execOp a.eval oj).run P w with
      | ok nx w' =>
        cases nx with
        | value u => exact plain u w'
        | skip => exact plain _ w'
        | defer dd =>
          intro h
          simp only [Oper.upon] at h ⊢
          refine ⟨⟨undef, dd :: a.defers, rfl⟩, ?_⟩
          rw [Act.put_defers, Act.put_comm _ v undef h2] at h
          exact h
        | enter f args =>
          intro h
          refine Calls.mono h fun e w'' he => ?_
          cases e with
          | returned u => exact plain u w'' he
          | panicked c => exact hQ _ _ _ he
          | outgrown => exact he
        | row r args => exact fun h => Rows.mono h fun u w'' he => plain u w'' he
        | _ => exact fun h => h
      | halt x w' =>
        cases x with
        | panic u => exact hQ _ _ _
        | _ => exact fun h => h
    · right
      refine ⟨?_, hl⟩
      unfold Oper.asks at hk ⊢
      rw [hx] at hk
      exact hk
  · rw [if_neg hw] at h ⊢
    exact plain _ _ h

theorem any_first {i : Nat} {oi : Oper} (hi : ops[i]? = some oi) (hsel : ∀ (j : Nat) (o : Oper) cs b, ops[j]? = some o → o.op ≠ .select cs b)
    (hQ : ∀ d v c a w, Q (.panic c) (Act.put a d v) w → Q (.panic c) a w) :
    ∀ (fuel : Nat) (listed : Array Bool) (a b : Act) (w : World),
      (∀ j oj, ops[j]? = some oj → j ≠ i → listed.getD j true = false → (∀ e ∈ oj.after, Region.binds .any e = true → e.on ≠ i) → oi.apart ops oj = true) →
      i ∈ Region.ready .any ops listed → Lit P ops S oi a b → S w →
      wpAnyH P .any ops Q S fuel (listed.setIfInBounds i true) b w → wpAnyH P .any ops Q S (fuel + 1) listed a w := by
  have own : ∀ {K : Act → World → Prop} {a b : Act} {w : World}, Lit P ops S oi a b → S w → K b w → wpOp P ops Q i K a w := fun {K a b w} hl hS hk => by
    obtain ⟨v, hy, rfl⟩ := hl w hS
    exact wpOp_of_qOp (C := fun w' => w' = w) rfl (fun a' w' hw' ha' => by subst hw'; exact ha') (hy.qOp (K := fun a' => K a' w) hi hk)
  intro fuel
  induction fuel with
  | zero =>
    intro listed a b w hfree hr hl hS H
    refine ⟨fun h => absurd hr (by rw [h]; simp), fun j hj => ?_⟩
    by_cases hji : j = i
    · subst hji
      exact own hl hS ⟨hS, H⟩
    · have := ready_mono hj hji
      rw [H.1] at this
      simp at this
  | succ fuel ih =>
    intro listed a b w hfree hr hl hS H
    refine ⟨fun h => absurd hr (by rw [h]; simp), fun j hj => ?_⟩
    by_cases hji : j = i
    · subst hji
      exact own hl hS ⟨hS, H⟩
    · have h1 := H.2 j (ready_mono hj hji)
      obtain ⟨hjun, oj, hoj, hall⟩ := mem_ready.1 hj
      have hnot : ∀ e ∈ oj.after, Region.binds .any e = true → e.on ≠ i := fun e he hb heq => by
        have h1 := hall e he hb
        have h0 := (mem_ready.1 hr).1
        rw [heq] at h1
        rcases Nat.lt_or_ge i listed.size with h' | h'
        · simp [h'] at h0 h1
          rw [h0] at h1
          cases h1
        · simp [Array.getElem?_eq_none h'] at h1
      obtain ⟨p1, p2, p3⟩ := Oper.apart_spec (hfree j oj hoj hji hjun hnot)
      obtain ⟨v, hy, rfl⟩ := hl w hS
      have h2 := wpOp_away hoj (fun cs b => hsel j oj cs b hoj) p1 p2 (fun c a w => hQ oi.dst v c a w) h1
      refine wpOp_mono (fun a' w' ⟨⟨u, ds, ha'⟩, hS', hk⟩ => ⟨hS', ih (listed.setIfInBounds j true) a' (a'.put oi.dst v) w' (fun k ok hk hki hun hno => ?_) (ready_mono hr (Ne.symm hji)) ?_ hS' ?_⟩) h2
      · refine hfree k ok hk hki ?_ hno
        by_cases hjk : j = k
        · subst hjk
          exact hjun
        · rw [getD_set_ne true hjk] at hun
          exact hun
      · intro w2 hw2
        obtain ⟨v2, hy2, he2⟩ := hl w2 hw2
        rw [ha']
        exact ⟨v2, yields_moved (fun cs b => hsel i oi cs b hi) p3 u ds hy2, put_same he2 (fun x hx => p2 x hx)⟩
      · rw [Array.setIfInBounds_comm _ _ hji]
        exact hk

def heavyB (ops : Array Oper) : List Nat → Array Bool → Bool
  | [], listed => (Region.ready .any ops listed).isEmpty
  | i :: hs, listed => decide (Region.ready .any ops listed = [i]) && (match ops[i]? with | some o => o.guard.isNone | none => false) && heavyB ops hs (listed.setIfInBounds i true)
/-- Two that do not wait for one another, then a chain. -/
def forkB (ops : Array Oper) (i j : Nat) (r : List Nat) (listed : Array Bool) : Bool :=
  decide (Region.ready .any ops listed = [i, j]) && (match ops[i]?, ops[j]? with | some o, some o' => o.guard.isNone && o'.guard.isNone | _, _ => false) && heavyB ops (j :: r) (listed.setIfInBounds i true) && heavyB ops (i :: r) (listed.setIfInBounds j true)
def lightB (ops : Array Oper) (fin : Array Bool → Bool) : List Nat → Array Bool → Bool
  | [], listed => fin listed
  | i :: ls, listed => (Region.ready .any ops listed).contains i && Region.free .any ops listed i &&
      (match ops[i]? with | some o => ls.all (fun j => match ops[j]? with | some o' => o.dst.isNone || o.dst != o'.dst | none => false) | none => false) && lightB ops fin ls (listed.setIfInBounds i true)
def opsAt (l : List Oper) : List Nat → List Oper
  | [] => []
  | i :: is => (l.drop i).take 1 ++ opsAt l is
theorem opsAt_cons {i : Nat} {is : List Nat} {o : Oper} (h : ops[i]? = some o) : opsAt ops.toList (i :: is) = o :: opsAt ops.toList is := by
  have h1 : ops.toList[i]? = some o := by simpa using h
  simp only [opsAt]
  have h2 : (ops.toList.drop i).take 1 = [o] := by
    rw [List.drop_eq_getElem?_toList_append, h1]
    simp
  rw [h2]
  rfl
theorem opsAt_mem {o : Oper} : ∀ {is : List Nat}, o ∈ opsAt ops.toList is → ∃ k ∈ is, ops[k]? = some o
  | [], h => by simp [opsAt] at h
  | i :: is, h => by
    simp only [opsAt, List.mem_append] at h
    rcases h with h | h
    · have h1 : (ops.toList.drop i).take 1 = (ops.toList[i]?).toList := by
        rw [List.drop_eq_getElem?_toList_append]
        cases hx : ops.toList[i]? with
        | none =>
          have := List.getElem?_eq_none_iff.1 hx
          simp
          simp at this
          omega
        | some v => simp
      rw [h1] at h
      simp at h
      exact ⟨i, by simp, by simpa using h⟩
    · obtain ⟨k, hk, hko⟩ := opsAt_mem h
      exact ⟨k, by simp [hk], hko⟩

def QH (S : World → Prop) (Q : Exit → Act → World → Prop) (K : Act → World → Prop) : Exit → Act → World → Prop
  | .normal, a', w' => S w' ∧ K a' w'
  | e, a', w' => Q e a' w'
/-- The chain: S behind each of them. -/
def wpHv (P : Program) (ops : Array Oper) (S : World → Prop) (Q : Exit → Act → World → Prop) : List Oper → Act → World → Prop
  | [], a, w => Q .normal a w
  | o :: r, a, w => wpList P ops (QH S Q (wpHv P ops S Q r)) [o] a w

theorem heavy_any : ∀ (hs : List Nat) (listed : Array Bool) (a : Act) (w : World), heavyB ops hs listed = true → wpHv P ops S Q (opsAt ops.toList hs) a w → wpAnyH P .any ops Q S hs.length listed a w
  | [], listed, a, w, hb, h => by
    simp only [heavyB, List.isEmpty_iff] at hb
    exact ⟨hb, h⟩
  | i :: hs, listed, a, w, hb, h => by
    simp only [heavyB, Bool.and_eq_true, decide_eq_true_eq] at hb
    obtain ⟨⟨h1, h2⟩, h3⟩ := hb
    cases ho : ops[i]? with
    | none => rw [ho] at h2; simp at h2
    | some o =>
      rw [ho] at h2
      simp only [Option.isNone_iff_eq_none] at h2
      have hw : ∀ f, Region.wanted o f = true := fun f => by simp [Region.wanted, h2]
      have e : opsAt ops.toList (i :: hs) = o :: opsAt ops.toList hs := opsAt_cons ho
      rw [e] at h
      simp only [wpHv, wpList, hw, if_true] at h
      refine ⟨fun h0 => by rw [h1] at h0; simp at h0, fun k hk => ?_⟩
      rw [h1] at hk
      simp at hk
      subst hk
      unfold wpOp
      simp only [ho, hw, if_true]
      rcases h with h | ⟨h4, h5⟩
      · exact .inl (wp_mono2 (fun e a w he hq => by cases e <;> first | exact absurd rfl he | exact hq) (fun a w hk => ⟨hk.1, heavy_any hs _ a w h3 hk.2⟩) h)
      · exact .inr ⟨h4, by obtain ⟨a', w', h6⟩ := h5; exact ⟨a', w', h6⟩⟩

theorem fork_any {i j : Nat} {r : List Nat} {listed : Array Bool} {a : Act} {w : World} (hb : forkB ops i j r listed = true) (h1 : wpHv P ops S Q (opsAt ops.toList (i :: j :: r)) a w) (h2 : wpHv P ops S Q (opsAt ops.toList (j :: i :: r)) a w) :
    wpAnyH P .any ops Q S (r.length + 2) listed a w := by
  simp only [forkB, Bool.and_eq_true, decide_eq_true_eq] at hb
  obtain ⟨⟨⟨b1, b2⟩, b3⟩, b4⟩ := hb
  have take : ∀ (k : Nat) (o : Oper) (t : List Nat), ops[k]? = some o → o.guard = none → heavyB ops t (listed.setIfInBounds k true) = true → wpHv P ops S Q (opsAt ops.toList (k :: t)) a w →
      wpOp P ops Q k (fun a' w' => S w' ∧ wpAnyH P .any ops Q S t.length (listed.setIfInBounds k true) a' w') a w := fun k o t ho hg hbt h => by
    have hw : ∀ f, Region.wanted o f = true := fun f => by simp [Region.wanted, hg]
    rw [opsAt_cons ho] at h
    simp only [wpHv, wpList, hw, if_true] at h
    unfold wpOp
    simp only [ho, hw, if_true]
    rcases h with h | ⟨h4, h5⟩
    · exact .inl (wp_mono2 (fun e a w he hq => by cases e <;> first | exact absurd rfl he | exact hq) (fun a w hk => ⟨hk.1, heavy_any t _ a w hbt hk.2⟩) h)
    · exact .inr ⟨h4, by obtain ⟨a', w', h6⟩ := h5; exact ⟨a', w', h6⟩⟩
  cases hi : ops[i]? with
  | none => rw [hi] at b2; simp at b2
  | some o =>
    cases hj : ops[j]? with
    | none => rw [hi, hj] at b2; simp at b2
    | some o' =>
      rw [hi, hj] at b2
      simp only [Bool.and_eq_true, Option.isNone_iff_eq_none] at b2
      refine ⟨fun h0 => by rw [b1] at h0; simp at h0, fun k hk => ?_⟩
      rw [b1] at hk
      simp at hk
      rcases hk with rfl | rfl
      · exact take _ o (j :: r) hi b2.1 b3 h1
      · exact take _ o' (i :: r) hj b2.2 b4 h2

theorem quiet_slot {C : World → Prop} {aF : Act} {d : Tmp} : ∀ (lo : List Oper) (a : Act), (∀ o ∈ lo, o.dst ≠ some d) → wpQuiet P ops C (fun a' => a' = aF) lo a → a.tmps[d]? = aF.tmps[d]? ∧ a.tmps.size = aF.tmps.size
  | [], a, _, h => by
    have h' : a = aF := h
    rw [h']
    exact ⟨rfl, rfl⟩
  | o :: lo, a, hd, h => by
    have step : ∀ v, wpQuiet P ops C (fun a' => a' = aF) lo (a.put o.dst v) → a.tmps[d]? = aF.tmps[d]? ∧ a.tmps.size = aF.tmps.size := fun v hv => by
      have ih := quiet_slot lo (a.put o.dst v) (fun o' ho' => hd o' (by simp [ho'])) hv
      have hne := hd o (by simp)
      cases hx : o.dst with
      | none =>
        rw [hx] at ih
        exact ih
      | some x =>
        rw [hx] at ih hne
        have : x ≠ d := fun e => hne (by rw [e])
        simpa [Act.put, Array.getElem?_setIfInBounds, this] using ih
    simp only [wpQuiet] at h
    split at h
    · obtain ⟨v, _, hv⟩ := h
      exact step v hv
    · exact step _ h

theorem lights_any (hsel : ∀ (j : Nat) (o : Oper) cs b, ops[j]? = some o → o.op ≠ .select cs b) (hQ : ∀ d v c a w, Q (.panic c) (Act.put a d v) w → Q (.panic c) a w) {fin : Array Bool → Bool} {m : Nat} {aF : Act} {w : World} (hS : S w) (hh : ∀ listed, fin listed = true → wpAnyH P .any ops Q S m listed aF w) : ∀ (ls : List Nat) (listed : Array Bool) (a : Act),
    lightB ops fin ls listed = true → (∀ w', S w' → wpQuiet P ops (fun w2 => w2 = w') (fun a' => a' = aF) (opsAt ops.toList ls) a) → wpAnyH P .any ops Q S (ls.length + m) listed a w
  | [], listed, a, hb, hq => by
    have : a = aF := hq w hS
    rw [this]
    simpa using hh listed hb
  | i :: ls, listed, a, hb, hq => by
    simp only [lightB, Bool.and_eq_true] at hb
    obtain ⟨⟨⟨h1, h2⟩, h3⟩, h4⟩ := hb
    cases ho : ops[i]? with
    | none => rw [ho] at h3; simp at h3
    | some o =>
      rw [ho] at h3
      have e : opsAt ops.toList (i :: ls) = o :: opsAt ops.toList ls := opsAt_cons ho
      rw [e] at hq
      have open1 : ∀ w', S w' → ∃ v, YieldsIn P ops (fun w2 => w2 = w') o v a ∧ wpQuiet P ops (fun w2 => w2 = w') (fun a' => a' = aF) (opsAt ops.toList ls) (a.put o.dst v) := fun w' hw' => by
        have h := hq w' hw'
        simp only [wpQuiet] at h
        split at h
        · rename_i hw
          obtain ⟨v, hv, hn⟩ := h
          exact ⟨v, .inl ⟨hw, hv⟩, hn⟩
        · rename_i hw
          exact ⟨undef, .inr ⟨by simpa using hw, rfl⟩, h⟩
      obtain ⟨v0, hy0, hq0⟩ := open1 w hS
      have same : ∀ v w', wpQuiet P ops (fun w2 => w2 = w') (fun a' => a' = aF) (opsAt ops.toList ls) (a.put o.dst v) → a.put o.dst v = a.put o.dst v0 := fun v w' hv => by
        cases hd : o.dst with
        | none => rfl
        | some x =>
          have hne : ∀ o' ∈ opsAt ops.toList ls, o'.dst ≠ some x := fun o' ho' => by
            obtain ⟨k, hk, hko⟩ := opsAt_mem ho'
            have := List.all_eq_true.1 h3 k hk
            rw [hko, hd] at this
            simp at this
            exact fun e => this e.symm
          rw [hd] at hv hq0
          have e1 := (quiet_slot _ _ hne hv).1
          have e0 := (quiet_slot _ _ hne hq0).1
          rw [← e0] at e1
          by_cases hx : x < a.tmps.size
          · simp [Act.put, hx] at e1
            rw [e1]
          · simp [Act.put, Array.setIfInBounds_eq_of_size_le (Nat.le_of_not_lt hx)]
      have hL : Lit P ops S o a (a.put o.dst v0) := fun w' hw' => by
        obtain ⟨v, hy, hqv⟩ := open1 w' hw'
        exact ⟨v, hy, same v w' hqv⟩
      have ih := lights_any hsel hQ (aF := aF) hS hh ls (listed.setIfInBounds i true) (a.put o.dst v0) h4 (fun w' hw' => by
        obtain ⟨v, hy, hqv⟩ := open1 w' hw'
        rw [← same v w' hqv]
        exact hqv)
      have e2 : (i :: ls).length + m = (ls.length + m) + 1 := by simp; omega
      rw [e2]
      exact any_first ho hsel hQ _ listed a _ w (Region.free_spec ho h2) (by simpa using h1) hL hS ih

/-- Behind the part: the tail. -/
def QN (P : Program) (ops : Array Oper) (r : List Oper) (Q : Exit → Act → World → Prop) : Exit → Act → World → Prop
  | .normal, a', w' => wpList P ops Q r a' w'
  | e, a', w' => Q e a' w'
theorem region_lights (S : World → Prop) (n : Nat) (ls : List Nat) (fin : Array Bool → Bool) (m : Nat) {id : Nat} {a : Act} {w : World} {L : List Oper} (hm : P.follows .mixedOrders = true)
    (hB : (Region.noSelect (L.take n).toArray && lightB (L.take n).toArray fin ls (Array.replicate (L.take n).length false) && decide (ls.length + m = (L.take n).length)) = true) (hT : tailTB (L.take n) (L.drop n) = true)
    (hQ : ∀ d v c a w, Q (.panic c) (Act.put a d v) w → Q (.panic c) a w) (h0 : S w.drew)
    (h : ∃ aF, (∀ W : Unit → World, (∀ x, S (W x)) → wpQuiet P (L.take n).toArray (fun w' => ∃ x, w' = W x) (fun a' => a' = aF) (opsAt (L.take n) ls) a) ∧
      ∀ listed, fin listed = true → wpAnyH P .any (L.take n).toArray (QN P L.toArray (L.drop n) Q) S m listed aF w.drew) : (Code.region id L.toArray true).wp P Q a w := by
  obtain ⟨aF, hq, hh⟩ := h
  obtain ⟨l, hl⟩ : ∃ l, L.take n = l := ⟨_, rfl⟩
  obtain ⟨r, hr⟩ : ∃ r, L.drop n = r := ⟨_, rfl⟩
  have hL : L = l ++ r := by rw [← hl, ← hr, List.take_append_drop]
  rw [hl] at hB hT hq hh
  rw [hr] at hT hh
  subst hL
  clear hl hr
  simp only [Bool.and_eq_true, decide_eq_true_eq] at hB
  obtain ⟨⟨hb1, hb2⟩, hb3⟩ := hB
  have hq' : ∀ w', S w' → wpQuiet P l.toArray (fun w2 => w2 = w') (fun a' => a' = aF) (opsAt l ls) a := fun w' hw' => by
    have e : (fun w2 : World => ∃ x : Unit, w2 = (fun _ => w') x) = fun w2 => w2 = w' := by
      funext w2
      apply propext
      exact ⟨fun ⟨_, h⟩ => h, fun h => ⟨(), h⟩⟩
    rw [← e]
    exact hq (fun _ => w') (fun _ => hw')
  have hQ2 : ∀ d v c (a : Act) w, (QN P (l ++ r).toArray r Q) (.panic c) (a.put d v) w → (QN P (l ++ r).toArray r Q) (.panic c) a w := fun d v c a w hp => hQ d v c a w hp
  have h1 := lights_any (P := P) (ops := l.toArray) (Region.noSelect_spec hb1) hQ2 h0 hh ls (Array.replicate l.length false) a hb2 hq'
  have h2 := wpAny_of_held _ _ _ _ h1
  rw [hb3] at h2
  have mono : ∀ (fuel : Nat) (listed : Array Bool) (a : Act) (w : World), wpAny P .any l.toArray (QN P (l ++ r).toArray r Q) fuel listed a w →
      wpAny P .any l.toArray (QT P l r Q) fuel listed a w := by
    have conv : ∀ e (a' : Act) w', e ≠ Exit.normal → (QN P (l ++ r).toArray r Q) e a' w' → QT P l r Q e a' w' := fun e a' w' he hq => by
      refine (QT_exit r l Q e a' w' he).2 ?_
      cases e <;> first | exact absurd rfl he | exact hq
    intro fuel
    induction fuel with
    | zero => exact fun listed a w h => ⟨h.1, QT_normalT r l hT h.2⟩
    | succ fuel ih =>
      intro listed a w h
      refine ⟨fun h0 => QT_normalT r l hT (h.1 h0), fun i hi => ?_⟩
      have hi2 := h.2 i hi
      unfold wpOp at hi2 ⊢
      cases ho : l.toArray[i]? with
      | none =>
        rw [ho] at hi2
        exact ih _ _ _ hi2
      | some o =>
        rw [ho] at hi2
        simp only at hi2 ⊢
        split at hi2
        · rename_i hw
          rw [if_pos hw]
          rcases hi2 with h3 | ⟨h3, a', w', h4⟩
          · exact .inl (wp_mono2 conv (fun a w hk => ih _ a w hk) h3)
          · exact .inr ⟨h3, a', w', conv _ a' w' (by simp) h4⟩
        · rename_i hw
          rw [if_neg hw]
          exact ih _ _ _ hi2
  have h3 := wpAny_tailT r l l.length a w.drew hT (mono _ _ _ _ h2)
  refine wp_region_any hm ?_
  have e1 : (l ++ r).toArray.size = l.length + r.length := by simp
  rw [e1]
  exact h3
/-- Light operations ls, the chain hs, then the tail from n on. -/
theorem wp_region_heavy (S : World → Prop) (n : Nat) (ls hs : List Nat) {id : Nat} {a : Act} {w : World} {L : List Oper} (hm : P.follows .mixedOrders = true)
    (hB : (Region.noSelect (L.take n).toArray && lightB (L.take n).toArray (heavyB (L.take n).toArray hs) ls (Array.replicate (L.take n).length false) && decide (ls.length + hs.length = (L.take n).length)) = true) (hT : tailTB (L.take n) (L.drop n) = true)
    (hQ : ∀ d v c a w, Q (.panic c) (Act.put a d v) w → Q (.panic c) a w) (h0 : S w.drew)
    (h : ∃ aF, (∀ W : Unit → World, (∀ x, S (W x)) → wpQuiet P (L.take n).toArray (fun w' => ∃ x, w' = W x) (fun a' => a' = aF) (opsAt (L.take n) ls) a) ∧
      wpHv P (L.take n).toArray S (QN P L.toArray (L.drop n) Q) (opsAt (L.take n) hs) aF w.drew) : (Code.region id L.toArray true).wp P Q a w := by
  obtain ⟨aF, h1, h2⟩ := h
  exact region_lights S n ls _ hs.length hm hB hT hQ h0 ⟨aF, h1, fun listed hl => heavy_any hs listed aF w.drew hl h2⟩
/-- Light operations ls, two heavy ones in whatever order, the chain r, then the tail from n on. -/
theorem wp_region_fork (S : World → Prop) (n : Nat) (ls : List Nat) (i j : Nat) (r : List Nat) {id : Nat} {a : Act} {w : World} {L : List Oper} (hm : P.follows .mixedOrders = true)
    (hB : (Region.noSelect (L.take n).toArray && lightB (L.take n).toArray (forkB (L.take n).toArray i j r) ls (Array.replicate (L.take n).length false) && decide (ls.length + (r.length + 2) = (L.take n).length)) = true) (hT : tailTB (L.take n) (L.drop n) = true)
    (hQ : ∀ d v c a w, Q (.panic c) (Act.put a d v) w → Q (.panic c) a w) (h0 : S w.drew)
    (h : ∃ aF, (∀ W : Unit → World, (∀ x, S (W x)) → wpQuiet P (L.take n).toArray (fun w' => ∃ x, w' = W x) (fun a' => a' = aF) (opsAt (L.take n) ls) a) ∧
      wpHv P (L.take n).toArray S (QN P L.toArray (L.drop n) Q) (opsAt (L.take n) (i :: j :: r)) aF w.drew ∧ wpHv P (L.take n).toArray S (QN P L.toArray (L.drop n) Q) (opsAt (L.take n) (j :: i :: r)) aF w.drew) : (Code.region id L.toArray true).wp P Q a w := by
  obtain ⟨aF, h1, h2, h3⟩ := h
  exact region_lights S n ls _ (r.length + 2) hm hB hT hQ h0 ⟨aF, h1, fun listed hl => fork_any hl h2 h3⟩
/-- A chain of heavy operations, then what fin tells. -/
def heavyFB (ops : Array Oper) (fin : Array Bool → Bool) : List Nat → Array Bool → Bool
  | [], listed => fin listed
  | i :: hs, listed => decide (Region.ready .any ops listed = [i]) && (match ops[i]? with | some o => o.guard.isNone | none => false) && heavyFB ops fin hs (listed.setIfInBounds i true)
/-- The chain, K behind it. -/
def wpHvK (P : Program) (ops : Array Oper) (S : World → Prop) (Q : Exit → Act → World → Prop) (K : Act → World → Prop) : List Oper → Act → World → Prop
  | [], a, w => K a w
  | o :: r, a, w => wpList P ops (QH S Q (wpHvK P ops S Q K r)) [o] a w
theorem heavyK_any {fin : Array Bool → Bool} {m : Nat} {K : Act → World → Prop} (hh : ∀ listed a w, fin listed = true → S w → K a w → wpAnyH P .any ops Q S m listed a w) : ∀ (hs : List Nat) (listed : Array Bool) (a : Act) (w : World), heavyFB ops fin hs listed = true → S w → wpHvK P ops S Q K (opsAt ops.toList hs) a w → wpAnyH P .any ops Q S (hs.length + m) listed a w
  | [], listed, a, w, hb, hS, h => by
    simpa using hh listed a w hb hS h
  | i :: hs, listed, a, w, hb, hS, h => by
    simp only [heavyFB, Bool.and_eq_true, decide_eq_true_eq] at hb
    obtain ⟨⟨h1, h2⟩, h3⟩ := hb
    cases ho : ops[i]? with
    | none => rw [ho] at h2; simp at h2
    | some o =>
      rw [ho] at h2
      simp only [Option.isNone_iff_eq_none] at h2
      have hw : ∀ f, Region.wanted o f = true := fun f => by simp [Region.wanted, h2]
      have e : opsAt ops.toList (i :: hs) = o :: opsAt ops.toList hs := opsAt_cons ho
      rw [e] at h
      simp only [wpHvK, wpList, hw, if_true] at h
      have e2 : (i :: hs).length + m = (hs.length + m) + 1 := by simp; omega
      rw [e2]
      refine ⟨fun h0 => by rw [h1] at h0; simp at h0, fun k hk => ?_⟩
      rw [h1] at hk
      simp at hk
      subst hk
      unfold wpOp
      simp only [ho, hw, if_true]
      rcases h with h | ⟨h4, h5⟩
      · exact .inl (wp_mono2 (fun e a w he hq => by cases e <;> first | exact absurd rfl he | exact hq) (fun a w hk => ⟨hk.1, heavyK_any hh hs _ a w h3 hk.1 hk.2⟩) h)
      · exact .inr ⟨h4, by obtain ⟨a', w', h6⟩ := h5; exact ⟨a', w', h6⟩⟩
/-- Light ones, a chain, light ones, a chain, the tail. -/
theorem wp_region_hlh (S : World → Prop) (n : Nat) (ls hs ls2 hs2 : List Nat) {id : Nat} {a : Act} {w : World} {L : List Oper} (hm : P.follows .mixedOrders = true)
    (hB : (Region.noSelect (L.take n).toArray && lightB (L.take n).toArray (heavyFB (L.take n).toArray (lightB (L.take n).toArray (heavyB (L.take n).toArray hs2) ls2) hs) ls (Array.replicate (L.take n).length false) && decide (ls.length + (hs.length + (ls2.length + hs2.length)) = (L.take n).length)) = true) (hT : tailTB (L.take n) (L.drop n) = true)
    (hQ : ∀ d v c a w, Q (.panic c) (Act.put a d v) w → Q (.panic c) a w) (h0 : S w.drew)
    (h : ∃ aF, (∀ W : Unit → World, (∀ x, S (W x)) → wpQuiet P (L.take n).toArray (fun w' => ∃ x, w' = W x) (fun a' => a' = aF) (opsAt (L.take n) ls) a) ∧
      wpHvK P (L.take n).toArray S (QN P L.toArray (L.drop n) Q) (fun a2 w2 => ∃ aG, (∀ W : Unit → World, (∀ x, S (W x)) → wpQuiet P (L.take n).toArray (fun w' => ∃ x, w' = W x) (fun a' => a' = aG) (opsAt (L.take n) ls2) a2) ∧ wpHv P (L.take n).toArray S (QN P L.toArray (L.drop n) Q) (opsAt (L.take n) hs2) aG w2) (opsAt (L.take n) hs) aF w.drew) : (Code.region id L.toArray true).wp P Q a w := by
  obtain ⟨aF, h1, h2⟩ := h
  have hsel : Region.noSelect (L.take n).toArray = true := by
    simp only [Bool.and_eq_true] at hB
    exact hB.1.1
  refine region_lights S n ls _ (hs.length + (ls2.length + hs2.length)) hm hB hT hQ h0 ⟨aF, h1, fun listed hl => ?_⟩
  refine heavyK_any (Q := QN P L.toArray (L.drop n) Q) (ops := (L.take n).toArray) (fun listed a w hb hS hk => ?_) hs listed aF w.drew hl h0 (by simpa using h2)
  obtain ⟨aG, h3, h4⟩ := hk
  refine lights_any (P := P) (Q := QN P L.toArray (L.drop n) Q) (ops := (L.take n).toArray) (aF := aG) (Region.noSelect_spec hsel) (fun d v c a w hp => hQ d v c a w hp) hS (fun listed hl2 => heavy_any hs2 listed aG w hl2 (by simpa using h4)) ls2 listed a hb (fun w' hw' => ?_)
  have e : (fun w2 : World => ∃ x : Unit, w2 = (fun _ => w') x) = fun w2 => w2 = w' := by
    funext w2
    apply propext
    exact ⟨fun ⟨_, h⟩ => h, fun h => ⟨(), h⟩⟩
  rw [← e]
  simpa using h3 (fun _ => w') (fun _ => hw')
end
end Go.Proofs.Qxb6500883aGreatDoor
