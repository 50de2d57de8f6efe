/- A region that draws its order and whose last operation waits for all the others: the others first, in any order, then the last. A class of worlds for the quiet walk. Nothing here speaks of one program. -/
import Derived.Test.Qxb6500883aGreatDoorDrew
import Derived.BigQuiet
namespace Go.Proofs.Qxb6500883aGreatDoor
open Go.RowKit
set_option linter.unusedSimpArgs false
set_option linter.unusedVariables false

theorem ready_mem {md : Region.Mode} {ops : Array Oper} {listed : Array Bool} {i : Nat} :
    i ∈ Region.ready md ops listed ↔ i < ops.size ∧ listed[i]?.getD true = false ∧ ∃ o, ops[i]? = some o ∧ ∀ e ∈ o.after, Region.binds md e = true → listed[e.on]?.getD false = true := by
  simp only [Region.ready, List.mem_filter, List.mem_range, Bool.and_eq_true, Bool.not_eq_true', Array.getD_eq_getD_getElem?]
  constructor
  · rintro ⟨h1, h2, h3⟩
    refine ⟨h1, h2, ops[i], by simp [h1], ?_⟩
    intro e he hb
    simp [h1] at h3
    obtain ⟨k, hk, rfl⟩ := Array.mem_iff_getElem.1 he
    have := h3 k hk
    simpa [hb] using this
  · rintro ⟨h1, h2, o, ho, h3⟩
    refine ⟨h1, h2, ?_⟩
    rw [ho]
    simp only [Option.map_some, Option.getD_some, Array.all_eq_true]
    intro k hk
    cases hb : Region.binds md o.after[k] with
    | false => simp
    | true => simpa using h3 _ (Array.getElem_mem hk) hb

section
variable {P : Program} {md : Region.Mode} {l : List Oper} {s : Oper}

structure LastOk (md : Region.Mode) (l : List Oper) (s : Oper) : Prop where
  deps : ∀ (i : Nat) (o : Oper), l[i]? = some o → ∀ e ∈ o.after, Region.binds md e = true → e.on < i
  guards : ∀ (i : Nat) (o : Oper), l[i]? = some o → ∀ j b, o.guard = some (j, b) → j < i
  last : ∀ i, i < l.length → ∃ e ∈ s.after, Region.binds md e = true ∧ e.on = i
  own : ∀ e ∈ s.after, Region.binds md e = true → e.on < l.length

theorem all_listed (h : LastOk md l s) {listed : Array Bool} (hr : Region.ready md l.toArray listed = []) : ∀ i, i < l.length → listed[i]?.getD true = true := by
  intro i
  induction i using Nat.strongRecOn with
  | _ i ih =>
    intro hi
    cases hb : listed[i]?.getD true with
    | true => rfl
    | false =>
      exfalso
      have : i ∈ Region.ready md l.toArray listed := ready_mem.2 ⟨by simpa using hi, hb, l[i], by simp [hi], fun e he hbi => by
        have h1 := h.deps i l[i] (by simp [hi]) e he hbi
        have h2 := ih e.on h1 (by omega)
        cases hx : listed[e.on]? with
        | some b => rw [hx] at h2; simpa using h2
        | none =>
          exfalso
          have : listed.size ≤ e.on := by simpa using hx
          have h3 : listed[i]? = none := by simp; omega
          rw [h3] at hb
          simp at hb⟩
      rw [hr] at this
      simp at this

theorem push_get {listed : Array Bool} {n i : Nat} (hz : listed.size = n) (hi : i < n) (b d : Bool) : (listed.push b)[i]?.getD d = listed[i]?.getD d := by
  rw [Array.getElem?_push]
  simp [show ¬ i = listed.size by omega]

def QL (P : Program) (l : List Oper) (s : Oper) (Q : Exit → Act → World → Prop) : Exit → Act → World → Prop
  | .normal, a, w => wpOp P (l ++ [s]).toArray Q l.length (fun a w => Q .normal a w) a w
  | e, a, w => Q e a w

theorem ql_mono {Q : Exit → Act → World → Prop} {o : Oper} {a : Act} {w : World} {K K' : Act → World → Prop} (hK : ∀ a w, K a w → K' a w) (h : o.wp P a w K (QL P l s Q)) : o.wp P a w K' Q := by
  have hl : LetsOut (QL P l s Q) → LetsOut Q := fun ⟨a, w, h⟩ => ⟨a, w, h⟩
  unfold Oper.wp at h ⊢
  revert h
  cases hq : (execOp a.eval o).run P w with
  | ok nx w' =>
    cases nx with
    | value v => exact hK _ _
    | skip => exact hK _ _
    | defer d => exact hK _ _
    | enter f args =>
      intro h
      refine Calls.mono h ?_
      intro e w'' he
      cases e with
      | returned v => exact hK _ _ he
      | panicked c => exact he
      | outgrown => exact hl he
    | row r args =>
      intro h
      exact Rows.mono h (fun v w'' => hK _ _)
    | _ => exact fun h => h
  | halt hh w' =>
    cases hh with
    | panic v => exact fun h => h
    | _ => exact fun h => h

theorem ready_up (h : LastOk md l s) {listed : Array Bool} (hz : listed.size = l.length) (b : Bool) {i : Nat} (hi : i < l.length) :
    i ∈ Region.ready md (l ++ [s]).toArray (listed.push b) ↔ i ∈ Region.ready md l.toArray listed := by
  have ho : (l ++ [s]).toArray[i]? = l.toArray[i]? := by simp [List.getElem?_append_left hi]
  rw [ready_mem, ready_mem, push_get hz hi, ho]
  have e1 : i < (l ++ [s]).toArray.size ↔ i < l.toArray.size := by simp; omega
  rw [e1]
  refine and_congr_right fun _ => and_congr_right fun _ => ?_
  refine exists_congr fun o => and_congr_right fun hoo => ?_
  refine forall_congr' fun e => forall_congr' fun he => forall_congr' fun hbi => ?_
  have := h.deps i o (by simpa using hoo) e he hbi
  rw [push_get hz (by omega)]

theorem ready_last (h : LastOk md l s) {listed : Array Bool} (hz : listed.size = l.length) :
    l.length ∈ Region.ready md (l ++ [s]).toArray (listed.push false) ↔ Region.ready md l.toArray listed = [] := by
  constructor
  · intro hm
    obtain ⟨_, _, o, ho, hd⟩ := ready_mem.1 hm
    have hos : o = s := by
      have : (l ++ [s]).toArray[l.length]? = some s := by simp
      rw [this] at ho
      exact (Option.some.inj ho).symm
    subst hos
    apply List.eq_nil_iff_forall_not_mem.2
    intro i hi
    obtain ⟨h1, h2, _⟩ := ready_mem.1 hi
    have h1' : i < l.length := by simpa using h1
    obtain ⟨e, he, hb, hei⟩ := h.last i h1'
    have h3 := hd e he hb
    rw [hei, push_get hz h1'] at h3
    have : i < listed.size := by omega
    simp [this] at h2 h3
    rw [h2] at h3
    simp at h3
  · intro hr
    have ha := all_listed h hr
    refine ready_mem.2 ⟨by simp, by simp [← hz], s, by simp, fun e he hbi => ?_⟩
    have h1 := h.own e he hbi
    rw [push_get hz h1]
    have h2 := ha e.on h1
    have : e.on < listed.size := by omega
    simpa [this] using h2

theorem ready_end (h : LastOk md l s) {listed : Array Bool} (hz : listed.size = l.length) (hr : Region.ready md l.toArray listed = []) :
    Region.ready md (l ++ [s]).toArray (listed.push true) = [] := by
  apply List.eq_nil_iff_forall_not_mem.2
  intro i hi
  have h1 := (ready_mem.1 hi).1
  by_cases hlt : i < l.length
  · rw [ready_up h hz true hlt, hr] at hi
    simp at hi
  · have hil : i = l.length := by simp at h1; omega
    have h2 := (ready_mem.1 hi).2.1
    rw [hil, ← hz] at h2
    simp at h2

theorem wanted_up (h : LastOk md l s) {i : Nat} {o : Oper} (ho : l[i]? = some o) (tmps : Array Value) :
    Region.wanted o (yielded (l ++ [s]).toArray tmps) = Region.wanted o (yielded l.toArray tmps) := by
  unfold Region.wanted
  cases hg : o.guard with
  | none => rfl
  | some jb =>
    obtain ⟨j, b⟩ := jb
    have h1 := h.guards i o ho j b hg
    have hi : i < l.length := (List.getElem?_eq_some_iff.1 ho).1
    have : (l ++ [s]).toArray[j]? = l.toArray[j]? := by simp [List.getElem?_append_left (show j < l.length by omega)]
    simp only [yielded, this]

theorem wpAny_last (h : LastOk md l s) {Q : Exit → Act → World → Prop} : ∀ (fuel : Nat) (listed : Array Bool) (a : Act) (w : World), listed.size = l.length →
    wpAny P md l.toArray (QL P l s Q) fuel listed a w → wpAny P md (l ++ [s]).toArray Q (fuel + 1) (listed.push false) a w := by
  have fin : ∀ (fuel : Nat) (listed : Array Bool) (a : Act) (w : World), listed.size = l.length → Region.ready md l.toArray listed = [] → QL P l s Q .normal a w →
      wpOp P (l ++ [s]).toArray Q l.length (wpAny P md (l ++ [s]).toArray Q fuel ((listed.push false).setIfInBounds l.length true)) a w := by
    intro fuel listed a w hz hr hq
    have hset : (listed.push false).setIfInBounds l.length true = listed.push true := by
      rw [← hz]
      apply Array.ext_getElem?
      intro i
      rw [Array.getElem?_setIfInBounds, Array.getElem?_push, Array.getElem?_push]
      by_cases hi : listed.size = i
      · simp [hi.symm]
      · simp [hi, show ¬ i = listed.size from fun e => hi e.symm]
    rw [hset]
    refine wpOp_mono (fun a w hk => ?_) hq
    have he := ready_end h hz hr
    cases fuel with
    | zero => exact ⟨he, hk⟩
    | succ f => exact ⟨fun _ => hk, fun i hi => by rw [he] at hi; simp at hi⟩
  intro fuel
  induction fuel with
  | zero =>
    intro listed a w hz hh
    have hn := (ready_last h hz).2 hh.1
    refine ⟨fun h0 => ?_, fun i hi => ?_⟩
    · rw [h0] at hn
      simp at hn
    · have h1 := (ready_mem.1 hi).1
      by_cases hlt : i < l.length
      · rw [ready_up h hz false hlt, hh.1] at hi
        simp at hi
      · have hil : i = l.length := by simp at h1; omega
        subst hil
        exact fin 0 listed a w hz hh.1 hh.2
  | succ fuel ih =>
    intro listed a w hz hh
    refine ⟨fun h0 => ?_, fun i hi => ?_⟩
    · exfalso
      cases hr : Region.ready md l.toArray listed with
      | nil =>
        have hn := (ready_last h hz).2 hr
        rw [h0] at hn
        simp at hn
      | cons i r =>
        have hm : i ∈ Region.ready md l.toArray listed := by rw [hr]; simp
        have hlt : i < l.length := by simpa using (ready_mem.1 hm).1
        have := (ready_up h hz false hlt).2 hm
        rw [h0] at this
        simp at this
    · have h1 := (ready_mem.1 hi).1
      by_cases hlt : i < l.length
      · have hm := (ready_up h hz false hlt).1 hi
        have hw := hh.2 i hm
        obtain ⟨o, ho⟩ : ∃ o, l[i]? = some o := ⟨l[i], by simp [hlt]⟩
        have hset : (listed.push false).setIfInBounds i true = (listed.setIfInBounds i true).push false := by
          apply Array.ext_getElem?
          intro j
          simp only [Array.getElem?_setIfInBounds, Array.getElem?_push, Array.size_setIfInBounds, Array.size_push]
          by_cases hj : j = listed.size
          · have : ¬ i = j := by omega
            simp [hj, show ¬ i = listed.size by omega]
          · by_cases hij : i = j
            · subst hij
              simp [hj, show i < listed.size by omega]
              omega
            · simp [hj, hij]
        rw [hset]
        unfold wpOp at hw ⊢
        have ho1 : l.toArray[i]? = some o := by simpa using ho
        have ho2 : (l ++ [s]).toArray[i]? = some o := by simp [List.getElem?_append_left hlt, ho]
        simp only [ho1] at hw
        simp only [ho2, wanted_up h ho]
        split at hw
        · rename_i hwt
          rw [if_pos hwt]
          rcases hw with hw | ⟨h2, a', w', h3⟩
          · exact .inl (ql_mono (fun a w hk => ih _ a w (by simpa using hz) hk) hw)
          · exact .inr ⟨h2, a', w', h3⟩
        · rename_i hwt
          rw [if_neg hwt]
          exact ih _ _ w (by simpa using hz) hw
      · have hil : i = l.length := by simp at h1; omega
        subst hil
        have hr := (ready_last h hz).1 hi
        exact fin (fuel + 1) listed a w hz hr (hh.1 hr)


def lastB (l : List Oper) (s : Oper) : Bool :=
  (l.zipIdx.all fun oi => oi.1.after.all (fun e => !Region.binds .any e || decide (e.on < oi.2)) && (match oi.1.guard with | none => true | some (j, _) => decide (j < oi.2))) &&
  (List.range l.length).all (fun i => s.after.any fun e => Region.binds .any e && e.on == i) && s.after.all (fun e => !Region.binds .any e || decide (e.on < l.length))
theorem lastOk (h : lastB l s = true) : LastOk .any l s := by
  simp only [lastB, Bool.and_eq_true, List.all_eq_true, Array.all_eq_true, Array.any_eq_true, decide_eq_true_eq, beq_iff_eq, List.mem_range, Bool.or_eq_true, Bool.not_eq_true'] at h
  obtain ⟨⟨h1, h2⟩, h3⟩ := h
  have hz : ∀ (i : Nat) (o : Oper), l[i]? = some o → (o, i) ∈ l.zipIdx := fun i o ho => by
    rw [List.mem_zipIdx_iff_getElem?]
    exact ho
  refine ⟨fun i o ho e he hbi => ?_, fun i o ho j b hg => ?_, fun i hi => ?_, fun e he hbi => ?_⟩
  · obtain ⟨k, hk, rfl⟩ := Array.mem_iff_getElem.1 he
    exact ((h1 _ (hz i o ho)).1 k hk).resolve_left (by rw [hbi]; simp)
  · have := (h1 _ (hz i o ho)).2
    rw [hg] at this
    simpa using this
  · obtain ⟨k, hk, hb, he⟩ := h2 i hi
    exact ⟨_, Array.getElem_mem hk, hb, he⟩
  · obtain ⟨k, hk, rfl⟩ := Array.mem_iff_getElem.1 he
    exact (h3 k hk).resolve_left (by rw [hbi]; simp)

/-- The quiet walk over a class of worlds that is the image of W. -/
theorem wp_region_class {X : Type} (W : X → World) {id : Nat} {Q : Exit → Act → World → Prop} {a : Act} {w : World} {L : List Oper} (hm : P.follows .mixedOrders = true)
    (hB : Region.lexB .any L.toArray = true) (h0 : ∃ x, w.drew = W x)
    (h : wpQuiet P L.toArray (fun w' => ∃ x, w' = W x) (fun a' => ∀ x, Q .normal a' (W x)) L a) : (Code.region id L.toArray true).wp P Q a w := by
  have e : (fun (a' : Act) => ∀ w', (∃ x, w' = W x) → Q .normal a' w') = fun a' => ∀ x, Q .normal a' (W x) := by
    funext a'
    apply propext
    exact ⟨fun h x => h _ ⟨x, rfl⟩, fun h w' ⟨x, hx⟩ => hx ▸ h x⟩
  refine wp_region_quiet (C := fun w' => ∃ x, w' = W x) hm hB h0 ?_
  rw [e]
  simpa using h

/-- .. and its last operation apart. -/
theorem wp_region_class_last {X : Type} (W : X → World) {id : Nat} {Q : Exit → Act → World → Prop} {a : Act} {w : World} {L : List Oper} {s : Oper} (hs : L.getLast? = some s) (hm : P.follows .mixedOrders = true)
    (hB : Region.lexB .any L.dropLast.toArray = true) (hL : lastB L.dropLast s = true) (h0 : ∃ x, w.drew = W x)
    (h : wpQuiet P L.dropLast.toArray (fun w' => ∃ x, w' = W x) (fun a' => ∀ x, wpList P L.toArray Q [s] a' (W x)) L.dropLast a) : (Code.region id L.toArray true).wp P Q a w := by
  have hl : L = L.dropLast ++ [s] := by
    obtain ⟨x, rfl⟩ := List.getLast?_eq_some_iff.1 hs
    simp
  obtain ⟨l, hl'⟩ : ∃ l, L.dropLast = l := ⟨_, rfl⟩
  rw [hl'] at hl hB hL h
  subst hl
  simp only [Region.lexB, Bool.and_eq_true] at hB
  have h1 := wpAnyQ_lex (C := fun w' => ∃ x, w' = W x) (md := .any) hB.1 l 0 (Array.replicate l.length false) a (by simp) (by simpa using hB.2) (by simpa using h)
  have h2 := wpAny_of_quiet (Q' := QL P l s Q) (fun a' w' ⟨x, hx⟩ hq => by
    subst hx
    have := hq x
    simp only [wpList] at this
    simp only [QL, wpOp]
    have e : (l ++ [s]).toArray[l.length]? = some s := by simp
    rw [e]
    exact this) l.length (Array.replicate l.length false) a w.drew h0 h1
  have h3 := wpAny_last (lastOk hL) l.length (Array.replicate l.length false) a w.drew (by simp) h2
  refine wp_region_any hm ?_
  have e1 : (l ++ [s]).toArray.size = l.length + 1 := by simp
  have e2 : Array.replicate (l.length + 1) false = (Array.replicate l.length false).push false := by rw [Array.replicate_succ]
  rw [e1, e2]
  exact h3

/-- A class of worlds as the image of a letter W. -/
theorem class_mk (T : World → Prop) : ∃ (X : Type) (W : X → World), (∀ x, T (W x)) ∧ (∀ w, T w → ∃ x, w = W x) :=
  ⟨{x // T x}, Subtype.val, fun x => x.2, fun w h => ⟨⟨w, h⟩, rfl⟩⟩
/-- A call in the class: the callee makes new memory only. -/
theorem Calls.class_of {X : Type} {W : X → World} (hW : ∀ x w', Below (W x).heap.size (W x) w' → ∃ y, w' = W y) {f : FuncId} {args : Array Value} {x : X} {v : Value}
    (h : Calls P f args (W x) fun e w' => e = .returned v ∧ Below (W x).heap.size (W x) w') : Calls P f args (W x) fun e w'' => e = .returned v ∧ ∃ y, w'' = W y :=
  h.mono fun _ _ ⟨he, hb⟩ => ⟨he, hW x _ hb⟩
theorem Calls.class_same {X : Type} {W : X → World} {f : FuncId} {args : Array Value} {x : X} {v : Value}
    (h : Calls P f args (W x) fun e w' => e = .returned v ∧ w' = W x) : Calls P f args (W x) fun e w'' => e = .returned v ∧ ∃ y, w'' = W y :=
  h.mono fun _ _ ⟨he, hb⟩ => ⟨he, x, hb⟩
end
end Go.Proofs.Qxb6500883aGreatDoor
