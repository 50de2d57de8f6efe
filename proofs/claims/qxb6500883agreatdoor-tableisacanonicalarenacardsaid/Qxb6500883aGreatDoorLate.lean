/- A region that draws: n quiet operations, an alloc that floats, a store that waits for all of them but one (which only yields a value), a tail that waits for all. -/
import Derived.Test.Qxb6500883aGreatDoorLast2
namespace Go.Proofs.Qxb6500883aGreatDoor
open Go.RowKit
set_option linter.unusedSimpArgs false
set_option linter.unusedVariables false
section
variable {P : Program}

theorem app_get {listed bs : Array Bool} {n i : Nat} (hz : listed.size = n) (hi : i < n) (d : Bool) : (listed ++ bs)[i]?.getD d = listed[i]?.getD d := by
  rw [Array.getElem?_append_left (by omega)]

theorem ready_app {l t : List Oper} (hdeps : ∀ (i : Nat) (o : Oper), l[i]? = some o → ∀ e ∈ o.after, Region.binds .any e = true → e.on < i) {listed : Array Bool} (hz : listed.size = l.length) (bs : Array Bool) {i : Nat} (hi : i < l.length) :
    i ∈ Region.ready .any (l ++ t).toArray (listed ++ bs) ↔ i ∈ Region.ready .any l.toArray listed := by
  have ho : (l ++ t).toArray[i]? = l.toArray[i]? := by simp [List.getElem?_append_left hi]
  rw [ready_mem, ready_mem, app_get hz hi, ho]
  have e1 : i < (l ++ t).toArray.size ↔ i < l.toArray.size := by simp; omega
  rw [e1]
  refine and_congr_right fun _ => and_congr_right fun _ => ?_
  refine exists_congr fun o => and_congr_right fun hoo => ?_
  refine forall_congr' fun e => forall_congr' fun he => forall_congr' fun hbi => ?_
  have := hdeps i o (by simpa using hoo) e he hbi
  rw [app_get hz (by omega)]

theorem wpOp_app {l t : List Oper} (hg : ∀ (i : Nat) (o : Oper), l[i]? = some o → ∀ j b, o.guard = some (j, b) → j < i) {Q : Exit → Act → World → Prop} {j : Nat} (hj : j < l.length) {K : Act → World → Prop} {a : Act} {w : World}
    (h : wpOp P l.toArray Q j K a w) : wpOp P (l ++ t).toArray Q j K a w := by
  obtain ⟨o, ho⟩ : ∃ o, l[j]? = some o := ⟨l[j], by simp [hj]⟩
  have ho1 : l.toArray[j]? = some o := by simpa using ho
  have ho2 : (l ++ t).toArray[j]? = some o := by simp [List.getElem?_append_left hj, ho]
  have hw : Region.wanted o (yielded (l ++ t).toArray a.tmps) = Region.wanted o (yielded l.toArray a.tmps) := by
    unfold Region.wanted
    cases hgd : o.guard with
    | none => rfl
    | some jb =>
      obtain ⟨k, b⟩ := jb
      have h1 := hg j o ho k b hgd
      have : (l ++ t).toArray[k]? = l.toArray[k]? := by simp [List.getElem?_append_left (show k < l.length by omega)]
      simp only [yielded, this]
  unfold wpOp at h ⊢
  simp only [ho1] at h
  simp only [ho2, hw]
  exact h

theorem set_app {listed bs : Array Bool} {n i : Nat} (hz : listed.size = n) (hi : i < n) : (listed ++ bs).setIfInBounds i true = (listed.setIfInBounds i true) ++ bs := by
  rw [Array.setIfInBounds_append_left (by omega)]

structure LateOk (l : List Oper) (s : Oper) (j : Nat) : Prop where
  wait : ∀ i, i < l.length → i ≠ j → ∃ e ∈ s.after, Region.binds .any e = true ∧ e.on = i
  alloc : ∃ e ∈ s.after, Region.binds .any e = true ∧ e.on = l.length
  own : ∀ e ∈ s.after, Region.binds .any e = true → e.on ≤ l.length
  guard : s.guard = none
  dst : s.dst = none
  sel : ∀ cs b, s.op ≠ .select cs b
  apart : ∀ (o : Oper) (x : Tmp), l[j]? = some o → o.dst = some x → x ∉ s.looksAt l.toArray

def lateB (l : List Oper) (s : Oper) (j : Nat) : Bool :=
  (List.range l.length).all (fun i => i == j || s.after.any fun e => Region.binds .any e && e.on == i) && (s.after.any fun e => Region.binds .any e && e.on == l.length) &&
  s.after.all (fun e => !Region.binds .any e || decide (e.on ≤ l.length)) &&
  s.guard.isNone && s.dst.isNone && (match s.op with | .select _ _ => false | _ => true) && (match (l[j]?).bind (·.dst) with | some x => !(s.looksAt l.toArray).contains x | none => true)
theorem lateOk {l : List Oper} {s : Oper} {j : Nat} (h : lateB l s j = true) : LateOk l s j := by
  simp only [lateB, Bool.and_eq_true, List.all_eq_true, Array.any_eq_true, Array.all_eq_true, Bool.or_eq_true, List.mem_range, beq_iff_eq, Option.isNone_iff_eq_none, decide_eq_true_eq, Bool.not_eq_true'] at h
  obtain ⟨⟨⟨⟨⟨⟨h1, h2⟩, h3⟩, h4⟩, h5⟩, h6⟩, h7⟩ := h
  refine ⟨fun i hi hij => ?_, ?_, fun e he hb => ?_, h4, h5, fun cs b e => by rw [e] at h6; simp at h6, fun o x ho hx => ?_⟩
  · obtain ⟨k, hk, hb, he⟩ := (h1 i hi).resolve_left hij
    exact ⟨_, Array.getElem_mem hk, hb, he⟩
  · obtain ⟨k, hk, hb, he⟩ := h2
    exact ⟨_, Array.getElem_mem hk, hb, he⟩
  · obtain ⟨k, hk, rfl⟩ := Array.mem_iff_getElem.1 he
    exact (h3 k hk).resolve_left (by rw [hb]; simp)
  · rw [ho] at h7
    simp only [Option.bind_some, hx] at h7
    simpa using h7

variable {l : List Oper} {al s : Oper} {j : Nat} {d : Tmp} {C : World → Prop} {aF : Act} {Q : Exit → Act → World → Prop} {Z Z' : Nat → World → Prop}

theorem ready_of_all (hok : AllocOk l al d) {listed : Array Bool} {i : Nat} (hi : i < l.length) (hn : listed[i]?.getD true = false) (hall : ∀ k, k < i → listed[k]?.getD false = true) : i ∈ Region.ready .any l.toArray listed :=
  ready_mem.2 ⟨by simpa using hi, hn, l[i], by simp [hi], fun e he hb => hall e.on (hok.deps i l[i] (by simp [hi]) e he hb)⟩
theorem ready_none {listed : Array Bool} (hall : ∀ i, i < l.length → listed[i]?.getD true = true) : Region.ready .any l.toArray listed = [] := by
  apply List.eq_nil_iff_forall_not_mem.2
  intro i hi
  obtain ⟨h1, h2, _⟩ := ready_mem.1 hi
  rw [hall i (by simpa using h1)] at h2
  simp at h2

/-- The frame at the store is the frame at the end, as far as the store looks. -/
theorem late_frame (hok : AllocOk l al d) (hl : LateOk l s j) {fuel : Nat} {listed : Array Bool} {a : Act} {w : World} (hz : listed.size = l.length) (h : Inv P l C aF fuel listed a) (hw : C w)
    (hall : ∀ i, i < l.length → i ≠ j → listed[i]?.getD false = true) (u : Value) : execOp (a.put (some d) u).eval s = execOp (aF.put (some d) u).eval s := by
  have inv0 : ∀ {fuel : Nat} {listed : Array Bool} {a : Act}, Inv P l C aF fuel listed a → Region.ready .any l.toArray listed = [] → a = aF := fun {fuel listed a} h hr => by
    cases fuel with
    | zero => exact (h w hw).2
    | succ f => exact (h w hw).1 hr
  have up : ∀ {listed : Array Bool} {i : Nat}, listed.size = l.length → i < l.length → listed[i]?.getD false = true → listed[i]?.getD true = true := fun {listed i} hz hi h => by
    rw [Array.getElem?_eq_getElem (by omega)] at h ⊢
    simpa using h
  by_cases hj : j < l.length ∧ listed[j]?.getD true = false
  · obtain ⟨hj, hn⟩ := hj
    have hm := ready_of_all hok hj hn (fun k hk => hall k (by omega) (by omega))
    obtain ⟨o, ho⟩ : ∃ o, l[j]? = some o := ⟨l[j], by simp [hj]⟩
    cases fuel with
    | zero =>
      have := (h w hw).1
      rw [this] at hm
      simp at hm
    | succ f =>
      obtain ⟨v, _, hI⟩ := h.step hok hz hm ho hw
      have e := inv0 hI (ready_none (fun i hi => by
        by_cases hij : j = i
        · subst hij
          simp [hz, hi]
        · rw [Array.getElem?_setIfInBounds, if_neg hij]
          exact up hz hi (hall i hi (fun e => hij e.symm))))
      obtain ⟨p1, p2, p3⟩ := Oper.apart_spec (hok.apart j o ho)
      rw [← e, Act.put_comm a v u (fun x hx hd => p2 x (by rw [hok.dst]; exact hd) hx)]
      exact (execOp_put (ops := l.toArray) s hl.sel _ _ v (fun x hx => hl.apart o x ho hx)).symm
  · have e := inv0 h (ready_none (fun i hi => by
      by_cases hij : i = j
      · subst hij
        rcases hb : listed[i]?.getD true with _ | _
        · exact absurd ⟨hi, hb⟩ hj
        · rfl
      · exact up hz hi (hall i hi hij)))
    rw [e]

theorem late_done (hok : AllocOk l al d) (hsel : ∀ (j : Nat) (o : Oper) cs b, l[j]? = some o → o.op ≠ .select cs b)
    (hZ : ∀ g w w', Z' g w → Below w.heap.size w w' → Z' g w') (hQ : ∀ g w, C w → Z' g w → Q .normal (aF.put (some d) (.pointer (some ⟨g, 0, none⟩))) w) :
    ∀ (fuel : Nat) (listed : Array Bool) (a : Act) (w : World) (g : Nat), listed.size = l.length → Inv P l C aF fuel listed a → C w → Z' g w →
      wpAny P .any (l ++ [al, s]).toArray Q fuel (listed ++ #[true, true]) (a.put (some d) (.pointer (some ⟨g, 0, none⟩))) w := by
  have nol : ∀ {listed : Array Bool} {i : Nat}, listed.size = l.length → i ∈ Region.ready .any (l ++ [al, s]).toArray (listed ++ #[true, true]) → i < l.length := fun {listed i} hz hi => by
    obtain ⟨h1, h2, _⟩ := ready_mem.1 hi
    simp at h1
    rcases Nat.lt_or_ge i l.length with h | h
    · exact h
    · exfalso
      rw [Array.getElem?_append_right (by omega)] at h2
      have : i - listed.size = 0 ∨ i - listed.size = 1 := by omega
      rcases this with e | e <;> rw [e] at h2 <;> simp at h2
  have nil : ∀ {listed : Array Bool}, listed.size = l.length → (Region.ready .any (l ++ [al, s]).toArray (listed ++ #[true, true]) = [] ↔ Region.ready .any l.toArray listed = []) := fun {listed} hz => by
    constructor
    · intro h
      apply List.eq_nil_iff_forall_not_mem.2
      intro i hi
      have hlt : i < l.length := by simpa using (ready_mem.1 hi).1
      have := (ready_app (t := [al, s]) hok.deps hz #[true, true] hlt).2 hi
      rw [h] at this
      simp at this
    · intro h
      apply List.eq_nil_iff_forall_not_mem.2
      intro i hi
      have hlt := nol hz hi
      have := (ready_app hok.deps hz _ hlt).1 hi
      rw [h] at this
      simp at this
  intro fuel
  induction fuel with
  | zero =>
    intro listed a w g hz h hw hg
    have := h w hw
    refine ⟨(nil hz).2 this.1, ?_⟩
    rw [this.2]
    exact hQ g w hw hg
  | succ fuel ih =>
    intro listed a w g hz h hw hg
    refine ⟨fun h0 => ?_, fun i hi => ?_⟩
    · rw [(h w hw).1 ((nil hz).1 h0)]
      exact hQ g w hw hg
    · have hlt := nol hz hi
      have hm := (ready_app hok.deps hz _ hlt).1 hi
      obtain ⟨o, ho⟩ : ∃ o, l[i]? = some o := ⟨l[i], by simp [hlt]⟩
      obtain ⟨v, hy, hI⟩ := h.step hok hz hm ho hw
      obtain ⟨p1, p2, p3⟩ := Oper.apart_spec (hok.apart i o ho)
      have hy' := hy.of_same (a' := a.put (some d) (.pointer (some ⟨g, 0, none⟩))) (execOp_put o (fun cs b => hsel i o cs b ho) a _ _ (fun x hx => p1 x (by rw [hok.dst]; exact hx))) (wanted_put o a _ _ (fun x hx => p1 x (by rw [hok.dst]; exact hx)))
      have hq := hy'.qOp (K := fun a' => a' = (a.put (some d) (.pointer (some ⟨g, 0, none⟩))).put o.dst v) (by simpa using ho) rfl
      rw [set_app hz hlt]
      refine wpOp_app hok.guards hlt (wpOp_of_qOp (C := fun w' => C w' ∧ Below w.heap.size w w') ⟨hw, Below.refl _ _⟩ (fun a' w' hw' ha' => ?_) hq)
      subst ha'
      rw [Act.put_comm a _ v (fun x hx => by have := p2 x (by rw [hok.dst]; exact hx); exact this)]
      exact ih _ _ w' g (by simpa using hz) hI hw'.1 (hZ g w w' hg hw'.2)

theorem late_mid (hok : AllocOk l al d) (hl : LateOk l s j) (hsel : ∀ (j : Nat) (o : Oper) cs b, l[j]? = some o → o.op ≠ .select cs b)
    (hZ : ∀ g w w', Z g w → Below w.heap.size w w' → Z g w') (hZ' : ∀ g w w', Z' g w → Below w.heap.size w w' → Z' g w')
    (hst : ∀ g w, C w → Z g w → ∃ w2, (execOp (aF.put (some d) (.pointer (some ⟨g, 0, none⟩))).eval s).run P w = .ok .skip w2 ∧ C w2 ∧ Z' g w2)
    (hQ : ∀ g w, C w → Z' g w → Q .normal (aF.put (some d) (.pointer (some ⟨g, 0, none⟩))) w) :
    ∀ (fuel : Nat) (listed : Array Bool) (a : Act) (w : World) (g : Nat), listed.size = l.length → Inv P l C aF fuel listed a → C w → Z g w →
      wpAny P .any (l ++ [al, s]).toArray Q (fuel + 1) (listed ++ #[true, false]) (a.put (some d) (.pointer (some ⟨g, 0, none⟩))) w := by
  have oth : ∀ {listed : Array Bool} {i : Nat}, listed.size = l.length → i ∈ Region.ready .any (l ++ [al, s]).toArray (listed ++ #[true, false]) → i < l.length ∨ i = l.length + 1 := fun {listed i} hz hi => by
    obtain ⟨h1, h2, _⟩ := ready_mem.1 hi
    simp at h1
    rcases Nat.lt_or_ge i l.length with h | h
    · exact .inl h
    · right
      rw [Array.getElem?_append_right (by omega)] at h2
      have : i - listed.size = 0 ∨ i - listed.size = 1 := by omega
      rcases this with e | e
      · rw [e] at h2; simp at h2
      · omega
  have gets : (l ++ [al, s]).toArray[l.length + 1]? = some s := by simp [List.getElem?_append_right]
  have take : ∀ (fuel : Nat) (listed : Array Bool) (a : Act) (w : World) (g : Nat), listed.size = l.length → l.length + 1 ∈ Region.ready .any (l ++ [al, s]).toArray (listed ++ #[true, false]) → Inv P l C aF fuel listed a → C w → Z g w →
      wpOp P (l ++ [al, s]).toArray Q (l.length + 1) (wpAny P .any (l ++ [al, s]).toArray Q fuel ((listed ++ #[true, false]).setIfInBounds (l.length + 1) true)) (a.put (some d) (.pointer (some ⟨g, 0, none⟩))) w := fun fuel listed a w g hz hr h hw hg => by
    have hset : (listed ++ #[true, false]).setIfInBounds (l.length + 1) true = listed ++ #[true, true] := by
      rw [← hz, Array.setIfInBounds_append_right (by omega)]
      simp
    rw [hset]
    have hall : ∀ i, i < l.length → i ≠ j → listed[i]?.getD false = true := fun i hi hij => by
      obtain ⟨_, _, o, ho, hd⟩ := ready_mem.1 hr
      rw [gets] at ho
      obtain rfl := Option.some.inj ho
      obtain ⟨e, he, hb, rfl⟩ := hl.wait i hi hij
      have := hd e he hb
      rwa [app_get hz hi] at this
    have hfr := late_frame hok hl hz h hw hall (.pointer (some ⟨g, 0, none⟩))
    obtain ⟨w2, hrun, hC2, hZ2⟩ := hst g w hw hg
    unfold wpOp
    simp only [gets, Region.wanted, hl.guard, if_true]
    left
    unfold Oper.wp
    rw [hfr, hrun]
    simp only [Oper.upon, hl.dst]
    exact late_done hok hsel hZ' hQ fuel listed a w2 g hz h hC2 hZ2
  have stp : ∀ (fuel : Nat) (listed : Array Bool) (a : Act) (w : World) (g : Nat), listed.size = l.length → (∀ i ∈ Region.ready .any (l ++ [al, s]).toArray (listed ++ #[true, false]), wpOp P (l ++ [al, s]).toArray Q i (wpAny P .any (l ++ [al, s]).toArray Q fuel ((listed ++ #[true, false]).setIfInBounds i true)) (a.put (some d) (.pointer (some ⟨g, 0, none⟩))) w) →
      wpAny P .any (l ++ [al, s]).toArray Q (fuel + 1) (listed ++ #[true, false]) (a.put (some d) (.pointer (some ⟨g, 0, none⟩))) w := fun fuel listed a w g hz hh => by
    refine ⟨fun h0 => ?_, hh⟩
    exfalso
    -- the first that is not listed is ready
    by_cases hall : ∀ i, i < l.length → listed[i]?.getD true = true
    · have hm : l.length + 1 ∈ Region.ready .any (l ++ [al, s]).toArray (listed ++ #[true, false]) := by
        refine ready_mem.2 ⟨by simp, ?_, s, gets, fun e he hb => ?_⟩
        · rw [Array.getElem?_append_right (by omega)]
          simp [hz]
        · rcases Nat.lt_or_ge e.on l.length with h | h
          · rw [app_get hz h]
            have := hall e.on h
            rw [Array.getElem?_eq_getElem (by omega)] at this ⊢
            simpa using this
          · rw [Array.getElem?_append_right (by omega)]
            have : e.on = l.length := by have := hl.own e he hb; omega
            rw [this, hz]
            simp
      rw [h0] at hm
      simp at hm
    · obtain ⟨i, hi, hn, hmin⟩ : ∃ i, i < l.length ∧ listed[i]?.getD true = false ∧ ∀ k, k < i → listed[k]?.getD true = true := by
        have hex : ∃ i, i < l.length ∧ listed[i]?.getD true = false := by
          apply Classical.byContradiction
          intro hno
          apply hall
          intro i hi
          rcases hb : listed[i]?.getD true with _ | _
          · exact absurd ⟨i, hi, hb⟩ hno
          · rfl
        obtain ⟨i, h1, h2⟩ := hex
        induction i using Nat.strongRecOn with
        | _ i ih =>
          by_cases hk : ∀ k, k < i → listed[k]?.getD true = true
          · exact ⟨i, h1, h2, hk⟩
          · obtain ⟨k, hk⟩ := Classical.not_forall.1 hk
            obtain ⟨hki, hk⟩ := Classical.not_imp.1 hk
            exact ih k hki (by omega) (by simpa using hk)
      have hm := (ready_app (t := [al, s]) hok.deps hz #[true, false] hi).2 (ready_of_all hok hi hn (fun k hk => by
        have := hmin k hk
        rw [Array.getElem?_eq_getElem (by omega)] at this ⊢
        simpa using this))
      rw [h0] at hm
      simp at hm
  intro fuel
  induction fuel with
  | zero =>
    intro listed a w g hz h hw hg
    refine stp 0 listed a w g hz fun i hi => ?_
    rcases oth hz hi with hlt | rfl
    · have hm := (ready_app hok.deps hz _ hlt).1 hi
      rw [(h w hw).1] at hm
      simp at hm
    · exact take 0 listed a w g hz hi h hw hg
  | succ fuel ih =>
    intro listed a w g hz h hw hg
    refine stp (fuel + 1) listed a w g hz fun i hi => ?_
    rcases oth hz hi with hlt | rfl
    · have hm := (ready_app hok.deps hz _ hlt).1 hi
      obtain ⟨o, ho⟩ : ∃ o, l[i]? = some o := ⟨l[i], by simp [hlt]⟩
      obtain ⟨v, hy, hI⟩ := h.step hok hz hm ho hw
      obtain ⟨p1, p2, p3⟩ := Oper.apart_spec (hok.apart i o ho)
      have hy' := hy.of_same (a' := a.put (some d) (.pointer (some ⟨g, 0, none⟩))) (execOp_put o (fun cs b => hsel i o cs b ho) a _ _ (fun x hx => p1 x (by rw [hok.dst]; exact hx))) (wanted_put o a _ _ (fun x hx => p1 x (by rw [hok.dst]; exact hx)))
      have hq := hy'.qOp (K := fun a' => a' = (a.put (some d) (.pointer (some ⟨g, 0, none⟩))).put o.dst v) (by simpa using ho) rfl
      rw [set_app hz hlt]
      refine wpOp_app hok.guards hlt (wpOp_of_qOp (C := fun w' => C w' ∧ Below w.heap.size w w') ⟨hw, Below.refl _ _⟩ (fun a' w' hw' ha' => ?_) hq)
      subst ha'
      rw [Act.put_comm a _ v (fun x hx => by have := p2 x (by rw [hok.dst]; exact hx); exact this)]
      exact ih _ _ w' g (by simpa using hz) hI hw'.1 (hZ g w w' hg hw'.2)
    · exact take (fuel + 1) listed a w g hz hi h hw hg

theorem late_start {obj : Obj} (hok : AllocOk l al d) (hl : LateOk l s j) (hsel : ∀ (j : Nat) (o : Oper) cs b, l[j]? = some o → o.op ≠ .select cs b)
    (hrun : ∀ (a : Act) w, (execOp a.eval al).run P w = .ok (.value (.pointer (some ⟨w.heap.size, 0, none⟩))) (w.alloc obj))
    (hC : ∀ w, C w → C (w.alloc obj)) (hZ0 : ∀ w, C w → Z w.heap.size (w.alloc obj))
    (hZ : ∀ g w w', Z g w → Below w.heap.size w w' → Z g w') (hZ' : ∀ g w w', Z' g w → Below w.heap.size w w' → Z' g w')
    (hst : ∀ g w, C w → Z g w → ∃ w2, (execOp (aF.put (some d) (.pointer (some ⟨g, 0, none⟩))).eval s).run P w = .ok .skip w2 ∧ C w2 ∧ Z' g w2)
    (hQ : ∀ g w, C w → Z' g w → Q .normal (aF.put (some d) (.pointer (some ⟨g, 0, none⟩))) w) :
    ∀ (fuel : Nat) (listed : Array Bool) (a : Act) (w : World), listed.size = l.length → Inv P l C aF fuel listed a → C w →
      wpAny P .any (l ++ [al, s]).toArray Q (fuel + 2) (listed ++ #[false, false]) a w := by
  have geta : (l ++ [al, s]).toArray[l.length]? = some al := by simp [List.getElem?_append_right]
  have gets : (l ++ [al, s]).toArray[l.length + 1]? = some s := by simp [List.getElem?_append_right]
  have own : ∀ {listed : Array Bool}, listed.size = l.length → l.length ∈ Region.ready .any (l ++ [al, s]).toArray (listed ++ #[false, false]) := fun {listed} hz =>
    ready_mem.2 ⟨by simp, by rw [Array.getElem?_append_right (by omega)]; simp [hz], al, geta, fun e he hb => by rw [hok.free e he] at hb; simp at hb⟩
  have oth : ∀ {listed : Array Bool} {i : Nat}, listed.size = l.length → i ∈ Region.ready .any (l ++ [al, s]).toArray (listed ++ #[false, false]) → i < l.length ∨ i = l.length := fun {listed i} hz hi => by
    obtain ⟨h1, h2, o, ho, hd⟩ := ready_mem.1 hi
    simp at h1
    rcases Nat.lt_or_ge i l.length with h | h
    · exact .inl h
    · right
      rcases Nat.eq_or_lt_of_le h with e | e
      · exact e.symm
      · exfalso
        have hi1 : i = l.length + 1 := by omega
        subst hi1
        rw [gets] at ho
        obtain rfl := Option.some.inj ho
        obtain ⟨e, he, hb, hon⟩ := hl.alloc
        have := hd e he hb
        rw [hon, Array.getElem?_append_right (by omega)] at this
        simp [hz] at this
  have take : ∀ (fuel : Nat) (listed : Array Bool) (a : Act) (w : World), listed.size = l.length → Inv P l C aF fuel listed a → C w →
      wpOp P (l ++ [al, s]).toArray Q l.length (wpAny P .any (l ++ [al, s]).toArray Q (fuel + 1) ((listed ++ #[false, false]).setIfInBounds l.length true)) a w := fun fuel listed a w hz h hw => by
    have hset : (listed ++ #[false, false]).setIfInBounds l.length true = listed ++ #[true, false] := by
      rw [← hz, Array.setIfInBounds_append_right (by omega)]
      simp
    rw [hset]
    unfold wpOp
    simp only [geta, Region.wanted, hok.guard, if_true]
    left
    unfold Oper.wp
    rw [hrun]
    simp only [Oper.upon, hok.dst]
    exact late_mid hok hl hsel hZ hZ' hst hQ fuel listed a _ _ hz h (hC w hw) (hZ0 w hw)
  intro fuel
  induction fuel with
  | zero =>
    intro listed a w hz h hw
    refine ⟨fun h0 => ?_, fun i hi => ?_⟩
    · have := own hz
      rw [h0] at this
      simp at this
    · rcases oth hz hi with hlt | rfl
      · have hm := (ready_app hok.deps hz _ hlt).1 hi
        rw [(h w hw).1] at hm
        simp at hm
      · exact take 0 listed a w hz h hw
  | succ fuel ih =>
    intro listed a w hz h hw
    refine ⟨fun h0 => ?_, fun i hi => ?_⟩
    · have := own hz
      rw [h0] at this
      simp at this
    · rcases oth hz hi with hlt | rfl
      · have hm := (ready_app hok.deps hz _ hlt).1 hi
        obtain ⟨o, ho⟩ : ∃ o, l[i]? = some o := ⟨l[i], by simp [hlt]⟩
        obtain ⟨v, hy, hI⟩ := h.step hok hz hm ho hw
        have hq := hy.qOp (K := fun a' => a' = a.put o.dst v) (by simpa using ho) rfl
        rw [set_app hz hlt]
        refine wpOp_app hok.guards hlt (wpOp_of_qOp (C := fun w' => C w' ∧ Below w.heap.size w w') ⟨hw, Below.refl _ _⟩ (fun a' w' hw' ha' => ?_) hq)
        subst ha'
        exact ih _ _ w' (by simpa using hz) hI hw'.1
      · exact take (fuel + 1) listed a w hz h hw
end

/-- A region that draws its order: n quiet operations (calls that make new memory among them), one alloc, a store into what it made that waits for all but operation j, a tail that waits for all. -/
theorem wp_region_late {P : Program} {C : World → Prop} (n j B : Nat) {t : TypeId} {zs vs : List Value} {id : Nat} {Q : Exit → Act → World → Prop} {a : Act} {w : World} {L : List Oper} {al s : Oper} {d : Tmp}
    (hal : L[n]? = some al) (hsg : L[n + 1]? = some s) (hd : al.dst = some d) (hm : P.follows .mixedOrders = true)
    (hB : Region.lexB .any (L.take n).toArray = true) (hA : allocB (L.take n) al = true) (hLt : lateB (L.take n) s j = true) (hT : tailB (L.take n ++ [al, s]) (L.drop (n + 2)) = true)
    (hrun : ∀ (a : Act) w, (execOp a.eval al).run P w = .ok (.value (.pointer (some ⟨w.heap.size, 0, none⟩))) (w.alloc (.cells zs.toArray t)))
    (hC : ∀ w w', C w → Below w.heap.size w w' → C w') (hs : ∀ w, C w → B ≤ w.heap.size) (h0 : C w)
    (hqQ : ∃ aF : Act, (∀ (X : Type) (W : X → World), Nonempty X → (∀ x, C (W x)) → (∀ x w', Below (W x).heap.size (W x) w' → ∃ y, w' = W y) →
      wpQuiet P (L.take n).toArray (fun w' => ∃ x, w' = W x) (fun a' => a' = aF) (L.take n) a) ∧
      (∀ g wx, B ≤ g → C wx → Blk wx g t zs → ∃ w2, (execOp (aF.put (some d) (.pointer (some ⟨g, 0, none⟩))).eval s).run P wx = .ok .skip w2 ∧ C w2 ∧ Blk w2 g t vs) ∧
      (∀ g wx, B ≤ g → C wx → Blk wx g t vs → wpList P L.toArray Q (L.drop (n + 2)) (aF.put (some d) (.pointer (some ⟨g, 0, none⟩))) wx)) :
    (Code.region id L.toArray true).wp P Q a w := by
  obtain ⟨aF, hq, hst, hQ⟩ := hqQ
  obtain ⟨l, hl⟩ : ∃ l, L.take n = l := ⟨_, rfl⟩
  obtain ⟨r, hr⟩ : ∃ r, L.drop (n + 2) = r := ⟨_, rfl⟩
  have hL : L = (l ++ [al, s]) ++ r := by
    have h1 : n < L.length := (List.getElem?_eq_some_iff.1 hal).1
    have h2 : L[n] = al := (List.getElem?_eq_some_iff.1 hal).2
    have h3 : n + 1 < L.length := (List.getElem?_eq_some_iff.1 hsg).1
    have h4 : L[n + 1] = s := (List.getElem?_eq_some_iff.1 hsg).2
    rw [← hl, ← hr, ← h2, ← h4]
    have e : L.drop n = [L[n], L[n + 1]] ++ L.drop (n + 2) := by
      rw [List.drop_eq_getElem_cons h1, List.drop_eq_getElem_cons h3]
      rfl
    rw [List.append_assoc, ← e, List.take_append_drop]
  rw [hl] at hB hA hT hq hLt
  rw [hr] at hT hQ
  subst hL
  clear hl hr hal hsg
  simp only [Region.lexB, Bool.and_eq_true] at hB
  have hsel := Region.noSelect_spec hB.1
  have hok := allocOk hA hd
  have hinv : Inv P l C aF l.length (Array.replicate l.length false) a := fun w0 hw0 => by
    obtain ⟨X, W, hX, hI⟩ := class_mk (fun w' => C w' ∧ Below w0.heap.size w0 w')
    have hne : Nonempty X := ⟨(hI w0 ⟨hw0, Below.refl _ _⟩).choose⟩
    have e : (fun w' => C w' ∧ Below w0.heap.size w0 w') = fun w' => ∃ x, w' = W x := by
      funext w'
      apply propext
      exact ⟨hI w', fun ⟨x, hx⟩ => hx ▸ hX x⟩
    rw [e]
    have h1 := hq X W hne (fun x => (hX x).1) (fun x w' hb => hI _ ⟨hC _ _ (hX x).1 hb, (hX x).2.trans (hb.mono (hX x).2.size)⟩)
    exact wpAnyQ_lex (md := .any) hB.1 l 0 (Array.replicate l.length false) a (by simp) (by simpa using hB.2) h1
  have h1 := late_start (P := P) (Q := QT P (l ++ [al, s]) r Q) (Z := fun g w => B ≤ g ∧ Blk w g t zs) (Z' := fun g w => B ≤ g ∧ Blk w g t vs) hok (lateOk hLt) (fun j o cs b ho => hsel j o cs b (by simpa using ho)) hrun
    (fun w hw => hC _ _ hw (Below.alloc (Below.refl _ _) (Nat.le_refl _) _)) (fun w hw => ⟨hs w hw, Blk.new _ _ _⟩)
    (fun g w w' hg hb => ⟨hg.1, hg.2.below hb⟩) (fun g w w' hg hb => ⟨hg.1, hg.2.below hb⟩)
    (fun g w hw hg => by obtain ⟨w2, h1, h2, h3⟩ := hst g w hg.1 hw hg.2; exact ⟨w2, h1, h2, hg.1, h3⟩)
    (fun g wx hw hg => QT_normal r (l ++ [al, s]) hT (hQ g wx hg.1 hw hg.2)) l.length (Array.replicate l.length false) a w.drew (by simp) hinv (hC _ _ h0 (Drew.below ⟨1, rfl⟩ _))
  have h2 := wpAny_tail r (l ++ [al, s]) (Q := Q) (l.length + 2) ((Array.replicate l.length false) ++ #[false, false]) a w.drew hT (by simp) h1
  refine wp_region_any hm ?_
  have e1 : (l ++ [al, s] ++ r).toArray.size = l.length + 2 + r.length := by simp; omega
  have e2 : (Array.replicate l.length false) ++ #[false, false] ++ Array.replicate r.length false = Array.replicate (l.length + 2 + r.length) false := by
    apply Array.ext'
    simp only [Array.toList_append, Array.toList_replicate]
    refine List.eq_replicate_iff.2 ⟨by simp; omega, fun b hb => ?_⟩
    simp at hb
    rcases hb with h | h | h
    · exact h.2
    · exact h
    · exact h.2
  rw [e1, ← e2]
  exact h2
end Go.Proofs.Qxb6500883aGreatDoor
