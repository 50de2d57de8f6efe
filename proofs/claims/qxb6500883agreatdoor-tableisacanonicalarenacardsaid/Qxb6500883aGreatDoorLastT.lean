/- A region that draws: the last operation waits for all the others, for some of them through others. -/
import Derived.Test.Qxb6500883aGreatDoorLate
namespace Go.Proofs.Qxb6500883aGreatDoor
open Go.RowKit
set_option linter.unusedSimpArgs false
set_option linter.unusedVariables false
section
variable {P : Program} {l : List Oper} {s : Oper}

def Closed (l : List Oper) (listed : Array Bool) : Prop := ∀ (i : Nat) (o : Oper), l[i]? = some o → listed[i]?.getD false = true → ∀ e ∈ o.after, Region.binds .any e = true → listed[e.on]?.getD false = true
inductive Cov (l : List Oper) (s : Oper) : Nat → Prop
  | dir (e : Edge) (he : e ∈ s.after) (hb : Region.binds .any e = true) : Cov l s e.on
  | step (k : Nat) (o : Oper) (e : Edge) (hk : Cov l s k) (ho : l[k]? = some o) (he : e ∈ o.after) (hb : Region.binds .any e = true) : Cov l s e.on
theorem Cov.listed {listed : Array Bool} (hc : Closed l listed) (hs : ∀ e ∈ s.after, Region.binds .any e = true → listed[e.on]?.getD false = true) {i : Nat} (h : Cov l s i) : listed[i]?.getD false = true := by
  induction h with
  | dir e he hb => exact hs e he hb
  | step k o e _ ho he hb ih => exact hc k o ho ih e he hb
structure LastT (l : List Oper) (s : Oper) : Prop where
  deps : ∀ (i : Nat) (o : Oper), l[i]? = some o → ∀ e ∈ o.after, Region.binds .any e = true → e.on < i
  guards : ∀ (i : Nat) (o : Oper), l[i]? = some o → ∀ j b, o.guard = some (j, b) → j < i
  cov : ∀ i, i < l.length → Cov l s i
  own : ∀ e ∈ s.after, Region.binds .any e = true → e.on < l.length

theorem all_listedT (h : LastT l s) {listed : Array Bool} (hz : listed.size = l.length) (hr : Region.ready .any l.toArray listed = []) : ∀ i, i < l.length → listed[i]?.getD false = true := by
  intro i
  induction i using Nat.strongRecOn with
  | _ i ih =>
    intro hi
    have hlt : i < listed.size := by omega
    cases hb : listed[i] with
    | true => simp [hlt, hb]
    | false =>
      exfalso
      have : i ∈ Region.ready .any l.toArray listed := ready_mem.2 ⟨by simpa using hi, by simp [hlt, hb], l[i], by simp [hi], fun e he hbi => ih e.on (h.deps i l[i] (by simp [hi]) e he hbi) (by have := h.deps i l[i] (by simp [hi]) e he hbi; omega)⟩
      rw [hr] at this
      simp at this
theorem Closed.step (h : LastT l s) {listed : Array Bool} (hz : listed.size = l.length) (hc : Closed l listed) {i : Nat} (hi : i ∈ Region.ready .any l.toArray listed) : Closed l (listed.setIfInBounds i true) := by
  have mono : ∀ k, listed[k]?.getD false = true → (listed.setIfInBounds i true)[k]?.getD false = true := fun k hk => by
    rw [Array.getElem?_setIfInBounds]
    by_cases e : i = k
    · subst e
      have : i < listed.size := by
        rcases Nat.lt_or_ge i listed.size with h | h
        · exact h
        · rw [Array.getElem?_eq_none h] at hk; simp at hk
      simp [this]
    · simp [e]
      simpa using hk
  intro k o ho hk e he hb
  by_cases hik : i = k
  · subst hik
    obtain ⟨_, _, o', ho', hd⟩ := ready_mem.1 hi
    have : o' = o := by
      have h1 : l.toArray[i]? = some o := by simpa using ho
      rw [h1] at ho'
      exact (Option.some.inj ho').symm
    subst this
    exact mono _ (hd e he hb)
  · refine mono _ (hc k o ho ?_ e he hb)
    rw [Array.getElem?_setIfInBounds, if_neg hik] at hk
    exact hk

theorem wpAny_lastT (h : LastT l s) {Q : Exit → Act → World → Prop} : ∀ (fuel : Nat) (listed : Array Bool) (a : Act) (w : World), listed.size = l.length → Closed l listed →
    wpAny P .any l.toArray (QL P l s Q) fuel listed a w → wpAny P .any (l ++ [s]).toArray Q (fuel + 1) (listed ++ #[false]) a w := by
  have gets : (l ++ [s]).toArray[l.length]? = some s := by simp
  have ready1 : ∀ {listed : Array Bool}, listed.size = l.length → Closed l listed → l.length ∈ Region.ready .any (l ++ [s]).toArray (listed ++ #[false]) → Region.ready .any l.toArray listed = [] := fun {listed} hz hc hm => by
    obtain ⟨_, _, o, ho, hd⟩ := ready_mem.1 hm
    rw [gets] at ho
    obtain rfl := Option.some.inj ho
    refine ready_none (fun i hi => ?_)
    have := (h.cov i hi).listed hc (fun e he hb => by have := hd e he hb; rwa [app_get hz (h.own e he hb)] at this)
    have hlt : i < listed.size := by omega
    simp [hlt] at this ⊢
    exact this
  have ready2 : ∀ {listed : Array Bool}, listed.size = l.length → Region.ready .any l.toArray listed = [] → l.length ∈ Region.ready .any (l ++ [s]).toArray (listed ++ #[false]) := fun {listed} hz hr =>
    ready_mem.2 ⟨by simp, by rw [Array.getElem?_append_right (by omega)]; simp [hz], s, gets, fun e he hb => by rw [app_get hz (h.own e he hb)]; exact all_listedT h hz hr e.on (h.own e he hb)⟩
  have oth : ∀ {listed : Array Bool} {b : Bool} {i : Nat}, i ∈ Region.ready .any (l ++ [s]).toArray (listed ++ #[b]) → i < l.length ∨ i = l.length := fun hi => by
    have := (ready_mem.1 hi).1
    simp at this
    omega
  have fin : ∀ (fuel : Nat) (listed : Array Bool) (a : Act) (w : World), listed.size = l.length → Region.ready .any l.toArray listed = [] → QL P l s Q .normal a w →
      wpOp P (l ++ [s]).toArray Q l.length (wpAny P .any (l ++ [s]).toArray Q fuel ((listed ++ #[false]).setIfInBounds l.length true)) a w := by
    intro fuel listed a w hz hr hq
    have hset : (listed ++ #[false]).setIfInBounds l.length true = listed ++ #[true] := by
      rw [← hz, Array.setIfInBounds_append_right (by omega)]
      simp
    rw [hset]
    refine wpOp_mono (fun a w hk => ?_) hq
    have he : Region.ready .any (l ++ [s]).toArray (listed ++ #[true]) = [] := by
      apply List.eq_nil_iff_forall_not_mem.2
      intro i hi
      rcases oth hi with hlt | rfl
      · rw [ready_app h.deps hz _ hlt, hr] at hi
        simp at hi
      · have := (ready_mem.1 hi).2.1
        rw [Array.getElem?_append_right (by omega)] at this
        simp [hz] at this
    cases fuel with
    | zero => exact ⟨he, hk⟩
    | succ f => exact ⟨fun _ => hk, fun i hi => by rw [he] at hi; simp at hi⟩
  intro fuel
  induction fuel with
  | zero =>
    intro listed a w hz hc hh
    have hn := ready2 hz hh.1
    refine ⟨fun h0 => ?_, fun i hi => ?_⟩
    · rw [h0] at hn
      simp at hn
    · rcases oth hi with hlt | rfl
      · rw [ready_app h.deps hz _ hlt, hh.1] at hi
        simp at hi
      · exact fin 0 listed a w hz hh.1 hh.2
  | succ fuel ih =>
    intro listed a w hz hc hh
    refine ⟨fun h0 => ?_, fun i hi => ?_⟩
    · exfalso
      cases hr : Region.ready .any l.toArray listed with
      | nil =>
        have hn := ready2 hz hr
        rw [h0] at hn
        simp at hn
      | cons i r =>
        have hm : i ∈ Region.ready .any l.toArray listed := by rw [hr]; simp
        have hlt : i < l.length := by simpa using (ready_mem.1 hm).1
        have := (ready_app (t := [s]) h.deps hz #[false] hlt).2 hm
        rw [h0] at this
        simp at this
    · rcases oth hi with hlt | rfl
      · have hm := (ready_app h.deps hz _ hlt).1 hi
        have hw := hh.2 i hm
        obtain ⟨o, ho⟩ : ∃ o, l[i]? = some o := ⟨l[i], by simp [hlt]⟩
        rw [set_app hz hlt]
        have hw2 := wpOp_app (t := [s]) h.guards hlt hw
        unfold wpOp at hw2 ⊢
        have ho2 : (l ++ [s]).toArray[i]? = some o := by simp [List.getElem?_append_left hlt, ho]
        simp only [ho2] at hw2 ⊢
        split at hw2
        · rename_i hwt
          rw [if_pos hwt]
          rcases hw2 with hw | ⟨h2, a', w', h3⟩
          · exact .inl (ql_mono (fun a w hk => ih _ a w (by simpa using hz) (hc.step h hz hm) hk) hw)
          · exact .inr ⟨h2, a', w', h3⟩
        · rename_i hwt
          rw [if_neg hwt]
          exact ih _ _ w (by simpa using hz) (hc.step h hz hm) hw2
      · exact fin (fuel + 1) listed a w hz (ready1 hz hc hi) (hh.1 (ready1 hz hc hi))

def depsL (o : Oper) : List Nat := (o.after.toList.filter fun e => Region.binds .any e).map (·.on)
def covL (l : List Oper) (s : Oper) : List Nat := (List.range l.length).reverse.foldl (fun S k => if S.contains k then S ++ ((l[k]?).map depsL).getD [] else S) (depsL s)
def lastTB (l : List Oper) (s : Oper) : Bool :=
  (l.zipIdx.all fun oi => oi.1.after.all (fun e => !Region.binds .any e || decide (e.on < oi.2)) && (match oi.1.guard with | none => true | some (j, _) => decide (j < oi.2))) &&
  (List.range l.length).all (fun i => (covL l s).contains i) && s.after.all (fun e => !Region.binds .any e || decide (e.on < l.length))
theorem mem_depsL {o : Oper} {i : Nat} (h : i ∈ depsL o) : ∃ e ∈ o.after, Region.binds .any e = true ∧ e.on = i := by
  unfold depsL at h
  obtain ⟨e, he, rfl⟩ := List.mem_map.1 h
  obtain ⟨h1, h2⟩ := List.mem_filter.1 he
  exact ⟨e, by simpa using h1, h2, rfl⟩
theorem covL_cov : ∀ i ∈ covL l s, Cov l s i := by
  unfold covL
  have key : ∀ (ks S : List Nat), (∀ i ∈ S, Cov l s i) → ∀ i ∈ ks.foldl (fun S k => if S.contains k then S ++ ((l[k]?).map depsL).getD [] else S) S, Cov l s i := by
    intro ks
    induction ks with
    | nil => intro S hS; exact hS
    | cons k ks ih =>
      intro S hS
      rw [List.foldl_cons]
      apply ih
      intro i hi
      split at hi
      · rename_i hk
        rcases List.mem_append.1 hi with h | h
        · exact hS i h
        · cases ho : l[k]? with
          | none => rw [ho] at h; simp at h
          | some o =>
            rw [ho] at h
            obtain ⟨e, he, hb, rfl⟩ := mem_depsL (show i ∈ depsL o by simpa using h)
            exact .step k o e (hS k (by simpa using hk)) ho he hb
      · exact hS i hi
  exact key _ _ (fun i hi => by obtain ⟨e, he, hb, rfl⟩ := mem_depsL hi; exact .dir e he hb)
theorem lastT (h : lastTB l s = true) : LastT l s := by
  simp only [lastTB, Bool.and_eq_true, List.all_eq_true, Array.all_eq_true, decide_eq_true_eq, List.mem_range, Bool.or_eq_true, Bool.not_eq_true'] at h
  obtain ⟨⟨h1, h2⟩, h3⟩ := h
  have hz : ∀ (i : Nat) (o : Oper), l[i]? = some o → (o, i) ∈ l.zipIdx := fun i o ho => by
    rw [List.mem_zipIdx_iff_getElem?]
    exact ho
  refine ⟨fun i o ho e he hbi => ?_, fun i o ho j b hg => ?_, fun i hi => covL_cov i (by simpa using h2 i hi), fun e he hbi => ?_⟩
  · obtain ⟨k, hk, rfl⟩ := Array.mem_iff_getElem.1 he
    exact ((h1 _ (hz i o ho)).1 k hk).resolve_left (by rw [hbi]; simp)
  · have := (h1 _ (hz i o ho)).2
    rw [hg] at this
    simpa using this
  · obtain ⟨k, hk, rfl⟩ := Array.mem_iff_getElem.1 he
    exact (h3 k hk).resolve_left (by rw [hbi]; simp)

/-- As wp_region_class_last, the last operation waiting for some of the others through others. -/
theorem wp_region_class_lastT {X : Type} (W : X → World) {id : Nat} {Q : Exit → Act → World → Prop} {a : Act} {w : World} {L : List Oper} {s : Oper} (hs : L.getLast? = some s) (hm : P.follows .mixedOrders = true)
    (hB : Region.lexB .any L.dropLast.toArray = true) (hL : lastTB L.dropLast s = true) (h0 : ∃ x, w.drew = W x)
    (h : wpQuiet P L.dropLast.toArray (fun w' => ∃ x, w' = W x) (fun a' => ∀ x, wpList P L.toArray Q [s] a' (W x)) L.dropLast a) : (Code.region id L.toArray true).wp P Q a w := by
  have hl : L = L.dropLast ++ [s] := by
    obtain ⟨x, rfl⟩ := List.getLast?_eq_some_iff.1 hs
    simp
  obtain ⟨l, hl'⟩ : ∃ l, L.dropLast = l := ⟨_, rfl⟩
  rw [hl'] at hl hB hL h
  subst hl
  simp only [Region.lexB, Bool.and_eq_true] at hB
  have h1 := wpAnyQ_lex (C := fun w' => ∃ x, w' = W x) (md := .any) hB.1 l 0 (Array.replicate l.length false) a (by simp) (by simpa using hB.2) (by simpa using h)
  have h2 := wpAny_of_quiet (Q' := QL P l s Q) (fun a' w' ⟨x, hx⟩ hq => by
    subst hx
    have := hq x
    simp only [wpList] at this
    simp only [QL, wpOp]
    have e : (l ++ [s]).toArray[l.length]? = some s := by simp
    rw [e]
    exact this) l.length (Array.replicate l.length false) a w.drew h0 h1
  have h3 := wpAny_lastT (lastT hL) l.length (Array.replicate l.length false) a w.drew (by simp) (fun i o ho hi => by
    exfalso
    rw [Array.getElem?_replicate] at hi
    split at hi <;> simp at hi) h2
  refine wp_region_any hm ?_
  have e1 : (l ++ [s]).toArray.size = l.length + 1 := by simp
  have e2 : Array.replicate (l.length + 1) false = (Array.replicate l.length false) ++ #[false] := by rw [Array.replicate_succ]; simp
  rw [e1, e2]
  exact h3

def tailTB : List Oper → List Oper → Bool
  | _, [] => true
  | l, s :: t => lastTB l s && s.guard.isNone && tailTB (l ++ [s]) t
theorem QT_normalT : ∀ (t l : List Oper) {Q : Exit → Act → World → Prop} {a : Act} {w : World}, tailTB l t = true → wpList P (l ++ t).toArray Q t a w → QT P l t Q .normal a w
  | [], _, _, _, _, _, h => h
  | s :: t, l, Q, a, w, hB, h => by
    simp only [tailTB, Bool.and_eq_true, Option.isNone_iff_eq_none] at hB
    obtain ⟨⟨h1, hg⟩, h2⟩ := hB
    have hw : ∀ f, Region.wanted s f = true := fun f => by simp [Region.wanted, hg]
    simp only [wpList, hw, if_true] at h
    have e : (l ++ [s]).toArray[l.length]? = some s := by simp
    simp only [QT, QL, wpOp]
    rw [e]
    simp only [hw, if_true]
    rcases h with h | ⟨h3, a', w', h4⟩
    · refine .inl (wp_mono2 (fun e a w he hq => (QT_exit t (l ++ [s]) Q e a w he).2 hq) (fun a w hk => ?_) h)
      exact QT_normalT t (l ++ [s]) h2 (by simpa using hk)
    · exact .inr ⟨h3, a', w', (QT_exit t (l ++ [s]) Q _ a' w' (by simp)).2 h4⟩
theorem closed_false (l : List Oper) (n : Nat) : Closed l (Array.replicate n false) := fun i o ho hi => by
  exfalso
  rw [Array.getElem?_replicate] at hi
  split at hi <;> simp at hi
theorem wpAny_tailT : ∀ (t l : List Oper) {Q : Exit → Act → World → Prop} (fuel : Nat) (a : Act) (w : World), tailTB l t = true →
    wpAny P .any l.toArray (QT P l t Q) fuel (Array.replicate l.length false) a w → wpAny P .any (l ++ t).toArray Q (fuel + t.length) (Array.replicate (l.length + t.length) false) a w
  | [], l, Q, fuel, a, w, _, h => by simpa [QT] using h
  | s :: t, l, Q, fuel, a, w, hB, h => by
    simp only [tailTB, Bool.and_eq_true] at hB
    have h1 := wpAny_lastT (lastT hB.1.1) fuel (Array.replicate l.length false) a w (by simp) (closed_false _ _) h
    have e0 : Array.replicate l.length false ++ #[false] = Array.replicate (l ++ [s]).length false := by
      rw [List.length_append, List.length_singleton, Array.replicate_succ]
      simp
    rw [e0] at h1
    have h2 := wpAny_tailT t (l ++ [s]) (Q := Q) (fuel + 1) a w hB.2 h1
    have e1 : l ++ [s] ++ t = l ++ s :: t := by simp
    have e2 : (l ++ [s]).length + t.length = l.length + (s :: t).length := by simp; omega
    have e3 : fuel + 1 + t.length = fuel + (s :: t).length := by simp; omega
    rw [e1, e2, e3] at h2
    exact h2
/-- n quiet operations over a class of worlds, then a tail, each waiting for all ahead of it, for some through others. -/
theorem wp_region_class_tailT {X : Type} (W : X → World) (n : Nat) {id : Nat} {Q : Exit → Act → World → Prop} {a : Act} {w : World} {L : List Oper} (hm : P.follows .mixedOrders = true)
    (hB : Region.lexB .any (L.take n).toArray = true) (hT : tailTB (L.take n) (L.drop n) = true) (h0 : ∃ x, w.drew = W x)
    (h : wpQuiet P (L.take n).toArray (fun w' => ∃ x, w' = W x) (fun a' => ∀ x, wpList P L.toArray Q (L.drop n) a' (W x)) (L.take n) a) : (Code.region id L.toArray true).wp P Q a w := by
  obtain ⟨l, hl⟩ : ∃ l, L.take n = l := ⟨_, rfl⟩
  obtain ⟨r, hr⟩ : ∃ r, L.drop n = r := ⟨_, rfl⟩
  have hL : L = l ++ r := by rw [← hl, ← hr, List.take_append_drop]
  rw [hl] at hB hT h
  rw [hr] at hT h
  subst hL
  clear hl hr
  simp only [Region.lexB, Bool.and_eq_true] at hB
  have h1 := wpAnyQ_lex (C := fun w' => ∃ x, w' = W x) (md := .any) hB.1 l 0 (Array.replicate l.length false) a (by simp) (by simpa using hB.2) (by simpa using h)
  have h2 := wpAny_of_quiet (Q' := QT P l r Q) (fun a' w' ⟨x, hx⟩ hq => by
    subst hx
    exact QT_normalT r l hT (hq x)) l.length (Array.replicate l.length false) a w.drew h0 h1
  have h3 := wpAny_tailT r l l.length a w.drew hT h2
  refine wp_region_any hm ?_
  have e1 : (l ++ r).toArray.size = l.length + r.length := by simp
  rw [e1]
  exact h3
end
end Go.Proofs.Qxb6500883aGreatDoor
