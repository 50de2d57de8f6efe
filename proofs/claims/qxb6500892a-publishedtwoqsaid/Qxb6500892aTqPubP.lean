/- PublishedTwoQ: the paper's algorithm over plain lists, and the plain law. -/
import Derived.Test.Qxb6500892aTqAbs
namespace Go.Proofs.Qxb6500892a
open Go.RowKit
set_option linter.unusedSimpArgs false
set_option linter.unusedVariables false

/-- reclaim, as the paper prints it: A1in, A1out, Am. -/
def recP (sl kin kout : Nat) (P : List Nat × List Nat × List Nat) : List Nat × List Nat × List Nat :=
  if P.1.length + P.2.2.length < sl then P
  else if kin < P.1.length then (P.1.dropLast, (if kout < P.2.1.length + 1 then (P.1.getLast?.getD 0 :: P.2.1).dropLast else P.1.getLast?.getD 0 :: P.2.1), P.2.2)
  else (P.1, P.2.1, P.2.2.dropLast)
/-- On accessing a page. -/
def accP (sl kin kout : Nat) (P : List Nat × List Nat × List Nat) (x : Nat) : List Nat × List Nat × List Nat :=
  if x ∈ P.2.2 then (P.1, P.2.1, x :: noK P.2.2 x)
  else if x ∈ P.2.1 then ((recP sl kin kout P).1, noK (recP sl kin kout P).2.1 x, x :: (recP sl kin kout P).2.2)
  else if x ∈ P.1 then P
  else (x :: (recP sl kin kout P).1, (recP sl kin kout P).2.1, (recP sl kin kout P).2.2)
def kys (V : List TEnt) : List Nat := V.map fun t => t.key.toNat
theorem kys_Vw (s : ES) (l : List Nat) : kys (Vw s l) = l.map s.key := by
  unfold kys Vw
  rw [List.map_map]
  refine List.map_congr_left fun j _ => ?_
  show (s.key j : Int).toNat = _
  simp
/-- The paper's lists, read off the engine. -/
def papOf (s : ES) (L : Nat → List Nat) : List Nat × List Nat × List Nat := ((L 1).map s.key, Gh s L, (L 2).map s.key)
structure PubI (s : ES) (L : Nat → List Nat) (Mp : List (Nat × Nat)) : Prop where
  pin : ∀ j, s.pin j = 0
  neg : ∀ j, j < s.slots → s.whr j ≠ 0 → s.neg j = false
  ki : s.kin < s.slots
  nd : (Mp.map (·.1)).Nodup
  mp : ∀ k i, (k, i) ∈ Mp ↔ i < s.slots ∧ s.whr i ≠ 0 ∧ s.key i = k
  us : ∀ i, i < s.slots → (s.whr i ≠ 0 ↔ i < Mp.length)
  ln : Mp.length = (L 1).length + (L 2).length
section
variable {s s' : ES} {L L' C C' : Nat → List Nat} {Mp : List (Nat × Nat)} {i x : Nat}
theorem EI.keyNodup (h : EI s L C) {p : Nat} (hp : p = 1 ∨ p = 2) : ((L p).map s.key).Nodup := by
  rw [List.Nodup, List.pairwise_map]
  refine List.Pairwise.imp_of_mem ?_ (h.nodup (p := p) (by omega))
  intro a b ha hb hab e
  have h1 := (h.q.dl p (by omega)).lt a ha
  have h2 := (h.q.dl p (by omega)).lt b hb
  have h3 := (h.q.dl p (by omega)).wh a ha
  have h4 := (h.q.dl p (by omega)).wh b hb
  exact hab (h.uq a b ⟨h1, by omega⟩ ⟨h2, by omega⟩ e)
theorem EI.inList (h : EI s L C) (hi : i < s.slots) (hw : s.whr i ≠ 0) : (s.whr i = 1 ∧ i ∈ L 1) ∨ (s.whr i = 2 ∧ i ∈ L 2) := by
  have h1 := h.slot i hi
  have h2 := h.q.mem i (by have := h.nn; omega) hw
  rcases (by omega : s.whr i = 1 ∨ s.whr i = 2) with e | e
  · rw [e] at h2; exact .inl ⟨e, h2⟩
  · rw [e] at h2; exact .inr ⟨e, h2⟩
theorem EI.keyMem (h : EI s L C) {p : Nat} (hp : p = 1 ∨ p = 2) {k : Nat} (hk : k ∈ (L p).map s.key) : ∃ j, j < s.slots ∧ s.whr j = p ∧ s.key j = k := by
  obtain ⟨j, hj, e⟩ := List.mem_map.1 hk
  have h1 := h.live_of hp hj
  exact ⟨j, h1.1, (h.q.dl p (by omega)).wh j hj, e⟩
theorem PubI.hasKey (hE : EI s L C) (hP : PubI s L Mp) {p : Nat} (hp : p = 1 ∨ p = 2) (hk : x ∈ (L p).map s.key) : ∃ i, (x, i) ∈ Mp := by
  obtain ⟨j, h1, h2, h3⟩ := hE.keyMem hp hk
  exact ⟨j, (hP.mp x j).2 ⟨h1, by omega, h3⟩⟩
theorem PubI.lt (hP : PubI s L Mp) : Mp.length ≤ s.slots := by
  rcases Nat.lt_or_ge s.slots Mp.length with h | h
  · exfalso
    have h0 : Mp.length = (Mp.map (·.2)).length := by simp
    have hnd : (Mp.map (·.2)).Nodup := by
      rw [List.Nodup, List.pairwise_map]
      have h1 := hP.nd
      rw [List.Nodup, List.pairwise_map] at h1
      refine List.Pairwise.imp_of_mem ?_ h1
      intro a b ha hb hab e
      have h2 := (hP.mp a.1 a.2).1 ha
      have h3 := (hP.mp b.1 b.2).1 hb
      rw [e] at h2
      exact hab (h2.2.2.symm.trans h3.2.2)
    have := nodup_len hnd (n := s.slots) (fun j hj => by
      obtain ⟨p, hp, e⟩ := List.mem_map.1 hj
      rw [← e]
      exact ((hP.mp p.1 p.2).1 hp).1)
    omega
  · exact h
/-- A hit. -/
theorem pub_hit (hE : EI s L C) (hP : PubI s L Mp) (hm : (x, i) ∈ Mp) (h : TouS i s L s' L') : PubI s' L' Mp ∧ papOf s' L' = accP s.slots s.kin s.kout (papOf s L) x := by
  obtain ⟨hi, hw, hk⟩ := (hP.mp x i).1 hm
  obtain ⟨a1, a2, a3⟩ := h.abs hE
  have sm := h.1
  have hcf := sm.cf
  refine ⟨⟨fun j => by rw [sm.pin]; exact hP.pin j, fun j hj hwj => by rw [sm.neg]; exact hP.neg j (by rw [← hcf.slots]; exact hj) (by rw [← sm.whr]; exact hwj), by rw [hcf.kin, hcf.slots]; exact hP.ki, hP.nd, fun k j => by rw [hcf.slots, sm.whr, sm.key]; exact hP.mp k j, fun j hj => by rw [sm.whr]; exact hP.us j (by rw [← hcf.slots]; exact hj), ?_⟩, ?_⟩
  · have h1 : (Vw s' (L' 1)).length = (Vw s (L 1)).length := by rw [a1]
    have h2 : (Vw s' (L' 2)).length = (Vw s (L 2)).length := by
      rw [a2]
      split
      · rename_i e
        have hin : i ∈ L 2 := by
          rcases hE.inList hi hw with ⟨e1, _⟩ | ⟨_, h5⟩
          · omega
          · exact h5
        rw [Vw_wout, List.length_cons]
        unfold Vw
        rw [List.length_map, List.length_map, ← erase_ne (hE.nodup (by omega)), List.length_erase_of_mem hin]
        have : 0 < (L 2).length := List.length_pos_of_mem hin
        omega
      · rfl
    unfold Vw at h1 h2
    simp only [List.length_map] at h1 h2
    have := hP.ln
    omega
  · have e1 := congrArg kys a1
    have e2 := congrArg kys a2
    rw [kys_Vw, kys_Vw] at e1
    rw [kys_Vw] at e2
    have hp : papOf s' L' = ((L' 1).map s'.key, Gh s' L', (L' 2).map s'.key) := rfl
    rw [hp, e1, e2, a3]
    unfold accP
    show _ = if x ∈ (L 2).map s.key then _ else _
    rcases hE.inList hi hw with ⟨e, hin⟩ | ⟨e, hin⟩
    · have hx2 : x ∉ (L 2).map s.key := fun hx => by
        obtain ⟨j, h1, h2, h3⟩ := hE.keyMem (.inr rfl) hx
        have := hE.uq j i ⟨by have := hE.nn; omega, by omega⟩ ⟨by have := hE.nn; omega, by omega⟩ (h3.trans hk.symm)
        subst this
        omega
      have hx3 : x ∉ (papOf s L).2.1 := by
        have := hE.liveGh hi (.inl e)
        rw [hk] at this
        exact this
      have hx1 : x ∈ (papOf s L).1 := List.mem_map.2 ⟨i, hin, hk⟩
      rw [if_neg hx2, if_neg hx3, if_pos hx1, if_neg (by omega), kys_Vw]
      rfl
    · have hx2 : x ∈ (L 2).map s.key := List.mem_map.2 ⟨i, hin, hk⟩
      rw [if_pos hx2, if_pos e]
      have e3 : kys (entOf s i :: wout (Vw s (L 2)) i) = x :: noK ((L 2).map s.key) x := by
        show (entOf s i).key.toNat :: kys (wout (Vw s (L 2)) i) = _
        rw [Vw_wout, kys_Vw, ← erase_ne (hE.nodup (by omega)), map_erase (hE.keyNodup (.inr rfl)) hin, hk]
        show (s.key i : Int).toNat :: _ = _
        rw [hk, Int.toNat_natCast]
      rw [e3]
      rfl
theorem PubI.notKey (hE : EI s L C) (hP : PubI s L Mp) (hx : ∀ i, (x, i) ∉ Mp) : x ∉ (L 1).map s.key ∧ x ∉ (L 2).map s.key := ⟨fun h => by obtain ⟨i, hi⟩ := hP.hasKey hE (.inl rfl) h; exact hx i hi, fun h => by obtain ⟨i, hi⟩ := hP.hasKey hE (.inr rfl) h; exact hx i hi⟩
theorem live_cons {V V' : List TEnt} {t : TEnt} (h : V' = t :: V) : V'.length = V.length + 1 := by rw [h]; rfl
/-- A miss, with a free slot. -/
theorem pub_ins {c : Nat} (hE : EI s L C) (hP : PubI s L Mp) (hx : ∀ i, (x, i) ∉ Mp) (hu : Mp.length < s.slots) (h : InsS (Mp.length : Int) x false s L c s' L') : c = 0 ∧ PubI s' L' (Mp ++ [(x, Mp.length)]) ∧ papOf s' L' = accP s.slots s.kin s.kout (papOf s L) x := by
  have hw0 : s.whr Mp.length = 0 := by
    rcases Nat.eq_zero_or_pos (s.whr Mp.length) with h1 | h1
    · exact h1
    · have := (hP.us Mp.length hu).1 (by omega)
      omega
  have hlc : liveC s (Mp.length : Int) = 1 := by rw [liveC_at hu, if_pos hw0]
  have hc : c = 0 := by
    cases h with
    | taken h => omega
    | bad h => omega
    | dup h j hj hw hk => exact absurd ((hP.mp x j).2 ⟨hj, by omega, hk⟩) (hx j)
    | fresh => rfl
    | back => rfl
  subst hc
  refine ⟨rfl, ?_⟩
  obtain ⟨i, hxi, hi, hwi, hcf, hG, hw1, hk1, hoth, hpin, hneg, hV⟩ := h.abs hE
  obtain rfl : i = Mp.length := by omega
  obtain ⟨hx1, hx2⟩ := hP.notKey hE hx
  have hlen : (L' 1).length + (L' 2).length = (L 1).length + (L 2).length + 1 := by
    rcases hV with ⟨_, _, v1, v2⟩ | ⟨_, v1, v2⟩
    · have h1 := congrArg List.length v1
      have h2 := live_cons v2
      unfold Vw at h1 h2
      simp only [List.length_map] at h1 h2
      omega
    · have h1 := live_cons v1
      have h2 := congrArg List.length v2
      unfold Vw at h1 h2
      simp only [List.length_map] at h1 h2
      omega
  refine ⟨⟨fun j => by rw [hpin, upd_ev]; split; rfl; exact hP.pin j, fun j hj hwj => ?_, by rw [hcf.kin, hcf.slots]; exact hP.ki, ?_, fun k j => ?_, fun j hj => ?_, ?_⟩, ?_⟩
  · rw [hneg, upd_ev]
    split
    · rfl
    · rename_i e
      have := (hoth j (by rw [← hcf.slots]; exact hj) e).1
      exact hP.neg j (by rw [← hcf.slots]; exact hj) (by rw [← this]; exact hwj)
  · rw [List.map_append, List.nodup_append]
    refine ⟨hP.nd, by simp, fun a ha b hb e => ?_⟩
    simp at hb
    obtain ⟨p, hp, hpe⟩ := List.mem_map.1 ha
    rw [e, hb] at hpe
    refine hx p.2 ?_
    rw [← hpe]
    exact hp
  · rw [List.mem_append, List.mem_singleton, hcf.slots]
    by_cases e : j = Mp.length
    · subst e
      constructor
      · rintro (h1 | h1)
        · have := (hP.mp k _).1 h1
          omega
        · cases h1
          exact ⟨hi, hw1, hk1⟩
      · rintro ⟨_, _, h3⟩
        right
        rw [← h3, hk1]
    · constructor
      · rintro (h1 | h1)
        · have h2 := (hP.mp k j).1 h1
          have h3 := hoth j h2.1 e
          exact ⟨h2.1, by rw [h3.1]; exact h2.2.1, by rw [h3.2]; exact h2.2.2⟩
        · cases h1
          exact absurd rfl e
      · rintro ⟨h1, h2, h3⟩
        have h4 := hoth j h1 e
        left
        exact (hP.mp k j).2 ⟨h1, by rw [← h4.1]; exact h2, by rw [← h4.2]; exact h3⟩
  · rw [List.length_append]
    show s'.whr j ≠ 0 ↔ j < Mp.length + 1
    by_cases e : j = Mp.length
    · subst e
      exact ⟨fun _ => by omega, fun _ => hw1⟩
    · have h4 := hoth j (by rw [← hcf.slots]; exact hj) e
      rw [h4.1, hP.us j (by rw [← hcf.slots]; exact hj)]
      omega
  · rw [List.length_append]
    show Mp.length + 1 = _
    have := hP.ln
    omega
  · have hrec : recP s.slots s.kin s.kout (papOf s L) = papOf s L := by
      unfold recP
      rw [if_pos]
      show ((L 1).map s.key).length + ((L 2).map s.key).length < s.slots
      rw [List.length_map, List.length_map]
      have := hP.ln
      omega
    have hp : papOf s' L' = (kys (Vw s' (L' 1)), Gh s' L', kys (Vw s' (L' 2))) := by rw [kys_Vw, kys_Vw]; rfl
    have hp0 : papOf s L = (kys (Vw s (L 1)), Gh s L, kys (Vw s (L 2))) := by rw [kys_Vw, kys_Vw]; rfl
    unfold accP
    rw [hrec, hp, hG]
    have ht : ∀ V, kys (⟨(Mp.length : Int), (x : Int), 0, false⟩ :: V) = x :: kys V := fun V => by
      show (x : Int).toNat :: _ = _
      simp
      rfl
    rw [if_neg (show x ∉ (papOf s L).2.2 from hx2)]
    rcases hV with ⟨hg, _, v1, v2⟩ | ⟨hg, v1, v2⟩
    · rw [if_pos (show x ∈ (papOf s L).2.1 from hg), v1, v2, ht, hp0]
    · have hg' : x ∉ Gh s L := fun h1 => hg ⟨h1, rfl⟩
      rw [if_neg (show x ∉ (papOf s L).2.1 from hg'), if_neg (show x ∉ (papOf s L).1 from hx1), v1, v2, ht, noK_absent hg', hp0]
theorem filter_one {α : Type} {f : α → Nat} : ∀ {l : List α}, (l.map f).Nodup → ∀ a ∈ l, (l.filter (fun p => decide (f p ≠ f a))).length + 1 = l.length
  | [], _, a, ha => by simp at ha
  | b :: l, h, a, ha => by
    rw [List.map_cons, List.nodup_cons] at h
    rw [List.filter_cons]
    rcases List.mem_cons.1 ha with rfl | h1
    · rw [if_neg (by simp)]
      have : l.filter (fun p => decide (f p ≠ f a)) = l := by
        rw [List.filter_eq_self]
        intro p hp
        exact decide_eq_true (fun e => h.1 (by rw [← e]; exact List.mem_map_of_mem hp))
      rw [this]
      rfl
    · have hba : decide (f b ≠ f a) = true := decide_eq_true (fun e => h.1 (by rw [e]; exact List.mem_map_of_mem h1))
      rw [if_pos hba]
      have := filter_one h.2 a h1
      simp only [List.length_cons]
      omega
theorem vicO_all (h : ∀ j, s.pin j = 0) (l : List Nat) : vicO s false l = l.getLast? := by
  unfold vicO
  rw [← List.head?_reverse]
  cases l.reverse with
  | nil => rfl
  | cons a r =>
    rw [List.find?_cons]
    have : vicP s false a = true := by unfold vicP; simp [h a]
    rw [this]
    rfl
/-- The victim of a full buffer. -/
theorem pub_victim (hE : EI s L C) (hP : PubI s L Mp) (hf : Mp.length = s.slots) : ∃ i, victimS s L = some i ∧ ((s.kin < (L 1).length ∧ (L 1).getLast? = some i) ∨ (¬ s.kin < (L 1).length ∧ (L 2).getLast? = some i)) := by
  have hln := hP.ln
  have hki := hP.ki
  have h1 : s.negs = 0 := by
    rw [hE.negs]
    have : (L 1).countP s.neg = 0 := by
      rw [List.countP_eq_zero]
      intro j hj
      have h2 := hE.live_of (.inl rfl) hj
      rw [hP.neg j h2.1 (by omega)]
      simp
    omega
  have h2 : s.pinned = 0 := by
    rw [hE.pinned]
    have : (L 1 ++ L 2).countP (fun i => decide (s.pin i ≠ 0)) = 0 := by
      rw [List.countP_eq_zero]
      intro j hj
      simp [hP.pin j]
    omega
  unfold victimS
  rw [if_neg (by rw [h2]; omega), if_neg (by rw [h1]; omega), vicO_all hP.pin, vicO_all hP.pin]
  by_cases hk : s.kin < (L 1).length
  · rw [if_pos hk]
    obtain ⟨i, hi⟩ : ∃ i, (L 1).getLast? = some i := by
      cases hL : (L 1).getLast? with
      | none => rw [List.getLast?_eq_none_iff] at hL; rw [hL] at hk; simp at hk
      | some i => exact ⟨i, rfl⟩
    exact ⟨i, by rw [hi]; rfl, .inl ⟨hk, hi⟩⟩
  · rw [if_neg hk]
    obtain ⟨i, hi⟩ : ∃ i, (L 2).getLast? = some i := by
      cases hL : (L 2).getLast? with
      | none => rw [List.getLast?_eq_none_iff] at hL; rw [hL] at hln; simp at hln; omega
      | some i => exact ⟨i, rfl⟩
    exact ⟨i, by rw [hi]; rfl, .inr ⟨hk, hi⟩⟩
theorem last_filter {l : List Nat} (hn : l.Nodup) (h : l.getLast? = some i) : (l.filter fun j => decide (j ≠ i)) = l.dropLast ∧ i ∈ l := by
  obtain ⟨A, rfl⟩ := List.getLast?_eq_some_iff.1 h
  rw [List.nodup_append] at hn
  have hiA : i ∉ A := fun hi => hn.2.2 i hi i (by simp) rfl
  refine ⟨?_, by simp⟩
  rw [List.filter_append, filter_absent hiA, List.dropLast_concat]
  simp
theorem trim_take {k : Nat} {y : Nat} {O : List Nat} (h : O.length ≤ k) : (if k < O.length + 1 then (y :: O).dropLast else y :: O) = (y :: O).take k := by
  by_cases h1 : k < O.length + 1
  · rw [if_pos h1, List.dropLast_eq_take]
    congr 1
    simp only [List.length_cons]
    omega
  · rw [if_neg h1, List.take_of_length_le (by simp only [List.length_cons]; omega)]
/-- A miss, with no free slot. -/
theorem pub_rep {c : Nat} (hE : EI s L C) (hE' : EI s' L' C') (hP : PubI s L Mp) (hx : ∀ i, (x, i) ∉ Mp) (hf : Mp.length = s.slots)
    (hv : (s.kin < (L 1).length ∧ (L 1).getLast? = some i) ∨ (¬ s.kin < (L 1).length ∧ (L 2).getLast? = some i)) (h : RepS (i : Int) x false s L c s' L') : c = 0 ∧ PubI s' L' (Mp.filter (fun p => decide (p.1 ≠ s.key i)) ++ [(x, i)]) ∧ papOf s' L' = accP s.slots s.kin s.kout (papOf s L) x := by
  have hlive : i < s.slots ∧ ((s.kin < (L 1).length ∧ s.whr i = 1 ∧ (L 1).getLast? = some i) ∨ (¬ s.kin < (L 1).length ∧ s.whr i = 2 ∧ (L 2).getLast? = some i)) := by
    rcases hv with ⟨h1, h2⟩ | ⟨h1, h2⟩
    · have h3 := (last_filter (hE.nodup (p := 1) (by omega)) h2).2
      exact ⟨(hE.live_of (.inl rfl) h3).1, .inl ⟨h1, (hE.q.dl 1 (by omega)).wh i h3, h2⟩⟩
    · have h3 := (last_filter (hE.nodup (p := 2) (by omega)) h2).2
      exact ⟨(hE.live_of (.inr rfl) h3).1, .inr ⟨h1, (hE.q.dl 2 (by omega)).wh i h3, h2⟩⟩
  obtain ⟨hi, hcase⟩ := hlive
  have hw : s.whr i = 1 ∨ s.whr i = 2 := by rcases hcase with h1 | h1 <;> omega
  have hc : c = 0 := by
    cases h with
    | busy _ h1 h2 =>
      exfalso
      apply h2
      rw [← h1]
      have hl0 : liveC s (i : Int) = 0 := by rw [liveC_at hi, if_neg (by omega)]
      unfold idleC
      rw [hl0, Int.toNat_natCast, hP.pin i, if_neg (by omega)]
    | dup i2 hx2 h2 j hj hji hw2 hk2 => exact absurd ((hP.mp x j).2 ⟨hj, by omega, hk2⟩) (hx j)
    | ok => rfl
  subst hc
  refine ⟨rfl, ?_⟩
  obtain ⟨i', hxi, hi', hw', hp0, hcf, hG, hw1, hk1, hoth, hpin, hneg, hV⟩ := h.abs hE hE'
  obtain rfl : i = i' := by omega
  obtain ⟨hx1, hx2⟩ := hP.notKey hE hx
  have hmi : (s.key i, i) ∈ Mp := (hP.mp _ _).2 ⟨hi, by omega, rfl⟩
  have hfl := filter_one (f := (·.1)) hP.nd (s.key i, i) hmi
  have hfl' : (Mp.filter (fun p => decide (p.1 ≠ s.key i))).length + 1 = Mp.length := hfl
  have hlen : (L' 1).length + (L' 2).length = (L 1).length + (L 2).length := by
    have w1 : (wout (Vw s (L 1)) i).length + (wout (Vw s (L 2)) i).length + 1 = (L 1).length + (L 2).length := by
      rw [Vw_wout, Vw_wout]
      unfold Vw
      rw [List.length_map, List.length_map, ← erase_ne (hE.nodup (by omega)), ← erase_ne (hE.nodup (by omega))]
      rcases hE.inList hi (by omega) with ⟨e, hin⟩ | ⟨e, hin⟩
      · rw [List.length_erase_of_mem hin, List.erase_of_not_mem (hE.notin (by omega) (by omega))]
        have := List.length_pos_of_mem hin
        omega
      · rw [List.length_erase_of_mem hin, List.erase_of_not_mem (hE.notin (p := 1) (by omega) (by omega))]
        have := List.length_pos_of_mem hin
        omega
    rcases hV with ⟨_, _, v1, v2⟩ | ⟨_, v1, v2⟩
    · have h1 := congrArg List.length v1
      have h2 := live_cons v2
      unfold Vw at h1 h2 w1
      simp only [List.length_map] at h1 h2
      omega
    · have h1 := live_cons v1
      have h2 := congrArg List.length v2
      unfold Vw at h1 h2 w1
      simp only [List.length_map] at h1 h2
      omega
  refine ⟨⟨fun j => by rw [hpin, upd_ev]; split; rfl; exact hP.pin j, fun j hj hwj => ?_, by rw [hcf.kin, hcf.slots]; exact hP.ki, ?_, fun k j => ?_, fun j hj => ?_, ?_⟩, ?_⟩
  · rw [hneg, upd_ev]
    split
    · rfl
    · rename_i e
      have := (hoth j (by rw [← hcf.slots]; exact hj) e).1
      exact hP.neg j (by rw [← hcf.slots]; exact hj) (by rw [← this]; exact hwj)
  · rw [List.map_append, List.nodup_append]
    refine ⟨List.Nodup.sublist (List.Sublist.map _ List.filter_sublist) hP.nd, by simp, fun a ha b hb e => ?_⟩
    simp at hb
    obtain ⟨p, hp, hpe⟩ := List.mem_map.1 ha
    rw [e, hb] at hpe
    refine hx p.2 ?_
    rw [← hpe]
    exact (List.mem_filter.1 hp).1
  · rw [List.mem_append, List.mem_singleton, hcf.slots, List.mem_filter]
    by_cases e : j = i
    · subst e
      constructor
      · rintro (⟨h1, h2⟩ | h1)
        · have h3 := (hP.mp k _).1 h1
          exact absurd h3.2.2.symm (by simpa using h2)
        · cases h1
          exact ⟨hi, hw1, hk1⟩
      · rintro ⟨_, _, h3⟩
        right
        rw [← h3, hk1]
    · constructor
      · rintro (⟨h1, _⟩ | h1)
        · have h2 := (hP.mp k j).1 h1
          have h3 := hoth j h2.1 e
          exact ⟨h2.1, by rw [h3.1]; exact h2.2.1, by rw [h3.2]; exact h2.2.2⟩
        · cases h1
          exact absurd rfl e
      · rintro ⟨h1, h2, h3⟩
        have h4 := hoth j h1 e
        rw [h4.1] at h2
        rw [h4.2] at h3
        left
        refine ⟨(hP.mp k j).2 ⟨h1, h2, h3⟩, decide_eq_true fun hk => e ?_⟩
        have hsl := hE.slot j h1
        exact hE.uq j i ⟨by have := hE.nn; omega, by omega⟩ ⟨by have := hE.nn; omega, by omega⟩ (h3.trans hk)
  · rw [List.length_append]
    show s'.whr j ≠ 0 ↔ j < (Mp.filter (fun p => decide (p.1 ≠ s.key i))).length + 1
    rw [hfl']
    by_cases e : j = i
    · subst e
      exact ⟨fun _ => by omega, fun _ => hw1⟩
    · have h4 := hoth j (by rw [← hcf.slots]; exact hj) e
      rw [h4.1, hP.us j (by rw [← hcf.slots]; exact hj)]
  · rw [List.length_append]
    show (Mp.filter (fun p => decide (p.1 ≠ s.key i))).length + 1 = _
    rw [hfl', hP.ln, hlen]
  · have hp : papOf s' L' = (kys (Vw s' (L' 1)), Gh s' L', kys (Vw s' (L' 2))) := by rw [kys_Vw, kys_Vw]; rfl
    have hrec : recP s.slots s.kin s.kout (papOf s L) = (kys (wout (Vw s (L 1)) i), gone s L i, kys (wout (Vw s (L 2)) i)) := by
      unfold recP
      have hfu : ¬ (papOf s L).1.length + (papOf s L).2.2.length < s.slots := by
        show ¬ ((L 1).map s.key).length + ((L 2).map s.key).length < s.slots
        rw [List.length_map, List.length_map]
        have := hP.ln
        omega
      have hl1 : (papOf s L).1.length = (L 1).length := by
        show ((L 1).map s.key).length = _
        rw [List.length_map]
      rw [if_neg hfu, Vw_wout, Vw_wout, kys_Vw, kys_Vw, hl1]
      rcases hcase with ⟨hk, hwi, hl⟩ | ⟨hk, hwi, hl⟩
      · rw [if_pos hk, (last_filter (hE.nodup (p := 1) (by omega)) hl).1, filter_absent (hE.notin (p := 2) (by omega) (by omega))]
        have hg : gone s L i = (s.key i :: Gh s L).take s.kout := by unfold gone; rw [if_pos ⟨hwi, hP.neg i hi (by omega)⟩]
        have hla : (papOf s L).1.getLast?.getD 0 = s.key i := by
          show ((L 1).map s.key).getLast?.getD 0 = _
          rw [List.getLast?_map, hl]
          rfl
        rw [hla, hg, ← trim_take hE.ghLen]
        show (((L 1).map s.key).dropLast, _, (L 2).map s.key) = _
        rw [← List.map_dropLast]
        rfl
      · rw [if_neg hk, (last_filter (hE.nodup (p := 2) (by omega)) hl).1, filter_absent (hE.notin (p := 1) (by omega) (by omega))]
        have hg : gone s L i = Gh s L := by unfold gone; rw [if_neg (by omega)]
        rw [hg]
        show ((L 1).map s.key, Gh s L, ((L 2).map s.key).dropLast) = _
        rw [← List.map_dropLast]
    have ht : ∀ V, kys (⟨(i : Int), (x : Int), 0, false⟩ :: V) = x :: kys V := fun V => by
      show (x : Int).toNat :: _ = _
      simp
      rfl
    unfold accP
    rw [hrec, hp, hG, if_neg (show x ∉ (papOf s L).2.2 from hx2)]
    rcases hV with ⟨hg, _, v1, v2⟩ | ⟨hg, v1, v2⟩
    · rw [if_pos (show x ∈ (papOf s L).2.1 from hg), v1, v2, ht]
    · have hg' : x ∉ Gh s L := fun h1 => hg ⟨h1, rfl⟩
      have hgo : x ∉ gone s L i := fun h1 => by
        unfold gone at h1
        split at h1
        · have h2 := List.mem_of_mem_take h1
          rcases List.mem_cons.1 h2 with h3 | h3
          · exact hx i (by rw [h3]; exact hmi)
          · exact hg' h3
        · exact hg' h1
      rw [if_neg (show x ∉ (papOf s L).2.1 from hg'), if_neg (show x ∉ (papOf s L).1 from hx1), v1, v2, ht, noK_absent hgo]
end
end Go.Proofs.Qxb6500892a
