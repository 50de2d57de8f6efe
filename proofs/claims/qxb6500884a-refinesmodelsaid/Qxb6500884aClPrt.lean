/- The partition under way: the plain step and its law. No Go here. -/
import Derived.Test.Qxb6500884aClBit
import Derived.Test.Qxb6500884aClUni
namespace Go.Proofs.Qxb6500884a
set_option linter.unusedSimpArgs false
set_option linter.unusedVariables false

theorem MInv.self {l : List (Int × Int)} (h : Nrm l) (hn : l ≠ []) : MInv l l := ⟨h, fun _ => rfl, fun ms ab e => ⟨ab, by rw [e]; simp, rfl⟩, Nat.le_refl _, hn⟩
theorem mnext_ok {l : List (Int × Int)} {r : Int × Int} (h : Nrm l) (hr : 0 ≤ r.1 ∧ r.1 ≤ r.2 ∧ r.2 ≤ 196607) (hl : ∀ p ∈ l, p.2 < r.1) :
    Nrm (mnext l r) ∧ (∀ x, memB (mnext l r) x = (memB l x || (decide (r.1 ≤ x) && decide (x ≤ r.2)))) ∧ mnext l r ≠ [] ∧ (∀ p, l.head? = some p → ∃ q, (mnext l r).head? = some q ∧ q.1 = p.1) ∧ (l = [] → (mnext l r).head? = some r) ∧ (mnext l r).length ≤ l.length + 1 := by
  rcases List.eq_nil_or_concat l with h1 | ⟨ms, ab, h1⟩
  · subst h1
    rw [mnext_nil]
    exact ⟨(MInv.one hr).nrm, fun x => by rw [memB_one]; rfl, by simp, fun p hp => by simp at hp, fun _ => rfl, by simp⟩
  · rw [List.concat_eq_append] at h1
    subst h1
    rw [mnext_snoc]
    have hm := (MInv.self h (by simp)).step hr (fun p hp => by have := h.rng p hp; have := hl p hp; omega)
    refine ⟨hm.nrm, fun x => by rw [hm.mem, memB_append, memB_one], hm.ne, fun p hp => ?_, fun e => by simp at e, by have := hm.len; simpa using this⟩
    unfold mstep
    split
    · cases ms with
      | nil =>
        simp at hp
        subst hp
        exact ⟨_, rfl, rfl⟩
      | cons m ms =>
        simp at hp
        subst hp
        exact ⟨m, rfl, rfl⟩
    · cases ms with
      | nil =>
        simp at hp
        subst hp
        exact ⟨ab, rfl, rfl⟩
      | cons m ms =>
        simp at hp
        subst hp
        exact ⟨m, rfl, rfl⟩
structure PSt where
  pats : List (List UInt8)
  lists : List (List (Int × Int))
  starts : List Int
  owner : List Int
def clSeen (P : PSt) (s : List UInt8) : PSt := if s ∈ P.pats then P else { P with pats := P.pats ++ [s], lists := P.lists ++ [[]] }
def clPut (P : PSt) (b : Nat) (r : Int × Int) : PSt := { P with lists := P.lists.set b (mnext (P.lists.getD b []) r) }
def clOwn (P : PSt) (b : Nat) (st : Int) : PSt := if P.owner.getLast? = some (b : Int) then P else { P with starts := P.starts ++ [st], owner := P.owner ++ [(b : Int)] }
def closeS (P : PSt) (s : List UInt8) (st en : Int) : PSt := clOwn (clPut (clSeen P s) (P.pats.idxOf s) (st, en)) (P.pats.idxOf s) st
/-- All below st is dealt with. -/
structure PI (pt : Int → List UInt8) (P : PSt) (st : Int) : Prop where
  nodup : P.pats.Nodup
  len : P.pats.length = P.lists.length
  all : ∀ x, 0 ≤ x → x < st → pt x ∈ P.pats
  cls : ∀ (b : Nat) (s : List UInt8) (l : List (Int × Int)), P.pats[b]? = some s → P.lists[b]? = some l → Nrm l ∧ l ≠ [] ∧ ∀ x, memB l x = (decide (0 ≤ x) && decide (x < st) && decide (pt x = s))
  asc : ∀ (b c : Nat) (l l' : List (Int × Int)) (p q : Int × Int), b < c → P.lists[b]? = some l → P.lists[c]? = some l' → l.head? = some p → l'.head? = some q → p.1 < q.1
  olen : P.starts.length = P.owner.length
  sasc : ∀ (i j : Nat) (x y : Int), i < j → P.starts[i]? = some x → P.starts[j]? = some y → x < y
  srng : ∀ x ∈ P.starts, 0 ≤ x ∧ x < st
  s0 : 0 < st → P.starts[0]? = some 0
  own : ∀ (i : Nat) (x o : Int), P.starts[i]? = some x → P.owner[i]? = some o → ∃ b : Nat, o = (b : Int) ∧ b < P.pats.length ∧ ∀ y, x ≤ y → y < st → (∀ x', P.starts[i + 1]? = some x' → y < x') → P.pats[b]? = some (pt y)
theorem PI.zero (pt : Int → List UInt8) : PI pt ⟨[], [], [], []⟩ 0 :=
  ⟨List.nodup_nil, rfl, fun x h1 h2 => by omega, fun b s l h => by simp at h, fun b c l l' p q _ h => by simp at h, rfl, fun i j x y _ h => by simp at h, fun x h => by simp at h, fun h => by omega, fun i x o h => by simp at h⟩
theorem PI.mem_lt {pt : Int → List UInt8} {P : PSt} {st : Int} (h : PI pt P st) {b : Nat} {s : List UInt8} {l : List (Int × Int)} (hs : P.pats[b]? = some s) (hl : P.lists[b]? = some l) : ∀ p ∈ l, p.2 < st := fun p hp => by
  obtain ⟨h1, _, h3⟩ := h.cls b s l hs hl
  have hr := h1.rng p hp
  have h4 : memB l p.2 = true := memB_iff.2 ⟨p, hp, hr.2.1, Int.le_refl _⟩
  rw [h3] at h4
  simp at h4
  exact h4.1.2
/-- The classes: one more run. -/
theorem PI.put {pt : Int → List UInt8} {P : PSt} {s : List UInt8} {st en : Int} (h : PI pt P st) (h0 : 0 ≤ st) (h1 : st ≤ en) (h2 : en ≤ 196607) (hpt : ∀ x, st ≤ x → x ≤ en → pt x = s) :
    let P' := clPut (clSeen P s) (P.pats.idxOf s) (st, en)
    P'.pats.Nodup ∧ P'.pats.length = P'.lists.length ∧ (∀ x, 0 ≤ x → x < en + 1 → pt x ∈ P'.pats) ∧
    (∀ (b : Nat) (s : List UInt8) (l : List (Int × Int)), P'.pats[b]? = some s → P'.lists[b]? = some l → Nrm l ∧ l ≠ [] ∧ ∀ x, memB l x = (decide (0 ≤ x) && decide (x < en + 1) && decide (pt x = s))) ∧
    (∀ (b c : Nat) (l l' : List (Int × Int)) (p q : Int × Int), b < c → P'.lists[b]? = some l → P'.lists[c]? = some l' → l.head? = some p → l'.head? = some q → p.1 < q.1) ∧
    P'.pats[P.pats.idxOf s]? = some s ∧ (∀ (b : Nat) (t : List UInt8), P.pats[b]? = some t → P'.pats[b]? = some t) ∧ P.pats.length ≤ P'.pats.length ∧ P'.starts = P.starts ∧ P'.owner = P.owner := by
  have hlen := h.len
  have other : ∀ (t : List UInt8) (l : List (Int × Int)), t ≠ s → (∀ x, memB l x = (decide (0 ≤ x) && decide (x < st) && decide (pt x = t))) → ∀ x, memB l x = (decide (0 ≤ x) && decide (x < en + 1) && decide (pt x = t)) := fun t l ht hm x => by
    rw [hm x]
    by_cases hx : x < st
    · rw [decide_eq_true hx, decide_eq_true (show x < en + 1 by omega)]
    · rw [decide_eq_false hx]
      by_cases hx2 : x ≤ en
      · rw [hpt x (by omega) hx2, decide_eq_false (show ¬ s = t from fun e => ht e.symm)]
        simp
      · rw [decide_eq_false (show ¬ x < en + 1 by omega)]
  by_cases hs : s ∈ P.pats
  · have hS : clSeen P s = P := if_pos hs
    have hb := List.idxOf_lt_length_iff.2 hs
    generalize hbe : P.pats.idxOf s = b at *
    have hpb : P.pats[b]? = some s := by rw [List.getElem?_eq_getElem hb, ← (show P.pats[b] = s by subst hbe; exact List.getElem_idxOf hb)]
    have hlb : P.lists[b]? = some (P.lists.getD b []) := by rw [List.getD_eq_getElem?_getD, List.getElem?_eq_getElem (by omega)]; rfl
    obtain ⟨c1, c2, c3⟩ := h.cls b s _ hpb hlb
    have hlt := h.mem_lt hpb hlb
    generalize hL : P.lists.getD b [] = L at *
    obtain ⟨m1, m2, m3, m4, _, _⟩ := mnext_ok (r := (st, en)) c1 ⟨h0, h1, h2⟩ hlt
    simp only [hS, clPut, hL]
    have getL : ∀ (c : Nat) (l : List (Int × Int)), (P.lists.set b (mnext L (st, en)))[c]? = some l → (c = b ∧ l = mnext L (st, en)) ∨ (c ≠ b ∧ P.lists[c]? = some l) := fun c l hc => by
      by_cases hcb : c = b
      · subst hcb
        rw [List.getElem?_set_self (by omega)] at hc
        exact .inl ⟨rfl, (Option.some.inj hc).symm⟩
      · rw [List.getElem?_set_ne (fun e => hcb e.symm)] at hc
        exact .inr ⟨hcb, hc⟩
    refine ⟨h.nodup, by simpa using hlen, fun x hx0 hx1 => ?_, fun c t l hc hl => ?_, fun c d l l' p q hcd hl hl' hp hq => ?_, hpb, fun _ _ h => h, Nat.le_refl _, trivial, trivial⟩
    · by_cases hx : x < st
      · exact h.all x hx0 hx
      · rw [hpt x (by omega) (by omega)]
        exact hs
    · rcases getL c l hl with ⟨rfl, rfl⟩ | ⟨hne, hl2⟩
      · rw [hpb] at hc
        cases hc
        refine ⟨m1, m3, fun x => ?_⟩
        rw [m2 x, c3 x]
        by_cases hx : x < st
        · rw [decide_eq_true hx, decide_eq_true (show x < en + 1 by omega), decide_eq_false (show ¬ (st, en).1 ≤ x by show ¬ st ≤ x; omega)]
          simp
        · rw [decide_eq_false hx, decide_eq_true (show (st, en).1 ≤ x by show st ≤ x; omega)]
          by_cases hx2 : x ≤ en
          · rw [hpt x (by omega) hx2, decide_eq_true (show x ≤ (st, en).2 from hx2), decide_eq_true (show 0 ≤ x by omega), decide_eq_true (show x < en + 1 by omega)]
            simp
          · rw [decide_eq_false (show ¬ x ≤ (st, en).2 from hx2), decide_eq_false (show ¬ x < en + 1 by omega)]
            simp
      · obtain ⟨d1, d2, d3⟩ := h.cls c t l hc hl2
        refine ⟨d1, d2, other t l (fun e => ?_) d3⟩
        subst e
        exact hne ((List.getElem?_inj (List.getElem?_eq_some_iff.1 hc).1 h.nodup).1 (hc.trans hpb.symm))
    · rcases getL c l hl with ⟨rfl, rfl⟩ | ⟨hne, hl2⟩
      · rcases getL d l' hl' with ⟨rfl, rfl⟩ | ⟨hne', hl2'⟩
        · omega
        · obtain ⟨p0, hp0⟩ : ∃ p0, L.head? = some p0 := by
            cases L with
            | nil => exact absurd rfl c2
            | cons a t => exact ⟨a, rfl⟩
          obtain ⟨q0, hq0, he⟩ := m4 p0 hp0
          rw [hp] at hq0
          cases hq0
          rw [he]
          exact h.asc c d L l' p0 q hcd hlb hl2' hp0 hq
      · rcases getL d l' hl' with ⟨rfl, rfl⟩ | ⟨hne', hl2'⟩
        · obtain ⟨p0, hp0⟩ : ∃ p0, L.head? = some p0 := by
            cases L with
            | nil => exact absurd rfl c2
            | cons a t => exact ⟨a, rfl⟩
          obtain ⟨q0, hq0, he⟩ := m4 p0 hp0
          rw [hq] at hq0
          cases hq0
          rw [he]
          exact h.asc c d l L p p0 hcd hl2 hlb hp hp0
        · exact h.asc c d l l' p q hcd hl2 hl2' hp hq
  · have hS : clSeen P s = { P with pats := P.pats ++ [s], lists := P.lists ++ [[]] } := if_neg hs
    have hbe : P.pats.idxOf s = P.pats.length := List.idxOf_eq_length hs
    rw [hbe]
    obtain ⟨m1, m2, m3, _, m5, _⟩ := mnext_ok (l := []) (r := (st, en)) ⟨fun p hp => by simp at hp, fun i p q hp => by simp at hp⟩ ⟨h0, h1, h2⟩ (fun p hp => by simp at hp)
    have hL : (P.lists ++ [[]]).getD P.pats.length [] = [] := by rw [hlen, List.getD_eq_getElem?_getD]; simp
    simp only [hS, clPut, hL]
    have e1 : (P.lists ++ [[]]).set P.pats.length (mnext [] (st, en)) = P.lists ++ [mnext [] (st, en)] := by rw [hlen, List.set_append_right _ _ (Nat.le_refl _)]; simp
    rw [e1]
    have getP : ∀ (c : Nat) (t : List UInt8), (P.pats ++ [s])[c]? = some t → (c = P.pats.length ∧ t = s) ∨ (c < P.pats.length ∧ P.pats[c]? = some t) := fun c t hc => by
      rcases Nat.lt_or_ge c P.pats.length with hlt | hge
      · rw [List.getElem?_append_left hlt] at hc
        exact .inr ⟨hlt, hc⟩
      · have hlt2 := (List.getElem?_eq_some_iff.1 hc).1
        simp at hlt2
        have : c = P.pats.length := by omega
        subst this
        simp at hc
        exact .inl ⟨rfl, hc.symm⟩
    have getL : ∀ (c : Nat) (l : List (Int × Int)), (P.lists ++ [mnext [] (st, en)])[c]? = some l → (c = P.lists.length ∧ l = mnext [] (st, en)) ∨ (c < P.lists.length ∧ P.lists[c]? = some l) := fun c l hc => by
      rcases Nat.lt_or_ge c P.lists.length with hlt | hge
      · rw [List.getElem?_append_left hlt] at hc
        exact .inr ⟨hlt, hc⟩
      · have hlt2 := (List.getElem?_eq_some_iff.1 hc).1
        simp at hlt2
        have : c = P.lists.length := by omega
        subst this
        simp at hc
        exact .inl ⟨rfl, hc.symm⟩
    refine ⟨?_, by simp [hlen], fun x hx0 hx1 => ?_, fun c t l hc hl => ?_, fun c d l l' p q hcd hl hl' hp hq => ?_, by simp, fun b t hb => ?_, by simp, trivial, trivial⟩
    · rw [List.nodup_append]
      refine ⟨h.nodup, by simp, fun a ha b hb e => ?_⟩
      simp at hb
      subst hb
      subst e
      exact hs ha
    · by_cases hx : x < st
      · exact List.mem_append_left _ (h.all x hx0 hx)
      · rw [hpt x (by omega) (by omega)]
        simp
    · rcases getP c t hc with ⟨rfl, rfl⟩ | ⟨hlt, hc2⟩
      · rcases getL _ l hl with ⟨_, rfl⟩ | ⟨hlt, _⟩
        · refine ⟨m1, m3, fun x => ?_⟩
          rw [m2 x, show memB [] x = false from rfl, Bool.false_or]
          by_cases hx : st ≤ x
          · by_cases hx2 : x ≤ en
            · rw [hpt x hx hx2, decide_eq_true (show (st, en).1 ≤ x from hx), decide_eq_true (show x ≤ (st, en).2 from hx2), decide_eq_true (show 0 ≤ x by omega), decide_eq_true (show x < en + 1 by omega)]
              simp
            · rw [decide_eq_false (show ¬ x ≤ (st, en).2 from hx2), decide_eq_false (show ¬ x < en + 1 by omega)]
              simp
          · rw [decide_eq_false (show ¬ (st, en).1 ≤ x from hx)]
            by_cases hx0 : 0 ≤ x
            · have := h.all x hx0 (by omega)
              rw [decide_eq_false (show ¬ pt x = t by intro e; rw [e] at this; exact hs this)]
              simp
            · rw [decide_eq_false hx0]
              simp
        · omega
      · rcases getL c l hl with ⟨he, _⟩ | ⟨_, hl2⟩
        · omega
        · obtain ⟨d1, d2, d3⟩ := h.cls c t l hc2 hl2
          exact ⟨d1, d2, other t l (fun e => hs (by rw [← e]; exact List.mem_of_getElem? hc2)) d3⟩
    · rcases getL c l hl with ⟨rfl, rfl⟩ | ⟨hlt, hl2⟩
      · have := (List.getElem?_eq_some_iff.1 hl').1
        simp at this
        omega
      · rcases getL d l' hl' with ⟨rfl, rfl⟩ | ⟨_, hl2'⟩
        · rw [m5 rfl] at hq
          cases hq
          have hc2 : P.pats[c]? = some P.pats[c] := List.getElem?_eq_getElem (by omega)
          have h3 := h.mem_lt hc2 hl2 p (by cases l with | nil => simp at hp | cons a t => simp at hp; simp [hp])
          have h4 := (h.cls c _ l hc2 hl2).1.rng p (by cases l with | nil => simp at hp | cons a t => simp at hp; simp [hp])
          show p.1 < st
          omega
        · exact h.asc c d l l' p q hcd hl2 hl2' hp hq
    · have := (List.getElem?_eq_some_iff.1 hb).1
      rw [List.getElem?_append_left this]
      exact hb
theorem PI.close {pt : Int → List UInt8} {P : PSt} {s : List UInt8} {st en : Int} (h : PI pt P st) (h0 : 0 ≤ st) (h1 : st ≤ en) (h2 : en ≤ 196607) (hpt : ∀ x, st ≤ x → x ≤ en → pt x = s) : PI pt (closeS P s st en) (en + 1) := by
  have key := h.put h0 h1 h2 hpt
  unfold closeS
  generalize clPut (clSeen P s) (P.pats.idxOf s) (st, en) = P' at key ⊢
  generalize P.pats.idxOf s = b at key ⊢
  obtain ⟨k1, k2, k3, k4, k5, k6, k7, k8, k9, k10⟩ := key
  have hb : b < P'.pats.length := (List.getElem?_eq_some_iff.1 k6).1
  have hol := h.olen
  unfold clOwn
  by_cases hlast : P'.owner.getLast? = some (b : Int)
  · rw [if_pos hlast]
    rw [k10] at hlast
    have hne : 0 < P.owner.length := by
      cases ho : P.owner with
      | nil => rw [ho] at hlast; simp at hlast
      | cons a t => simp
    refine ⟨k1, k2, k3, k4, k5, by rw [k9, k10]; exact hol, by rw [k9]; exact h.sasc, fun x hx => ?_, fun _ => ?_, fun i x o hx ho => ?_⟩
    · rw [k9] at hx
      have := h.srng x hx
      omega
    · rw [k9]
      rcases Int.lt_or_le 0 st with hst | hst
      · exact h.s0 hst
      · have : P.starts[0]? = some P.starts[0] := List.getElem?_eq_getElem (by omega)
        have h3 := h.srng _ (List.mem_of_getElem? this)
        omega
    · rw [k9] at hx
      rw [k10] at ho
      obtain ⟨b', rfl, hb', hy⟩ := h.own i x o hx ho
      refine ⟨b', rfl, by omega, fun y h3 h4 h5 => ?_⟩
      rw [k9] at h5
      by_cases hyst : y < st
      · exact k7 b' _ (hy y h3 hyst h5)
      · have hi := (List.getElem?_eq_some_iff.1 ho).1
        by_cases hil : i + 1 = P.owner.length
        · rw [List.getLast?_eq_getElem?] at hlast
          rw [show P.owner.length - 1 = i by omega, ho] at hlast
          have : b' = b := by simp at hlast; omega
          rw [this, hpt y (by omega) (by omega)]
          exact k6
        · have hx' : P.starts[i + 1]? = some P.starts[i + 1] := List.getElem?_eq_getElem (by omega)
          have h6 := h5 _ hx'
          have h7 := h.srng _ (List.mem_of_getElem? hx')
          omega
  · rw [if_neg hlast]
    refine ⟨k1, k2, k3, k4, k5, by simp [k9, k10, hol], fun i j x y hij hx hy => ?_, fun x hx => ?_, fun _ => ?_, fun i x o hx ho => ?_⟩
    · simp only [k9] at hx hy
      have hj := (List.getElem?_eq_some_iff.1 hy).1
      simp at hj
      rw [List.getElem?_append_left (by omega)] at hx
      rcases Nat.lt_or_ge j P.starts.length with hlt | hge
      · rw [List.getElem?_append_left hlt] at hy
        exact h.sasc i j x y hij hx hy
      · have : j = P.starts.length := by omega
        subst this
        simp at hy
        have := h.srng x (List.mem_of_getElem? hx)
        omega
    · simp only [k9, List.mem_append, List.mem_singleton] at hx
      rcases hx with hx | rfl
      · have := h.srng x hx
        omega
      · omega
    · simp only [k9]
      rcases Int.lt_or_le 0 st with hst | hst
      · have := h.s0 hst
        rw [List.getElem?_append_left (List.getElem?_eq_some_iff.1 this).1]
        exact this
      · have hn : P.starts = [] := by
          cases hs : P.starts with
          | nil => rfl
          | cons a t =>
            have := h.srng a (by rw [hs]; simp)
            omega
        rw [hn]
        have : st = 0 := by omega
        rw [this]
        rfl
    · simp only [k9] at hx
      simp only [k10] at ho
      rcases Nat.lt_or_ge i P.starts.length with hlt | hge
      · rw [List.getElem?_append_left hlt] at hx
        rw [List.getElem?_append_left (by omega)] at ho
        obtain ⟨b', rfl, hb', hy⟩ := h.own i x o hx ho
        refine ⟨b', rfl, by show b' < P'.pats.length; omega, fun y h3 h4 h5 => ?_⟩
        simp only [k9] at h5
        have hyst : y < st := by
          rcases Nat.lt_or_ge (i + 1) P.starts.length with h6 | h6
          · have hx' : P.starts[i + 1]? = some P.starts[i + 1] := List.getElem?_eq_getElem h6
            have h7 := h5 _ (by rw [List.getElem?_append_left h6]; exact hx')
            have h8 := h.srng _ (List.mem_of_getElem? hx')
            omega
          · have he : i + 1 = P.starts.length := by omega
            exact h5 st (by rw [he]; simp)
        refine k7 b' _ (hy y h3 hyst (fun x' hx' => h5 x' ?_))
        rw [List.getElem?_append_left (List.getElem?_eq_some_iff.1 hx').1]
        exact hx'
      · have hlt2 := (List.getElem?_eq_some_iff.1 hx).1
        simp at hlt2
        have hi : i = P.starts.length := by omega
        subst hi
        simp at hx
        rw [hol] at ho
        simp at ho
        refine ⟨b, ho.symm, hb, fun y h3 h4 _ => ?_⟩
        rw [hpt y (by omega) (by omega)]
        exact k6
end Go.Proofs.Qxb6500884a
