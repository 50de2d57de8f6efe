/- What the operations do to the three lists of a view. -/
import Derived.Test.Qxb6500892aDoorTqVwM
namespace Go.Proofs.Qxb6500892aDoor
open Go.RowKit
set_option linter.unusedSimpArgs false
set_option linter.unusedVariables false

def Vw (s : ES) (l : List Nat) : List TEnt := l.map (entOf s)
def Gh (s : ES) (L : Nat → List Nat) : List Nat := (L 3).map s.key
def wout (l : List TEnt) (i : Nat) : List TEnt := l.filter fun t => decide (t.slot ≠ (i : Int))
def noK (l : List Nat) (k : Nat) : List Nat := l.filter fun j => decide (j ≠ k)
theorem erase_ne {l : List Nat} (h : l.Nodup) (i : Nat) : l.erase i = l.filter fun j => decide (j ≠ i) := by
  rw [List.Nodup.erase_eq_filter h]
  congr 1
  funext j
  by_cases e : j = i <;> simp [e]
theorem Vw_wout (s : ES) (l : List Nat) (i : Nat) : wout (Vw s l) i = Vw s (l.filter fun j => decide (j ≠ i)) := by
  unfold wout Vw
  rw [List.filter_map]
  congr 2
  funext j
  simp only [Function.comp, entOf]
  exact decide_eq_decide.2 (by omega)
theorem Vw_congr {s s' : ES} {l : List Nat} (h : ∀ j ∈ l, s'.key j = s.key j ∧ s'.pin j = s.pin j ∧ s'.neg j = s.neg j) : Vw s' l = Vw s l := by
  unfold Vw
  refine List.map_congr_left fun j hj => ?_
  obtain ⟨a, b, c⟩ := h j hj
  unfold entOf
  rw [a, b, c]
theorem key_congr {s s' : ES} {l : List Nat} (h : ∀ j ∈ l, s'.key j = s.key j) : l.map s'.key = l.map s.key := List.map_congr_left fun j hj => h j hj
theorem filter_absent {l : List Nat} {i : Nat} (h : i ∉ l) : (l.filter fun j => decide (j ≠ i)) = l := by
  rw [List.filter_eq_self]
  intro j hj
  exact decide_eq_true (fun e => h (e ▸ hj))
theorem noK_absent {l : List Nat} {k : Nat} (h : k ∉ l) : noK l k = l := filter_absent h
theorem map_erase {f : Nat → Nat} {l : List Nat} (h : (l.map f).Nodup) {g : Nat} (hg : g ∈ l) : (l.erase g).map f = noK (l.map f) (f g) := by
  have hl : l.Nodup := by
    rw [List.Nodup, List.pairwise_map] at h
    exact h.imp fun {a b} hab e => hab (by rw [e])
  rw [erase_ne hl]
  unfold noK
  rw [List.filter_map]
  congr 1
  refine List.filter_congr fun j hj => ?_
  refine decide_eq_decide.2 ⟨fun hn e => hn ?_, fun hn e => hn (by rw [e])⟩
  obtain ⟨a, ha, ea⟩ := List.mem_iff_getElem.1 hj
  obtain ⟨b, hb, eb⟩ := List.mem_iff_getElem.1 hg
  have hab : a = b := by
    rw [List.nodup_iff_pairwise_ne, List.pairwise_iff_getElem] at h
    rcases Nat.lt_trichotomy a b with hlt | heq | hgt
    · exact absurd (by rw [List.getElem_map, List.getElem_map, ea, eb, e]) (h a b (by simpa using ha) (by simpa using hb) hlt)
    · exact heq
    · exact absurd (by rw [List.getElem_map, List.getElem_map, ea, eb, e]) (h b a (by simpa using hb) (by simpa using ha) hgt)
  subst hab
  rw [← ea, ← eb]
section
variable {s s' : ES} {L L' C C' : Nat → List Nat} {i k : Nat} {B : Bool}
theorem EI.notin (h : EI s L C) {p : Nat} (hp : p < 5) (hw : s.whr i ≠ p) : i ∉ L p := fun hi => hw ((h.q.dl p hp).wh i hi)
theorem EI.nodup (h : EI s L C) {p : Nat} (hp : p < 5) : (L p).Nodup := (h.q.dl p hp).nd
theorem EI.ghs (h : EI s L C) {j : Nat} (hj : j ∈ L 3) : Hs s j := ⟨(h.q.dl 3 (by omega)).lt j hj, by have := (h.q.dl 3 (by omega)).wh j hj; omega⟩
theorem EI.ghNodup (h : EI s L C) : (Gh s L).Nodup := by
  unfold Gh
  rw [List.Nodup, List.pairwise_map]
  refine (List.Pairwise.imp_of_mem ?_ (h.nodup (p := 3) (by omega)))
  intro a b ha hb hab e
  exact hab (h.uq a b (h.ghs ha) (h.ghs hb) e)
theorem EI.ghLen (h : EI s L C) : (Gh s L).length ≤ s.kout := by
  unfold Gh
  rw [List.length_map]
  have := h.gl
  omega
theorem EI.ghMem (h : EI s L C) {k : Nat} : k ∈ Gh s L ↔ ∃ g, g < s.n ∧ s.whr g = 3 ∧ s.key g = k := by
  unfold Gh
  rw [List.mem_map]
  constructor
  · rintro ⟨g, hg, e⟩
    exact ⟨g, (h.q.dl 3 (by omega)).lt g hg, (h.q.dl 3 (by omega)).wh g hg, e⟩
  · rintro ⟨g, hg, hw, e⟩
    have := h.q.mem g hg (by omega)
    rw [hw] at this
    exact ⟨g, this, e⟩
theorem EI.liveGh (h : EI s L C) (hi : i < s.slots) (hw : s.whr i = 1 ∨ s.whr i = 2) : s.key i ∉ Gh s L := fun hk => by
  obtain ⟨g, hg, hgw, e⟩ := h.ghMem.1 hk
  have := h.uq g i ⟨hg, .inr (.inr hgw)⟩ ⟨by have := h.nn; omega, by omega⟩ e
  subst this
  omega
/-- leave -/
theorem LeaS.abs (hE : EI s L C) (hw : s.whr i = 1 ∨ s.whr i = 2) (h : LeaS i s L s' L') : (∀ p, p = 1 ∨ p = 2 → Vw s' (L' p) = wout (Vw s (L p)) i) ∧ Gh s' L' = Gh s L := by
  refine ⟨fun p hp => ?_, ?_⟩
  · rw [Vw_wout, h.l, upd_ev]
    have hl : (if p = s.whr i then (L (s.whr i)).erase i else L p) = (L p).filter fun j => decide (j ≠ i) := by
      by_cases e : p = s.whr i
      · rw [if_pos e, ← e, erase_ne (hE.nodup (by omega))]
      · rw [if_neg e, filter_absent (hE.notin (by omega) (fun e2 => e e2.symm))]
    rw [hl]
    refine Vw_congr fun j hj => ?_
    have hji : j ≠ i := by simpa using (List.mem_filter.1 hj).2
    exact ⟨by rw [h.key, upd_ne _ _ hji], by rw [h.pin], by rw [h.neg, upd_ne _ _ hji]⟩
  · unfold Gh
    rw [h.l, upd_ne _ _ (by omega)]
    refine key_congr fun j hj => ?_
    have hji : j ≠ i := fun e => hE.notin (i := i) (p := 3) (by omega) (by omega) (by rw [← e]; exact hj)
    rw [h.key, upd_ne _ _ hji]
/-- enter -/
theorem EntS.abs {q : Nat} (hq : q = 1 ∨ q = 2) (hn : ∀ p, p = 1 ∨ p = 2 ∨ p = 3 → i ∉ L p) (h : EntS i k B q s L s' L') : Vw s' (L' q) = ⟨i, k, 0, B⟩ :: Vw s (L q) ∧ (∀ p, p = 1 ∨ p = 2 → p ≠ q → Vw s' (L' p) = Vw s (L p)) ∧ Gh s' L' = Gh s L := by
  have hv : ∀ p, p = 1 ∨ p = 2 → Vw s' (L p) = Vw s (L p) := fun p hp => Vw_congr fun j hj => by
    have hji : j ≠ i := fun e => hn p (by omega) (e ▸ hj)
    exact ⟨by rw [h.key, upd_ne _ _ hji], by rw [h.pin, upd_ne _ _ hji], by rw [h.neg, upd_ne _ _ hji]⟩
  refine ⟨?_, fun p hp hpq => ?_, ?_⟩
  · rw [h.l, upd_same]
    show entOf s' i :: Vw s' (L q) = _
    rw [hv q hq]
    congr 1
    unfold entOf
    rw [h.key, h.pin, h.neg, upd_same, upd_same, upd_same]
  · rw [h.l, upd_ne _ _ hpq, hv p hp]
  · unfold Gh
    rw [h.l, upd_ne _ _ (by omega)]
    refine key_congr fun j hj => ?_
    have hji : j ≠ i := fun e => hn 3 (by omega) (by rw [← e]; exact hj)
    rw [h.key, upd_ne _ _ hji]
/-- dropGhost -/
theorem DropS.abs {g : Nat} (h : DropS g s L s' L') (hn : (Gh s L).Nodup) (hg : g ∈ L 3) : (∀ p, p = 1 ∨ p = 2 → Vw s' (L' p) = Vw s (L p) ∧ L' p = L p) ∧ Gh s' L' = noK (Gh s L) (s.key g) ∧ L' 3 = (L 3).erase g := by
  obtain ⟨_, hw, f, r, hl⟩ := h
  have h3 : L' 3 = (L 3).erase g := by rw [hl, upd_ne _ _ (by omega), upd_same]
  refine ⟨fun p hp => ?_, ?_, h3⟩
  · have hp' : L' p = L p := by rw [hl, upd_ne _ _ (by omega), upd_ne _ _ (by omega)]
    rw [hp']
    exact ⟨Vw_congr fun j hj => ⟨by rw [f.key], by rw [f.pin], by rw [f.neg]⟩, rfl⟩
  · unfold Gh at hn ⊢
    rw [h3, f.key]
    exact map_erase hn hg
/-- Touch -/
theorem TouS.abs (hE : EI s L C) (h : TouS i s L s' L') : Vw s' (L' 1) = Vw s (L 1) ∧ Vw s' (L' 2) = (if s.whr i = 2 then entOf s i :: wout (Vw s (L 2)) i else Vw s (L 2)) ∧ Gh s' L' = Gh s L := by
  obtain ⟨hm, hl⟩ := h
  have hv : ∀ l, Vw s' l = Vw s l := fun l => Vw_congr fun j hj => ⟨by rw [hm.key], by rw [hm.pin], by rw [hm.neg]⟩
  by_cases hw : s.whr i = 2
  · rw [if_pos hw] at hl ⊢
    refine ⟨by rw [hl, upd_ne _ _ (by omega), hv], ?_, ?_⟩
    · rw [hl, upd_same, hv, Vw_wout, erase_ne (hE.nodup (by omega))]
      rfl
    · unfold Gh
      rw [hl, upd_ne _ _ (by omega), hm.key]
  · rw [if_neg hw] at hl ⊢
    rw [hl]
    exact ⟨hv _, hv _, by unfold Gh; rw [hm.key]⟩
/-- What Insert leaves. -/
theorem InsS.abs {x : Int} (hE : EI s L C) (h : InsS x k B s L 0 s' L') : ∃ i : Nat, x = (i : Int) ∧ i < s.slots ∧ s.whr i = 0 ∧ Cf s s' ∧ Gh s' L' = noK (Gh s L) k ∧ s'.whr i ≠ 0 ∧ s'.key i = k ∧ (∀ j, j < s.slots → j ≠ i → s'.whr j = s.whr j ∧ s'.key j = s.key j) ∧ (∀ j, s'.pin j = upd s.pin i 0 j) ∧ (∀ j, s'.neg j = upd s.neg i B j) ∧
    ((k ∈ Gh s L ∧ B = false ∧ Vw s' (L' 1) = Vw s (L 1) ∧ Vw s' (L' 2) = ⟨i, k, 0, B⟩ :: Vw s (L 2)) ∨ (¬ (k ∈ Gh s L ∧ B = false) ∧ Vw s' (L' 1) = ⟨i, k, 0, B⟩ :: Vw s (L 1) ∧ Vw s' (L' 2) = Vw s (L 2))) := by
  cases h with
  | fresh i hx hi hw hn _ _ he =>
    have hnk : k ∉ Gh s L := fun hk => by
      obtain ⟨g, hg, hgw, e⟩ := hE.ghMem.1 hk
      exact hn g ⟨hg, .inr (.inr hgw)⟩ e
    obtain ⟨a1, a2, a3⟩ := he.abs (.inl rfl) (fun p hp => hE.notin (by omega) (by omega))
    exact ⟨i, hx, hi, hw, he.cf, by rw [a3, noK_absent hnk], by rw [he.whr, upd_same]; omega, by rw [he.key, upd_same], fun j _ hj => ⟨by rw [he.whr, upd_ne _ _ hj], by rw [he.key, upd_ne _ _ hj]⟩, fun j => by rw [he.pin], fun j => by rw [he.neg], .inr ⟨fun hh => hnk hh.1, a1, a2 2 (.inr rfl) (by omega)⟩⟩
  | back i hx hi hw g hk s1 L1 hd _ _ he =>
    have hg3 : g ∈ L 3 := by have := hE.q.mem g hd.1 (by rw [hd.2.1]; omega); rw [hd.2.1] at this; exact this
    have hgi : g ≠ i := fun e => by rw [e] at hd; have := hd.2.1; omega
    obtain ⟨b1, b2, b3⟩ := hd.abs hE.ghNodup hg3
    have hkG : k ∈ Gh s L := hE.ghMem.2 ⟨g, hd.1, hd.2.1, hk⟩
    have hn : ∀ p, p = 1 ∨ p = 2 ∨ p = 3 → i ∉ L1 p := fun p hp hm => by
      rcases hp with rfl | rfl | rfl
      · rw [(b1 1 (.inl rfl)).2] at hm
        exact hE.notin (p := 1) (by omega) (by omega) hm
      · rw [(b1 2 (.inr rfl)).2] at hm
        exact hE.notin (p := 2) (by omega) (by omega) hm
      · rw [b3] at hm
        exact hE.notin (p := 3) (by omega) (by omega) (List.mem_of_mem_erase hm)
    have hcf : Cf s s1 := ⟨hd.2.2.1.n, hd.2.2.1.m, hd.2.2.1.slots, hd.2.2.1.kin, hd.2.2.1.kout, hd.2.2.1.kneg, hd.2.2.1.shift⟩
    have hoth : ∀ j, j < s.slots → j ≠ i → s'.whr j = s.whr j ∧ s'.key j = s.key j := fun j hj hji => by
      have hjg : j ≠ g := fun e => by rw [← e] at hd; have := hE.slot j hj; have := hd.2.1; omega
      exact ⟨by rw [he.whr, upd_ne _ _ hji, hd.2.2.2.1, upd_ne _ _ hjg], by rw [he.key, upd_ne _ _ hji, hd.2.2.1.key]⟩
    obtain ⟨a1, a2, a3⟩ := he.abs (by split <;> omega) hn
    refine ⟨i, hx, hi, hw, hcf.trans he.cf, by rw [a3, b2, hk], by rw [he.whr, upd_same]; split <;> omega, by rw [he.key, upd_same], hoth, fun j => by rw [he.pin, hd.2.2.1.pin], fun j => by rw [he.neg, hd.2.2.1.neg], ?_⟩
    cases B with
    | true =>
      refine .inr ⟨(fun hh => by cases hh.2), ?_, ?_⟩
      · have := a1
        simp only [if_true] at this
        rw [this, (b1 1 (.inl rfl)).1]
      · rw [a2 2 (.inr rfl) (by simp), (b1 2 (.inr rfl)).1]
    | false =>
      refine .inl ⟨hkG, rfl, ?_, ?_⟩
      · rw [a2 1 (.inl rfl) (by simp), (b1 1 (.inl rfl)).1]
      · have := a1
        simp only [Bool.false_eq_true, if_false] at this
        rw [this, (b1 2 (.inr rfl)).1]
theorem LeaS.list (hE : EI s L C) (hw : s.whr i = 1 ∨ s.whr i = 2) (h : LeaS i s L s' L') {p : Nat} (hp : p = 1 ∨ p = 2) : L' p = (L p).filter fun j => decide (j ≠ i) := by
  rw [h.l, upd_ev]
  by_cases e : p = s.whr i
  · rw [if_pos e, ← e, erase_ne (hE.nodup (by omega))]
  · rw [if_neg e, filter_absent (hE.notin (by omega) (fun e2 => e e2.symm))]
def gone (s : ES) (L : Nat → List Nat) (i : Nat) : List Nat := if s.whr i = 1 ∧ s.neg i = false then (s.key i :: Gh s L).take s.kout else Gh s L
/-- pageOut -/
theorem PgS.abs (hE : EI s L C) (hi : i < s.slots) (hw : s.whr i = 1 ∨ s.whr i = 2) (h : PgS i s L s' L') : (∀ p, p = 1 ∨ p = 2 → Vw s' (L' p) = wout (Vw s (L p)) i ∧ L' p = (L p).filter fun j => decide (j ≠ i)) ∧ Gh s' L' = gone s L i := by
  obtain ⟨s1, L1, hL, hR⟩ := h
  obtain ⟨a1, a2⟩ := hL.abs hE hw
  rcases hR with ⟨h1, h2, r⟩ | ⟨h1, rfl, rfl⟩
  · have hll : ∀ p, p = 1 ∨ p = 2 → L' p = L1 p := fun p hp => by
      rcases hp with rfl | rfl
      · exact r.l1
      · exact r.l2
    refine ⟨fun p hp => ?_, ?_⟩
    · have hlf := hL.list hE hw hp
      refine ⟨?_, by rw [hll p hp, hlf]⟩
      rw [hll p hp, ← a1 p hp]
      refine Vw_congr fun j hj => ?_
      have hjs : j < s.slots := by
        rw [hlf] at hj
        exact (hE.live_of (by omega) (List.mem_filter.1 hj).1).1
      exact ⟨r.key j (by rw [hL.cf.slots]; exact hjs), by rw [r.pin], by rw [r.neg]⟩
    · unfold gone
      rw [if_pos ⟨h1, h2⟩]
      unfold Gh at a2 ⊢
      rw [r.gk, a2, hL.cf.kout]
  · refine ⟨fun p hp => ⟨a1 p hp, hL.list hE hw hp⟩, ?_⟩
    unfold gone
    rw [if_neg h1, a2]
theorem gone_nodup (hE : EI s L C) (hi : i < s.slots) (hw : s.whr i = 1 ∨ s.whr i = 2) : (gone s L i).Nodup := by
  unfold gone
  split
  · exact List.Nodup.sublist (List.take_sublist _ _) (List.nodup_cons.2 ⟨hE.liveGh hi hw, hE.ghNodup⟩)
  · exact hE.ghNodup
/-- What Replace leaves. -/
theorem RepS.abs {x : Int} (hE : EI s L C) (hE' : EI s' L' C') (h : RepS x k B s L 0 s' L') : ∃ i : Nat, x = (i : Int) ∧ i < s.slots ∧ (s.whr i = 1 ∨ s.whr i = 2) ∧ s.pin i = 0 ∧ Cf s s' ∧ Gh s' L' = noK (gone s L i) k ∧ s'.whr i ≠ 0 ∧ s'.key i = k ∧ (∀ j, j < s.slots → j ≠ i → s'.whr j = s.whr j ∧ s'.key j = s.key j) ∧ (∀ j, s'.pin j = upd s.pin i 0 j) ∧ (∀ j, s'.neg j = upd s.neg i B j) ∧
    ((k ∈ Gh s L ∧ B = false ∧ Vw s' (L' 1) = wout (Vw s (L 1)) i ∧ Vw s' (L' 2) = ⟨i, k, 0, B⟩ :: wout (Vw s (L 2)) i) ∨ (¬ (k ∈ Gh s L ∧ B = false) ∧ Vw s' (L' 1) = ⟨i, k, 0, B⟩ :: wout (Vw s (L 1)) i ∧ Vw s' (L' 2) = wout (Vw s (L 2)) i)) := by
  generalize hc0 : (0 : Nat) = c0 at h
  cases h with
  | busy c h1 h2 => omega
  | dup => omega
  | ok i hx hid0 q hq hnd s1 L1 h1 s2 L2 h2 _ _ he =>
    subst hx
    obtain ⟨j, hj, hi, hw, hp⟩ := idleC_0 hE hid0
    obtain rfl : i = j := by omega
    have hq12 : q = 1 ∨ q = 2 := by rcases hq with h | h <;> omega
    obtain ⟨a1, a2⟩ := h1.abs hE hi hw
    have v := h1.v
    have hi3 : i ∉ L' 3 := hE'.notin (by omega) (by rw [he.whr, upd_same]; omega)
    have hL3 : L' 3 = L2 3 := by rw [he.l, upd_ne _ _ (by omega)]
    have hi12 : ∀ p, p = 1 ∨ p = 2 → i ∉ L1 p := fun p hp hm => by
      rw [(a1 p hp).2] at hm
      simpa using (List.mem_filter.1 hm).2
    have hslot1 : s1.slots = s.slots := v.cf.slots
    -- the second stage
    have st2 : (∀ p, p = 1 ∨ p = 2 → Vw s2 (L2 p) = Vw s1 (L1 p) ∧ L2 p = L1 p) ∧ Gh s2 L2 = noK (Gh s1 L1) k ∧ Cf s1 s2 ∧ (∀ j, j < s.slots → s2.whr j = s1.whr j ∧ s2.key j = s1.key j) ∧ (∀ j, s2.pin j = s1.pin j) ∧ (∀ j, s2.neg j = s1.neg j) := by
      have hin' : i < s'.n := by
        have e1 := he.cf.n
        have e2 := v.cf.n
        have e3 := hE.nn
        rcases h2 with ⟨_, h4, _⟩ | ⟨g', _, hd⟩
        · rw [h4] at e1
          omega
        · have := hd.2.2.1.n
          omega
      have hkn : ∀ g ∈ L' 3, s'.key g ≠ k := fun g hg e => by
        have := hE'.uq g i (hE'.ghs hg) ⟨hin', by rw [he.whr, upd_same]; omega⟩ (by rw [e, he.key, upd_same])
        subst this
        exact hi3 hg
      have hkey3 : ∀ g ∈ L' 3, s'.key g = s2.key g := fun g hg => by
        have hgi : g ≠ i := fun e => hi3 (by rw [← e]; exact hg)
        rw [he.key, upd_ne _ _ hgi]
      rcases h2 with ⟨hno, rfl, rfl⟩ | ⟨g, hk, hd⟩
      · refine ⟨fun p hp => ⟨rfl, rfl⟩, ?_, Cf.refl _, fun j _ => ⟨rfl, rfl⟩, fun _ => rfl, fun _ => rfl⟩
        refine (noK_absent fun hm => ?_).symm
        unfold Gh at hm
        obtain ⟨g, hg, e⟩ := List.mem_map.1 hm
        rw [← hL3] at hg
        exact hkn g hg (by rw [hkey3 g hg]; exact e)
      · obtain ⟨hgn, hgw, f, r, hl⟩ := hd
        have h3 : L2 3 = (L1 3).erase g := by rw [hl, upd_ne _ _ (by omega), upd_same]
        have hgs : ¬ g < s.slots := fun hlt => by
          have h7 := v.whr g hlt
          rw [hgw, upd_ev] at h7
          have h8 := hE.slot g hlt
          split at h7 <;> omega
        refine ⟨fun p hp => ?_, ?_, ⟨f.n, f.m, f.slots, f.kin, f.kout, f.kneg, f.shift⟩, fun j hj => ⟨by rw [r, upd_ne _ _ (by omega)], by rw [f.key]⟩, fun j => by rw [f.pin], fun j => by rw [f.neg]⟩
        · have hp' : L2 p = L1 p := by rw [hl, upd_ne _ _ (by omega), upd_ne _ _ (by omega)]
          rw [hp']
          exact ⟨Vw_congr fun j hj => ⟨by rw [f.key], by rw [f.pin], by rw [f.neg]⟩, rfl⟩
        · by_cases hg3 : g ∈ L1 3
          · unfold Gh
            rw [h3, f.key, ← hk]
            refine map_erase ?_ hg3
            have := gone_nodup hE hi hw
            rw [← a2] at this
            exact this
          · have hun : Gh s2 L2 = Gh s1 L1 := by
              unfold Gh
              rw [h3, f.key, List.erase_of_not_mem hg3]
            rw [hun]
            refine (noK_absent fun hm => ?_).symm
            rw [← hun] at hm
            unfold Gh at hm
            obtain ⟨g2, hg2, e⟩ := List.mem_map.1 hm
            rw [← hL3] at hg2
            exact hkn g2 hg2 (by rw [hkey3 g2 hg2]; exact e)
    obtain ⟨b1, b2, b3, b4, b5, b6⟩ := st2
    have hn : ∀ p, p = 1 ∨ p = 2 ∨ p = 3 → i ∉ L2 p := fun p hp => by
      rcases hp with rfl | rfl | rfl
      · rw [(b1 1 (.inl rfl)).2]; exact hi12 1 (.inl rfl)
      · rw [(b1 2 (.inr rfl)).2]; exact hi12 2 (.inr rfl)
      · rw [← hL3]; exact hi3
    obtain ⟨c1, c2, c3⟩ := he.abs hq12 hn
    refine ⟨i, rfl, hi, hw, hp, (v.cf.trans b3).trans he.cf, by rw [c3, b2, a2], by rw [he.whr, upd_same]; omega, by rw [he.key, upd_same], fun j hj hji => ⟨?_, ?_⟩, fun j => ?_, fun j => ?_, ?_⟩
    · rw [he.whr, upd_ne _ _ hji, (b4 j hj).1, v.whr j hj, upd_ne _ _ hji]
    · rw [he.key, upd_ne _ _ hji, (b4 j hj).2, v.key j hj, upd_ne _ _ hji]
    · rw [he.pin, upd_ev, upd_ev, b5, v.pin]
    · rw [he.neg, upd_ev, upd_ev]
      by_cases e : j = i
      · rw [if_pos e, if_pos e]
      · rw [if_neg e, if_neg e, b6, v.neg, upd_ne _ _ e]
    · have w1 := fun p hp => (b1 p hp).1.trans (a1 p hp).1
      rcases hq with ⟨rfl, hB, hg⟩ | ⟨rfl, hB⟩
      · exact .inl ⟨hE.ghMem.2 hg, hB, by rw [c2 1 (.inl rfl) (by omega), w1 1 (.inl rfl)], by rw [c1, w1 2 (.inr rfl)]⟩
      · refine .inr ⟨fun hh => ?_, by rw [c1, w1 1 (.inl rfl)], by rw [c2 2 (.inr rfl) (by omega), w1 2 (.inr rfl)]⟩
        rcases hB with hB | hB
        · rw [hh.2] at hB; cases hB
        · obtain ⟨g, hg, hgw, e⟩ := hE.ghMem.1 hh.1
          exact hB g hg hgw e
end
end Go.Proofs.Qxb6500892aDoor
