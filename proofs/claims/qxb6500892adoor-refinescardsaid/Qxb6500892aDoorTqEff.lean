/- What a step does to the slots. -/
import Derived.Test.Qxb6500892aDoorTqReal
namespace Go.Proofs.Qxb6500892aDoor
open Go.RowKit
set_option linter.unusedSimpArgs false
set_option linter.unusedVariables false

def freshP (kind : Nat) (x : Int) (err : Nat) (i : Nat) : Prop := (i : Int) = x ∧ err = 0 ∧ (kind = 1 ∨ kind = 9)
instance (kind : Nat) (x : Int) (err : Nat) (i : Nat) : Decidable (freshP kind x err i) := by unfold freshP; infer_instance
def dltP (kind : Nat) (x : Int) (err : Nat) (i : Nat) : Int := if (i : Int) = x ∧ err = 0 then (if kind = 4 then 1 else if kind = 5 then -1 else 0) else 0
structure EffAt (kind : Nat) (x : Int) (err : Nat) (s s' : ES) (i : Nat) : Prop where
  stay : s.whr i ≠ 0 → 0 < s.pin i → s'.whr i ≠ 0 ∧ s'.key i = s.key i
  from_ : s'.whr i ≠ 0 → ¬ freshP kind x err i → s.whr i ≠ 0
  pins : s'.whr i ≠ 0 → s'.pin i = (if freshP kind x err i then 0 else s.pin i) + dltP kind x err i
structure Eff (kind : Nat) (x : Int) (err : Nat) (s s' : ES) : Prop where
  sl : s'.slots = s.slots
  at_ : ∀ i, i < s.slots → EffAt kind x err s s' i
section
variable {kind : Nat} {x : Int} {err : Nat} {s s' : ES} {i : Nat}
theorem EffAt.quiet (h1 : s'.whr i = s.whr i) (h2 : s'.key i = s.key i) (h3 : s'.pin i = s.pin i) (hk : (i : Int) = x → err = 0 → kind ≠ 1 ∧ kind ≠ 4 ∧ kind ≠ 5 ∧ kind ≠ 9) : EffAt kind x err s s' i := by
  have hf : ¬ freshP kind x err i := fun h => by
    obtain ⟨a1, a2, a3⟩ := h
    have := hk a1 a2
    omega
  have hd : dltP kind x err i = 0 := by
    unfold dltP
    split
    · rename_i h
      have := hk h.1 h.2
      rw [if_neg this.2.1, if_neg this.2.2.1]
    · rfl
  exact ⟨fun a _ => ⟨by rw [h1]; exact a, h2⟩, fun a _ => by rw [← h1]; exact a, fun _ => by rw [if_neg hf, hd, h3]; omega⟩
theorem EffAt.died (h1 : s'.whr i = 0) (h2 : s.pin i ≤ 0) : EffAt kind x err s s' i := ⟨fun _ a => by omega, fun a => absurd h1 a, fun a => absurd h1 a⟩
theorem EffAt.born (hx : (i : Int) = x) (he : err = 0) (hk : kind = 1 ∨ kind = 9) (h2 : s'.pin i = 0) (h3 : s.whr i = 0 ∨ s.pin i ≤ 0) : EffAt kind x err s s' i := by
  have hf : freshP kind x err i := ⟨hx, he, hk⟩
  have hd : dltP kind x err i = 0 := by
    unfold dltP
    rw [if_pos ⟨hx, he⟩, if_neg (by omega), if_neg (by omega)]
  exact ⟨fun a b => by omega, fun _ a => absurd hf a, fun _ => by rw [if_pos hf, hd, h2]; rfl⟩
theorem EffAt.moved (hx : (i : Int) = x) (he : err = 0) {d : Int} (hk : (kind = 4 ∧ d = 1) ∨ (kind = 5 ∧ d = -1)) (h0 : s.whr i ≠ 0) (h1 : s'.whr i = s.whr i) (h2 : s'.key i = s.key i) (h3 : s'.pin i = s.pin i + d) : EffAt kind x err s s' i := by
  have hf : ¬ freshP kind x err i := fun h => by
    obtain ⟨a1, a2, a3⟩ := h
    omega
  have hd : dltP kind x err i = d := by
    unfold dltP
    rw [if_pos ⟨hx, he⟩]
    rcases hk with ⟨rfl, rfl⟩ | ⟨rfl, rfl⟩
    · rw [if_pos rfl]
    · rw [if_neg (by omega), if_pos rfl]
  exact ⟨fun a _ => ⟨by rw [h1]; exact a, h2⟩, fun _ _ => h0, fun _ => by rw [if_neg hf, hd, h3]⟩
end
theorem EI.ghost_ge {s : ES} {L C : Nat → List Nat} (h : EI s L C) {g : Nat} (hw : s.whr g = 3) {i : Nat} (hi : i < s.slots) : i ≠ g := fun e => by
  subst e
  have := h.slot i hi
  omega
theorem DropS.at {g : Nat} {s s' : ES} {L L' C : Nat → List Nat} (h : DropS g s L s' L') (hE : EI s L C) {i : Nat} (hi : i < s.slots) : s'.whr i = s.whr i ∧ s'.key i = s.key i ∧ s'.pin i = s.pin i := by
  obtain ⟨_, hw, f, r, _⟩ := h
  exact ⟨by rw [r, upd_ne _ _ (hE.ghost_ge hw hi)], by rw [f.key], by rw [f.pin]⟩
theorem StpS.eff {x : Int} {k : Nat} {B : Bool} {a b c d : Int} {s s' : ES} {L L' C : Nat → List Nat} {kind err : Nat} {som : Bool} {slt : Int} (h : StpS x k B a b c d s L kind err som slt s' L') (hE : EI s L C) (h0 : kind ≠ 0) : Eff kind x err s s' := by
  have hlive : ∀ i : Nat, (i : Int) = x → x.toNat = i := fun i e => by omega
  have hq : ∀ (kd er : Nat), (kd ≠ 1 ∧ kd ≠ 4 ∧ kd ≠ 5 ∧ kd ≠ 9) ∨ er ≠ 0 → Eff kd x er s s := fun kd er hk => ⟨rfl, fun i hi => EffAt.quiet rfl rfl rfl (fun _ h1 => by omega)⟩
  cases h with
  | bad _ => exact absurd rfl h0
  | new _ _ _ _ => exact absurd rfl h0
  | ins _ _ _ h =>
    cases h with
    | taken _ => exact hq _ _ (.inr (by omega))
    | bad _ => exact hq _ _ (.inr (by omega))
    | dup _ _ _ _ _ => exact hq _ _ (.inr (by omega))
    | fresh j hx hj hw hn _ _ he =>
      refine ⟨he.cf.slots, fun i hi => ?_⟩
      by_cases e : i = j
      · subst e
        exact EffAt.born hx.symm rfl (.inl rfl) (by rw [he.pin, upd_same]) (.inl hw)
      · exact EffAt.quiet (by rw [he.whr, upd_ne _ _ e]) (by rw [he.key, upd_ne _ _ e]) (by rw [he.pin, upd_ne _ _ e]) (fun h1 => by omega)
    | back j hx hj hw g hk s1 L1 hd _ _ he =>
      refine ⟨he.cf.slots.trans hd.2.2.1.slots, fun i hi => ?_⟩
      obtain ⟨d1, d2, d3⟩ := hd.at hE hi
      by_cases e : i = j
      · subst e
        exact EffAt.born hx.symm rfl (.inl rfl) (by rw [he.pin, upd_same]) (.inl hw)
      · exact EffAt.quiet (by rw [he.whr, upd_ne _ _ e, d1]) (by rw [he.key, upd_ne _ _ e, d2]) (by rw [he.pin, upd_ne _ _ e, d3]) (fun h1 => by omega)
  | tou _ _ h =>
    rcases h with ⟨_, rfl, _⟩ | ⟨_, h, _⟩
    · exact hq _ _ (.inl (by omega))
    · exact ⟨h.cf.slots, fun i hi => EffAt.quiet (by rw [h.whr]) (by rw [h.key]) (by rw [h.pin]) (fun _ _ => by omega)⟩
  | rem _ _ h =>
    rcases h with ⟨_, rfl, _⟩ | ⟨hi0, h⟩
    · exact hq _ _ (.inl (by omega))
    · obtain ⟨j, rfl, hj, hw, hp⟩ := idleC_0 hE hi0
      rw [Int.toNat_natCast] at h
      refine ⟨h.cf.slots, fun i hi => ?_⟩
      by_cases e : i = j
      · subst e
        exact EffAt.died (by rw [h.whr, upd_same]) (by omega)
      · exact EffAt.quiet (by rw [h.whr, upd_ne _ _ e]) (by rw [h.key, upd_ne _ _ e]) (by rw [h.pin]) (fun _ _ => by omega)
  | pin _ h =>
    rcases h with ⟨hl, rfl⟩ | ⟨hl, h⟩
    · exact hq _ _ (.inr hl)
    · obtain ⟨j, rfl, hj, hw⟩ := liveC_live hE hl
      rw [Int.toNat_natCast] at h
      refine ⟨h.cf.slots, fun i hi => ?_⟩
      by_cases e : i = j
      · subst e
        exact EffAt.moved rfl hl (.inl ⟨rfl, rfl⟩) (by omega) (by rw [h.whr]) (by rw [h.key]) (by rw [h.pin, upd_same])
      · exact EffAt.quiet (by rw [h.whr]) (by rw [h.key]) (by rw [h.pin, upd_ne _ _ e]) (fun h1 => by omega)
  | unp _ h =>
    rcases h with ⟨hl, rfl⟩ | ⟨hu, hl, h⟩
    · exact hq _ _ (.inr hl)
    · obtain ⟨j, rfl, hj, hw⟩ := liveC_live hE hl
      rw [Int.toNat_natCast] at h
      refine ⟨h.cf.slots, fun i hi => ?_⟩
      by_cases e : i = j
      · subst e
        exact EffAt.moved rfl hu (.inr ⟨rfl, rfl⟩) (by omega) (by rw [h.whr]) (by rw [h.key]) (by rw [h.pin, upd_same])
      · exact EffAt.quiet (by rw [h.whr]) (by rw [h.key]) (by rw [h.pin, upd_ne _ _ e]) (fun h1 => by omega)
  | vic => exact hq _ _ (.inl (by omega))
  | evi _ _ h =>
    rcases h with ⟨_, rfl, _⟩ | ⟨hi0, h⟩
    · exact hq _ _ (.inl (by omega))
    · obtain ⟨j, rfl, hj, hw, hp⟩ := idleC_0 hE hi0
      rw [Int.toNat_natCast] at h
      have v := h.v
      refine ⟨v.cf.slots, fun i hi => ?_⟩
      by_cases e : i = j
      · subst e
        exact EffAt.died (by rw [v.whr i hi, upd_same]) (by omega)
      · exact EffAt.quiet (by rw [v.whr i hi, upd_ne _ _ e]) (by rw [v.key i hi, upd_ne _ _ e]) (by rw [v.pin]) (fun _ _ => by omega)
  | rcl o _ _ h =>
    obtain ⟨ho, h⟩ := h
    cases o with
    | none =>
      obtain ⟨rfl, _⟩ := h
      exact hq _ _ (.inl (by omega))
    | some j =>
      obtain ⟨hj, hw, hp⟩ := hE.victim ho.symm
      have h' : PgS j s L s' L' := h
      have v := h'.v
      refine ⟨v.cf.slots, fun i hi => ?_⟩
      by_cases e : i = j
      · subst e
        exact EffAt.died (by rw [v.whr i hi, upd_same]) (by omega)
      · exact EffAt.quiet (by rw [v.whr i hi, upd_ne _ _ e]) (by rw [v.key i hi, upd_ne _ _ e]) (by rw [v.pin]) (fun _ _ => by omega)
  | rep _ _ _ h =>
    cases h with
    | busy c hc hc0 => exact hq _ _ (.inr hc0)
    | dup _ _ _ _ _ _ _ _ => exact hq _ _ (.inr (by omega))
    | ok j hx hi0 q hq' hnd s1 L1 h1 s2 L2 h2 _ _ he =>
      obtain ⟨j', hx', hj, hw, hp⟩ := idleC_0 hE hi0
      have hjj : j = j' := by omega
      subst hjj
      have v := h1.v
      have h12 : s2.slots = s1.slots ∧ (∀ i, i < s.slots → i ≠ j → s2.whr i = s1.whr i ∧ s2.key i = s1.key i) ∧ s2.pin = s1.pin := by
        rcases h2 with ⟨_, rfl, _⟩ | ⟨g, hk, hd⟩
        · exact ⟨rfl, fun _ _ _ => ⟨rfl, rfl⟩, rfl⟩
        · refine ⟨hd.2.2.1.slots, fun i hi hne => ⟨?_, by rw [hd.2.2.1.key]⟩, hd.2.2.1.pin⟩
          have hig : i ≠ g := fun e => by
            subst e
            have h9 := hd.2.1
            rw [v.whr i hi, upd_ne _ _ hne] at h9
            have := hE.slot i hi
            omega
          rw [hd.2.2.2.1, upd_ne _ _ hig]
      obtain ⟨t1, t2, t3⟩ := h12
      refine ⟨by rw [he.cf.slots, t1, v.cf.slots], fun i hi => ?_⟩
      by_cases e : i = j
      · subst e
        exact EffAt.born hx.symm rfl (.inr rfl) (by rw [he.pin, upd_same]) (.inr (by omega))
      · obtain ⟨u1, u2⟩ := t2 i hi e
        exact EffAt.quiet (by rw [he.whr, upd_ne _ _ e, u1, v.whr i hi, upd_ne _ _ e]) (by rw [he.key, upd_ne _ _ e, u2, v.key i hi, upd_ne _ _ e]) (by rw [he.pin, upd_ne _ _ e, t3, v.pin]) (fun h1 => by omega)
  | sng _ _ h =>
    rcases h with ⟨_, rfl, _⟩ | ⟨hl, h⟩
    · exact hq _ _ (.inl (by omega))
    · obtain ⟨j, rfl, hj, hw⟩ := liveC_live hE hl
      rw [Int.toNat_natCast] at h
      rcases h with ⟨_, rfl, _⟩ | ⟨_, hm, _⟩
      · exact hq _ _ (.inl (by omega))
      · refine ⟨hm.cf.slots, fun i hi => ?_⟩
        by_cases e : i = j
        · subst e
          have hw' : s'.whr i = 1 := by rw [hm.whr, upd_same]
          refine ⟨fun _ _ => ⟨by omega, by rw [hm.key]⟩, fun _ _ => by omega, fun _ => ?_⟩
          have hf : ¬ freshP 10 (i : Int) (liveC s (i : Int)) i := fun h => by unfold freshP at h; omega
          have hd : dltP 10 (i : Int) (liveC s (i : Int)) i = 0 := by unfold dltP; rw [hl]; simp
          rw [if_neg hf, hd, hm.pin]
          omega
        · exact EffAt.quiet (by rw [hm.whr, upd_ne _ _ e]) (by rw [hm.key]) (by rw [hm.pin]) (fun _ _ => by omega)
  | fgt F _ _ h =>
    rcases h with ⟨_, rfl, _, _⟩ | ⟨_, g, hk, hd⟩
    · exact hq _ _ (.inl (by omega))
    · refine ⟨hd.2.2.1.slots, fun i hi => ?_⟩
      obtain ⟨d1, d2, d3⟩ := hd.at hE hi
      exact EffAt.quiet d1 d2 d3 (fun _ _ => by omega)
  | none kd hk => exact hq _ _ (.inl (by omega))
/-- Pins grow by one a step. -/
theorem StpS.pinU {x : Int} {k : Nat} {B : Bool} {a b c d : Int} {s s' : ES} {L L' C : Nat → List Nat} {kind err : Nat} {som : Bool} {slt : Int} (h : StpS x k B a b c d s L kind err som slt s' L') (hE : EI s L C) {N : Int} (hN : 0 ≤ N) (hp : ∀ i, i < s.slots → s.pin i ≤ N) : ∀ i, i < s'.slots → s'.pin i ≤ N + 1 := by
  have key : ∀ t : ES, t.slots = s.slots → (t.pin = s.pin ∨ ∃ j v, t.pin = upd s.pin j v ∧ (v = 0 ∨ v = s.pin j + 1 ∨ v = s.pin j - 1)) → ∀ i, i < t.slots → t.pin i ≤ N + 1 := fun t h1 h2 i hi => by
    rw [h1] at hi
    have h3 := hp i hi
    rcases h2 with h2 | ⟨j, v, h2, h4⟩
    · rw [h2]; omega
    · rw [h2, upd_ev]
      split
      · rename_i e
        subst e
        omega
      · omega
  have same : ∀ i, i < s.slots → s.pin i ≤ N + 1 := key s rfl (.inl rfl)
  cases h with
  | bad _ => exact same
  | new _ _ _ hn => exact fun i _ => by rw [hn.pin]; omega
  | ins _ _ _ h =>
    cases h with
    | taken _ => exact same
    | bad _ => exact same
    | dup _ _ _ _ _ => exact same
    | fresh j hx hj hw hn _ _ he => exact key _ he.cf.slots (.inr ⟨j, 0, he.pin, .inl rfl⟩)
    | back j hx hj hw g hk s1 L1 hd _ _ he => exact key _ (he.cf.slots.trans hd.2.2.1.slots) (.inr ⟨j, 0, by rw [he.pin, hd.2.2.1.pin], .inl rfl⟩)
  | tou _ _ h =>
    rcases h with ⟨_, rfl, _⟩ | ⟨_, h, _⟩
    · exact same
    · exact key _ h.cf.slots (.inl h.pin)
  | rem _ _ h =>
    rcases h with ⟨_, rfl, _⟩ | ⟨_, h⟩
    · exact same
    · exact key _ h.cf.slots (.inl h.pin)
  | pin _ h =>
    rcases h with ⟨_, rfl⟩ | ⟨_, h⟩
    · exact same
    · exact key _ h.cf.slots (.inr ⟨_, _, h.pin, .inr (.inl rfl)⟩)
  | unp _ h =>
    rcases h with ⟨_, rfl⟩ | ⟨_, _, h⟩
    · exact same
    · exact key _ h.cf.slots (.inr ⟨_, _, h.pin, .inr (.inr (by omega))⟩)
  | vic => exact same
  | evi _ _ h =>
    rcases h with ⟨_, rfl, _⟩ | ⟨_, h⟩
    · exact same
    · exact key _ h.v.cf.slots (.inl h.v.pin)
  | rcl o _ _ h =>
    obtain ⟨_, h⟩ := h
    cases o with
    | none =>
      obtain ⟨rfl, _⟩ := h
      exact same
    | some j =>
      have h' : PgS j s L s' L' := h
      exact key _ h'.v.cf.slots (.inl h'.v.pin)
  | rep _ _ _ h =>
    cases h with
    | busy c hc hc0 => exact same
    | dup _ _ _ _ _ _ _ _ => exact same
    | ok j hx hi0 q hq' hnd s1 L1 h1 s2 L2 h2 _ _ he =>
      have h12 : s2.slots = s1.slots ∧ s2.pin = s1.pin := by
        rcases h2 with ⟨_, rfl, _⟩ | ⟨g, hk, hd⟩
        · exact ⟨rfl, rfl⟩
        · exact ⟨hd.2.2.1.slots, hd.2.2.1.pin⟩
      exact key _ (by rw [he.cf.slots, h12.1, h1.v.cf.slots]) (.inr ⟨j, 0, by rw [he.pin, h12.2, h1.v.pin], .inl rfl⟩)
  | sng _ _ h =>
    rcases h with ⟨_, rfl, _⟩ | ⟨_, ⟨_, rfl, _⟩ | ⟨_, hm, _⟩⟩
    · exact same
    · exact same
    · exact key _ hm.cf.slots (.inl hm.pin)
  | fgt F _ _ h =>
    rcases h with ⟨_, rfl, _, _⟩ | ⟨_, g, hk, hd⟩
    · exact same
    · exact key _ hd.2.2.1.slots (.inl hd.2.2.1.pin)
  | none kd hk => exact same
end Go.Proofs.Qxb6500892aDoor
