/- live, idle, isGhost, enter, leave, pageOut. -/
import Derived.Test.Qxb6500892aDoorTqRem
namespace Go.Proofs.Qxb6500892aDoor
open Go.RowKit
set_option linter.unusedSimpArgs false
set_option linter.unusedVariables false

structure Cf (s s' : ES) : Prop where
  n : s'.n = s.n
  m : s'.m = s.m
  slots : s'.slots = s.slots
  kin : s'.kin = s.kin
  kout : s'.kout = s.kout
  kneg : s'.kneg = s.kneg
  shift : s'.shift = s.shift
theorem Cf.refl (s : ES) : Cf s s := ⟨rfl, rfl, rfl, rfl, rfl, rfl, rfl⟩
theorem Cf.trans {a b c : ES} (h : Cf a b) (k : Cf b c) : Cf a c := ⟨k.n.trans h.n, k.m.trans h.m, k.slots.trans h.slots, k.kin.trans h.kin, k.kout.trans h.kout, k.kneg.trans h.kneg, k.shift.trans h.shift⟩
theorem Fx.cf {s s' : ES} (h : Fx s s') : Cf s s' := ⟨h.n, h.m, h.slots, h.kin, h.kout, h.kneg, h.shift⟩
theorem Rem.cf {k : Nat} {s s' : ES} {L L' : Nat → List Nat} (h : Rem k s L s' L') : Cf s s' := ⟨h.n, h.m, h.slots, h.kin, h.kout, h.kneg, h.shift⟩
def liveC (s : ES) (x : Int) : Nat := if 0 ≤ x ∧ x < (s.slots : Int) then (if s.whr x.toNat = 0 then 1 else 0) else 4
def liveP (gn : Nat) (s : ES) (x : Int) : Value := if liveC s x = 0 then .pointer (some ⟨gn, x.toNat * 7, none⟩) else .pointer none
def idleC (s : ES) (x : Int) : Nat := if liveC s x = 0 ∧ 0 < s.pin x.toNat then 3 else liveC s x
theorem liveC_0 {s : ES} {x : Int} (h : liveC s x = 0) : ∃ i : Nat, x = (i : Int) ∧ i < s.slots ∧ s.whr i ≠ 0 := by
  unfold liveC at h
  split at h
  · rename_i h1
    refine ⟨x.toNat, by omega, by omega, ?_⟩
    split at h
    · cases h
    · assumption
  · cases h
theorem liveC_at {s : ES} {i : Nat} (hi : i < s.slots) : liveC s (i : Int) = if s.whr i = 0 then 1 else 0 := by
  unfold liveC
  rw [if_pos ⟨by omega, by omega⟩, Int.toNat_natCast]
theorem liveC_rng {s : ES} {x : Int} (h : ¬ (0 ≤ x ∧ x < (s.slots : Int))) : liveC s x = 4 := by
  unfold liveC
  rw [if_neg h]
section
variable {e gn gb : Nat} {w0 : World} {s : ES} {L C : Nat → List Nat} {w : World}
set_option maxRecDepth 100000 in
theorem live_walk (hE : EM e gn gb s w) (hn : s.slots ≤ s.n) (x : Int) :
    Calls Tryd.prog 38 #[.pointer (some ⟨e, 0, none⟩), .int .i64 x] w fun y w' => y = .returned (.tuple #[liveP gn s x, .int .u8 (liveC s x : Int)]) ∧ w' = w := by
  have c0 : w.cell? ⟨e, 0, none⟩ = some (.int .i64 (s.slots : Int)) := hE.slots
  by_cases hx : 0 ≤ x ∧ x < (s.slots : Int)
  · obtain ⟨i, hi⟩ : ∃ i : Nat, x = (i : Int) := ⟨x.toNat, by omega⟩
    subst hi
    have hi : i < s.slots := by omega
    have d1 : decide ((i : Int) < 0) = false := decide_eq_false (by omega)
    have d2 : decide ((i : Int) ≥ (s.slots : Int)) = false := decide_eq_false (by omega)
    have d3 : decide ((s.slots : Int) ≤ (i : Int)) = false := decide_eq_false (by omega)
    have hin : (i : Int) < (s.n : Int) := by omega
    have e4 : w.cell? ⟨e, 4, none⟩ = some (.slice (some ⟨gn, 0, none⟩) s.n s.n) := hE.nds
    obtain ⟨q, hq⟩ : ∃ q, s.whr i = q := ⟨_, rfl⟩
    have c1 : w.cell? ⟨gn, i * 7 + 5, none⟩ = some (.int .u8 (q : Int)) := by rw [hE.whr (by omega), hq]
    by_cases h0 : q = 0
    · as_aux_lemma =>
      have hc : liveC s (i : Int) = 1 := by rw [liveC_at hi, if_pos (by rw [hq]; exact h0)]
      have Hp : Hid (liveP gn s (i : Int) = .pointer none ∧ liveC s (i : Int) = 1) := hid ⟨by unfold liveP; rw [hc, if_neg (by omega)], hc⟩
      rw [h0] at c1
      have c1' : w.cell? ⟨gn, i * 7 + 5, none⟩ = some (.int .u8 0) := c1
      clear c1 hE hq h0 hc hx
      go_enter Tryd.func38, Tryd.ntmps38
      go_wp2
      refine bodyPost_ret (results_tmp2 Tryd.results38 _ _ _) rfl ?_
      exact ⟨by rw [Hp.out.1, Hp.out.2]; rfl, rfl⟩
    · as_aux_lemma =>
      have hc : liveC s (i : Int) = 0 := by rw [liveC_at hi, if_neg (by rw [hq]; exact h0)]
      have Hp : Hid (liveP gn s (i : Int) = .pointer (some ⟨gn, i * 7, none⟩) ∧ liveC s (i : Int) = 0) := hid ⟨by unfold liveP; rw [hc, if_pos rfl, Int.toNat_natCast], hc⟩
      have dq : ((q : Int) != 0) = true := bne_iff_ne.2 (by omega)
      clear hE hq hc hx
      go_enter Tryd.func38, Tryd.ntmps38
      go_wp2
      refine bodyPost_ret (results_tmp2 Tryd.results38 _ _ _) rfl ?_
      exact ⟨by rw [Hp.out.1, Hp.out.2]; rfl, rfl⟩
  · have hc : liveC s x = 4 := liveC_rng hx
    have Hp : Hid (liveP gn s x = .pointer none ∧ liveC s x = 4) := hid ⟨by unfold liveP; rw [hc, if_neg (by omega)], hc⟩
    by_cases h1 : x < 0
    · as_aux_lemma =>
      have d1 : decide (x < 0) = true := decide_eq_true h1
      clear hE hc hx
      go_enter Tryd.func38, Tryd.ntmps38
      go_wp2
      refine bodyPost_ret (results_tmp2 Tryd.results38 _ _ _) rfl ?_
      exact ⟨by rw [Hp.out.1, Hp.out.2]; rfl, rfl⟩
    · as_aux_lemma =>
      have d1 : decide (x < 0) = false := decide_eq_false h1
      have d2 : decide (x ≥ (s.slots : Int)) = true := decide_eq_true (by omega)
      have d3 : decide ((s.slots : Int) ≤ x) = true := decide_eq_true (by omega)
      clear hE hc hx
      go_enter Tryd.func38, Tryd.ntmps38
      go_wp2
      refine bodyPost_ret (results_tmp2 Tryd.results38 _ _ _) rfl ?_
      exact ⟨by rw [Hp.out.1, Hp.out.2]; rfl, rfl⟩
set_option maxRecDepth 100000 in
theorem idle_walk (hE : EM e gn gb s w) (hn : s.slots ≤ s.n) (x : Int) :
    Calls Tryd.prog 46 #[.pointer (some ⟨e, 0, none⟩), .int .i64 x] w fun y w' => (∃ p, y = .returned (.tuple #[p, .int .u8 (idleC s x : Int)])) ∧ w' = w := by
  have HL := hid (live_walk hE hn x)
  obtain ⟨c, hc⟩ : ∃ c, liveC s x = c := ⟨_, rfl⟩
  obtain ⟨p, hp⟩ : ∃ p, liveP gn s x = p := ⟨_, rfl⟩
  rw [hc, hp] at HL
  by_cases h0 : c = 0
  · obtain ⟨i, rfl, hi, hw⟩ := liveC_0 (hc.trans h0)
    have hpp : p = .pointer (some ⟨gn, i * 7, none⟩) := by rw [← hp]; unfold liveP; rw [if_pos (hc.trans h0), Int.toNat_natCast]
    subst hpp
    obtain ⟨z, hz⟩ : ∃ z, s.pin i = z := ⟨_, rfl⟩
    have c1 : w.cell? ⟨gn, i * 7 + 3, none⟩ = some (.int .i32 z) := by rw [hE.pin (by omega), hz]
    subst h0
    have HL2 : Hid (Calls Tryd.prog 38 #[.pointer (some ⟨e, 0, none⟩), .int .i64 (i : Int)] w fun y w' => y = .returned (.tuple #[.pointer (some ⟨gn, i * 7, none⟩), .int .u8 0]) ∧ w' = w) := HL
    clear HL
    by_cases h1 : 0 < z
    · as_aux_lemma =>
      have Hr : Hid (idleC s (i : Int) = 3) := hid (by unfold idleC; rw [if_pos ⟨hc, by rw [Int.toNat_natCast, hz]; exact h1⟩])
      have dz : decide (z > 0) = true := decide_eq_true h1
      have dz2 : decide (0 < z) = true := decide_eq_true h1
      clear hE hc hp hz hw
      go_enter Tryd.func46, Tryd.ntmps46
      go_wp2_with fail
      refine HL2.out.mono ?_
      rintro y w1 ⟨rfl, rfl⟩
      go_wp2
      refine bodyPost_ret (results_tmp2 Tryd.results46 _ _ _) rfl ?_
      exact ⟨⟨_, by rw [Hr.out]; rfl⟩, rfl⟩
    · as_aux_lemma =>
      have Hr : Hid (idleC s (i : Int) = 0) := hid (by unfold idleC; rw [if_neg (by rw [Int.toNat_natCast, hz]; exact fun h => h1 h.2)]; exact hc)
      have dz : decide (z > 0) = false := decide_eq_false h1
      have dz2 : decide (0 < z) = false := decide_eq_false h1
      clear hE hc hp hz hw
      go_enter Tryd.func46, Tryd.ntmps46
      go_wp2_with fail
      refine HL2.out.mono ?_
      rintro y w1 ⟨rfl, rfl⟩
      go_wp2
      refine bodyPost_ret (results_tmp2 Tryd.results46 _ _ _) rfl ?_
      exact ⟨⟨_, by rw [Hr.out]; rfl⟩, rfl⟩
  · as_aux_lemma =>
    have Hr : Hid (idleC s x = c) := hid (by unfold idleC; rw [if_neg (by rw [hc]; exact fun h => h0 h.1)]; exact hc)
    have dc : ((c : Int) == 0) = false := by rw [beq_eq_false_iff_ne]; omega
    clear hE hc hp
    go_enter Tryd.func46, Tryd.ntmps46
    go_wp2_with fail
    refine HL.out.mono ?_
    rintro y w1 ⟨rfl, rfl⟩
    go_wp2
    refine bodyPost_ret (results_tmp2 Tryd.results46 _ _ _) rfl ?_
    exact ⟨⟨_, by rw [Hr.out]; rfl⟩, rfl⟩
set_option maxRecDepth 100000 in
theorem isGhost_walk (hE : EM e gn gb s w) (i : Nat) (hi : i < 1000000) :
    Calls Tryd.prog 42 #[.pointer (some ⟨e, 0, none⟩), .int .i32 (i : Int)] w fun y w' => y = .returned (.bool (decide (s.slots ≤ i))) ∧ w' = w := by
  have c0 : w.cell? ⟨e, 0, none⟩ = some (.int .i64 (s.slots : Int)) := hE.slots
  have hw64 : wrap64 (i : Int) = (i : Int) := by unfold wrap64; omega
  clear hE
  go_enter Tryd.func42, Tryd.ntmps42
  go_wp2
  go_ret
  exact ⟨rfl, rfl⟩
end
/-- What enter does. -/
structure EntS (i k : Nat) (B : Bool) (q : Nat) (s : ES) (L : Nat → List Nat) (s' : ES) (L' : Nat → List Nat) : Prop where
  cf : Cf s s'
  whr : s'.whr = upd s.whr i q
  key : s'.key = upd s.key i k
  neg : s'.neg = upd s.neg i B
  pin : s'.pin = upd s.pin i 0
  negs : s'.negs = s.negs + (if B = true then 1 else 0)
  pinned : s'.pinned = s.pinned
  l : L' = upd L q (i :: L q)
/-- What leave does. -/
structure LeaS (i : Nat) (s : ES) (L : Nat → List Nat) (s' : ES) (L' : Nat → List Nat) : Prop where
  cf : Cf s s'
  whr : s'.whr = upd s.whr i 0
  key : s'.key = upd s.key i 0
  neg : s'.neg = upd s.neg i false
  pin : s'.pin = s.pin
  negs : s'.negs = s.negs - (if s.neg i = true then 1 else 0)
  pinned : s'.pinned = s.pinned
  l : L' = upd L (s.whr i) ((L (s.whr i)).erase i)
theorem countP_congr' {p p' : Nat → Bool} {l : List Nat} (h : ∀ i ∈ l, p i = p' i) : l.countP p = l.countP p' := by
  induction l with
  | nil => rfl
  | cons a l ih =>
    rw [List.countP_cons, List.countP_cons, ih (fun i hi => h i (by simp [hi])), h a (by simp)]
section
variable {s s' : ES} {L L' C C' : Nat → List Nat}
theorem EI.enter (h : EI s L C) {i k q : Nat} {B : Bool} (hi : i < s.slots) (hw : s.whr i = 0) (hq : q = 1 ∨ q = 2) (hB : B = true → q = 1) (hk : ∀ j, Hs s j → s.key j ≠ k) (hS : EntS i k B q s L s' L') (hQ : QI s' L') (hC : CI s' C' (fun j => Hs s j ∨ j = i)) : EI s' L' C' := by
  obtain ⟨cf, r, ky, ng, pn, ngs, pnd, hl⟩ := hS
  have hin : i < s.n := by rw [h.nn]; omega
  have hnl : ∀ q', q' < 5 → i ∉ L q' := fun q' hq' hm => by
    have h1 := h.wh hq' hm
    rw [hw] at h1
    subst h1
    rw [h.q.l0] at hm
    cases hm
  have hH : ∀ j, (Hs s j ∨ j = i) ↔ Hs s' j := fun j => by
    unfold Hs
    rw [cf.n, r, upd_ev]
    by_cases e : j = i
    · subst e
      rw [if_pos rfl]
      exact ⟨fun _ => ⟨hin, by rcases hq with rfl | rfl <;> simp⟩, fun _ => .inr rfl⟩
    · rw [if_neg e]
      exact ⟨fun h1 => by rcases h1 with h1 | h1; exact h1; exact absurd h1 e, fun h1 => .inl h1⟩
  have hp0 : s.pin i = 0 := by
    by_cases e : s.pin i = 0
    · exact e
    · have := (h.pn i hin).2 e
      omega
  have pin_eq : s'.pin = s.pin := by
    rw [pn]
    funext j
    rw [upd_ev]
    split
    · rename_i e; rw [e, hp0]
    · rfl
  refine ⟨hQ, hC.iff hH, by rw [cf.n, cf.slots, cf.kout]; exact h.nn, by rw [cf.slots, cf.kout, cf.kin, cf.kneg]; exact h.s1, fun j hj => ?_, fun j hj hj2 => ?_, fun a b ha hb e => ?_, fun j hj => ?_, fun j hj e => ?_, ?_, ?_, ?_⟩
  · rw [cf.slots] at hj
    rw [r, upd_ev]
    split
    · omega
    · exact h.slot j hj
  · rw [cf.slots] at hj
    rw [cf.n] at hj2
    rw [r, upd_ne _ _ (by omega)]
    exact h.gho j hj hj2
  · rw [ky, upd_ev, upd_ev] at e
    by_cases e1 : a = i
    · by_cases e2 : b = i
      · exact e1.trans e2.symm
      · rw [if_pos e1, if_neg e2] at e
        rcases (hH b).2 hb with h2 | h2
        · exact absurd e.symm (hk b h2)
        · exact absurd h2 e2
    · rcases (hH a).2 ha with h1 | h1
      · by_cases e2 : b = i
        · rw [if_neg e1, if_pos e2] at e
          exact absurd e (hk a h1)
        · rcases (hH b).2 hb with h2 | h2
          · rw [if_neg e1, if_neg e2] at e
            exact h.uq a b h1 h2 e
          · exact absurd h2 e2
      · exact absurd h1 e1
  · rw [cf.n] at hj
    rw [pin_eq, r]
    refine ⟨(h.pn j hj).1, fun h1 => ?_⟩
    have h2 := (h.pn j hj).2 h1
    rw [upd_ne _ _ (fun e => by subst e; omega)]
    exact h2
  · rw [cf.n] at hj
    rw [ng, upd_ev] at e
    rw [r, upd_ev]
    split at e
    · rename_i e1
      rw [if_pos e1]
      exact hB e
    · rename_i e1
      rw [if_neg e1]
      exact h.ng j hj e
  · rw [ngs, h.negs, hl, ng]
    have hc1 : (L 1).countP (upd s.neg i B) = (L 1).countP s.neg := countP_congr' (fun j hj => upd_ne _ _ (fun e => hnl 1 (by omega) (e ▸ hj)))
    rcases hq with rfl | rfl
    · rw [upd_same, List.countP_cons, hc1, upd_same]
      cases B <;> simp
    · rw [upd_ne _ _ (by omega), hc1]
      cases B with
      | false => simp
      | true => have := hB rfl; omega
  · rw [pnd, h.pinned, hl, pin_eq]
    rcases hq with rfl | rfl
    · rw [upd_same, upd_ne _ _ (by omega), List.cons_append, List.countP_cons]
      simp [hp0]
    · rw [upd_same, upd_ne _ _ (by omega), List.countP_append, List.countP_append, List.countP_cons]
      simp [hp0]
  · rw [cf.kout, hl]
    rcases hq with rfl | rfl
    · rw [upd_ne _ _ (by omega), upd_ne _ _ (by omega)]; exact h.gl
    · rw [upd_ne _ _ (by omega), upd_ne _ _ (by omega)]; exact h.gl
theorem countP_erase' {p : Nat → Bool} {i : Nat} {l : List Nat} (h : i ∈ l) : l.countP p = (l.erase i).countP p + (if p i = true then 1 else 0) := by
  obtain ⟨A, B, h1, h2⟩ := mem_split h
  rw [h2, h1, List.countP_append, List.countP_append, List.countP_cons]
  omega
theorem EI.leave (h : EI s L C) {i : Nat} (hi : i < s.slots) (hw : s.whr i = 1 ∨ s.whr i = 2) (hp : s.pin i = 0) (hS : LeaS i s L s' L') (hQ : QI s' L') (hC : CI s' C' (fun j => Hs s j ∧ j ≠ i)) : EI s' L' C' := by
  obtain ⟨cf, r, ky, ng, pn, ngs, pnd, hl⟩ := hS
  have hin : i < s.n := by rw [h.nn]; omega
  have hm : i ∈ L (s.whr i) := h.q.mem i hin (by omega)
  have hH : ∀ j, (Hs s j ∧ j ≠ i) ↔ Hs s' j := fun j => by
    unfold Hs
    rw [cf.n, r, upd_ev]
    by_cases e : j = i
    · rw [if_pos e]
      exact ⟨fun h1 => absurd e h1.2, fun h1 => by omega⟩
    · rw [if_neg e]
      exact ⟨fun h1 => h1.1, fun h1 => ⟨h1, e⟩⟩
  have hnot2 : ∀ q', q' < 5 → q' ≠ s.whr i → i ∉ L q' := fun q' hq' hne hm2 => hne (h.wh hq' hm2).symm
  have hnd1 := (h.q.dl (s.whr i) (by omega)).nd
  have hne_er : ∀ j, j ∈ (L (s.whr i)).erase i → j ≠ i := fun j hj e => by
    subst e
    exact (List.Nodup.mem_erase_iff hnd1).1 hj |>.1 rfl
  have key_eq : ∀ j, j ≠ i → s'.key j = s.key j := fun j hj => by rw [ky, upd_ne _ _ hj]
  refine ⟨hQ, hC.iff hH, by rw [cf.n, cf.slots, cf.kout]; exact h.nn, by rw [cf.slots, cf.kout, cf.kin, cf.kneg]; exact h.s1, fun j hj => ?_, fun j hj hj2 => ?_, fun a b ha hb e => ?_, fun j hj => ?_, fun j hj e => ?_, ?_, ?_, ?_⟩
  · rw [cf.slots] at hj
    rw [r, upd_ev]
    split
    · omega
    · exact h.slot j hj
  · rw [cf.slots] at hj
    rw [cf.n] at hj2
    rw [r, upd_ne _ _ (by omega)]
    exact h.gho j hj hj2
  · have h1 := (hH a).2 ha
    have h2 := (hH b).2 hb
    rw [key_eq a h1.2, key_eq b h2.2] at e
    exact h.uq a b h1.1 h2.1 e
  · rw [cf.n] at hj
    rw [pn, r]
    refine ⟨(h.pn j hj).1, fun h1 => ?_⟩
    rw [upd_ne _ _ (fun e => by subst e; exact h1 hp)]
    exact (h.pn j hj).2 h1
  · rw [cf.n] at hj
    rw [ng, upd_ev] at e
    split at e
    · cases e
    · rename_i e1
      rw [r, upd_ne _ _ e1]
      exact h.ng j hj e
  · rw [ngs, h.negs, hl, ng]
    rcases hw with hw | hw
    · rw [hw] at hm hnd1 hne_er ⊢
      rw [upd_same, countP_erase' (p := s.neg) hm, countP_congr' (p := upd s.neg i false) (p' := s.neg) (fun j hj => upd_ne _ _ (hne_er j hj))]
      split <;> simp <;> omega
    · have hni : s.neg i ≠ true := fun e => by have := h.ng i hin e; omega
      rw [hw, upd_ne _ _ (by omega), if_neg hni, countP_congr' (p := upd s.neg i false) (p' := s.neg) (fun j hj => upd_ne _ _ (fun e => hnot2 1 (by omega) (by omega) (e ▸ hj)))]
      simp
  · rw [pnd, h.pinned, hl, pn]
    rcases hw with hw | hw
    · rw [hw] at hm ⊢
      rw [upd_same, upd_ne _ _ (by omega), List.countP_append, List.countP_append, countP_erase' (p := fun j => decide (s.pin j ≠ 0)) hm]
      simp [hp]
    · rw [hw] at hm ⊢
      rw [upd_same, upd_ne _ _ (by omega), List.countP_append, List.countP_append, countP_erase' (p := fun j => decide (s.pin j ≠ 0)) (l := L 2) hm]
      simp [hp]
  · rw [cf.kout, hl]
    rcases hw with hw | hw <;> rw [hw, upd_ne _ _ (by omega), upd_ne _ _ (by omega)] <;> exact h.gl
end
end Go.Proofs.Qxb6500892aDoor
