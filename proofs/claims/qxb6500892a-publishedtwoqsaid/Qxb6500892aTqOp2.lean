/- Unpin, Touch, SetNegative, Forget. -/
import Derived.Test.Qxb6500892aTqOp1
namespace Go.Proofs.Qxb6500892a
open Go.RowKit
set_option linter.unusedSimpArgs false
set_option linter.unusedVariables false

def unpinC (s : ES) (x : Int) : Nat := if liveC s x = 0 ∧ s.pin x.toNat = 0 then 4 else liveC s x
/-- A live entry goes to the head of q. -/
structure MovS (i q : Nat) (s : ES) (L : Nat → List Nat) (s' : ES) (L' : Nat → List Nat) : Prop where
  cf : Cf s s'
  whr : s'.whr = upd s.whr i q
  key : s'.key = s.key
  pin : s'.pin = s.pin
  pinned : s'.pinned = s.pinned
  l : L' = upd (upd L (s.whr i) ((L (s.whr i)).erase i)) q (i :: (upd L (s.whr i) ((L (s.whr i)).erase i)) q)
section
variable {s s' : ES} {L L' C C' : Nat → List Nat}
theorem EI.mov (h : EI s L C) {i q : Nat} {B : Bool} (hi : i < s.slots) (hw : s.whr i = 1 ∨ s.whr i = 2) (hq : q = 1 ∨ q = 2) (hS : MovS i q s L s' L') (hB : B = true → q = 1) (hng : s'.neg = upd s.neg i B) (hngs : s'.negs = s.negs - (if s.neg i = true then 1 else 0) + (if B = true then 1 else 0)) (hQ : QI s' L') (hC : CI s' C' (Hs s)) : EI s' L' C' := by
  obtain ⟨cf, r, ky, pn, pnd, hl⟩ := hS
  have hin : i < s.n := by rw [h.nn]; omega
  have hm : i ∈ L (s.whr i) := h.q.mem i hin (by omega)
  have hnd := (h.q.dl (s.whr i) (by omega)).nd
  have hH : ∀ j, Hs s j ↔ Hs s' j := fun j => by
    unfold Hs
    rw [cf.n, r, upd_ev]
    by_cases e : j = i
    · subst e
      rw [if_pos rfl]
      exact ⟨fun _ => ⟨hin, by omega⟩, fun _ => ⟨hin, by omega⟩⟩
    · rw [if_neg e]
  have hnot2 : ∀ q', q' < 5 → q' ≠ s.whr i → i ∉ L q' := fun q' hq' hne hm2 => hne (h.wh hq' hm2).symm
  have hne_er : ∀ j, j ∈ (L (s.whr i)).erase i → j ≠ i := fun j hj e => by
    subst e
    exact ((List.Nodup.mem_erase_iff hnd).1 hj).1 rfl
  have hneg2 : s.whr i = 2 → s.neg i ≠ true := fun e e2 => by have := h.ng i hin e2; omega
  refine ⟨hQ, hC.iff hH, by rw [cf.n, cf.slots, cf.kout]; exact h.nn, by rw [cf.slots, cf.kout, cf.kin, cf.kneg]; exact h.s1, fun j hj => ?_, fun j hj hj2 => ?_, fun a b ha hb e => ?_, fun j hj => ?_, fun j hj e => ?_, ?_, ?_, ?_⟩
  · rw [cf.slots] at hj
    rw [r, upd_ev]
    split
    · omega
    · exact h.slot j hj
  · rw [cf.slots] at hj
    rw [cf.n] at hj2
    rw [r, upd_ne _ _ (by omega)]
    exact h.gho j hj hj2
  · rw [ky] at e
    exact h.uq a b ((hH a).2 ha) ((hH b).2 hb) e
  · rw [cf.n] at hj
    rw [pn, r, upd_ev]
    refine ⟨(h.pn j hj).1, fun h1 => ?_⟩
    split
    · exact hq
    · exact (h.pn j hj).2 h1
  · rw [cf.n] at hj
    rw [hng, upd_ev] at e
    rw [r, upd_ev]
    split at e
    · rename_i e1
      rw [if_pos e1]
      exact hB e
    · rename_i e1
      rw [if_neg e1]
      exact h.ng j hj e
  · rw [hngs, h.negs, hl, hng]
    have hc2 : ∀ l : List Nat, (∀ j ∈ l, j ≠ i) → l.countP (upd s.neg i B) = l.countP s.neg := fun l hl2 => countP_congr' (fun j hj => upd_ne _ _ (hl2 j hj))
    rcases hw with hw | hw <;> rcases hq with rfl | rfl
    · rw [hw] at hm hne_er ⊢
      rw [upd_same, upd_same, List.countP_cons, upd_same, hc2 _ hne_er, countP_erase' (p := s.neg) hm]
      split <;> split <;> simp <;> omega
    · rw [hw] at hm hne_er ⊢
      rw [upd_ne _ _ (by omega), upd_same, hc2 _ hne_er, countP_erase' (p := s.neg) hm, if_neg (fun e2 : B = true => by have := hB e2; omega)]
      split <;> simp <;> omega
    · rw [hw] at hm hne_er ⊢
      rw [upd_same, upd_ne _ _ (by omega), List.countP_cons, upd_same, hc2 _ (fun j hj e2 => hnot2 1 (by omega) (by omega) (e2 ▸ hj)), if_neg (hneg2 hw)]
      split <;> simp
    · rw [hw] at hm hne_er ⊢
      rw [upd_ne _ _ (by omega), upd_ne _ _ (by omega), hc2 _ (fun j hj e2 => hnot2 1 (by omega) (by omega) (e2 ▸ hj)), if_neg (hneg2 hw), if_neg (fun e2 : B = true => by have := hB e2; omega)]
      simp
  · rw [pnd, h.pinned, hl, pn]
    have key2 : ∀ (p : Nat → Bool), ((L 1 ++ L 2).countP p) = ((upd (upd L (s.whr i) ((L (s.whr i)).erase i)) q (i :: (upd L (s.whr i) ((L (s.whr i)).erase i)) q)) 1 ++ (upd (upd L (s.whr i) ((L (s.whr i)).erase i)) q (i :: (upd L (s.whr i) ((L (s.whr i)).erase i)) q)) 2).countP p := fun p => by
      rw [List.countP_append, List.countP_append]
      rcases hw with hw | hw <;> rcases hq with rfl | rfl <;> rw [hw] at hm ⊢
      · rw [upd_same, upd_same, upd_ne _ _ (by omega), upd_ne _ _ (by omega), List.countP_cons, countP_erase' (p := p) hm]
      · rw [upd_ne _ _ (by omega), upd_same, upd_same, upd_ne _ _ (by omega), List.countP_cons, countP_erase' (p := p) hm]
        omega
      · rw [upd_same, upd_ne _ _ (by omega), upd_ne _ _ (by omega), upd_same, List.countP_cons, countP_erase' (p := p) (l := L 2) hm]
        omega
      · rw [upd_ne _ _ (by omega), upd_ne _ _ (by omega), upd_same, upd_same, List.countP_cons, countP_erase' (p := p) (l := L 2) hm]
    rw [key2]
  · rw [cf.kout, hl]
    have h34 : ∀ q', q' = 3 ∨ q' = 4 → upd (upd L (s.whr i) ((L (s.whr i)).erase i)) q (i :: (upd L (s.whr i) ((L (s.whr i)).erase i)) q) q' = L q' := fun q' hq' => by rw [upd_ne _ _ (by omega), upd_ne _ _ (by omega)]
    rw [h34 3 (.inl rfl), h34 4 (.inr rfl)]
    exact h.gl
end
section
variable {e gn gb : Nat} {w0 : World} {s : ES} {L C : Nat → List Nat} {w : World}
/-- unlink, then pushHead. -/
theorem move_si (h : EE e gn gb w0 s L C w) {s1 : ES} {w1 : World} (h1 : SI e gn gb w0 s1 L C (Hs s) w1) (hcf : Cf s s1) (hr : s1.whr = s.whr) {i q : Nat} (hi : i < s.slots) (hw : s.whr i = 1 ∨ s.whr i = 2) (hq : q = 1 ∨ q = 2) :
    Calls Try.prog 20 #[.pointer (some ⟨e, 0, none⟩), .int .i32 (i : Int)] w1 fun x w2 => x = .returned (.tuple #[]) ∧ Hid (Calls Try.prog 14 #[.pointer (some ⟨e, 0, none⟩), .int .u8 (q : Int), .int .i32 (i : Int)] w2 fun x w3 => x = .returned (.tuple #[]) ∧ Hid (∃ s3, SI e gn gb w0 s3 (upd (upd L (s.whr i) ((L (s.whr i)).erase i)) q (i :: (upd L (s.whr i) ((L (s.whr i)).erase i)) q)) C (Hs s) w3 ∧ Fx s1 s3 ∧ s3.whr = upd s.whr i q)) := by
  have hin : i < s1.n := by rw [hcf.n, h.ei.nn]; omega
  refine (unlink_si h1 (q := s.whr i) (i := i) (by omega) (by omega) hin (by rw [hr])).mono ?_
  rintro x w2 ⟨rfl, s2, h2, f2, r2⟩
  refine ⟨rfl, hid ?_⟩
  refine (pushHead_si h2 (q := q) (i := i) (by omega) (by omega) (by rw [f2.n]; exact hin) (by rw [r2, upd_same])).mono ?_
  rintro x w3 ⟨rfl, s3, h3, f3, r3⟩
  exact ⟨rfl, hid ⟨s3, h3, f2.trans f3, by rw [r3, r2, upd_upd, hr]⟩⟩
end
end Go.Proofs.Qxb6500892a
