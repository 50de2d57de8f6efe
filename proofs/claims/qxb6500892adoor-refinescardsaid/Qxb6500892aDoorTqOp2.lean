/- Unpin, Touch, SetNegative, Forget. -/
import Derived.Test.Qxb6500892aDoorTqOp1
namespace Go.Proofs.Qxb6500892aDoor
open Go.RowKit
set_option linter.unusedSimpArgs false
set_option linter.unusedVariables false

def unpinC (s : ES) (x : Int) : Nat := if liveC s x = 0 ∧ s.pin x.toNat = 0 then 4 else liveC s x
/-- A live entry goes to the head of q. -/
structure MovS (i q : Nat) (s : ES) (L : Nat → List Nat) (s' : ES) (L' : Nat → List Nat) : Prop where
  cf : Cf s s'
  whr : s'.whr = upd s.whr i q
  key : s'.key = s.key
  pin : s'.pin = s.pin
  pinned : s'.pinned = s.pinned
  l : L' = upd (upd L (s.whr i) ((L (s.whr i)).erase i)) q (i :: (upd L (s.whr i) ((L (s.whr i)).erase i)) q)
section
variable {s s' : ES} {L L' C C' : Nat → List Nat}
theorem EI.mov (h : EI s L C) {i q : Nat} {B : Bool} (hi : i < s.slots) (hw : s.whr i = 1 ∨ s.whr i = 2) (hq : q = 1 ∨ q = 2) (hS : MovS i q s L s' L') (hB : B = true → q = 1) (hng : s'.neg = upd s.neg i B) (hngs : s'.negs = s.negs - (if s.neg i = true then 1 else 0) + (if B = true then 1 else 0)) (hQ : QI s' L') (hC : CI s' C' (Hs s)) : EI s' L' C' := by
  obtain ⟨cf, r, ky, pn, pnd, hl⟩ := hS
  have hin : i < s.n := by rw [h.nn]; omega
  have hm : i ∈ L (s.whr i) := h.q.mem i hin (by omega)
  have hnd := (h.q.dl (s.whr i) (by omega)).nd
  have hH : ∀ j, Hs s j ↔ Hs s' j := fun j => by
    unfold Hs
    rw [cf.n, r, upd_ev]
    by_cases e : j = i
    · subst e
      rw [if_pos rfl]
      exact ⟨fun _ => ⟨hin, by omega⟩, fun _ => ⟨hin, by omega⟩⟩
    · rw [if_neg e]
  have hnot2 : ∀ q', q' < 5 → q' ≠ s.whr i → i ∉ L q' := fun q' hq' hne hm2 => hne (h.wh hq' hm2).symm
  have hne_er : ∀ j, j ∈ (L (s.whr i)).erase i → j ≠ i := fun j hj e => by
    subst e
    exact ((List.Nodup.mem_erase_iff hnd).1 hj).1 rfl
  have hneg2 : s.whr i = 2 → s.neg i ≠ true := fun e e2 => by have := h.ng i hin e2; omega
  refine ⟨hQ, hC.iff hH, by rw [cf.n, cf.slots, cf.kout]; exact h.nn, by rw [cf.slots, cf.kout, cf.kin, cf.kneg]; exact h.s1, fun j hj => ?_, fun j hj hj2 => ?_, fun a b ha hb e => ?_, fun j hj => ?_, fun j hj e => ?_, ?_, ?_, ?_⟩
  · rw [cf.slots] at hj
    rw [r, upd_ev]
    split
    · omega
    · exact h.slot j hj
  · rw [cf.slots] at hj
    rw [cf.n] at hj2
    rw [r, upd_ne _ _ (by omega)]
    exact h.gho j hj hj2
  · rw [ky] at e
    exact h.uq a b ((hH a).2 ha) ((hH b).2 hb) e
  · rw [cf.n] at hj
    rw [pn, r, upd_ev]
    refine ⟨(h.pn j hj).1, fun h1 => ?_⟩
    split
    · exact hq
    · exact (h.pn j hj).2 h1
  · rw [cf.n] at hj
    rw [hng, upd_ev] at e
    rw [r, upd_ev]
    split at e
    · rename_i e1
      rw [if_pos e1]
      exact hB e
    · rename_i e1
      rw [if_neg e1]
      exact h.ng j hj e
  · rw [hngs, h.negs, hl, hng]
    have hc2 : ∀ l : List Nat, (∀ j ∈ l, j ≠ i) → l.countP (upd s.neg i B) = l.countP s.neg := fun l hl2 => countP_congr' (fun j hj => upd_ne _ _ (hl2 j hj))
    rcases hw with hw | hw <;> rcases hq with rfl | rfl
    · rw [hw] at hm hne_er ⊢
      rw [upd_same, upd_same, List.countP_cons, upd_same, hc2 _ hne_er, countP_erase' (p := s.neg) hm]
      split <;> split <;> simp <;> omega
    · rw [hw] at hm hne_er ⊢
      rw [upd_ne _ _ (by omega), upd_same, hc2 _ hne_er, countP_erase' (p := s.neg) hm, if_neg (fun e2 : B = true => by have := hB e2; omega)]
      split <;> simp <;> omega
    · rw [hw] at hm hne_er ⊢
      rw [upd_same, upd_ne _ _ (by omega), List.countP_cons, upd_same, hc2 _ (fun j hj e2 => hnot2 1 (by omega) (by omega) (e2 ▸ hj)), if_neg (hneg2 hw)]
      split <;> simp
    · rw [hw] at hm hne_er ⊢
      rw [upd_ne _ _ (by omega), upd_ne _ _ (by omega), hc2 _ (fun j hj e2 => hnot2 1 (by omega) (by omega) (e2 ▸ hj)), if_neg (hneg2 hw), if_neg (fun e2 : B = true => by have := hB e2; omega)]
      simp
  · rw [pnd, h.pinned, hl, pn]
    have key2 : ∀ (p : Nat → Bool), ((L 1 ++ L 2).countP p) = ((upd (upd L (s.whr i) ((L (s.whr i)).erase i)) q (i :: (upd L (s.whr i) ((L (s.whr i)).erase i)) q)) 1 ++ (upd (upd L (s.whr i) ((L (s.whr i)).erase i)) q (i :: (upd L (s.whr i) ((L (s.whr i)).erase i)) q)) 2).countP p := fun p => by
      rw [List.countP_append, List.countP_append]
      rcases hw with hw | hw <;> rcases hq with rfl | rfl <;> rw [hw] at hm ⊢
      · rw [upd_same, upd_same, upd_ne _ _ (by omega), upd_ne _ _ (by omega), List.countP_cons, countP_erase' (p := p) hm]
      · rw [upd_ne _ _ (by omega), upd_same, upd_same, upd_ne _ _ (by omega), List.countP_cons, countP_erase' (p := p) hm]
        omega
      · rw [upd_same, upd_ne _ _ (by omega), upd_ne _ _ (by omega), upd_same, List.countP_cons, countP_erase' (p := p) (l := L 2) hm]
        omega
      · rw [upd_ne _ _ (by omega), upd_ne _ _ (by omega), upd_same, upd_same, List.countP_cons, countP_erase' (p := p) (l := L 2) hm]
    rw [key2]
  · rw [cf.kout, hl]
    have h34 : ∀ q', q' = 3 ∨ q' = 4 → upd (upd L (s.whr i) ((L (s.whr i)).erase i)) q (i :: (upd L (s.whr i) ((L (s.whr i)).erase i)) q) q' = L q' := fun q' hq' => by rw [upd_ne _ _ (by omega), upd_ne _ _ (by omega)]
    rw [h34 3 (.inl rfl), h34 4 (.inr rfl)]
    exact h.gl
end
section
variable {e gn gb : Nat} {w0 : World} {s : ES} {L C : Nat → List Nat} {w : World}
set_option maxRecDepth 100000 in
set_option maxHeartbeats 1000000 in
theorem unpin_ee (h : EE e gn gb w0 s L C w) (x : Int) (hpb : ∀ i, i < s.slots → s.pin i ≤ 1000000) :
    Calls Tryd.prog 29 #[.pointer (some ⟨e, 0, none⟩), .int .i64 x] w fun y w' => y = Rtn (unpinC s x) ∧ ∃ s' C', EE e gn gb w0 s' L C' w' ∧ ((unpinC s x ≠ 0 ∧ s' = s) ∨ (unpinC s x = 0 ∧ liveC s x = 0 ∧ PinS x.toNat (-1) s s')) := by
  have HE := hid h
  have HI := hid (live_walk h.em h.ei.sn x)
  obtain ⟨c, hc⟩ : ∃ c, liveC s x = c := ⟨_, rfl⟩
  obtain ⟨p, hp⟩ : ∃ p, liveP gn s x = p := ⟨_, rfl⟩
  rw [hc, hp] at HI
  have Hc := hid hc
  have Hpp := hid hp
  clear h hc hp
  go_enter Tryd.func29, Tryd.ntmps29
  go_wp2_with fail
  refine HI.out.mono ?_
  rintro y w1 ⟨rfl, rfl⟩
  by_cases h0 : c = 0
  rotate_left
  · as_aux_lemma =>
    have dc : ((c : Int) != 0) = true := bne_iff_ne.2 (by omega)
    have Hu : Hid (unpinC s x = c) := hid (by unfold unpinC; rw [if_neg (by rw [Hc.out]; exact fun h => h0 h.1)]; exact Hc.out)
    have HG : Hid (∃ s' C', EE e gn gb w0 s' L C' w1 ∧ ((unpinC s x ≠ 0 ∧ s' = s) ∨ (unpinC s x = 0 ∧ liveC s x = 0 ∧ PinS x.toNat (-1) s s'))) := hid ⟨s, C, HE.out, .inl ⟨by rw [Hu.out]; exact h0, rfl⟩⟩
    go_wp2
    go_ret
    exact ⟨by rw [Hu.out]; rfl, HG.out⟩
  subst h0
  obtain ⟨i, rfl, hi, hw⟩ := liveC_live HE.out.ei Hc.out
  have hpp : p = .pointer (some ⟨gn, i * 7, none⟩) := by rw [← Hpp.out]; unfold liveP; rw [if_pos Hc.out, Int.toNat_natCast]
  subst hpp
  have hin : i < s.n := by rw [HE.out.ei.nn]; omega
  obtain ⟨z, hz⟩ : ∃ z, s.pin i = z := ⟨_, rfl⟩
  obtain ⟨pd, hpd⟩ : ∃ pd, s.pinned = pd := ⟨_, rfl⟩
  have hz1 : 0 ≤ z := by rw [← hz]; exact (HE.out.ei.pn i hin).1
  have hz2 : z ≤ 1000000 := by rw [← hz]; exact hpb i hi
  have hb := HE.out.ei.pinnedB
  rw [hpd] at hb
  have hb1 := hb.1
  have hb2 := hb.2
  have c1 : w1.cell? ⟨gn, i * 7 + 3, none⟩ = some (.int .i32 z) := by rw [HE.out.em.pin hin, hz]
  have Hw := hid hw
  have Hz := hid hz
  have Hpd := hid hpd
  clear hb hz hpd hw
  by_cases hz0 : z = 0
  · as_aux_lemma =>
    subst hz0
    have Hu : Hid (unpinC s (i : Int) = 4) := hid (by unfold unpinC; rw [if_pos ⟨Hc.out, by rw [Int.toNat_natCast]; exact Hz.out⟩])
    have HG : Hid (∃ s' C', EE e gn gb w0 s' L C' w1 ∧ ((unpinC s (i : Int) ≠ 0 ∧ s' = s) ∨ (unpinC s (i : Int) = 0 ∧ liveC s (i : Int) = 0 ∧ PinS (i : Int).toNat (-1) s s'))) := hid ⟨s, C, HE.out, .inl ⟨by rw [Hu.out]; decide, rfl⟩⟩
    go_wp2
    go_ret
    exact ⟨by rw [Hu.out]; rfl, HG.out⟩
  have dz : (z == 0) = false := by rw [beq_eq_false_iff_ne]; exact hz0
  have Hu : Hid (unpinC s (i : Int) = 0) := hid (by unfold unpinC; rw [if_neg (by rw [Int.toNat_natCast, Hz.out]; exact fun h => hz0 h.2)]; exact Hc.out)
  have f1 := HE.out.em.nb.frozen (i * 7 + 3)
  have E1 := HE.out.em.setPin hin (z - 1)
  have a1 : (w1.setCell ⟨gn, i * 7 + 3, none⟩ (.int .i32 (z - 1))).cell? ⟨gn, i * 7 + 3, none⟩ = some (.int .i32 (z - 1)) := by rw [E1.pin hin]; show some (Value.int .i32 (upd s.pin i (z - 1) i)) = _; rw [upd_same]
  have a2 : (w1.setCell ⟨gn, i * 7 + 3, none⟩ (.int .i32 (z - 1))).cell? ⟨e, 23, none⟩ = some (.int .i64 pd) := by rw [E1.pinned]; show some (Value.int .i64 s.pinned) = _; rw [Hpd.out]
  have f2 := E1.eb.frozen 23
  by_cases hz3 : z = 1
  · as_aux_lemma =>
    have dz2 : (z - 1 == 0) = true := by rw [hz3]; rfl
    have E2 := E1.setPinned (pd - 1)
    have HG : Hid (∃ s' C', EE e gn gb w0 s' L C' ((w1.setCell ⟨gn, i * 7 + 3, none⟩ (.int .i32 (z - 1))).setCell ⟨e, 23, none⟩ (.int .i64 (pd - 1))) ∧ ((unpinC s (i : Int) ≠ 0 ∧ s' = s) ∨ (unpinC s (i : Int) = 0 ∧ liveC s (i : Int) = 0 ∧ PinS (i : Int).toNat (-1) s s'))) := hid ⟨_, C, ⟨E2, (HE.out.u3.trans (U3.set gn _ _ (.inr (.inl rfl)))).trans (U3.set e _ _ (.inl rfl)), HE.out.ei.pins hi Hw.out (by omega) (by rw [Hz.out, Hpd.out, if_pos hz0, if_neg (by omega)]; omega)⟩, .inr ⟨Hu.out, Hc.out, ⟨rfl, rfl, rfl, rfl, rfl, rfl, rfl⟩, rfl, rfl, rfl, rfl, by rw [Int.toNat_natCast, Hz.out]; rfl⟩⟩
    clear E1 E2 hz3
    go_wp2
    go_ret
    exact ⟨by rw [Hu.out]; rfl, HG.out⟩
  · as_aux_lemma =>
    have dz2 : (z - 1 == 0) = false := by rw [beq_eq_false_iff_ne]; omega
    have HG : Hid (∃ s' C', EE e gn gb w0 s' L C' (w1.setCell ⟨gn, i * 7 + 3, none⟩ (.int .i32 (z - 1))) ∧ ((unpinC s (i : Int) ≠ 0 ∧ s' = s) ∨ (unpinC s (i : Int) = 0 ∧ liveC s (i : Int) = 0 ∧ PinS (i : Int).toNat (-1) s s'))) := hid ⟨_, C, ⟨E1, HE.out.u3.trans (U3.set gn _ _ (.inr (.inl rfl))), by
      have := HE.out.ei.pins hi Hw.out (v := z - 1) (p := s.pinned) (by omega) (by rw [Hz.out, if_pos hz0, if_pos (by omega)]; omega)
      exact this⟩, .inr ⟨Hu.out, Hc.out, ⟨rfl, rfl, rfl, rfl, rfl, rfl, rfl⟩, rfl, rfl, rfl, rfl, by rw [Int.toNat_natCast, Hz.out]; rfl⟩⟩
    clear E1
    go_wp2
    go_ret
    exact ⟨by rw [Hu.out]; rfl, HG.out⟩
/-- unlink, then pushHead. -/
theorem move_si (h : EE e gn gb w0 s L C w) {s1 : ES} {w1 : World} (h1 : SI e gn gb w0 s1 L C (Hs s) w1) (hcf : Cf s s1) (hr : s1.whr = s.whr) {i q : Nat} (hi : i < s.slots) (hw : s.whr i = 1 ∨ s.whr i = 2) (hq : q = 1 ∨ q = 2) :
    Calls Tryd.prog 45 #[.pointer (some ⟨e, 0, none⟩), .int .i32 (i : Int)] w1 fun x w2 => x = .returned (.tuple #[]) ∧ Hid (Calls Tryd.prog 40 #[.pointer (some ⟨e, 0, none⟩), .int .u8 (q : Int), .int .i32 (i : Int)] w2 fun x w3 => x = .returned (.tuple #[]) ∧ Hid (∃ s3, SI e gn gb w0 s3 (upd (upd L (s.whr i) ((L (s.whr i)).erase i)) q (i :: (upd L (s.whr i) ((L (s.whr i)).erase i)) q)) C (Hs s) w3 ∧ Fx s1 s3 ∧ s3.whr = upd s.whr i q)) := by
  have hin : i < s1.n := by rw [hcf.n, h.ei.nn]; omega
  refine (unlink_si h1 (q := s.whr i) (i := i) (by omega) (by omega) hin (by rw [hr])).mono ?_
  rintro x w2 ⟨rfl, s2, h2, f2, r2⟩
  refine ⟨rfl, hid ?_⟩
  refine (pushHead_si h2 (q := q) (i := i) (by omega) (by omega) (by rw [f2.n]; exact hin) (by rw [r2, upd_same])).mono ?_
  rintro x w3 ⟨rfl, s3, h3, f3, r3⟩
  exact ⟨rfl, hid ⟨s3, h3, f2.trans f3, by rw [r3, r2, upd_upd, hr]⟩⟩
end
end Go.Proofs.Qxb6500892aDoor
