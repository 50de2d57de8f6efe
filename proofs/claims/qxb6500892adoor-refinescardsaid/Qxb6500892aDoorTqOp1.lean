/- Remove, Evict, Pin, Unpin, Touch. -/
import Derived.Test.Qxb6500892aDoorTqEnt2
namespace Go.Proofs.Qxb6500892aDoor
open Go.RowKit
set_option linter.unusedSimpArgs false
set_option linter.unusedVariables false

/-- The error number, and what was done. -/
def Rtn (c : Nat) : Ending := .returned (.int .u8 (c : Int))
theorem idleC_0 {s : ES} {L C : Nat → List Nat} (h : EI s L C) {x : Int} (hx : idleC s x = 0) : ∃ i : Nat, x = (i : Int) ∧ i < s.slots ∧ (s.whr i = 1 ∨ s.whr i = 2) ∧ s.pin i = 0 := by
  unfold idleC at hx
  split at hx
  · cases hx
  · rename_i hn
    obtain ⟨i, rfl, hi, hw⟩ := liveC_0 hx
    rw [Int.toNat_natCast] at hn
    have h1 := h.slot i hi
    have h2 := (h.pn i (by rw [h.nn]; omega)).1
    exact ⟨i, rfl, hi, by omega, by
      have : ¬ 0 < s.pin i := fun h3 => hn ⟨hx, h3⟩
      omega⟩
theorem liveC_live {s : ES} {L C : Nat → List Nat} (h : EI s L C) {x : Int} (hx : liveC s x = 0) : ∃ i : Nat, x = (i : Int) ∧ i < s.slots ∧ (s.whr i = 1 ∨ s.whr i = 2) := by
  obtain ⟨i, rfl, hi, hw⟩ := liveC_0 hx
  have h1 := h.slot i hi
  exact ⟨i, rfl, hi, by omega⟩
theorem EI.sn {s : ES} {L C : Nat → List Nat} (h : EI s L C) : s.slots ≤ s.n := by rw [h.nn]; omega
section
variable {e gn gb : Nat} {w0 : World} {s : ES} {L C : Nat → List Nat} {w : World}
set_option maxRecDepth 100000 in
theorem remove_ee (h : EE e gn gb w0 s L C w) (x : Int) :
    Calls Tryd.prog 27 #[.pointer (some ⟨e, 0, none⟩), .int .i64 x] w fun y w' => y = Rtn (idleC s x) ∧ ∃ s' L' C', EE e gn gb w0 s' L' C' w' ∧ ((idleC s x ≠ 0 ∧ s' = s ∧ L' = L) ∨ (idleC s x = 0 ∧ LeaS x.toNat s L s' L')) := by
  have HE := hid h
  have HI := hid (idle_walk h.em h.ei.sn x)
  obtain ⟨c, hc⟩ : ∃ c, idleC s x = c := ⟨_, rfl⟩
  rw [hc] at HI
  have Hc := hid hc
  clear h hc
  go_enter Tryd.func27, Tryd.ntmps27
  go_wp2_with fail
  refine HI.out.mono ?_
  rintro y w1 ⟨⟨p, rfl⟩, rfl⟩
  by_cases h0 : c = 0
  · as_aux_lemma =>
    subst h0
    obtain ⟨i, rfl, hi, hw, hp⟩ := idleC_0 HE.out.ei Hc.out
    have HL := hid (leave_ee HE.out hi hw hp)
    clear hw hp
    have dc : (((0 : Nat) : Int) != 0) = false := by decide
    go_wp2_with fail
    refine HL.out.mono ?_
    rintro y w2 ⟨rfl, s2, L2, C2, hE2, hS2⟩
    have HG : Hid (∃ s' L' C', EE e gn gb w0 s' L' C' w2 ∧ ((idleC s (i : Int) ≠ 0 ∧ s' = s ∧ L' = L) ∨ (idleC s (i : Int) = 0 ∧ LeaS (i : Int).toNat s L s' L'))) := hid ⟨s2, L2, C2, hE2, .inr ⟨Hc.out, by rw [Int.toNat_natCast]; exact hS2⟩⟩
    clear hE2 hS2 HL
    go_wp2
    go_ret
    exact ⟨by rw [Hc.out]; rfl, HG.out⟩
  · as_aux_lemma =>
    have dc : ((c : Int) != 0) = true := bne_iff_ne.2 (by omega)
    have HG : Hid (∃ s' L' C', EE e gn gb w0 s' L' C' w1 ∧ ((idleC s x ≠ 0 ∧ s' = s ∧ L' = L) ∨ (idleC s x = 0 ∧ LeaS x.toNat s L s' L'))) := hid ⟨s, L, C, HE.out, .inl ⟨by rw [Hc.out]; exact h0, rfl, rfl⟩⟩
    go_wp2
    go_ret
    exact ⟨by rw [Hc.out]; rfl, HG.out⟩
set_option maxRecDepth 100000 in
theorem evict_ee (h : EE e gn gb w0 s L C w) (x : Int) :
    Calls Tryd.prog 30 #[.pointer (some ⟨e, 0, none⟩), .int .i64 x] w fun y w' => y = Rtn (idleC s x) ∧ ∃ s' L' C', EE e gn gb w0 s' L' C' w' ∧ ((idleC s x ≠ 0 ∧ s' = s ∧ L' = L) ∨ (idleC s x = 0 ∧ PgS x.toNat s L s' L')) := by
  have HE := hid h
  have HI := hid (idle_walk h.em h.ei.sn x)
  obtain ⟨c, hc⟩ : ∃ c, idleC s x = c := ⟨_, rfl⟩
  rw [hc] at HI
  have Hc := hid hc
  clear h hc
  go_enter Tryd.func30, Tryd.ntmps30
  go_wp2_with fail
  refine HI.out.mono ?_
  rintro y w1 ⟨⟨p, rfl⟩, rfl⟩
  by_cases h0 : c = 0
  · as_aux_lemma =>
    subst h0
    obtain ⟨i, rfl, hi, hw, hp⟩ := idleC_0 HE.out.ei Hc.out
    have HL := hid (pageOut_ee HE.out hi hw hp)
    clear hw hp
    have dc : (((0 : Nat) : Int) != 0) = false := by decide
    go_wp2_with fail
    refine HL.out.mono ?_
    rintro y w2 ⟨rfl, s2, L2, C2, hE2, hS2⟩
    have HG : Hid (∃ s' L' C', EE e gn gb w0 s' L' C' w2 ∧ ((idleC s (i : Int) ≠ 0 ∧ s' = s ∧ L' = L) ∨ (idleC s (i : Int) = 0 ∧ PgS (i : Int).toNat s L s' L'))) := hid ⟨s2, L2, C2, hE2, .inr ⟨Hc.out, by rw [Int.toNat_natCast]; exact hS2⟩⟩
    clear hE2 hS2 HL
    go_wp2
    go_ret
    exact ⟨by rw [Hc.out]; rfl, HG.out⟩
  · as_aux_lemma =>
    have dc : ((c : Int) != 0) = true := bne_iff_ne.2 (by omega)
    have HG : Hid (∃ s' L' C', EE e gn gb w0 s' L' C' w1 ∧ ((idleC s x ≠ 0 ∧ s' = s ∧ L' = L) ∨ (idleC s x = 0 ∧ PgS x.toNat s L s' L'))) := hid ⟨s, L, C, HE.out, .inl ⟨by rw [Hc.out]; exact h0, rfl, rfl⟩⟩
    go_wp2
    go_ret
    exact ⟨by rw [Hc.out]; rfl, HG.out⟩
end
/-- What a pin does: d is 1 or -1. -/
structure PinS (i : Nat) (d : Int) (s s' : ES) : Prop where
  cf : Cf s s'
  whr : s'.whr = s.whr
  key : s'.key = s.key
  neg : s'.neg = s.neg
  negs : s'.negs = s.negs
  pin : s'.pin = upd s.pin i (s.pin i + d)
section
variable {s s' : ES} {L C : Nat → List Nat}
theorem count_pin (h : EI s L C) {i : Nat} (hi : i < s.slots) (hw : s.whr i = 1 ∨ s.whr i = 2) (v : Int) : (((L 1 ++ L 2).countP (fun j => decide (upd s.pin i v j ≠ 0)) : Nat) : Int) = ((L 1 ++ L 2).countP (fun j => decide (s.pin j ≠ 0)) : Int) - (if s.pin i ≠ 0 then 1 else 0) + (if v ≠ 0 then 1 else 0) := by
  have hin : i < s.n := by rw [h.nn]; omega
  have hm : i ∈ L 1 ++ L 2 := by
    have := h.q.mem i hin (by omega)
    rcases hw with e | e <;> rw [e] at this <;> simp [this]
  have hnd : (L 1 ++ L 2).Nodup := by
    rw [List.nodup_append]
    refine ⟨(h.q.dl 1 (by omega)).nd, (h.q.dl 2 (by omega)).nd, fun a ha b hb e => ?_⟩
    subst e
    have h1 := h.wh (q := 1) (by omega) ha
    have h2 := h.wh (q := 2) (by omega) hb
    omega
  rw [countP_erase' (p := fun j => decide (upd s.pin i v j ≠ 0)) hm, countP_erase' (p := fun j => decide (s.pin j ≠ 0)) hm, countP_congr' (p := fun j => decide (upd s.pin i v j ≠ 0)) (p' := fun j => decide (s.pin j ≠ 0)) (fun j hj => by
    rw [upd_ne _ _ (fun e => by subst e; exact ((List.Nodup.mem_erase_iff hnd).1 hj).1 rfl)])]
  rw [upd_same]
  by_cases h1 : s.pin i = 0 <;> by_cases h2 : v = 0 <;> simp [h1, h2]
  all_goals omega
theorem EI.pins (h : EI s L C) {i : Nat} (hi : i < s.slots) (hw : s.whr i = 1 ∨ s.whr i = 2) {v p : Int} (hv : 0 ≤ v) (hp : p = s.pinned - (if s.pin i ≠ 0 then 1 else 0) + (if v ≠ 0 then 1 else 0)) : EI { s with pin := upd s.pin i v, pinned := p } L C := by
  refine ⟨h.q.of rfl rfl rfl rfl rfl rfl rfl, h.c.of rfl rfl rfl rfl rfl (fun _ _ => rfl), h.nn, h.s1, h.slot, h.gho, h.uq, fun j hj => ?_, h.ng, h.negs, ?_, h.gl⟩
  · show 0 ≤ upd s.pin i v j ∧ (upd s.pin i v j ≠ 0 → _)
    rw [upd_ev]
    split
    · rename_i e
      subst e
      exact ⟨hv, fun _ => hw⟩
    · exact h.pn j hj
  · show p = (((L 1 ++ L 2).countP fun j => decide (upd s.pin i v j ≠ 0) : Nat) : Int)
    rw [count_pin h hi hw, ← h.pinned, hp]
theorem EI.pinnedB (h : EI s L C) : 0 ≤ s.pinned ∧ s.pinned ≤ 1000000 := by
  rw [h.pinned]
  have h1 := List.countP_le_length (p := fun i => decide (s.pin i ≠ 0)) (l := L 1 ++ L 2)
  rw [List.length_append] at h1
  have h2 := h.q.len (q := 1) (by omega)
  have h3 := h.q.len (q := 2) (by omega)
  have h4 := h.q.nb
  omega
end
section
variable {e gn gb : Nat} {w0 : World} {s : ES} {L C : Nat → List Nat} {w : World}
set_option maxRecDepth 100000 in
set_option maxHeartbeats 1000000 in
theorem pin_ee (h : EE e gn gb w0 s L C w) (x : Int) (hpb : ∀ i, i < s.slots → s.pin i ≤ 1000000) :
    Calls Tryd.prog 28 #[.pointer (some ⟨e, 0, none⟩), .int .i64 x] w fun y w' => y = Rtn (liveC s x) ∧ ∃ s' C', EE e gn gb w0 s' L C' w' ∧ ((liveC s x ≠ 0 ∧ s' = s) ∨ (liveC s x = 0 ∧ PinS x.toNat 1 s s')) := by
  have HE := hid h
  have HI := hid (live_walk h.em h.ei.sn x)
  obtain ⟨c, hc⟩ : ∃ c, liveC s x = c := ⟨_, rfl⟩
  obtain ⟨p, hp⟩ : ∃ p, liveP gn s x = p := ⟨_, rfl⟩
  rw [hc, hp] at HI
  have Hc := hid hc
  have Hpp := hid hp
  clear h hc hp
  go_enter Tryd.func28, Tryd.ntmps28
  go_wp2_with fail
  refine HI.out.mono ?_
  rintro y w1 ⟨rfl, rfl⟩
  by_cases h0 : c = 0
  rotate_left
  · as_aux_lemma =>
    have dc : ((c : Int) != 0) = true := bne_iff_ne.2 (by omega)
    have HG : Hid (∃ s' C', EE e gn gb w0 s' L C' w1 ∧ ((liveC s x ≠ 0 ∧ s' = s) ∨ (liveC s x = 0 ∧ PinS x.toNat 1 s s'))) := hid ⟨s, C, HE.out, .inl ⟨by rw [Hc.out]; exact h0, rfl⟩⟩
    go_wp2
    go_ret
    exact ⟨by rw [Hc.out]; rfl, HG.out⟩
  subst h0
  obtain ⟨i, rfl, hi, hw⟩ := liveC_live HE.out.ei Hc.out
  have hpp : p = .pointer (some ⟨gn, i * 7, none⟩) := by rw [← Hpp.out]; unfold liveP; rw [if_pos Hc.out, Int.toNat_natCast]
  subst hpp
  have hin : i < s.n := by rw [HE.out.ei.nn]; omega
  obtain ⟨z, hz⟩ : ∃ z, s.pin i = z := ⟨_, rfl⟩
  obtain ⟨pd, hpd⟩ : ∃ pd, s.pinned = pd := ⟨_, rfl⟩
  have hz1 : 0 ≤ z := by rw [← hz]; exact (HE.out.ei.pn i hin).1
  have hz2 : z ≤ 1000000 := by rw [← hz]; exact hpb i hi
  have hb := HE.out.ei.pinnedB
  rw [hpd] at hb
  have hb1 := hb.1
  have hb2 := hb.2
  have c1 : w1.cell? ⟨gn, i * 7 + 3, none⟩ = some (.int .i32 z) := by rw [HE.out.em.pin hin, hz]
  have c2 : w1.cell? ⟨e, 23, none⟩ = some (.int .i64 pd) := by rw [HE.out.em.pinned, hpd]
  have Hw := hid hw
  have Hz := hid hz
  have Hpd := hid hpd
  clear hb hz hpd hw
  by_cases hz0 : z = 0
  · as_aux_lemma =>
    subst hz0
    have f1 := HE.out.em.eb.frozen 23
    have E1 := HE.out.em.setPinned (pd + 1)
    have a1 : (w1.setCell ⟨e, 23, none⟩ (.int .i64 (pd + 1))).cell? ⟨gn, i * 7 + 3, none⟩ = some (.int .i32 0) := by rw [E1.pin hin]; show some (Value.int .i32 (s.pin i)) = _; rw [Hz.out]
    have b1 := E1.nb.frozen (i * 7 + 3)
    have E2 : EM e gn gb { s with pin := upd s.pin i 1, pinned := pd + 1 } ((w1.setCell ⟨e, 23, none⟩ (.int .i64 (pd + 1))).setCell ⟨gn, i * 7 + 3, none⟩ (.int .i32 1)) := E1.setPin hin 1
    have HG : Hid (∃ s' C', EE e gn gb w0 s' L C' ((w1.setCell ⟨e, 23, none⟩ (.int .i64 (pd + 1))).setCell ⟨gn, i * 7 + 3, none⟩ (.int .i32 1)) ∧ ((liveC s (i : Int) ≠ 0 ∧ s' = s) ∨ (liveC s (i : Int) = 0 ∧ PinS (i : Int).toNat 1 s s'))) := hid ⟨_, C, ⟨E2, (HE.out.u3.trans (U3.set e _ _ (.inl rfl))).trans (U3.set gn _ _ (.inr (.inl rfl))), HE.out.ei.pins hi Hw.out (by omega) (by rw [Hz.out, Hpd.out]; simp)⟩, .inr ⟨Hc.out, ⟨rfl, rfl, rfl, rfl, rfl, rfl, rfl⟩, rfl, rfl, rfl, rfl, by rw [Int.toNat_natCast, Hz.out]; rfl⟩⟩
    clear E1 E2
    go_wp2
    go_ret
    exact ⟨by rw [Hc.out]; rfl, HG.out⟩
  · as_aux_lemma =>
    have dz : (z == 0) = false := by rw [beq_eq_false_iff_ne]; exact hz0
    have f1 := HE.out.em.nb.frozen (i * 7 + 3)
    have E2 := HE.out.em.setPin hin (z + 1)
    have HG : Hid (∃ s' C', EE e gn gb w0 s' L C' (w1.setCell ⟨gn, i * 7 + 3, none⟩ (.int .i32 (z + 1))) ∧ ((liveC s (i : Int) ≠ 0 ∧ s' = s) ∨ (liveC s (i : Int) = 0 ∧ PinS (i : Int).toNat 1 s s'))) := hid ⟨_, C, ⟨E2, HE.out.u3.trans (U3.set gn _ _ (.inr (.inl rfl))), by
      have := HE.out.ei.pins hi Hw.out (v := z + 1) (p := s.pinned) (by omega) (by rw [Hz.out, if_pos hz0, if_pos (by omega)]; omega)
      exact this⟩, .inr ⟨Hc.out, ⟨rfl, rfl, rfl, rfl, rfl, rfl, rfl⟩, rfl, rfl, rfl, rfl, by rw [Int.toNat_natCast, Hz.out]⟩⟩
    clear E2
    go_wp2
    go_ret
    exact ⟨by rw [Hc.out]; rfl, HG.out⟩
end
end Go.Proofs.Qxb6500892aDoor
