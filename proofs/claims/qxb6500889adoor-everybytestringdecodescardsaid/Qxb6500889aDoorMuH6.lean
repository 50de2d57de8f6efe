/- The heap: Step. -/
import Derived.Test.Qxb6500889aDoorMuH5
namespace Go.Proofs.Qxb6500889aDoor
open Go.RowKit
set_option linter.unusedSimpArgs false
set_option linter.unusedVariables false

/-- Which of two condemned the actor takes first. -/
def ahead (dec : Bool) (a b : Nat) : Prop := if dec then a ≤ b else b ≤ a
/-- What a collector's step does. -/
inductive StepR (H : HS) (actor : Nat) : HS → Prop
  | idle : actor = 5 → StepR H actor H
  | none : actor ≠ 5 → (∀ a, H.cond a = false) → StepR H actor H
  | free (a : Nat) (x : Ob) : actor ≠ 5 → H.cond a = true → H.objs a = some x → (∀ b, H.cond b = true → ahead (decide (actor = 4)) a b) → StepR H actor (freeH H a x)
theorem StepR.det {H H1 H2 : HS} {actor : Nat} (h1 : StepR H actor H1) (h2 : StepR H actor H2) : H1 = H2 := by
  cases h1 with
  | idle e =>
    cases h2 with
    | idle _ => rfl
    | none _ _ => rfl
    | free a x n _ _ _ => exact absurd e n
  | none n c =>
    cases h2 with
    | idle _ => rfl
    | none _ _ => rfl
    | free a x _ g _ _ => rw [c a] at g; cases g
  | free a x n g o f =>
    cases h2 with
    | idle e => exact absurd e n
    | none _ c => rw [c a] at g; cases g
    | free b y _ g' o' f' =>
      have k1 := f b g'
      have k2 := f' a g
      have : a = b := by
        unfold ahead at k1 k2
        by_cases hd : decide (actor = 4) = true
        · rw [if_pos hd] at k1 k2; omega
        · rw [if_neg hd] at k1 k2; omega
      subst this
      rw [o] at o'
      cases o'
      rfl
section
variable {w w' : World} {ρ ρ' : Rl} {L : HL} {H : HS}
/-- While the condemned are looked through. -/
structure StS (w : World) (ρ : Rl) (L : HL) (H : HS) (dec : Bool) (r pick : Nat) (F : List Ent) (T : List Nat) (wr : World) : Prop where
  hm : HM wr ρ L H
  fr : Fr ρ w ρ wr
  pn : PN wr L.mC F
  it : IT wr r L.mC F T
  fk : ∀ a, (∃ e ∈ F, e.k = a) ↔ H.cond a = true
  r0 : ρ r = 0
  rw : w.heap.size ≤ r
  pk : (pick = 0 ∧ ∀ a, H.cond a = true → a ∈ T) ∨ (pick ≠ 0 ∧ H.cond pick = true ∧ ∀ a, H.cond a = true → a ∉ T → ahead dec pick a)
set_option maxRecDepth 1000000 in
set_option maxHeartbeats 4000000 in
theorem step_walk (h : HM w ρ L H) (hwf : Wf H) {actor : Nat} (ha : actor = 4 ∨ actor = 5 ∨ actor = 6) :
    Calls Tryd.prog 64 #[.pointer (some ⟨L.hB, 0, none⟩), .int .i64 (actor : Int)] w fun e w' => e = .returned (.tuple #[]) ∧ ∃ H', StepR H actor H' ∧ HM w' ρ L H' ∧ Fr ρ w ρ w' := by
  have HH := hid h
  have HW := hid hwf
  obtain ⟨hB, hhB⟩ : ∃ b, L.hB = b := ⟨_, rfl⟩
  obtain ⟨mC, hmC⟩ : ∃ b, L.mC = b := ⟨_, rfl⟩
  have HhB := hid hhB
  have HmC := hid hmC
  rw [hhB]
  by_cases h5 : actor = 5
  · subst h5
    clear h hwf hhB hmC
    go_enter Tryd.func64, Tryd.ntmps64
    go_wp2
    refine bodyPost_ret (v := .tuple #[]) (by simp [results, Tryd.results64, go_sem]) rfl ⟨rfl, H, .idle rfl, HH.out, Fr.refl _ _⟩
  have d5 : ((actor : Int) == 5) = false := by simp; omega
  obtain ⟨dec, hdec⟩ : ∃ dec, ((actor : Int) == 4) = dec := ⟨_, rfl⟩
  have Hdec : Hid (decide (actor = 4) = dec) := hid (by rw [← hdec, Bool.eq_iff_iff]; simp; omega)
  have H5 := hid h5
  have c10 : w.cell? ⟨hB, 10, none⟩ = some (.map (some mC)) := by rw [← HhB.out, ← HmC.out]; exact h.cells.2.2
  obtain ⟨F, q1, q2, q3⟩ := h.mc
  rw [hmC] at q1
  have HQ1 := hid q1
  have HQ3 := hid q3
  obtain ⟨r, hr0⟩ : ∃ r, w.heap.size = r := ⟨_, rfl⟩
  have Hr0 : Hid (ρ r = 0) := hid (by
    apply Classical.byContradiction
    intro hne
    have := h.dom r hne
    omega)
  clear h hwf hhB hmC q1 q2 q3 ha h5
  go_enter Tryd.func64, Tryd.ntmps64
  go_wp2_with (at_range; refine wpList_range_pn rfl (.tmp 11) 83 rfl Tryd.underlying83 mC F rfl HQ1.out ?_; intro w2 hit2 hbe2 hsz2)
  go_frame
  have HS0 : Hid (StS w ρ L H dec r 0 F (F.map (·.k)) w2) := hid ⟨HH.out.below hbe2, Fr.below hbe2, by rw [HmC.out]; exact HQ1.out.below hbe2, by rw [HmC.out, ← hr0]; exact hit2, HQ3.out, Hr0.out, by omega, .inl ⟨rfl, fun a ha => by
    obtain ⟨e, he, rfl⟩ := (HQ3.out a).2 ha
    exact List.mem_map.2 ⟨e, he, rfl⟩⟩⟩
  clear hit2 hbe2 hsz2 c10 HQ1 HQ3
  simp only [hr0]
  clear hr0 Hr0
  go_loopw [4] (fun v wr => ∃ pick T, v = .int .u64 ((pick : Nat) : Int) ∧ Hid (StS w ρ L H dec r pick F T wr)) (fun _ wr => World.rangeLeft wr mC r)
  case atStart => exact ⟨0, _, rfl, HS0⟩
  case round =>
    clear HS0
    obtain ⟨pick, T, rfl, HS⟩ := hrel
    have Hpn : Hid (PN wr mC F) := hid (by rw [← HmC.out]; exact HS.out.pn)
    have Hit : Hid (IT wr r mC F T) := hid (by rw [← HmC.out]; exact HS.out.it)
    go_upto_region 3 with fail
    refine wp_region_lit ?_
    refine wpList_next_pn rfl (.tmp 12) rfl r mC F T rfl Hpn.out Hit.out ?_ ?_
    · as_aux_lemma =>
      intro hT
      by_cases hp0 : pick = 0
      · subst hp0
        have HF : Hid (∃ H', StepR H actor H' ∧ HM wr ρ L H' ∧ Fr ρ w ρ wr) := hid ⟨H, .none H5.out (fun a => by
          rcases HS.out.pk with ⟨_, h1⟩ | ⟨h1, _⟩
          · cases hc : H.cond a with
            | false => rfl
            | true => have := h1 a hc; rw [hT] at this; cases this
          · exact absurd rfl h1), HS.out.hm, HS.out.fr⟩
        clear HS Hpn Hit
        go_frame
        go_wp2
        refine bodyPost_end (v := .tuple #[]) (by simp [results, Tryd.results64, go_sem]) rfl ⟨rfl, HF.out⟩
      · have dp : ((pick : Int) != 0) = true := by simp; omega
        have hpk : H.cond pick = true ∧ ∀ a, H.cond a = true → ahead dec pick a := by
          rcases HS.out.pk with ⟨h1, _⟩ | ⟨_, h2, h3⟩
          · exact absurd h1 hp0
          · exact ⟨h2, fun a ha => h3 a ha (by rw [hT]; simp)⟩
        obtain ⟨x, hx⟩ := HW.out.cd pick hpk.1
        obtain ⟨s, hs, hle⟩ := HW.out.rng pick x hx
        have HFr := hid (free_walk HS.out.hm (s := s) (x := x) (by rw [← hs]; exact hx) (by rw [← hs]; exact hpk.1) hle)
        rw [← hs, HhB.out] at HFr
        have HRes : Hid (StepR H actor (freeH H pick x)) := hid (.free pick x H5.out hpk.1 hx (by rw [Hdec.out]; exact hpk.2))
        have HFb := hid HS.out.fr
        clear HS Hpn Hit hpk hx hs hle hT
        go_frame
        go_wp2_with fail
        refine (HFr.out).mono ?_
        rintro e w3 ⟨rfl, hfp⟩
        have HF3 : Hid (∃ H', StepR H actor H' ∧ HM w3 ρ L H' ∧ Fr ρ w ρ w3) := hid ⟨_, HRes.out, hfp.hm, HFb.out.trans hfp.fr⟩
        clear hfp
        go_wp2
        refine bodyPost_end (v := .tuple #[]) (by simp [results, Tryd.results64, go_sem]) rfl ⟨rfl, HF3.out⟩
    · as_aux_lemma =>
      intro e w2 he heT hpn2 hit2 hu2 hsz2 hen2
      have hce : H.cond e.k = true := (HS.out.fk e.k).1 ⟨e, he, rfl⟩
      obtain ⟨x, hx⟩ := HW.out.cd e.k hce
      obtain ⟨s, hs, hle⟩ := HW.out.rng e.k x hx
      have HM2 : Hid (HM w2 ρ L H) := hid (HS.out.hm.other hu2 (.inl HS.out.r0))
      have HF2 : Hid (Fr ρ w ρ w2) := hid ⟨hu2.os.trans HS.out.fr.os, hu2.tape.trans HS.out.fr.tape, hu2.output.trans HS.out.fr.output, Nat.le_trans HS.out.fr.size hu2.size, fun _ _ => rfl, fun g hg h0 => (hu2.block g (Nat.lt_of_lt_of_le hg HS.out.fr.size) (by have := HS.out.rw; omega)).trans (HS.out.fr.blk g hg h0)⟩
      have HI2 := hid hit2
      have HP2 := hid hpn2
      have Hms : Hid (World.rangeLeft w2 mC r < World.rangeLeft wr mC r) := hid (by rw [hit2.left, Hit.out.left]; exact left_less he heT)
      obtain ⟨ek, hek⟩ : ∃ ek, e.k = ek := ⟨_, rfl⟩
      obtain ⟨ev, hev⟩ : ∃ ev, e.v = ev := ⟨_, rfl⟩
      rw [hek, hev] at hen2
      rw [hek] at HI2 hce hs
      rw [hek, hev]
      have hk0 : ek ≠ 0 := by omega
      have Hce := hid hce
      have HNx : Hid (∀ p, ((p = pick ∧ p ≠ 0 ∧ ahead dec pick ek) ∨ (p = ek ∧ (pick = 0 ∨ ahead dec ek pick))) → StS w ρ L H dec r p F (T.filter fun k => decide (k ≠ ek)) w2) := hid (fun p hp => ⟨HM2.out, HF2.out, by rw [HmC.out]; exact HP2.out, by rw [HmC.out]; exact HI2.out, HS.out.fk, HS.out.r0, HS.out.rw, .inr (by
        have hmem : ∀ a, a ∉ T.filter (fun k => decide (k ≠ ek)) → a = ek ∨ a ∉ T := fun a hn => by
          by_cases hae : a = ek
          · exact .inl hae
          · exact .inr (fun hT => hn (List.mem_filter.2 ⟨hT, decide_eq_true hae⟩))
        have hrefl : ∀ a, ahead dec a a := fun a => by unfold ahead; split <;> omega
        rcases hp with ⟨rfl, h0, hah⟩ | ⟨rfl, hor⟩
        · rcases HS.out.pk with ⟨h1, _⟩ | ⟨_, h2, h3⟩
          · exact absurd h1 h0
          · refine ⟨h0, h2, fun a ha hn => ?_⟩
            rcases hmem a hn with rfl | hn'
            · exact hah
            · exact h3 a ha hn'
        · refine ⟨hk0, Hce.out, fun a ha hn => ?_⟩
          rcases hmem a hn with rfl | hn'
          · exact hrefl _
          · rcases HS.out.pk with ⟨h1, h2⟩ | ⟨h1, h2, h3⟩
            · exact absurd (h2 a ha) hn'
            · rcases hor with h4 | h4
              · exact absurd h4 h1
              · have := h3 a ha hn'
                unfold ahead at this h4 ⊢
                split at this <;> simp_all <;> omega)⟩)
      clear hce hx hs hle hek hev he heT hpn2 hit2 hu2 hsz2 HM2 HF2 HI2 HP2 HS Hpn Hit
      go_frame
      by_cases hp0 : pick = 0
      · subst hp0
        go_wp2
        exact ⟨⟨ek, _, rfl, hid (HNx.out ek (.inr ⟨rfl, .inl rfl⟩))⟩, Hms.out⟩
      have dp : ((pick : Int) == 0) = false := by simp; omega
      by_cases hlt : ek < pick
      · have dl : decide ((ek : Int) < (pick : Int)) = true := decide_eq_true (by omega)
        cases dec with
        | true =>
          go_wp2
          exact ⟨⟨ek, _, rfl, hid (HNx.out ek (.inr ⟨rfl, .inr (by unfold ahead; simp; omega)⟩))⟩, Hms.out⟩
        | false =>
          go_wp2
          exact ⟨⟨pick, _, rfl, hid (HNx.out pick (.inl ⟨rfl, hp0, by unfold ahead; simp; omega⟩))⟩, Hms.out⟩
      · have dl : decide ((ek : Int) < (pick : Int)) = false := decide_eq_false (by omega)
        cases dec with
        | true =>
          go_wp2
          exact ⟨⟨pick, _, rfl, hid (HNx.out pick (.inl ⟨rfl, hp0, by unfold ahead; simp; omega⟩))⟩, Hms.out⟩
        | false =>
          go_wp2
          exact ⟨⟨ek, _, rfl, hid (HNx.out ek (.inr ⟨rfl, .inr (by unfold ahead; simp; omega)⟩))⟩, Hms.out⟩
end
end Go.Proofs.Qxb6500889aDoor
