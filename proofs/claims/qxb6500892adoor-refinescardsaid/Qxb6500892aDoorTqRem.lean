/- remember. -/
import Derived.Test.Qxb6500892aDoorTqEI
namespace Go.Proofs.Qxb6500892aDoor
open Go.RowKit
set_option linter.unusedSimpArgs false
set_option linter.unusedVariables false

/-- Room among the spare cells. -/
structure RMid (s : ES) (L : Nat → List Nat) (s1 : ES) (L1 : Nat → List Nat) : Prop where
  fx : Fx s s1
  whr : ∀ i, i < s.slots → s1.whr i = s.whr i
  l1 : L1 1 = L 1
  l2 : L1 2 = L 2
  gk : (L1 3).map s.key = ((L 3).map s.key).take (s.kout - 1)
  ne : L1 4 ≠ []
  hs : ∀ i, Hs s1 i → Hs s i
theorem erase_last {A : List Nat} {g : Nat} (h : (A ++ [g]).Nodup) : (A ++ [g]).erase g = A := by
  rw [List.nodup_append] at h
  rw [List.erase_append_right _ (fun hm => h.2.2 g hm g (by simp) rfl)]
  simp
section
variable {s s1 s5 : ES} {L L1 C C1 C5 : Nat → List Nat}
theorem RMid.same (h : EI s L C) (hk : s.kout ≠ 0) (hz : L 4 ≠ []) : RMid s L s L :=
  ⟨Fx.refl s, fun _ _ => rfl, rfl, rfl, by
    rw [List.take_of_length_le]
    rw [List.length_map]
    have := h.gl
    have := List.length_pos_iff.2 hz
    omega, hz, fun _ h => h⟩
theorem RMid.drop (h : EI s L C) {A : List Nat} {g : Nat} (hL : L 3 = A ++ [g]) (hz : L 4 = []) (hf : Fx s s1) (hr : s1.whr = upd s.whr g 4) : RMid s L s1 (upd (upd L 3 ((L 3).erase g)) 4 (g :: L 4)) := by
  have hgm : g ∈ L 3 := by rw [hL]; simp
  have hgw := h.wh (q := 3) (by omega) hgm
  have hgs : s.slots ≤ g := by
    rcases Nat.lt_or_ge g s.slots with h1 | h1
    · have := h.slot g h1; omega
    · exact h1
  refine ⟨hf, fun i hi => by rw [hr, upd_ne _ _ (by omega)], rfl, rfl, ?_, by show (g :: L 4) ≠ []; simp, fun i hi => ?_⟩
  · show ((L 3).erase g).map s.key = _
    have hnd := (h.q.dl 3 (by omega)).nd
    rw [hL] at hnd ⊢
    rw [erase_last hnd, List.map_append, List.take_append_of_le_length (by
      rw [List.length_map]
      have := h.gl
      rw [hL, hz, List.length_append] at this
      simp at this
      omega), List.take_of_length_le]
    rw [List.length_map]
    have := h.gl
    rw [hL, hz, List.length_append] at this
    simp at this
    omega
  · unfold Hs at hi ⊢
    rw [hf.n, hr, upd_ev] at hi
    refine ⟨hi.1, ?_⟩
    have := hi.2
    split at this
    · rename_i e
      subst e
      exact .inr (.inr hgw)
    · exact this
/-- A ghost is made of a spare cell. -/
theorem EI.ghost (h : EI s1 L1 C1) {g : Nat} {T : List Nat} {k : Nat} (hg : L1 4 = g :: T) (hk : ∀ i, Hs s1 i → s1.key i ≠ k) (hq : QI s5 (upd (upd L1 4 T) 3 (g :: L1 3))) (hc : CI s5 C5 (fun j => Hs s1 j ∨ j = g))
    (f1 : s5.n = s1.n) (f2 : s5.slots = s1.slots ∧ s5.kin = s1.kin ∧ s5.kout = s1.kout ∧ s5.kneg = s1.kneg) (f3 : s5.key = upd s1.key g k) (f4 : s5.pin = s1.pin) (f5 : s5.neg = s1.neg) (f6 : s5.negs = s1.negs) (f7 : s5.pinned = s1.pinned) (hr : s5.whr = upd s1.whr g 3) : EI s5 (upd (upd L1 4 T) 3 (g :: L1 3)) C5 := by
  have hgm : g ∈ L1 4 := by rw [hg]; simp
  have hgw := h.wh (q := 4) (by omega) hgm
  have hgn := h.hs_lt (q := 4) (by omega) hgm
  have hgs : s1.slots ≤ g := by
    rcases Nat.lt_or_ge g s1.slots with h1 | h1
    · have := h.slot g h1; omega
    · exact h1
  obtain ⟨f2a, f2b, f2c, f2d⟩ := f2
  have hH : ∀ j, (Hs s1 j ∨ j = g) ↔ Hs s5 j := fun j => by
    unfold Hs
    rw [f1, hr, upd_ev]
    by_cases e : j = g
    · subst e
      rw [if_pos rfl]
      exact ⟨fun _ => ⟨hgn, .inr (.inr rfl)⟩, fun _ => .inr rfl⟩
    · rw [if_neg e]
      exact ⟨fun h1 => by rcases h1 with h1 | h1; exact h1; exact absurd h1 e, fun h1 => .inl h1⟩
  refine ⟨hq, hc.iff hH, by rw [f1, f2a, f2c]; exact h.nn, by rw [f2a, f2b, f2c, f2d]; exact h.s1, fun i hi => ?_, fun i hi hi2 => ?_, fun i j hi hj e => ?_, fun i hi => ?_, fun i hi e => ?_, ?_, ?_, ?_⟩
  · rw [f2a] at hi
    rw [hr, upd_ne _ _ (by omega)]
    exact h.slot i hi
  · rw [f2a] at hi
    rw [f1] at hi2
    rw [hr, upd_ev]
    split
    · exact .inl rfl
    · exact h.gho i hi hi2
  · rw [f3, upd_ev, upd_ev] at e
    rcases (hH i).2 hi with h1 | h1 <;> rcases (hH j).2 hj with h2 | h2
    · by_cases e1 : i = g
      · subst e1
        unfold Hs at h1
        omega
      · by_cases e2 : j = g
        · subst e2
          unfold Hs at h2
          omega
        · rw [if_neg e1, if_neg e2] at e
          exact h.uq i j h1 h2 e
    · subst h2
      by_cases e1 : i = j
      · exact e1
      · rw [if_neg e1, if_pos rfl] at e
        exact absurd e (hk i h1)
    · subst h1
      by_cases e1 : j = i
      · exact e1.symm
      · rw [if_pos rfl, if_neg e1] at e
        exact absurd e.symm (hk j h2)
    · exact h1.trans h2.symm
  · rw [f1] at hi
    rw [f4, hr]
    refine ⟨(h.pn i hi).1, fun h1 => ?_⟩
    have h2 := (h.pn i hi).2 h1
    rw [upd_ne _ _ (fun e => by subst e; omega)]
    exact h2
  · rw [f1] at hi
    rw [f5] at e
    have h2 := h.ng i hi e
    rw [hr, upd_ne _ _ (fun e => by subst e; omega)]
    exact h2
  · rw [f6, f5, h.negs]
    rfl
  · rw [f7, f4, h.pinned]
    rfl
  · have h5 := h.gl
    rw [f2c]
    rw [hg] at h5
    show (g :: L1 3).length + T.length = s1.kout
    rw [List.length_cons] at h5 ⊢
    omega
end
section
variable {e gn gb : Nat} {w0 : World} {s : ES} {L C : Nat → List Nat} {w : World}
set_option maxRecDepth 100000 in
set_option maxHeartbeats 1000000 in
theorem remember_ee (h : EE e gn gb w0 s L C w) {k : Nat} (hk : ∀ i, Hs s i → s.key i ≠ k) :
    Calls Tryd.prog 63 #[.pointer (some ⟨e, 0, none⟩), .int .u64 (k : Int)] w fun x w' => x = .returned (.tuple #[]) ∧ ∃ s' L' C', EE e gn gb w0 s' L' C' w' ∧ Rem k s L s' L' := by
  have HE := hid h
  have HK := hid hk
  have c0 : w.cell? ⟨e, 2, none⟩ = some (.int .i64 (s.kout : Int)) := h.em.kout
  clear h hk
  by_cases hk0 : s.kout = 0
  · as_aux_lemma =>
    rw [hk0] at c0
    have c00 : w.cell? ⟨e, 2, none⟩ = some (.int .i64 0) := c0
    clear c0
    have HG : Hid (∃ s' L' C', EE e gn gb w0 s' L' C' w ∧ Rem k s L s' L') := hid ⟨s, L, C, HE.out, ⟨rfl, rfl, rfl, rfl, rfl, rfl, rfl, rfl, rfl, rfl, rfl, fun _ _ => rfl, fun _ _ => rfl, rfl, rfl, by
      have := HE.out.ei.gl
      rw [hk0] at this ⊢
      have h3 : L 3 = [] := List.length_eq_zero_iff.1 (by omega)
      rw [h3]
      rfl⟩⟩
    clear hk0
    go_enter Tryd.func63, Tryd.ntmps63
    go_wp2
    refine bodyPost_ret (results_none Tryd.results63 _ _ _) rfl ?_
    exact ⟨rfl, HG.out⟩
  have d0 : ((s.kout : Int) == 0) = false := by rw [beq_eq_false_iff_ne]; omega
  obtain ⟨z, hz⟩ : ∃ z, s.sz 4 = z := ⟨_, rfl⟩
  have c1 : w.cell? ⟨e, 19, none⟩ = some (.int .i64 z) := by rw [← hz]; exact HE.out.em.sz (q := 4) (by omega)
  have hzl : z = ((L 4).length : Int) := by rw [← hz]; exact (HE.out.ei.q.dl 4 (by omega)).sz
  obtain ⟨Bz, hBz⟩ : ∃ Bz, (z == 0) = Bz := ⟨_, rfl⟩
  have HBz := hid hBz
  have Hzl := hid hzl
  have Hk0 := hid hk0
  clear hz hzl hk0
  go_enter Tryd.func63, Tryd.ntmps63
  go_upto_if 17 with fail
  clear hBz
  go_cut [] from 18 to 25 (fun wc => Hid (∃ s1 L1 C1, EE e gn gb w0 s1 L1 C1 wc ∧ RMid s L s1 L1))
  case first =>
    as_aux_lemma =>
    by_cases h4 : L 4 = []
    · as_aux_lemma =>
      have dz : Bz = true := by rw [← HBz.out, Hzl.out, h4]; rfl
      subst dz
      have h3 : L 3 ≠ [] := fun e3 => by
        have := HE.out.ei.gl
        rw [e3, h4] at this
        exact Hk0.out this.symm
      obtain ⟨A, g, hL⟩ : ∃ (A : List Nat) (g : Nat), L 3 = A ++ [g] := by
        rcases lastI_cases (L 3) with ⟨e1, _⟩ | ⟨A, g, e1, _⟩
        · exact absurd e1 h3
        · exact ⟨A, g, e1⟩
      have hgm : g ∈ L 3 := by rw [hL]; simp
      have hgw := HE.out.ei.wh (q := 3) (by omega) hgm
      have hgn := HE.out.ei.hs_lt (q := 3) (by omega) hgm
      have ct : w.cell? ⟨e, 15, none⟩ = some (.int .i32 (g : Int)) := by
        have h5 := HE.out.em.tl (q := 3) (by omega)
        rw [(HE.out.ei.q.dl 3 (by omega)).tl, hL, lastI_snoc] at h5
        exact h5
      have HD := hid (dropGhost_ee HE.out hgn hgw)
      have H4 := hid h4
      have HLg := hid hL
      clear h4 hL h3 hgm hgw
      go_wp2_with fail
      refine HD.out.mono ?_
      rintro x w2 ⟨rfl, s2, C2, h2, f2, r2⟩
      have HG : Hid (∃ s1 L1 C1, EE e gn gb w0 s1 L1 C1 w2 ∧ RMid s L s1 L1) := hid ⟨_, _, _, h2, RMid.drop HE.out.ei HLg.out H4.out f2 r2⟩
      clear h2 f2 r2 HD
      go_wp2
      go_meet
      case rel => exact HG
    · as_aux_lemma =>
      have dz : Bz = false := by
        rw [← HBz.out, beq_eq_false_iff_ne, Hzl.out]
        have := List.length_pos_iff.2 h4
        omega
      subst dz
      have HG : Hid (∃ s1 L1 C1, EE e gn gb w0 s1 L1 C1 w ∧ RMid s L s1 L1) := hid ⟨_, _, _, HE.out, RMid.same HE.out.ei Hk0.out h4⟩
      clear h4
      go_wp2
      go_meet
      case rel => exact HG
  case rest =>
  as_aux_lemma =>
  obtain ⟨s1, L1, C1, hE1, hM⟩ := hcut.out
  have hk0 := Hk0.out
  clear hcut HE c0 c1 d0
  obtain ⟨g, T, hg⟩ : ∃ g T, L1 4 = g :: T := by
    cases hl : L1 4 with
    | nil => exact absurd hl hM.ne
    | cons g T => exact ⟨g, T, rfl⟩
  have hgm : g ∈ L1 4 := by rw [hg]; simp
  have hgw := hE1.ei.wh (q := 4) (by omega) hgm
  have hgn := hE1.ei.hs_lt (q := 4) (by omega) hgm
  have c2 : wc.cell? ⟨e, 17, none⟩ = some (.int .i32 (g : Int)) := by
    have h5 := hE1.em.hd (q := 4) (by omega)
    rw [(hE1.ei.q.dl 4 (by omega)).hd, hg] at h5
    exact h5
  have H1 := hid (unlink_si hE1.si (q := 4) (i := g) (by omega) (by omega) hgn hgw)
  have HE1 := hid hE1
  have HM := hid hM
  have Hgw := hid hgw
  have HgL := hid hg
  have hgi : (g : Int) < (s1.n : Int) := by omega
  clear hE1 hM hgm hgw hg hk0
  go_wp2_with fail
  refine H1.out.mono ?_
  rintro x w2 ⟨rfl, s2, h2, f2, r2⟩
  have hnh : ¬ Hs s1 g := fun hh => by unfold Hs at hh; have := Hgw.out; omega
  have hg2 : g < s2.n := by rw [f2.n]; exact hgn
  have e4 : w2.cell? ⟨e, 4, none⟩ = some (.slice (some ⟨gn, 0, none⟩) s1.n s1.n) := by rw [h2.em.nds, f2.n]
  have ek := h2.em.key hg2
  have fk := h2.em.nb.frozen (g * 7 + 4)
  have H3 : Hid (SI e gn gb w0 { s2 with key := upd s2.key g k } (upd L1 4 T) C1 (Hs s1) (w2.setCell ⟨gn, g * 7 + 4, none⟩ (.int .u64 (k : Int)))) := hid ⟨h2.em.setKey hg2 k, h2.u3.trans (U3.set gn _ _ (.inr (.inl rfl))), by
    have hq := h2.q
    rw [HgL.out, List.erase_cons_head] at hq
    exact hq.of rfl rfl rfl rfl rfl rfl rfl, h2.c.of rfl rfl rfl rfl rfl (fun j hj => upd_ne _ _ (fun e1 => hnh (e1 ▸ hj)))⟩
  have F2 := hid f2
  have R2 := hid r2
  clear h2 f2 r2 H1
  go_upto_region 6 with fail
  generalize w2.setCell ⟨gn, g * 7 + 4, none⟩ (.int .u64 (k : Int)) = w3 at H3 ⊢
  clear e4 ek fk c2
  have H4 := hid (hashIn_si H3.out (i := g) hg2 hnh)
  go_wp2_with fail
  refine H4.out.mono ?_
  rintro x w4 ⟨rfl, s4, C4, h4, f4, r4⟩
  have hg4 : g < s4.n := by rw [f4.n]; exact hg2
  have H5 := hid (pushHead_si h4 (q := 3) (i := g) (by omega) (by omega) hg4 (by rw [r4]; show s2.whr g = 0; rw [R2.out, upd_same]))
  have F4 := hid f4
  have R4 := hid r4
  clear h4 f4 r4 H4 H3
  go_wp2_with fail
  refine H5.out.mono ?_
  rintro x w5 ⟨rfl, s5, h5, f5, r5⟩
  have HG : Hid (∃ s' L' C', EE e gn gb w0 s' L' C' w5 ∧ Rem k s L s' L') := hid (by
    have k5 : s5.key = upd s1.key g k := by rw [f5.key, F4.out.key]; show upd s2.key g k = _; rw [F2.out.key]
    have w5' : s5.whr = upd s1.whr g 3 := by rw [r5, R4.out]; show upd s2.whr g 3 = _; rw [R2.out, upd_upd]
    have n5 : s5.n = s1.n := by rw [f5.n, F4.out.n]; exact F2.out.n
    have m5 : s5.m = s1.m := by rw [f5.m, F4.out.m]; exact F2.out.m
    have a1 : s5.slots = s1.slots := by rw [f5.slots, F4.out.slots]; exact F2.out.slots
    have a2 : s5.kin = s1.kin := by rw [f5.kin, F4.out.kin]; exact F2.out.kin
    have a3 : s5.kout = s1.kout := by rw [f5.kout, F4.out.kout]; exact F2.out.kout
    have a4 : s5.kneg = s1.kneg := by rw [f5.kneg, F4.out.kneg]; exact F2.out.kneg
    have a5 : s5.pin = s1.pin := by rw [f5.pin, F4.out.pin]; exact F2.out.pin
    have a6 : s5.neg = s1.neg := by rw [f5.neg, F4.out.neg]; exact F2.out.neg
    have a7 : s5.negs = s1.negs := by rw [f5.negs, F4.out.negs]; exact F2.out.negs
    have a8 : s5.pinned = s1.pinned := by rw [f5.pinned, F4.out.pinned]; exact F2.out.pinned
    have a9 : s5.shift = s1.shift := by rw [f5.shift, F4.out.shift]; exact F2.out.shift
    have hM := HM.out
    have hk1 : ∀ i, Hs s1 i → s1.key i ≠ k := fun i hi => by rw [hM.fx.key]; exact HK.out i (hM.hs i hi)
    have hei := HE1.out.ei.ghost HgL.out hk1 h5.q h5.c n5 ⟨a1, a2, a3, a4⟩ k5 a5 a6 a7 a8 w5'
    have hgs : s.slots ≤ g := by
      rcases Nat.lt_or_ge g s1.slots with h1 | h1
      · have := HE1.out.ei.slot g h1
        have := Hgw.out
        omega
      · rw [hM.fx.slots] at h1
        exact h1
    refine ⟨s5, _, C4, ⟨h5.em, h5.u3, hei⟩, ⟨n5.trans hM.fx.n, m5.trans hM.fx.m, a1.trans hM.fx.slots, a2.trans hM.fx.kin, a3.trans hM.fx.kout, a4.trans hM.fx.kneg, a9.trans hM.fx.shift, a5.trans hM.fx.pin, a6.trans hM.fx.neg, a7.trans hM.fx.negs, a8.trans hM.fx.pinned, fun i hi => by rw [k5, upd_ne _ _ (by omega), hM.fx.key], fun i hi => by rw [w5', upd_ne _ _ (by omega)]; exact hM.whr i hi, hM.l1, hM.l2, ?_⟩⟩
    show (g :: L1 3).map s5.key = _
    rw [List.map_cons, k5, upd_same]
    have h9 : (L1 3).map (upd s1.key g k) = (L1 3).map s.key := List.map_congr_left (fun j hj => by
      rw [upd_ne _ _ (fun e1 => by
        subst e1
        have := HE1.out.ei.wh (q := 3) (by omega) hj
        have := Hgw.out
        omega), hM.fx.key])
    rw [h9, hM.gk]
    obtain ⟨c, hc⟩ : ∃ c, s.kout = c + 1 := ⟨s.kout - 1, by have := Hk0.out; omega⟩
    rw [hc, List.take_succ_cons]
    rfl)
  clear h5 f5 r5 H5
  go_wp2
  refine bodyPost_end (results_none Tryd.results63 _ _ _) rfl ?_
  exact ⟨rfl, HG.out⟩
end
end Go.Proofs.Qxb6500892aDoor
