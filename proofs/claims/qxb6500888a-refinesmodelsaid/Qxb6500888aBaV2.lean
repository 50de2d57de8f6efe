/- The plain machine: what a pause and the decrements keep. -/
import Derived.Test.Qxb6500888aBaV1
namespace Go.Proofs.Qxb6500888a
open Go.RowKit
set_option linter.unusedSimpArgs false
set_option linter.unusedVariables false
attribute [local irreducible] nz

theorem phi_def (G : GS) : phi G = G.calls.length + 8192 * (32768 - nz G.cnt) := by unfold phi; rfl
theorem nz_dn (f : Nat → Nat) {o : Nat} (h1 : 65536 ≤ o) (h2 : o < 98304) : nz f ≤ nz (fup f o 0) + 1 := by
  by_cases h0 : f o = 0
  · have : fup f o 0 = f := by rw [← h0]; exact fup_same f o
    rw [this]; omega
  · have h3 := nz_up (f := fup f o 0) (n := f o) h1 h2 (fup_self _ _ _) h0
    rw [fup_fup, fup_same] at h3
    omega
theorem phi_drop {G : GS} (h : GOk G) {o : Nat} (ho : G.pend o ≠ 0) : phi (dropG G o) ≤ phi G + 8192 := by
  have hin := h.pd o ho
  unfold dropG
  split
  · exact Nat.le_trans (Nat.le_of_eq (phi_eq (G := G) rfl rfl)) (Nat.le_add_right _ _)
  · split
    · exact Nat.le_trans (Nat.le_of_eq (phi_eq (G := G) rfl rfl)) (Nat.le_add_right _ _)
    · split
      · rw [phi_def, phi_def]
        show G.calls.length + 8192 * (32768 - nz (fup G.cnt o 0)) ≤ _
        have := nz_dn G.cnt hin.1 hin.2
        have := nz_le G.cnt
        omega
      · rename_i h0 h3 h1
        rw [phi_def, phi_def]
        show G.calls.length + 8192 * (32768 - nz (fup G.cnt o (G.cnt o - 1))) ≤ _
        rw [nz_same (f := G.cnt) h0 (by omega)]
        omega
/-- Some decrements of a step. -/
structure InvD (t d : Nat) (G : GS) : Prop where
  ok : GOk G
  ph : phi G ≤ 268435456 + bnd t + d * 8192
  de : G.deaths.length ≤ bnd t + d * 8192
  pe : ∀ a, G.pend a ≤ bnd t + d * 8192
  er : G.errs ≤ bnd t + d * 8192
theorem InvD.drop {t d : Nat} {G : GS} (h : InvD t d G) {o : Nat} (ho : G.pend o ≠ 0) : InvD t (d + 1) (dropG G o) := by
  have h1 := phi_drop h.ok ho
  have h2 := h.ph
  have hb : GB { G with calls := [] } (bnd t + d * 8192) := ⟨Nat.zero_le _, h.de, h.pe, h.er⟩
  have hin := h.ok.pd o ho
  have hl : ∀ a, (lessG G o).pend a ≤ bnd t + d * 8192 := fun a => by
    show fup G.pend o (G.pend o - 1) a ≤ _
    by_cases e : a = o
    · subst e; rw [fup_self]; have := h.pe a; omega
    · rw [fup_ne _ _ e]; exact h.pe a
  have h3 := h.de
  have h4 := h.er
  have hd : (dropG G o).deaths.length ≤ G.deaths.length + 1 := by
    unfold dropG
    split
    · exact Nat.le_succ _
    · split
      · exact Nat.le_succ _
      · split
        · show (G.deaths ++ [o]).length ≤ _
          simp
        · exact Nat.le_succ _
  have he : (dropG G o).errs ≤ G.errs + 1 := by
    unfold dropG
    split
    · exact Nat.le_refl _
    · split
      · exact Nat.le_succ _
      · split
        · exact Nat.le_succ _
        · exact Nat.le_succ _
  have hp : ∀ a, (dropG G o).pend a ≤ (lessG G o).pend a + 8192 := fun a => by
    unfold dropG
    split
    · exact Nat.le_add_right _ _
    · split
      · exact Nat.le_add_right _ _
      · split
        · show addP (lessG G o).pend (refL G o) a ≤ _
          have h5 := addP_le (refL G o) (lessG G o).pend a
          have h6 := refP_len G o (rfOf G o)
          have h7 := h.ok.sz hin.1 hin.2
          have h8 : (refL G o).length ≤ rfOf G o := h6
          omega
        · exact Nat.le_add_right _ _
  exact ⟨h.ok.drop ho, by omega, by omega, fun a => by have := hp a; have := hl a; omega, by omega⟩
theorem bnd_le {t d e x : Nat} (hd : d ≤ e) (h : x ≤ bnd t + d * 8192) : x ≤ bnd t + e * 8192 := by
  have h0 : d * 8192 ≤ e * 8192 := Nat.mul_le_mul_right _ hd
  exact Nat.le_trans h (Nat.add_le_add (Nat.le_refl _) h0)
theorem bnd_le2 {t d e x : Nat} (hd : d ≤ e) (h : x ≤ 268435456 + bnd t + d * 8192) : x ≤ 268435456 + bnd t + e * 8192 := by
  have h0 : d * 8192 ≤ e * 8192 := Nat.mul_le_mul_right _ hd
  exact Nat.le_trans h (Nat.add_le_add (Nat.le_refl _) h0)
theorem InvD.mono {t d e : Nat} {G : GS} (h : InvD t d G) (hd : d ≤ e) : InvD t e G := ⟨h.ok, bnd_le2 hd h.ph, bnd_le hd h.de, fun a => bnd_le hd (h.pe a), bnd_le hd h.er⟩
theorem InvD.many {t : Nat} : ∀ (n : Nat) {d : Nat} {G : GS}, InvD t d G → InvD t (d + n) (decN n G).2
  | 0, d, G, h => h
  | n + 1, d, G, h => by
    show InvD t (d + (n + 1)) (match stepF G with | none => (0, G) | some G' => ((decN n G').1 + 1, (decN n G').2)).2
    cases e : stepF G with
    | none => exact h.mono (Nat.le_add_right _ _)
    | some G' =>
      obtain ⟨o, ho, rfl⟩ := stepF_inv e
      have := InvD.many n (h.drop ho.at_)
      rw [show d + (n + 1) = d + 1 + n by omega]
      exact this
theorem InvM.dec {t : Nat} {G : GS} {B : BS} (h : InvM t G B) {n : Nat} (hn : n ≤ 8) : InvM (t + 1) (decN n G).2 B := by
  have h0 : InvD t 0 G := ⟨h.ok, by have := h.ph; omega, by have := h.de; omega, fun a => by have := h.pe a; omega, by have := h.er; omega⟩
  have h1 := h0.many n
  have h2 := bnd_s t
  have h3 := h1.ph
  have h4 := h1.de
  have h5 := h1.er
  exact ⟨h1.ok, by omega, by omega, fun a => by have := h1.pe a; omega, by omega, h.bo.mono (by omega)⟩
/-- The increments: their calls are paid for. -/
def psi (p : GS × (Nat → List Nat)) : Nat := phi p.1 + (p.2 4).length
theorem psi_inc {hv0 : Nat → List Nat} {C : Nat} {p : GS × (Nat → List Nat)} (h : ApS hv0 C p.1 p.2) {o : Nat} (h1 : 65536 ≤ o) (h2 : o < 98304) : psi (incP p o) ≤ psi p + 1 ∧ (p.2 4).length ≤ ((incP p o).2 4).length := by
  have hn := nz_inc (G := p.1) h1 h2
  have hle := nz_le (incG p.1 o).cnt
  have hrl : (refL p.1 o).length ≤ 8192 := by
    have h3 := refP_len p.1 o (rfOf p.1 o)
    have h4 := h.ok.sz h1 h2
    have h5 : (refL p.1 o).length ≤ rfOf p.1 o := h3
    omega
  have hlen : ((incP p o).2 4).length = (p.2 4).length + (if p.1.cnt o = 0 then (refL p.1 o).length else 0) := by
    show (incH p.1 p.2 o 4).length = _
    unfold incH
    by_cases e : p.1.cnt o = 0
    · rw [if_pos e, if_pos e, fup_self, List.length_append]
    · rw [if_neg e, if_neg e, Nat.add_zero]
  have hc : (incG p.1 o).calls.length = p.1.calls.length + 1 := by show (p.1.calls ++ [_]).length = _; simp
  refine ⟨?_, by omega⟩
  unfold psi
  rw [phi_def, phi_def, hlen]
  show (incG p.1 o).calls.length + 8192 * (32768 - nz (incG p.1 o).cnt) + _ ≤ _
  rw [hc]
  by_cases e : p.1.cnt o = 0
  · rw [if_pos e] at hn ⊢
    omega
  · rw [if_neg e] at hn ⊢
    omega
theorem psi_incs {hv0 : Nat → List Nat} : ∀ (l : List Nat) {C : Nat} {p : GS × (Nat → List Nat)}, ApS hv0 C p.1 p.2 → (∀ o ∈ l, 65536 ≤ o ∧ o < 98304) → psi (incs p l) ≤ psi p + l.length
  | [], C, p, h, _ => Nat.le_refl _
  | o :: l, C, p, h, hr => by
    have h1 := psi_inc h (hr o (by simp)).1 (hr o (by simp)).2
    have h2 := psi_incs l (p := incP p o) (h.step (hr o (by simp)).1 (hr o (by simp)).2) (fun x hx => hr x (by simp [hx]))
    show psi (incs (incP p o) l) ≤ _
    rw [List.length_cons]
    omega
theorem births_ok {hv0 : Nat → List Nat} : ∀ (n k : Nat) {C : Nat} {p : GS × (Nat → List Nat)}, ApS hv0 C p.1 p.2 → k ≤ (p.2 4).length → (∃ C', ApS hv0 C' (births n k p).1 (births n k p).2) ∧ phi (births n k p).1 + k ≤ psi p
  | 0, k, C, p, h, hk => ⟨⟨C, h⟩, by show phi p.1 + k ≤ psi p; unfold psi; omega⟩
  | n + 1, k, C, p, h, hk => by
    unfold births
    by_cases hlt : k < (p.2 4).length
    · rw [if_pos hlt]
      have hin := h.r _ (getD_mem hlt)
      have h1 := psi_inc h hin.1 hin.2
      have h2 := births_ok n (k + 1) (p := incP p ((p.2 4).getD k 0)) (h.step hin.1 hin.2) (by omega)
      exact ⟨h2.1, by have := h2.2; omega⟩
    · rw [if_neg hlt]
      exact ⟨⟨C, h⟩, by unfold psi; omega⟩
theorem apply_ok {hv0 : Nat → List Nat} {C : Nat} {p : GS × (Nat → List Nat)} (h : ApS hv0 C p.1 p.2) (h4 : p.2 4 = []) (hr0 : ∀ o ∈ p.2 0, 65536 ≤ o ∧ o < 98304) (hr2 : ∀ o ∈ p.2 2, 65536 ≤ o ∧ o < 98304) : (∃ C', ApS hv0 C' (applyP p).1 (applyP p).2) ∧ phi (applyP p).1 ≤ phi p.1 + (p.2 0).length + (p.2 2).length := by
  have a1 := h.incs (p.2 0) hr0
  have a2 := a1.incs (p.2 2) hr2
  have b1 := psi_incs (p.2 0) h hr0
  have b2 := psi_incs (p.2 2) a1 hr2
  have c := births_ok 400000000 0 a2 (Nat.zero_le _)
  unfold applyP
  refine ⟨c.1, ?_⟩
  have c2 := c.2
  have e : psi p = phi p.1 := by unfold psi; rw [h4]; rfl
  omega
theorem reap_cnt (p : GS × (Nat → List Nat)) (o : Nat) : (reap1 p o).1.cnt = p.1.cnt ∧ (reap1 p o).1.calls = p.1.calls := by
  unfold reap1
  split
  · rename_i h0
    refine ⟨?_, rfl⟩
    show fup p.1.cnt o 0 = p.1.cnt
    rw [← h0]
    exact fup_same _ _
  · exact ⟨rfl, rfl⟩
theorem reaps_ok {G0 : GS} {hv0 : Nat → List Nat} : ∀ (l : List Nat) {D : Nat} {p : GS × (Nat → List Nat)}, RpS G0 hv0 D p.1 p.2 → phi p.1 = phi G0 → RpS G0 hv0 (D + l.length) (reaps p l).1 (reaps p l).2 ∧ phi (reaps p l).1 = phi G0
  | [], D, p, h, hp => ⟨h, hp⟩
  | o :: l, D, p, h, hp => by
    have h1 := reaps_ok l (p := reap1 p o) (h.step o) (by rw [phi_eq (reap_cnt p o).2 (reap_cnt p o).1]; exact hp)
    rw [List.length_cons, show D + (l.length + 1) = D + 1 + l.length by omega]
    exact h1
theorem reapK_ok {G0 : GS} {hv0 : Nat → List Nat} {B : BS} {N : Nat} (hN : ∀ m, (B.fresh m).length ≤ N) {p : GS × (Nat → List Nat)} (h : RpS G0 hv0 0 p.1 p.2) (hp : phi p.1 = phi G0) : ∀ k, ∃ D, D ≤ k * N ∧ RpS G0 hv0 D (reapK B p k).1 (reapK B p k).2 ∧ phi (reapK B p k).1 = phi G0
  | 0 => ⟨0, by omega, h, hp⟩
  | k + 1 => by
    obtain ⟨D, h1, h2, h3⟩ := reapK_ok hN h hp k
    rw [reapK_s]
    have h4 := reaps_ok (B.fresh k) h2 h3
    exact ⟨D + (B.fresh k).length, by have := hN k; rw [Nat.add_mul, Nat.one_mul]; omega, h4.1, h4.2⟩
theorem decs_ok : ∀ (l : List Nat) {G0 G : GS} {D : Nat}, DcS G0 D G → DcS G0 (D + l.length) (decs G l)
  | [], _, _, _, h => h
  | o :: l, G0, G, D, h => by
    have := decs_ok l (h.step o)
    rw [List.length_cons, show D + (l.length + 1) = D + 1 + l.length by omega]
    exact this
theorem decs_pd : ∀ (l : List Nat) {G : GS}, (∀ a, G.pend a ≠ 0 → 65536 ≤ a ∧ a < 98304) → (∀ o ∈ l, 65536 ≤ o ∧ o < 98304) → ∀ a, (decs G l).pend a ≠ 0 → 65536 ≤ a ∧ a < 98304
  | [], _, h, _ => h
  | o :: l, G, h, hl => decs_pd l (G := decG G o) (fun a ha => by
      have ha' : fup G.pend o (G.pend o + 1) a ≠ 0 := ha
      by_cases e : a = o
      · subst e; exact hl a (by simp)
      · rw [fup_ne _ _ e] at ha'; exact h a ha') (fun x hx => hl x (by simp [hx]))
theorem InvM.pause {t : Nat} {G : GS} {B : BS} (h : InvM t G B) (ht : t ≤ 65536) : InvM (t + 1) (pauseP G B).1 (pauseP G B).2.1 := by
  have hb := h.bo
  have hN : 1000 ≤ 1000 + t := by omega
  have hl := hv3_len G hb hN
  have ha0 := hv3_ap h.ok hb
  have hr0 : ∀ o ∈ hv3P G B 0, 65536 ≤ o ∧ o < 98304 := fun o ho => by rw [hv3_lo G B (by decide)] at ho; exact hvK_in0 h.ok.wd hb.lf 4 (Nat.le_refl _) o ho
  have hr1 : ∀ o ∈ hv3P G B 1, 65536 ≤ o ∧ o < 98304 := fun o ho => by rw [hv3_lo G B (by decide)] at ho; exact hvK_in1 hb.lo 4 (Nat.le_refl _) o ho
  have hr2 : ∀ o ∈ hv3P G B 2, 65536 ≤ o ∧ o < 98304 := fun o ho => by
    rw [hv3_2] at ho
    obtain ⟨m, hm, hmo⟩ := rootsK_mem ho
    exact hb.ro m hm o hmo
  have hr3 : ∀ o ∈ hv3P G B 3, 65536 ≤ o ∧ o < 98304 := fun o ho => by rw [hv3_3] at ho; exact hb.la o ho
  obtain ⟨⟨C4, ha4⟩, hp4⟩ := apply_ok (p := (G, hv3P G B)) ha0 (hv3_mid G B (by decide) (by decide)) hr0 hr2
  have hk4 := ha4.k
  dsimp only at hp4
  have hd4 : (applyP (G, hv3P G B)).1.deaths = G.deaths := applyP_keep (fun G => G.deaths) (fun _ _ => rfl) _
  have hpe4 : (applyP (G, hv3P G B)).1.pend = G.pend := applyP_keep (fun G => G.pend) (fun _ _ => rfl) _
  have he4 : (applyP (G, hv3P G B)).1.errs = G.errs := applyP_keep (fun G => G.errs) (fun _ _ => rfl) _
  have hok4 := ha4.ok
  obtain ⟨p4, hp4e⟩ : ∃ p, applyP (G, hv3P G B) = p := ⟨_, rfl⟩
  rw [hp4e] at hp4 hk4 hd4 hpe4 he4 hok4
  obtain ⟨D, hD, hrp, hph5⟩ := reapK_ok (G0 := p4.1) (hv0 := p4.2) hb.nf (p := p4) ⟨hok4, Nat.le_refl _, rfl, rfl, rfl, fun _ _ => rfl, Nat.le_refl _⟩ rfl 4
  obtain ⟨p5, hp5e⟩ : ∃ p, reapK B p4 4 = p := ⟨_, rfl⟩
  rw [hp5e] at hrp hph5
  have h51 : p5.2 1 = hv3P G B 1 := by rw [hrp.k 1 (by decide), hk4 1 (by decide) (by decide)]
  have h53 : p5.2 3 = hv3P G B 3 := by rw [hrp.k 3 (by decide), hk4 3 (by decide) (by decide)]
  have d1 := decs_ok (p5.2 1) (G0 := p5.1) (G := p5.1) (D := 0) ⟨Nat.le_refl _, fun _ => Nat.le_refl _, rfl⟩
  have d2 := decs_ok (p5.2 3) d1
  have hpd := decs_pd (p5.2 3) (decs_pd (p5.2 1) hrp.ok.pd (by rw [h51]; exact hr1)) (by rw [h53]; exact hr3)
  obtain ⟨G6, hG6⟩ : ∃ G6, decs (decs p5.1 (p5.2 1)) (p5.2 3) = G6 := ⟨_, rfl⟩
  rw [hG6] at d2 hpd
  have e1 : (pauseP G B).1 = { G6 with lg := fillF G6.lg 0 32768 false } := by
    unfold pauseP
    dsimp only
    rw [show seedH (drK B 4) (hroots (drK B 4) (hvK G B hv00 4)) = hv3P G B from rfl, hp4e, hp5e, hG6]
  have e2 : (pauseP G B).2.1 = { clrF (seedB (drK B 4)) 4 with last := rootsK B 4, ep := B.ep + 1 } := rfl
  have l0 := hl 0
  have l1 := hl 1
  have l2 : (hv3P G B 2).length ≤ 256 := by rw [hv3_2]; exact rootsK_len hb.nr 4
  have l3 : (hv3P G B 3).length ≤ 256 := by rw [hv3_3]; exact hb.na
  have hs := bnd_s t
  rw [h51, h53] at d2
  have hcnt : G6.cnt = p5.1.cnt := by rw [d2.s]
  have hph6 : phi { G6 with lg := fillF G6.lg 0 32768 false } ≤ phi p5.1 + ((hv3P G B 1).length + (hv3P G B 3).length) := by
    rw [phi_eq (G := G6) (G' := { G6 with lg := fillF G6.lg 0 32768 false }) rfl rfl, phi_def, phi_def, hcnt]
    have := d2.c
    omega
  rw [e1, e2]
  have hph := h.ph
  have hde := h.de
  have her := h.er
  refine ⟨⟨?_, ?_, hpd, ?_⟩, by omega, ?_, fun a => ?_, ?_, ?_⟩
  · show ∀ a n q, G6.head a = some (n, q) → _
    rw [d2.s]
    exact hrp.ok.hd
  · show ∀ i, i < 32768 → G6.word i = 0 ∨ (65536 ≤ G6.word i ∧ G6.word i < 98304)
    rw [d2.s]
    exact hrp.ok.wd
  · show ∀ a, G6.cnt a ≤ 3
    rw [hcnt]
    exact hrp.ok.ct
  · show G6.deaths.length ≤ _
    rw [d2.s]
    show p5.1.deaths.length ≤ _
    have := hrp.d
    rw [hd4] at this
    omega
  · show G6.pend a ≤ _
    have h1 := d2.p a
    rw [hrp.p, hpe4] at h1
    have := h.pe a
    omega
  · show G6.errs ≤ _
    rw [d2.s]
    show p5.1.errs ≤ _
    rw [hrp.e, he4]
    omega
  · have h3 := hb.hi
    rw [seedB_eq]
    refine ⟨fun m hm p hp => ?_, fun m hm p hp => ?_, hb.ro, fun m hm o ho => ?_, fun o ho => ?_, fun m => ?_, fun m => ?_, hb.nr, rootsK_len hb.nr 4, ?_, by have := hb.ep; show B.ep + 1 ≤ _; omega, by have := hb.md; show B.made ≤ _; omega, fun m hm => ?_⟩
    · have : p ∈ (if m < 4 then ([] : List (Nat × Nat)) else B.logs m) := hp
      rw [if_pos hm] at this; cases this
    · have : p ∈ (if m < 4 then ([] : List (Nat × Nat)) else B.logs m) := hp
      rw [if_pos hm] at this; cases this
    · have : o ∈ (if m < 4 then ([] : List Nat) else B.fresh m) := ho
      rw [if_pos hm] at this; cases this
    · have ho' : o ∈ rootsK B 4 := ho
      obtain ⟨m, hm, hmo⟩ := rootsK_mem ho'
      exact hb.ro m hm o hmo
    · show (if m < 4 then ([] : List (Nat × Nat)) else B.logs m).length ≤ _
      have := hb.nl m
      split
      · simp
      · omega
    · show (if m < 4 then ([] : List Nat) else B.fresh m).length ≤ _
      have := hb.nf m
      split
      · simp
      · omega
    · show (if B.tr = 1 then 2 else B.tr) ≤ 2
      have := hb.tr
      split <;> omega
    · refine ⟨?_, (h3 m hm).2.1, ?_⟩
      · show (if m < 4 then ([] : List (Nat × Nat)) else B.logs m) = []
        rw [if_neg (by omega)]; exact (h3 m hm).1
      · show (if m < 4 then ([] : List Nat) else B.fresh m) = []
        rw [if_neg (by omega)]; exact (h3 m hm).2.2
/-- What any step keeps. -/
theorem InvM.play {t : Nat} {G : GS} {B : BS} (h : InvM t G B) (ht : t ≤ 65536) (o : OpP) : InvM (t + 1) (playS G B o).2.2.1 (playS G B o).2.2.2 := by
  unfold playS
  have hP : ∀ {c : Prop} [Decidable c] {a b : (Nat × Nat) × (Nat → List Nat) × GS × BS}, (InvM (t + 1) a.2.2.1 a.2.2.2) → (InvM (t + 1) b.2.2.1 b.2.2.2) → InvM (t + 1) (if c then a else b).2.2.1 (if c then a else b).2.2.2 := fun {c} _ {a b} h1 h2 => ite_P (P := fun r : (Nat × Nat) × (Nat → List Nat) × GS × BS => InvM (t + 1) r.2.2.1 r.2.2.2) h1 h2
  refine hP (h.pause ht) (hP (h.dec (by omega)) (hP (h.bar ?_) (hP (hP h.succ (hP h.succ (hP (h.alloc _ _ _) ((h.alloc _ _ _).push _ _)))) (hP (h.bar ((h.bo.mono (by omega)).pop _)) (hP (hP h.succ (hP h.succ (h.write _ _ _ _))) (hP (h.named o) h.succ))))))
  have hb := h.succ.bo
  refine ⟨hb.lf, hb.lo, hb.ro, hb.fr, hb.la, hb.nl, hb.nf, hb.nr, hb.na, ?_, hb.ep, hb.md, hb.hi⟩
  show (if o.a = 0 then 0 else if B.tr = 0 then 1 else B.tr) ≤ 2
  have := hb.tr
  split
  · omega
  · split <;> omega
end Go.Proofs.Qxb6500888a
