/- The machine and its model in memory, apart; one step of both. -/
import Derived.Test.Qxb6500888aBaKl
namespace Go.Proofs.Qxb6500888a
open Go.RowKit
set_option linter.unusedSimpArgs false
set_option linter.unusedVariables false
attribute [local irreducible] wdC nz

section
variable {G G2 : GS} {B : BS} {M : MS} {atp : Nat → Nat} {Z : Nat → Prop} {t : Nat}
theorem pause_calls (hI : InvM t G B) (hc : CI G B atp Z) : (pauseP G B).1.calls.length = G.calls.length + ((pauseP G B).2.2 0).length + ((pauseP G B).2.2 2).length + ((pauseP G B).2.2 4).length + ((pauseP G B).2.2 1).length + ((pauseP G B).2.2 3).length ∧ (pauseP G B).1.deaths.length = G.deaths.length + ((pauseP G B).2.2 6).length := by
  obtain ⟨p4', hp4⟩ : ∃ p, applyP (G, hv3P G B) = p := ⟨_, rfl⟩
  have e1 : (pauseP G B).1 = { decs (decs (reaps p4' (frL B)).1 ((reaps p4' (frL B)).2 1)) ((reaps p4' (frL B)).2 3) with lg := fillF (decs (decs (reaps p4' (frL B)).1 ((reaps p4' (frL B)).2 1)) ((reaps p4' (frL B)).2 3)).lg 0 32768 false } := by
    unfold pauseP
    dsimp only
    rw [show seedH (drK B 4) (hroots (drK B 4) (hvK G B hv00 4)) = hv3P G B from rfl, hp4, reapK_fr]
  have e2 : (pauseP G B).2.2 = (reaps p4' (frL B)).2 := by
    unfold pauseP
    dsimp only
    rw [show seedH (drK B 4) (hroots (drK B 4) (hvK G B hv00 4)) = hv3P G B from rfl, hp4, reapK_fr]
  have fR := fin_calls (G := G) (hv0 := hv3P G B) hc.ok (hv3_mid G B (by decide) (by decide)) (hv3_mid G B (by decide) (by decide)) (hv3_mid G B (by decide) (by decide)) (fun o ho => by
    rw [hv3_0l] at ho
    obtain ⟨h1, h2⟩ := List.mem_filter.1 ho
    obtain ⟨e, he, rfl⟩ := List.mem_map.1 h1
    rcases hc.log_Ac e he with h3 | h3
    · simp [h3] at h2
    · exact hc.ok.head_in (hc.Ac_st h3)) (fun o ho => by
    rw [hv3_2] at ho
    obtain ⟨m, hm, hmo⟩ := rootsK_mem ho
    exact hc.ok.head_in (hc.Ac_st (hc.y1 m hm o hmo))) (frL B) (by rw [hp4])
  rw [e1, e2]
  exact fR
theorem rows_len (hI : InvM t G B) (ht : t < 65536) (hc : CI G B atp Z) (o : OpP) (i : Nat) (hi : i < 8) : ((playS G B o).2.1 i).length ≤ 1000000000000000 := by
  by_cases h7 : o.kind = 7
  · have e2 : playS G B o = ((0, 0), (pauseP G B).2.2, (pauseP G B).1, (pauseP G B).2.1) := if_pos h7
    have hn := (hI.play (by omega) o).gb (by omega)
    rw [e2] at hn ⊢
    have hk := pause_calls hI hc
    have h1 := hn.calls
    have h2 := hn.deaths
    dsimp only at h1 h2 ⊢
    rcases (by omega : i = 0 ∨ i = 1 ∨ i = 2 ∨ i = 3 ∨ i = 4 ∨ i = 5 ∨ i = 6 ∨ i = 7) with rfl | rfl | rfl | rfl | rfl | rfl | rfl | rfl
    · omega
    · omega
    · omega
    · omega
    · omega
    · obtain ⟨I, hIA, f⟩ := pause_facts hI hc
      have := seen_len f.n5 (fun x hx => hc.ok.head_in (hc.fz x ((f.b5 x).1 hx).1))
      omega
    · omega
    · have := pause_len hI (by omega)
      omega
  · rw [playS_hv h7]
    exact Nat.zero_le _
end
/-- The machine and its model, apart from one another. -/
structure TmS (w0 : World) (wB k : Nat) (ρ1 : Rl) (L1 : GL) (T1 : BL) (ρ2 : Rl) (L2 : GL) (Y : ML) (G : GS) (B : BS) (atp : Nat → Nat) (G2 : GS) (M : MS) (wr : World) : Prop where
  a : LW w0 wB k ρ1 L1 T1 G B wr
  b : MdM wr ρ2 L2 Y G2 M
  ci : ∃ Z, CI G B atp Z
  rl : RelM G B atp G2 M
  dj : ∀ g, ρ1 g = 0 ∨ ρ2 g = 0
  z2 : ρ2 wB = 0
  l2 : ∀ g, g < w0.heap.size → ρ2 g = 0
section
variable {w0 wr w' : World} {wB k : Nat} {ρ1 ρ1' ρ2 ρ2' : Rl} {L1 L1' L2 L2' : GL} {T1 T1' : BL} {Y Y' : ML} {G G2 : GS} {B : BS} {atp : Nat → Nat} {M : MS}
theorem TmS.below (h : TmS w0 wB k ρ1 L1 T1 ρ2 L2 Y G B atp G2 M wr) (hb : Below wr.heap.size wr w') : TmS w0 wB k ρ1 L1 T1 ρ2 L2 Y G B atp G2 M w' := ⟨h.a.below hb, h.b.below hb, h.ci, h.rl, h.dj, h.z2, h.l2⟩
theorem TmS.new2 (h : TmS w0 wB k ρ1 L1 T1 ρ2 L2 Y G B atp G2 M wr) {g : Nat} (hg : wr.heap.size ≤ g) : ρ2 g = 0 := Classical.byContradiction fun hc => by
  have := h.b.gm.dom g hc
  omega
/-- What one machine writes the other has no role for. -/
theorem Fr.aside {wr w' : World} {ρ1 ρ1' ρ2 : Rl} (hf : Fr pX ρ1 wr ρ1' w') (hd : ∀ g, ρ1 g = 0 ∨ ρ2 g = 0) : Fr (fun c => c == 0) ρ2 wr ρ2 w' := ⟨hf.os, hf.tape, hf.output, hf.size, fun _ _ => rfl, fun _ _ => rfl, fun g hg hx => hf.blk g hg (by
  rcases hd g with h1 | h1
  · rw [h1]; rfl
  · rw [h1] at hx; cases hx)⟩
/-- The machine has made its step, the model not yet. -/
structure TmP (w0 : World) (wB k : Nat) (r : (Nat × Nat) × (Nat → List Nat) × GS × BS) (V : Nat → Value) (ρ1 : Rl) (L1 : GL) (T1 : BL) (ρ2 : Rl) (L2 : GL) (Y : ML) (G2 : GS) (M : MS) (wr : World) : Prop where
  a : LW w0 wB (k + 1) ρ1 L1 T1 r.2.2.1 r.2.2.2 wr
  b : MdM wr ρ2 L2 Y G2 M
  dj : ∀ g, ρ1 g = 0 ∨ ρ2 g = 0
  z2 : ρ2 wB = 0
  l2 : ∀ g, g < w0.heap.size → ρ2 g = 0
  rw : ∀ i, i < 8 → RowX rtA wr ρ1 (41 + i) (V i) (r.2.1 i)
theorem TmS.play (h : TmS w0 wB k ρ1 L1 T1 ρ2 L2 Y G B atp G2 M wr) (hk : k < 65536) (o : OpP) (hob : OpB o) :
    Calls Try.prog 17 #[.pointer (some ⟨wB, 0, none⟩), .agg (opC o).toArray] wr fun e w' => ∃ V ρ1' L1' T1', e = .returned (.agg (rzH (playS G B o).1.1 (playS G B o).1.2 V).toArray) ∧ TmP w0 wB k (playS G B o) V ρ1' L1' T1' ρ2 L2 Y G2 M w' ∧ Fr pX ρ1 wr ρ1' w' := by
  refine (h.a.play hk o hob).mono ?_
  rintro e w4 ⟨V, ρ4, L4, T4, he, h4⟩
  refine ⟨V, ρ4, L4, T4, he, ⟨h4.lw, h.b.keep (h4.fr.aside h.dj) (fun c hc => ?_), fun g => ?_, h.z2, h.l2, h4.rw⟩, h4.fr⟩
  · have := of_decide_eq_true hc
    show (c == 0) = false
    simp
    omega
  · by_cases e : g < wr.heap.size
    · rw [h4.fr.old g e]; exact h.dj g
    · exact .inr (h.new2 (by omega))
/-- Both have made their step. -/
structure TmQ (w0 : World) (wB k : Nat) (r : (Nat × Nat) × (Nat → List Nat) × GS × BS) (V V2 : Nat → Value) (hv2 : Nat → List Nat) (ρ1 : Rl) (L1 : GL) (T1 : BL) (ρ2 : Rl) (L2 : GL) (Y : ML) (atp : Nat → Nat) (G2 : GS) (M : MS) (wr : World) : Prop where
  s : TmS w0 wB (k + 1) ρ1 L1 T1 ρ2 L2 Y r.2.2.1 r.2.2.2 atp G2 M wr
  rw : ∀ i, i < 8 → RowX rtA wr ρ1 (41 + i) (V i) (r.2.1 i)
  rw2 : ∀ i, i < 8 → ∃ c, RowX rtA wr ρ2 c (V2 i) (hv2 i)
  pm : ∀ i, i < 8 → (r.2.1 i).Perm (hv2 i)
theorem TmP.step {V : Nat → Value} {o : OpP} (h : TmP w0 wB k (playS G B o) V ρ1 L1 T1 ρ2 L2 Y G2 M wr) (hI : InvM k G B) (hk : k < 65536) (hc : ∃ Z, CI G B atp Z) (hr : RelM G B atp G2 M) (hob : OpB o) :
    Calls Try.prog 18 #[.pointer (some ⟨Y.mB, 0, none⟩), .agg (opC o).toArray] wr fun e w' => ∃ V2 hv2 ρ2' L2' Y' atp' G2' M', e = .returned (.agg (rzH (playS G B o).1.1 (playS G B o).1.2 V2).toArray) ∧ TmQ w0 wB k (playS G B o) V V2 hv2 ρ1 L1 T1 ρ2' L2' Y' atp' G2' M' w' ∧ Y'.mB = Y.mB ∧ Fr pX ρ2 wr ρ2' w' := by
  obtain ⟨Z, hc⟩ := hc
  obtain ⟨g1, g2, g3, g4, g5, g6⟩ := rel_wf hI hc hr
  refine (mstep_all h.b (hr.gs.ok hI.ok) (hr.gs.gb (hI.gb (by omega))) g1 g2 g3 g4 o hob g5 g6).mono ?_
  rintro e w4 ⟨W, F, hW, hF, V2, L4, Y4, ρ4, he, hm⟩
  obtain ⟨r1, r2, r3⟩ := rel_step hI hc hr o hob hW hF
  have hcn := hc.play hI (by omega) o
  rw [r1] at he
  have hfa := hm.fr.aside (fun g => (h.dj g).symm)
  refine ⟨V2, (msS G2 M o W F).2.1, ρ4, L4, Y4, _, _, _, he, ⟨⟨h.a.aside hm.fr (fun g => (h.dj g).symm) h.z2 h.l2, hm.md, hcn, r3, fun g => ?_, ?_, fun g hg => ?_⟩, fun i hi => (h.rw i hi).fr hfa (by show (41 + i == 0) = false; simp), fun i hi => ?_, r2⟩, hm.mb, hm.fr⟩
  · by_cases e : g < wr.heap.size
    · rw [hm.fr.old g e]; exact h.dj g
    · exact .inl (h.a.new0 (by omega))
  · rw [hm.fr.old _ h.a.wm.wb.lt]; exact h.z2
  · rw [hm.fr.old g (Nat.lt_of_lt_of_le hg h.a.bel.size)]; exact h.l2 g hg
  · obtain ⟨c, _, hc⟩ := hm.rw i hi
    exact ⟨c, hc⟩
def slA : Value → Option Addr
  | .slice a _ _ => a
  | _ => none
def slQ : Value → Nat
  | .slice _ _ q => q
  | _ => 0
theorem row_slice {ρ : Rl} {c : Nat} {v : Value} {xs : List Nat} (h : RowX rtA wr ρ c v xs) : v = .slice (slA v) xs.length (slQ v) ∧ RdA wr (slA v) xs.length xs := by
  obtain ⟨a, q, e, hr, _⟩ := h.rdA
  subst e
  exact ⟨rfl, hr⟩
theorem TmQ.same {V V2 : Nat → Value} {hv2 : Nat → List Nat} {r : (Nat × Nat) × (Nat → List Nat) × GS × BS} (h : TmQ w0 wB k r V V2 hv2 ρ1 L1 T1 ρ2 L2 Y atp G2 M wr) (c v : Nat) (hl : ∀ i, i < 8 → (r.2.1 i).length ≤ 1000000000000000) :
    Calls Try.prog 16 #[.agg (rzH c v V).toArray, .agg (rzH c v V2).toArray] wr fun e w' => e = .returned (.bool true) ∧ Below wr.heap.size wr w' := by
  have e1 : ∀ i, i < 8 → V i = .slice (slA (V i)) (r.2.1 i).length (slQ (V i)) := fun i hi => (row_slice (h.rw i hi)).1
  have e2 : ∀ i, i < 8 → V2 i = .slice (slA (V2 i)) (r.2.1 i).length (slQ (V2 i)) := fun i hi => by
    obtain ⟨c, hc⟩ := h.rw2 i hi
    have := (row_slice hc).1
    rw [← (h.pm i hi).length_eq] at this
    exact this
  have e3 : (rzH c v V).toArray = #[.int .u8 (c : Int), .int .u64 (v : Int), .slice (slA (V 0)) (r.2.1 0).length (slQ (V 0)), .slice (slA (V 1)) (r.2.1 1).length (slQ (V 1)), .slice (slA (V 2)) (r.2.1 2).length (slQ (V 2)), .slice (slA (V 3)) (r.2.1 3).length (slQ (V 3)), .slice (slA (V 4)) (r.2.1 4).length (slQ (V 4)), .slice (slA (V 5)) (r.2.1 5).length (slQ (V 5)), .slice (slA (V 6)) (r.2.1 6).length (slQ (V 6)), .slice (slA (V 7)) (r.2.1 7).length (slQ (V 7))] := by
    rw [← e1 0 (by decide), ← e1 1 (by decide), ← e1 2 (by decide), ← e1 3 (by decide), ← e1 4 (by decide), ← e1 5 (by decide), ← e1 6 (by decide), ← e1 7 (by decide)]
    rfl
  have e4 : (rzH c v V2).toArray = #[.int .u8 (c : Int), .int .u64 (v : Int), .slice (slA (V2 0)) (r.2.1 0).length (slQ (V2 0)), .slice (slA (V2 1)) (r.2.1 1).length (slQ (V2 1)), .slice (slA (V2 2)) (r.2.1 2).length (slQ (V2 2)), .slice (slA (V2 3)) (r.2.1 3).length (slQ (V2 3)), .slice (slA (V2 4)) (r.2.1 4).length (slQ (V2 4)), .slice (slA (V2 5)) (r.2.1 5).length (slQ (V2 5)), .slice (slA (V2 6)) (r.2.1 6).length (slQ (V2 6)), .slice (slA (V2 7)) (r.2.1 7).length (slQ (V2 7))] := by
    rw [← e2 0 (by decide), ← e2 1 (by decide), ← e2 2 (by decide), ← e2 3 (by decide), ← e2 4 (by decide), ← e2 5 (by decide), ← e2 6 (by decide), ← e2 7 (by decide)]
    rfl
  rw [e3, e4]
  exact sameResult_walk wr c v (fun i => slA (V i)) (fun i => slA (V2 i)) (fun i => (r.2.1 i).length) (fun i => slQ (V i)) (fun i => slQ (V2 i)) r.2.1 hv2 (fun i hi => (row_slice (h.rw i hi)).2) (fun i hi => by
    obtain ⟨c, hc⟩ := h.rw2 i hi
    have := (row_slice hc).2
    rw [← (h.pm i hi).length_eq] at this
    exact this) h.pm hl
end
end Go.Proofs.Qxb6500888a
