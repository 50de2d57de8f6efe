/- The model's pause: the harvest beside the model, in memory. -/
import Derived.Test.Qxb6500888aBaKe
import Derived.Test.Qxb6500888aBaK8
import Derived.Test.Qxb6500888aFile
namespace Go.Proofs.Qxb6500888a
open Go.RowKit
set_option linter.unusedSimpArgs false
set_option linter.unusedVariables false
attribute [local irreducible] wdC

/-- A harvest whose rows have roles rl. -/
structure HvR (w : World) (ρ : Rl) (hB : Nat) (rl : Nat → Nat) (V : Nat → Value) (hv : Nat → List Nat) : Prop where
  bl : Blk w hB 36 (fnC 8 V)
  ro : ρ hB = 40
  rw : ∀ i, i < 8 → RowX rtA w ρ (rl i) (V i) (hv i)
  lo : ∀ i, i < 8 → rl i = 13 ∨ 41 ≤ rl i ∧ rl i ≤ 48
/-- The model, a harvest, the result's place. -/
structure MPM (w : World) (ρ : Rl) (L : GL) (Y : ML) (hB rB : Nat) (rl : Nat → Nat) (V : Nat → Value) (G : GS) (M : MS) (hv : Nat → List Nat) : Prop where
  md : MdM w ρ L Y G M
  hm : HvR w ρ hB rl V hv
  rb : Blk w rB 36 (fnC 8 fun _ => .slice none 0 0)
  rr : ρ rB = 0
section
variable {X : Nat → Bool} {w w' : World} {ρ ρ' : Rl} {L L' : GL} {Y Y' : ML} {hB rB : Nat} {rl rl' : Nat → Nat} {V V' : Nat → Value} {G G' : GS} {M M' : MS} {hv : Nat → List Nat}
theorem HvR.fr (h : HvR w ρ hB rl V hv) (hf : Fr X ρ w ρ' w') (h0 : X 40 = false) (h1 : X 13 = false) (h2 : ∀ c, 41 ≤ c → c ≤ 48 → X c = false) : HvR w' ρ' hB rl V hv := ⟨hf.keep h.bl h.ro h0, by rw [hf.old _ h.bl.lt]; exact h.ro, fun i hi => (h.rw i hi).fr hf (by
  rcases h.lo i hi with e | e
  · rw [e]; exact h1
  · exact h2 _ e.1 e.2), h.lo⟩
theorem MPM.ground (h : MPM w ρ L Y hB rB rl V G M hv) (hg : GP w ρ L G' w') : ∃ L' ρ', MPM w' ρ' L' Y hB rB rl V G' M hv ∧ L.Same L' ∧ Fr gX ρ w ρ' w' := by
  obtain ⟨L', ρ', h1, h2, h3⟩ := h.md.gp hg
  exact ⟨L', ρ', ⟨h1, h.hm.fr h3 rfl rfl (fun c h4 h5 => decide_eq_false (by omega)), h3.keep h.rb h.rr rfl, by rw [h3.old _ h.rb.lt]; exact h.rr⟩, h2, h3⟩
theorem MPM.keep (h : MPM w ρ L Y hB rB rl V G M hv) (hf : Fr X ρ w ρ' w') (hx : ∀ c, c ≤ 48 → X c = false) : MPM w' ρ' L Y hB rB rl V G M hv := ⟨h.md.keep hf (fun c hc => hx c (by have := of_decide_eq_true hc; omega)), h.hm.fr hf (hx _ (by omega)) (hx _ (by omega)) (fun c _ h5 => hx c h5), hf.keep h.rb h.rr (hx _ (by omega)), by rw [hf.old _ h.rb.lt]; exact h.rr⟩
theorem MPM.below (h : MPM w ρ L Y hB rB rl V G M hv) (hb : Below w.heap.size w w') : MPM w' ρ L Y hB rB rl V G M hv := h.keep (X := fun _ => false) (Fr.below hb) (fun _ _ => rfl)
theorem MPM.hcell (h : MPM w ρ L Y hB rB rl V G M hv) {i : Nat} (hi : i < 8) : w.cell? ⟨hB, i, none⟩ = some (V i) := by rw [h.hm.bl.cell, fnC_get _ hi]
/-- A list of the harvest's has grown. -/
theorem MPM.app (h : MPM w ρ L Y hB rB rl V G M hv) {i : Nat} (hi : i < 8) (hri : rl i = 41 + i) (hrj : ∀ j, j < 8 → j ≠ i → rl j ≠ 41 + i) {v : Value} {xs : List Nat} (hf : Fr (fun r => r == 41 + i) ρ w ρ' w') (hr : RowX rtA w' ρ' (41 + i) v xs) :
    MPM (w'.setCell ⟨hB, i, none⟩ v) ρ' L Y hB rB rl (fup V i v) G M (fup hv i xs) ∧ Fr (fun r => r == 41 + i || r == 40) ρ w ρ' (w'.setCell ⟨hB, i, none⟩ v) := by
  have ro : ρ' hB = 40 := by rw [hf.old _ h.hm.bl.lt]; exact h.hm.ro
  have hf2 : Fr (fun r => r == 40) ρ' w' ρ' (w'.setCell ⟨hB, i, none⟩ v) := Fr.set _ (by show (ρ' hB == 40) = true; rw [ro]; rfl)
  have hf3 : Fr (fun r => r == 41 + i || r == 40) ρ w ρ' (w'.setCell ⟨hB, i, none⟩ v) := (hf.mono fun c hc => by simp at hc ⊢; exact .inl hc).trans (hf2.mono fun c hc => by simp at hc ⊢; exact .inr hc)
  refine ⟨⟨h.md.keep hf3 (fun c hc => ?_), ⟨?_, ro, fun j hj => ?_, h.hm.lo⟩, hf3.keep h.rb h.rr (by show (0 == 41 + i || 0 == 40) = false; simp; omega), by rw [hf3.old _ h.rb.lt]; exact h.rr⟩, hf3⟩
  · have := of_decide_eq_true hc
    show (c == 41 + i || c == 40) = false
    simp
    omega
  · have := (hf.keep h.hm.bl h.hm.ro (by show (40 == 41 + i) = false; simp; omega)).set i v
    rw [fnC_set _ hi] at this
    exact this
  · by_cases e : j = i
    · subst e
      rw [fup_self, fup_self, hri]
      exact hr.fr hf2 (by show (41 + j == 40) = false; simp; omega)
    · rw [fup_ne _ _ e, fup_ne _ _ e]
      have h1 := hrj j hj e
      have h2 := h.hm.lo j hj
      exact (h.hm.rw j hj).fr hf3 (by show (rl j == 41 + i || rl j == 40) = false; simp; omega)
/-- A list of the harvest's is a row that stands elsewhere. -/
theorem MPM.alias (h : MPM w ρ L Y hB rB rl V G M hv) {i c : Nat} (hi : i < 8) {v : Value} {xs : List Nat} (hc : c = 13 ∨ 41 ≤ c ∧ c ≤ 48) (hr : RowX rtA w ρ c v xs) :
    MPM (w.setCell ⟨hB, i, none⟩ v) ρ L Y hB rB (fup rl i c) (fup V i v) G M (fup hv i xs) ∧ Fr (fun r => r == 40) ρ w ρ (w.setCell ⟨hB, i, none⟩ v) := by
  have hf2 : Fr (fun r => r == 40) ρ w ρ (w.setCell ⟨hB, i, none⟩ v) := Fr.set _ (by show (ρ hB == 40) = true; rw [h.hm.ro]; rfl)
  refine ⟨⟨h.md.keep hf2 (fun c hc => ?_), ⟨?_, h.hm.ro, fun j hj => ?_, fun j hj => ?_⟩, hf2.keep h.rb h.rr rfl, h.rr⟩, hf2⟩
  · have := of_decide_eq_true hc
    show (c == 40) = false
    simp
    omega
  · have := h.hm.bl.set i v
    rw [fnC_set _ hi] at this
    exact this
  · by_cases e : j = i
    · subst e
      rw [fup_self, fup_self, fup_self]
      exact hr.fr hf2 (by show (c == 40) = false; simp; omega)
    · rw [fup_ne _ _ e, fup_ne _ _ e, fup_ne _ _ e]
      have h2 := h.hm.lo j hj
      exact (h.hm.rw j hj).fr hf2 (by show (rl j == 40) = false; simp; omega)
  · by_cases e : j = i
    · subst e; rw [fup_self]; exact hc
    · rw [fup_ne _ _ e]; exact h.hm.lo j hj
/-- The model's block has another cell; all else stands. -/
theorem MPM.cell (h : MPM w ρ L Y hB rB rl V G M hv) {i : Nat} {v : Value} (hm : MdM (w.setCell ⟨Y.mB, i, none⟩ v) ρ L Y' G M') : MPM (w.setCell ⟨Y.mB, i, none⟩ v) ρ L Y' hB rB rl V G M' hv ∧ Fr (fun r => r == 12) ρ w ρ (w.setCell ⟨Y.mB, i, none⟩ v) := by
  have hf : Fr (fun r => r == 12) ρ w ρ (w.setCell ⟨Y.mB, i, none⟩ v) := Fr.set _ (by show (ρ Y.mB == 12) = true; rw [h.md.rm]; rfl)
  exact ⟨⟨hm, h.hm.fr hf rfl rfl (fun c h4 h5 => by show (c == 12) = false; simp; omega), hf.keep h.rb h.rr rfl, h.rr⟩, hf⟩
theorem MdM.setX (h : MdM w ρ L Y G M) {i : Nat} (hi : i < 13) (v : Value) (e6 : fnC 13 (fup (mdF L Y M) i v) = fnC 13 (mdF L Y' M')) (em : Y'.mB = Y.mB) (ea : Y'.aB = Y.aB) (er : Y'.rv = Y.rv) (e1 : M'.roots = M.roots) (e3 : M'.atp = M.atp)
    (hl : ∀ w2, Fr (fun r => r == 12) ρ w ρ w2 → RowX rtA w2 ρ 13 Y'.lv M'.last) (hw : ∀ w2, Fr (fun r => r == 12) ρ w ρ w2 → BF w2 Y'.mW M'.wr) (hw2 : ρ Y'.mW = 15) (hfm : ∀ w2, Fr (fun r => r == 12) ρ w ρ w2 → BF w2 Y'.mF M'.fr) (hf2 : ρ Y'.mF = 20) : MdM (w.setCell ⟨Y.mB, i, none⟩ v) ρ L Y' G M' := by
  have hf : Fr (fun r => r == 12) ρ w ρ (w.setCell ⟨Y.mB, i, none⟩ v) := Fr.set _ (by show (ρ Y.mB == 12) = true; rw [h.rm]; rfl)
  have hb := h.mb.set i v
  rw [fnC_set _ hi, e6] at hb
  refine ⟨(GMh.but h.gm hf).full (fun c hc => ?_), by rw [em]; exact hb, by rw [em]; exact h.rm, fun m hm' => by rw [e1, er]; exact (h.rt m hm').fr hf (by show (16 + m == 12) = false; simp; omega), hl _ hf, by rw [e3, ea]; exact hf.keep h.ab h.ra rfl, by rw [ea]; exact h.ra, hw _ hf, hw2, hfm _ hf, hf2, by rw [e1]; exact h.rl⟩
  have := of_decide_eq_true hc
  show (c == 12) = false
  simp
  omega
theorem mdF_only {i : Nat} {v : Value} (hv : mdF L Y' M' i = v) (he : ∀ j, j < 13 → j ≠ i → mdF L Y' M' j = mdF L Y M j) : fnC 13 (fup (mdF L Y M) i v) = fnC 13 (mdF L Y' M') := by
  apply fnC_congr
  intro j hj
  by_cases e : j = i
  · subst e; rw [fup_self]; exact hv.symm
  · rw [fup_ne _ _ e]; exact (he j hj e).symm
theorem thirteen {P : Nat → Prop} (h : P 0 ∧ P 1 ∧ P 2 ∧ P 3 ∧ P 4 ∧ P 5 ∧ P 6 ∧ P 7 ∧ P 8 ∧ P 9 ∧ P 10 ∧ P 11 ∧ P 12) {j : Nat} (hj : j < 13) : P j := by
  obtain ⟨h0, h1, h2, h3, h4, h5, h6, h7, h8, h9, h10, h11, h12⟩ := h
  rcases (by omega : j = 0 ∨ j = 1 ∨ j = 2 ∨ j = 3 ∨ j = 4 ∨ j = 5 ∨ j = 6 ∨ j = 7 ∨ j = 8 ∨ j = 9 ∨ j = 10 ∨ j = 11 ∨ j = 12) with rfl | rfl | rfl | rfl | rfl | rfl | rfl | rfl | rfl | rfl | rfl | rfl | rfl <;> assumption
/-- The last roots are another row of role 13. -/
theorem MPM.setL (h : MPM w ρ L Y hB rB rl V G M hv) {v : Value} {xs : List Nat} (hr : RowX rtA w ρ 13 v xs) :
    MPM (w.setCell ⟨Y.mB, 7, none⟩ v) ρ L { Y with lv := v } hB rB rl V G { M with last := xs } hv ∧ Fr (fun r => r == 12) ρ w ρ (w.setCell ⟨Y.mB, 7, none⟩ v) := by
  refine h.cell (h.md.setX (by decide) v (mdF_only rfl (fun j hj hne => ?_)) rfl rfl rfl rfl rfl (fun w2 hf => hr.fr hf rfl) (fun w2 hf => MF.of h.md.wm (hf.blk _ (MF.lt h.md.wm) (by rw [h.md.rw_]; rfl))) h.md.rw_ (fun w2 hf => MF.of h.md.fm (hf.blk _ (MF.lt h.md.fm) (by rw [h.md.rf]; rfl))) h.md.rf)
  revert hne
  exact thirteen (P := fun j => j ≠ 7 → mdF L { Y with lv := v } { M with last := xs } j = mdF L Y M j) ⟨fun _ => rfl, fun _ => rfl, fun _ => rfl, fun _ => rfl, fun _ => rfl, fun _ => rfl, fun _ => rfl, fun h => absurd rfl h, fun _ => rfl, fun _ => rfl, fun _ => rfl, fun _ => rfl, fun _ => rfl⟩ hj
theorem MPM.setT (h : MPM w ρ L Y hB rB rl V G M hv) {i : Nat} (hi : i = 11 ∨ i = 12) (b : Bool) :
    MPM (w.setCell ⟨Y.mB, i, none⟩ (.bool b)) ρ L Y hB rB rl V G (if i = 11 then { M with st := b } else { M with tr := b }) hv ∧ Fr (fun r => r == 12) ρ w ρ (w.setCell ⟨Y.mB, i, none⟩ (.bool b)) := h.cell (h.md.setT hi b).1
/-- The written fields are a new map, empty. -/
theorem MPM.newW (h : MPM w ρ L Y hB rB rl V G M hv) {m : Nat} (hm : w.heap.size = m) :
    MPM ((w.alloc (.map #[] 0)).setCell ⟨Y.mB, 9, none⟩ (.map (some m))) (fup ρ m 15) L { Y with mW := m } hB rB rl V G { M with wr := fun _ => false } hv ∧ Fr (fun r => r == 12) ρ w (fup ρ m 15) ((w.alloc (.map #[] 0)).setCell ⟨Y.mB, 9, none⟩ (.map (some m))) := by
  have hfa := Fr.alloc (fun _ => false) ρ w (.map #[] 0) 15
  rw [hm] at hfa
  have h1 := h.keep hfa (fun _ _ => rfl)
  have hbf : BF (w.alloc (.map #[] 0)) m (fun _ => false) := BF.new w hm
  have hmm : fup ρ m 15 m = 15 := fup_self _ _ _
  have h2 := h1.cell (h1.md.setX (Y' := { Y with mW := m }) (M' := { M with wr := fun _ => false }) (i := 9) (by decide) (.map (some m)) (mdF_only rfl (fun j hj hne => by
    revert hne
    exact thirteen (P := fun j => j ≠ 9 → mdF L { Y with mW := m } { M with wr := fun _ => false } j = mdF L Y M j) ⟨fun _ => rfl, fun _ => rfl, fun _ => rfl, fun _ => rfl, fun _ => rfl, fun _ => rfl, fun _ => rfl, fun _ => rfl, fun _ => rfl, fun h => absurd rfl h, fun _ => rfl, fun _ => rfl, fun _ => rfl⟩ hj)) rfl rfl rfl rfl rfl (fun w2 hf => h1.md.lr.fr hf rfl) (fun w2 hf => MF.of hbf (hf.blk _ (MF.lt hbf) (by rw [hmm]; rfl))) hmm (fun w2 hf => MF.of h1.md.fm (hf.blk _ (MF.lt h1.md.fm) (by rw [h1.md.rf]; rfl))) h1.md.rf)
  exact ⟨h2.1, (hfa.mono (fun c hc => by cases hc)).trans h2.2⟩
theorem MPM.newF (h : MPM w ρ L Y hB rB rl V G M hv) {m : Nat} (hm : w.heap.size = m) :
    MPM ((w.alloc (.map #[] 0)).setCell ⟨Y.mB, 10, none⟩ (.map (some m))) (fup ρ m 20) L { Y with mF := m } hB rB rl V G { M with fr := fun _ => false } hv ∧ Fr (fun r => r == 12) ρ w (fup ρ m 20) ((w.alloc (.map #[] 0)).setCell ⟨Y.mB, 10, none⟩ (.map (some m))) := by
  have hfa := Fr.alloc (fun _ => false) ρ w (.map #[] 0) 20
  rw [hm] at hfa
  have h1 := h.keep hfa (fun _ _ => rfl)
  have hbf : BF (w.alloc (.map #[] 0)) m (fun _ => false) := BF.new w hm
  have hmm : fup ρ m 20 m = 20 := fup_self _ _ _
  have h2 := h1.cell (h1.md.setX (Y' := { Y with mF := m }) (M' := { M with fr := fun _ => false }) (i := 10) (by decide) (.map (some m)) (mdF_only rfl (fun j hj hne => by
    revert hne
    exact thirteen (P := fun j => j ≠ 10 → mdF L { Y with mF := m } { M with fr := fun _ => false } j = mdF L Y M j) ⟨fun _ => rfl, fun _ => rfl, fun _ => rfl, fun _ => rfl, fun _ => rfl, fun _ => rfl, fun _ => rfl, fun _ => rfl, fun _ => rfl, fun _ => rfl, fun h => absurd rfl h, fun _ => rfl, fun _ => rfl⟩ hj)) rfl rfl rfl rfl rfl (fun w2 hf => h1.md.lr.fr hf rfl) (fun w2 hf => MF.of h1.md.wm (hf.blk _ (MF.lt h1.md.wm) (by rw [h1.md.rw_]; rfl))) h1.md.rw_ (fun w2 hf => MF.of hbf (hf.blk _ (MF.lt hbf) (by rw [hmm]; rfl))) hmm)
  exact ⟨h2.1, (hfa.mono (fun c hc => by cases hc)).trans h2.2⟩
/-- The copy of the words is another. -/
theorem MPM.setA (h : MPM w ρ L Y hB rB rl V G M hv) {f : Nat → Nat} (hu : Upd Y.aB w w') (hb : Blk w' Y.aB 48 (wdC f)) : MPM w' ρ L Y hB rB rl V G { M with atp := f } hv ∧ Fr (fun r => r == 14) ρ w ρ w' := by
  have hf : Fr (fun r => r == 14) ρ w ρ w' := Fr.upd hu (by show (ρ Y.aB == 14) = true; rw [h.md.ra]; rfl)
  have g := h.md
  refine ⟨⟨⟨(GMh.but g.gm hf).full (fun c hc => ?_), hf.keep g.mb g.rm rfl, g.rm, fun m hm' => (g.rt m hm').fr hf ?_, g.lr.fr hf rfl, hb, g.ra, MF.of g.wm (hf.blk _ (MF.lt g.wm) (by rw [g.rw_]; rfl)), g.rw_, MF.of g.fm (hf.blk _ (MF.lt g.fm) (by rw [g.rf]; rfl)), g.rf, g.rl⟩, h.hm.fr hf rfl rfl (fun c h4 h5 => by show (c == 14) = false; simp; omega), hf.keep h.rb h.rr rfl, h.rr⟩, hf⟩
  · have := of_decide_eq_true hc
    show (c == 14) = false
    simp
    omega
  · show (16 + m == 14) = false
    simp
    omega
end
/-- A map of the model's under way in a range; its role is c. -/
structure RgI (w : World) (ρ : Rl) (mX c r : Nat) (E : List Ent) (T : List Nat) : Prop where
  it : IT w r mX E T
  pn : PN w mX E
  rr : ρ r = 60
  rc : ρ mX = c
section
variable {X : Nat → Bool} {w w' : World} {ρ ρ' : Rl} {mX c r : Nat} {E : List Ent} {T : List Nat}
theorem Fr.one {w w' : World} {ρ : Rl} (hb : Below w.heap.size w w') {r : Nat} (hr : w.heap.size = r) (hlt : r < w'.heap.size) (c : Nat) : Fr X ρ w (fup ρ r c) w' := ⟨hb.os, hb.tape, hb.output, hb.size, fun g hg => fup_ne _ _ (by omega), fun g hg => fup_ne _ _ (by omega), fun g hg _ => hb.block g hg⟩
theorem RgI.fr (h : RgI w ρ mX c r E T) (hf : Fr X ρ w ρ' w') (h0 : X 60 = false) (hc : X c = false) : RgI w' ρ' mX c r E T := by
  have e1 : w'.heap[r]? = w.heap[r]? := hf.blk r h.it.lt (by rw [h.rr]; exact h0)
  have e2 : w'.heap[mX]? = w.heap[mX]? := hf.blk mX h.pn.lt (by rw [h.rc]; exact hc)
  exact ⟨h.it.of e1 e2, h.pn.of e2, by rw [hf.old _ h.it.lt]; exact h.rr, by rw [hf.old _ h.pn.lt]; exact h.rc⟩
theorem RgI.ms (h : RgI w ρ mX c r E T) {e : Ent} (he : e ∈ E) (heT : e.k ∈ T) (h' : RgI w' ρ' mX c r E (T.filter fun k => decide (k ≠ e.k))) : World.rangeLeft w' mX r < World.rangeLeft w mX r := by rw [h'.it.left, h.it.left]; exact left_less he heT
end
/-- What of K is done, in some order. -/
structure DnP (K T D : List Nat) : Prop where
  nd : D.Nodup
  m : ∀ x, x ∈ D ↔ x ∈ K ∧ x ∉ T
theorem DnP.start (K : List Nat) : DnP K K [] := ⟨List.nodup_nil, fun x => ⟨fun h => (by cases h), fun h => absurd h.1 h.2⟩⟩
theorem DnP.add {K T D : List Nat} (h : DnP K T D) {x : Nat} (hk : x ∈ K) (ht : x ∈ T) : DnP K (T.filter fun k => decide (k ≠ x)) (D ++ [x]) := by
  refine ⟨?_, fun y => ?_⟩
  · rw [List.nodup_append]
    exact ⟨h.nd, by simp, fun a ha b hb => by
      simp at hb
      subst hb
      intro e
      subst e
      exact ((h.m _).1 ha).2 ht⟩
  · rw [List.mem_append, h.m, List.mem_filter]
    constructor
    · rintro (⟨h1, h2⟩ | h1)
      · exact ⟨h1, fun h3 => h2 h3.1⟩
      · simp at h1
        subst h1
        exact ⟨hk, fun h3 => by simp at h3⟩
    · rintro ⟨h1, h2⟩
      by_cases e : y = x
      · exact .inr (by simp [e])
      · exact .inl ⟨h1, fun h3 => h2 ⟨h3, by simp [e]⟩⟩
/-- A list of addresses from whatever place in its block on; role 50. -/
structure TdM (w : World) (ρ : Rl) (a : Option Addr) (n c : Nat) (xs : List Nat) : Prop where
  fl : Fl w 48 a n c (xs.map fun (x : Nat) => (.int .u64 (x : Int) : Value))
  ro : ∀ k, blkO a = some k → ρ k = 50
section
variable {X : Nat → Bool} {w w' : World} {ρ ρ' : Rl} {a a' : Option Addr} {n c c' : Nat} {xs : List Nat}
theorem TdM.fr (h : TdM w ρ a n c xs) (hf : Fr X ρ w ρ' w') (hx : X 50 = false) : TdM w' ρ' a n c xs := ⟨h.fl.of (fun k cs hk hb => hf.keep hb (h.ro k hk) hx), fun k hk => by
  obtain ⟨cs, hb⟩ := h.fl.ty k hk
  rw [hf.old _ hb.lt]; exact h.ro k hk⟩
theorem TdM.of_row {v : Value} (h : RowX rtA w ρ 50 (.slice a n c) xs) : TdM w ρ a n c xs := by
  have hlen := h.src.2.2
  refine ⟨?_, fun k hk => ?_⟩
  · rcases h.own.2 with ⟨h0, h1⟩ | ⟨g, cap, cur, he, h5, hg, hn, hc, hs, ht⟩
    · injection h0 with e1 e2 e3
      subst e1 e2 e3
      exact ⟨by simp [h1], Nat.le_refl _, by unfold maxLen; omega, .inl ⟨rfl, rfl⟩⟩
    · injection he with e1 e2 e3
      subst e1 e2 e3
      have hK : rtA.n = 1 := rfl
      have ht2 : rtA.t = 48 := rfl
      rw [hK] at hs ht
      refine ⟨by simp, by omega, by omega, .inr ⟨g, 0, cur.toList, rfl, ?_, by simp; omega, fun i hi => ?_⟩⟩
      · unfold Blk
        rw [hg, ← ht2]
      · rw [Nat.zero_add]
        have h6 := congrArg (fun l => l[i]?) ht
        simp only [List.getElem?_take] at h6
        rw [if_pos (by omega)] at h6
        rw [h6, flatA_get, List.getElem?_map]
  · exact h.role k (by
      cases a with
      | none => cases hk
      | some ad =>
        rcases h.own.2 with ⟨h0, _⟩ | ⟨g, cap, cur, he, _⟩
        · cases h0
        · injection he with e1)
theorem TdM.app (h : TdM w ρ a n c xs) (x : Nat) (hF : Fl w' 48 a' (n + 1) c' ((xs.map fun (x : Nat) => (.int .u64 (x : Int) : Value)) ++ [.int .u64 (x : Int)])) (hu : UpdO (blkO a) w w') (hb : blkO a' = blkO a ∨ blkO a' = some w.heap.size) :
    ∃ ρ', TdM w' ρ' a' (n + 1) c' (xs ++ [x]) ∧ Fr (fun r => r == 50) ρ w ρ' w' := by
  refine ⟨fun g => if blkO a' = some g then 50 else ρ g, ⟨by rw [List.map_append]; exact hF, fun k hk => if_pos hk⟩, ⟨hu.os, hu.tape, hu.output, hu.size, fun g hg => ?_, fun g hg => ?_, fun g hg h0 => hu.block g hg (fun e => ?_)⟩⟩
  · by_cases e : blkO a' = some g
    · show (if blkO a' = some g then 50 else ρ g) = ρ g
      rw [if_pos e]
      rcases hb with e1 | e1
      · exact (h.ro g (by rw [← e1]; exact e)).symm
      · rw [e] at e1
        injection e1 with e2
        omega
    · show (if blkO a' = some g then 50 else ρ g) = ρ g
      rw [if_neg e]
  · show (if blkO a' = some g then 50 else ρ g) = ρ g
    rw [if_neg]
    intro e
    obtain ⟨cs, hbk⟩ := hF.ty g e
    have := hbk.lt
    omega
  · rw [h.ro g e] at h0
    simp at h0
end
end Go.Proofs.Qxb6500888a
