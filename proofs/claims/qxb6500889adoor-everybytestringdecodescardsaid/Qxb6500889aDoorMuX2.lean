/- The machine: retire, note, back, issue. -/
import Derived.Test.Qxb6500889aDoorMuX1
namespace Go.Proofs.Qxb6500889aDoor
open Go.RowKit
set_option linter.unusedSimpArgs false
set_option linter.unusedVariables false

section
variable {w w' w'' : World} {ρ ρ' ρ'' : Rl} {L L' : HL} {T : XL} {H H' : HS} {X : XS}
theorem hd_tv (hB : Nat) (tv : Nat → Value) (X X' : XS) {m : Nat} (hm : m < 4) (v : Value) (hg : ∀ i, (X'.tb i).gen = (X.tb i).gen) : (hdC hB tv X).set (1 + m * 3 + 2) v = hdC hB (fup tv m v) X' := by
  unfold hdC
  rw [hg 0, hg 1, hg 2, hg 3]
  rcases (by omega : m = 0 ∨ m = 1 ∨ m = 2 ∨ m = 3) with rfl | rfl | rfl | rfl <;> rfl
theorem hd_gen (hB : Nat) (tv : Nat → Value) (X X' : XS) {m g : Nat} (hm : m < 4) (hg : ∀ i, (X'.tb i).gen = fup (fun i => (X.tb i).gen) m g i) : (hdC hB tv X).set (1 + m * 3 + 1) (.int .u64 (g : Int)) = hdC hB tv X' := by
  unfold hdC
  rw [hg 0, hg 1, hg 2, hg 3]
  rcases (by omega : m = 0 ∨ m = 1 ∨ m = 2 ∨ m = 3) with rfl | rfl | rfl | rfl <;> rfl
def setTb (X : XS) (m : Nat) (t : Tb) : XS := { X with tb := fup X.tb m t }
/-- A table's row is another one. -/
theorem MM.setTv (h : MM w ρ L T H X) {m : Nat} (hm : m < 4) {v : Value} {ys : List Nat} (hr : RowA w ρ (32 + m) v ys) : MM (w.setCell ⟨T.xB, 1 + m * 3 + 2, none⟩ v) ρ L ⟨T.xB, fup T.tv m v⟩ H (setTb X m ⟨(X.tb m).gen, ys⟩) ∧ Fx ρ w ρ (w.setCell ⟨T.xB, 1 + m * 3 + 2, none⟩ v) := by
  refine h.setX (xC_set_hd _ _ _ _ _ (by omega) (hd_tv _ _ _ _ hm v (fun i => ?_)) rfl rfl) (fun i hi => ?_)
  · show (fup X.tb m _ i).gen = _
    by_cases him : i = m
    · subst him; rw [fup_self]
    · rw [fup_ne _ _ him]
  · show RowA w ρ (32 + i) (fup T.tv m v i) (fup X.tb m _ i).ad
    by_cases him : i = m
    · subst him; rw [fup_self, fup_self]; exact hr
    · rw [fup_ne _ _ him, fup_ne _ _ him]; exact h.tr i hi
theorem MM.setGen (h : MM w ρ L T H X) {m g : Nat} (hm : m < 4) : MM (w.setCell ⟨T.xB, 1 + m * 3 + 1, none⟩ (.int .u64 (g : Int))) ρ L T H (setTb X m ⟨g, (X.tb m).ad⟩) ∧ Fx ρ w ρ (w.setCell ⟨T.xB, 1 + m * 3 + 1, none⟩ (.int .u64 (g : Int))) := by
  have := h.setX (tv' := T.tv) (X' := setTb X m ⟨g, (X.tb m).ad⟩) (xC_set_hd _ _ _ _ _ (by omega) (hd_gen _ _ _ _ (g := g) hm (fun i => ?_)) rfl rfl) (fun i hi => ?_)
  · exact this
  · show (fup X.tb m _ i).gen = _
    by_cases him : i = m
    · subst him; rw [fup_self, fup_self]
    · rw [fup_ne _ _ him, fup_ne _ _ him]
  · show RowA w ρ (32 + i) (T.tv i) (fup X.tb m _ i).ad
    by_cases him : i = m
    · subst him; rw [fup_self]; exact h.tr i hi
    · rw [fup_ne _ _ him]; exact h.tr i hi
def retT (t : Tb) : Tb := ⟨if t.gen < 1099511627775 then t.gen + 1 else t.gen, []⟩
theorem RowA.nilc {c : Nat} {a : Option Addr} {n k : Nat} {xs : List Nat} (h : RowA w ρ c (.slice a n k) xs) : RowA w ρ c (.slice a 0 k) [] := by
  rcases h.own.2 with ⟨h0, h1⟩ | ⟨g, cap, cur, he, h5, hg, hn, hc, hs, ht⟩
  · injection h0 with e1 e2 e3
    subst e1 e3
    exact ⟨World.ownsRow_nil _ _ _ _, fun g hg => by cases hg⟩
  · injection he with e1 e2 e3
    subst e1 e3
    exact ⟨⟨rfl, .inr ⟨g, k, cur, rfl, h5, hg, Nat.zero_le _, hc, hs, by simp [aC]⟩⟩, fun g' hg' => h.role g' hg'⟩
theorem slice_nil (a : Option Addr) (n k : Nat) (hk : k ≤ 9223372036854775807) (w : World) : (Instr.sliceAt 80 (.slice a n k) none (some (.int .i64 0)) none).run Tryd.prog w = .ok (.slice a 0 k) w := by
  cases a with
  | none => simp [Instr.sliceAt, go_sem, slicedAt]
  | some ad => simp [Instr.sliceAt, go_sem, slicedAt]
theorem RowA.capm {c : Nat} {a : Option Addr} {n k : Nat} {xs : List Nat} (h : RowA w ρ c (.slice a n k) xs) : k ≤ maxLen ∧ n ≤ k := by
  rcases h.own.2 with ⟨h0, h1⟩ | ⟨g, cap, cur, he, h5, hg, hn, hc, hs, ht⟩
  · injection h0 with e1 e2 e3
    subst e2 e3
    exact ⟨Nat.zero_le _, Nat.le_refl _⟩
  · injection he with e1 e2 e3
    subst e2 e3
    exact ⟨hc, hn⟩
theorem setTb_2 (X : XS) (m : Nat) (a b : Tb) : setTb (setTb X m a) m b = setTb X m b := by
  unfold setTb
  have : fup (fup X.tb m a) m b = fup X.tb m b := by
    funext i
    unfold fup
    split <;> rfl
  simp [this]
theorem setTb_at (X : XS) (m : Nat) (a : Tb) : (setTb X m a).tb m = a := fup_self _ _ _
set_option maxRecDepth 1000000 in
set_option maxHeartbeats 2000000 in
theorem retire_walk (h : MM w ρ L T H X) {m : Nat} (hm : m < 4) (hb : XB X) :
    Calls Tryd.prog 76 #[.pointer (some ⟨T.xB, 1 + m * 3, none⟩)] w fun e w' => e = .returned (.tuple #[]) ∧ (∃ T', MM w' ρ L T' H (setTb X m (retT (X.tb m))) ∧ T'.xB = T.xB) ∧ Fx ρ w ρ w' := by
  obtain ⟨c1, c2, c3⟩ := h.tcells hm
  obtain ⟨a, k, hv⟩ := (h.tr m hm).shape
  have htr := h.tr m hm
  rw [hv] at c3 htr
  have hkm := htr.capm.1
  unfold maxLen at hkm
  have hsl := fun w => slice_nil a (X.tb m).ad.length k (by omega) w
  have h1 := h.setTv hm htr.nilc
  have f3 : w.frozen? ⟨T.xB, 1 + m * 3 + 2, none⟩ = false := h.xb.frozen _
  have HH := hid h1
  have hg := hb.gen m
  obtain ⟨n, hn⟩ : ∃ n, (X.tb m).ad.length = n := ⟨_, rfl⟩
  rw [hn] at c3 hsl
  obtain ⟨gn, hgn⟩ : ∃ g, (X.tb m).gen = g := ⟨_, rfl⟩
  have Hgn := hid hgn
  rw [hgn] at hg
  obtain ⟨xB, hxB⟩ : ∃ b, T.xB = b := ⟨_, rfl⟩
  have HxB := hid hxB
  rw [hxB] at HH c1 c2 c3 f3
  rw [hxB]
  clear h h1 hv htr hn hgn hxB hkm c1 c2
  go_enter Tryd.func76, Tryd.ntmps76
  go_upto_region 1 with fail
  generalize w.setCell ⟨xB, 1 + m * 3 + 2, none⟩ (.slice a 0 k) = w1 at HH ⊢
  clear c3 f3 hsl
  have c2 : w1.cell? ⟨xB, 1 + m * 3 + 1, none⟩ = some (.int .u64 (gn : Int)) := by
    have := (HH.out.1.tcells hm).2.1
    rw [setTb_at, Hgn.out] at this
    exact this
  have f2 : w1.frozen? ⟨xB, 1 + m * 3 + 1, none⟩ = false := HH.out.1.xb.frozen _
  by_cases hlt : gn < 1099511627775
  · have d1 : decide ((gn : Int) < 1099511627775) = true := decide_eq_true (by omega)
    have h2 := HH.out.1.setGen (m := m) (g := gn + 1) hm
    rw [setTb_2, setTb_at, show ((gn + 1 : Nat) : Int) = (gn : Int) + 1 by omega] at h2
    have HF : Hid ((∃ T', MM (w1.setCell ⟨xB, 1 + m * 3 + 1, none⟩ (.int .u64 ((gn : Int) + 1))) ρ L T' H (setTb X m (retT (X.tb m))) ∧ T'.xB = T.xB) ∧ Fx ρ w ρ (w1.setCell ⟨xB, 1 + m * 3 + 1, none⟩ (.int .u64 ((gn : Int) + 1)))) := hid ⟨⟨_, by
      unfold retT
      rw [Hgn.out, if_pos hlt]
      exact h2.1, HxB.out.symm⟩, HH.out.2.trans h2.2⟩
    clear h2 HH
    go_wp2
    exact bodyPost_end (v := .tuple #[]) (by simp [results, Tryd.results76, go_sem]) rfl ⟨rfl, HxB.out ▸ HF.out.1, HF.out.2⟩
  · have d1 : decide ((gn : Int) < 1099511627775) = false := decide_eq_false (by omega)
    have HF : Hid ((∃ T', MM w1 ρ L T' H (setTb X m (retT (X.tb m))) ∧ T'.xB = xB) ∧ Fx ρ w ρ w1) := hid ⟨⟨_, by
      unfold retT
      rw [Hgn.out, if_neg hlt]
      have := HH.out.1
      rw [Hgn.out] at this
      exact this, rfl⟩, HH.out.2⟩
    clear HH
    go_wp2
    exact bodyPost_end (v := .tuple #[]) (by simp [results, Tryd.results76, go_sem]) rfl ⟨rfl, HF.out⟩
end
end Go.Proofs.Qxb6500889aDoor
