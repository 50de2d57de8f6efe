/- Images: the row of the image inside the law. -/
import Derived.Test.Qxb6500887aGreatAzIf
import Derived.Test.Qxb6500887aGreatFile
import Derived.ArgAppend
import Derived.Deep.DeepCutAuto
import Derived.Great.BuildSlice
namespace Go.Proofs.Qxb6500887aGreat
open Go.RowKit
set_option linter.unusedSimpArgs false
set_option linter.unusedVariables false
/-- The image's row: its words, and room behind them. -/
structure ImR (g cap : Nat) (X : Nat → Nat) (w : World) : Prop where
  c1 : 34180 ≤ cap
  c2 : cap ≤ maxLen
  bk : ∃ cs, Blk w g 29 cs ∧ cs.length = cap ∧ ∀ i, i < 34180 → cs[i]? = some (.int .u64 ((X i : Nat) : Int))
section
variable {w w' w0 : World} {g cap : Nat} {X : Nat → Nat}
theorem ImR.sl (h : ImR g cap X w) : WSl w g 0 34180 X := fun i hi => by
  obtain ⟨cs, hb, _, hc⟩ := h.bk
  rw [Nat.zero_add, hb.cell i]
  exact hc i hi
theorem ImR.lt (h : ImR g cap X w) : g < w.heap.size := by
  obtain ⟨cs, hb, _⟩ := h.bk
  exact hb.lt
theorem ImR.of (h : ImR g cap X w) (hk : w'.heap[g]? = w.heap[g]?) : ImR g cap X w' := by
  obtain ⟨cs, hb, h1, h2⟩ := h.bk
  exact ⟨h.c1, h.c2, cs, hb.of hk, h1, h2⟩
theorem ImR.put (h : ImR g cap X w) {k y : Nat} (hk : k < 34180) : ImR g cap (fup X k y) (w.setCell ⟨g, k, none⟩ (.int .u64 (y : Int))) := by
  obtain ⟨cs, hb, h1, h2⟩ := h.bk
  refine ⟨h.c1, h.c2, cs.set k (.int .u64 (y : Int)), hb.set k _, by rw [List.length_set]; exact h1, fun i hi => ?_⟩
  by_cases c : i = k
  · subst c
    rw [List.getElem?_set_self (by have := h.c1; omega), fup_self]
  · rw [List.getElem?_set_ne (Ne.symm c), fup_ne _ _ c]
    exact h2 i hi
theorem ImR.fz (h : ImR g cap X w) (k : Nat) : w.frozen? ⟨g, k, none⟩ = false := by
  obtain ⟨cs, hb, _⟩ := h.bk
  exact hb.frozen k
def ap0 (X : Nat → Nat) (i : Nat) : Nat := if i = 34180 then 0 else X i
theorem ap0_at (X : Nat → Nat) : ap0 X 34180 = 0 := if_pos rfl
theorem ap0_ne (X : Nat → Nat) {i : Nat} (h : i ≠ 34180) : ap0 X i = X i := if_neg h
/-- What append(img, 0) leaves. -/
structure ApI (g cap : Nat) (X : Nat → Nat) (w : World) (g' cap' : Nat) (w' : World) : Prop where
  c1 : 34181 ≤ cap'
  c2 : cap' ≤ maxLen
  sl : WSl w' g' 0 34181 (ap0 X)
  lt : g' < w'.heap.size
  at' : g' = g ∨ w.heap.size ≤ g'
  up : UpdO (some g) w w'
  im : ImR g cap X w'
theorem app_run (h : ImR g cap X w) {p : Nat} (hp : Blk w p 29 [.int .u64 0]) (ty : TypeId) : ∃ g' cap' w', (Builtin.append_ #[53, 53] ty #[.slice (some ⟨g, 0, none⟩) 34180 cap, .slice (some ⟨p, 0, none⟩) 1 1]).run Tryz.prog w = .ok (.slice (some ⟨g', 0, none⟩) 34181 cap') w' ∧ ApI g cap X w g' cap' w' := by
  obtain ⟨i, hi, he⟩ := Option.map_eq_some_iff.1 info_u64
  simp only [Prod.mk.injEq] at he
  obtain ⟨e1, e2, e3⟩ := he
  obtain ⟨cs, hb, hl, hc⟩ := h.bk
  have hnews : ∀ j u, ([.int .u64 0] : List Value)[j]? = some u → w.cell? ((⟨p, 0, none⟩ : Addr).add j) = some u := fun j u hu => by
    rw [addr_add, Nat.zero_add, hp.cell j]
    exact hu
  by_cases hroom : 34181 ≤ cap
  · have hcell : ∀ k, k < cap → (w.cell? ⟨g, k, none⟩).isSome = true := fun k hk => by
      rw [hb.cell k, List.getElem?_eq_getElem (by omega)]
      rfl
    have hr := run_append_room_cells (P := Tryz.prog) w 53 ty 29 i Tryz.underlying53 hi g 0 34180 cap ⟨p, 0, none⟩ 1 1 [.int .u64 0] (by rw [e2]; rfl) hnews (by intro u hu; simp at hu; subst hu; rfl) hroom (fun j hj => by rw [e2]; exact hcell _ (by simp at hj; omega)) (fun j hj => hb.frozen _)
    refine ⟨g, cap, _, hr, ?_⟩
    rw [e2, show 0 + 34180 * 1 = 34180 by omega]
    have hset : w.setCells g 34180 [.int .u64 0] = w.setCell ⟨g, 34180, none⟩ (.int .u64 0) := by simp [World.setCells]
    rw [hset]
    have hbb := hb.set 34180 (.int .u64 0)
    have hup := (Upd.refl g w).setCell (p := ⟨g, 34180, none⟩) rfl (.int .u64 0)
    refine ⟨hroom, h.c2, fun k hk => ?_, hbb.lt, .inl rfl, ⟨hup.os, hup.tape, hup.output, hup.size, fun k hk hne => hup.block k hk (fun e => hne (by rw [e]))⟩, ⟨h.c1, h.c2, _, hbb, by rw [List.length_set]; exact hl, fun k hk => by rw [List.getElem?_set_ne (by omega)]; exact hc k hk⟩⟩
    rw [Nat.zero_add, hbb.cell k]
    by_cases c : k = 34180
    · subst c
      rw [List.getElem?_set_self (by omega), ap0_at]
      rfl
    · rw [List.getElem?_set_ne (by omega), ap0_ne X c]
      exact hc k (by omega)
  · have hcap : cap = 34180 := by have := h.c1; omega
    have holds : ∀ j u, cs[j]? = some u → w.cell? ((⟨g, 0, none⟩ : Addr).add j) = some u := fun j u hu => by
      rw [addr_add, Nat.zero_add, hb.cell j]
      exact hu
    obtain ⟨v', w', hr, hown, hgr⟩ := run_append_arg_grows (P := Tryz.prog) w 53 ty 29 i (.int .u64 0) 1 8 Tryz.underlying53 hi e1 e2 e3 rfl (by omega) ⟨g, 0, none⟩ 34180 cap cs (by omega) holds ⟨p, 0, none⟩ 1 1 [.int .u64 0] rfl hnews (by omega) (by unfold maxLen; omega) (by omega)
    rcases hown.2 with ⟨_, e⟩ | ⟨g', cap', cur, rfl, q1, q2, q3, q4, q5, q6⟩
    · omega
    · have hb' : Blk w' g' 29 cur.toList := by unfold Blk; exact q2
      have hk : ∀ k, k < w.heap.size → w'.heap[k]? = w.heap[k]? := fun k hk => hgr.block k hk (by simp)
      refine ⟨g', cap', w', hr, ⟨q3, q4, fun k hk => ?_, hb'.lt, .inr q1, ⟨hgr.os, hgr.tape, hgr.output, hgr.size, fun k hk' _ => hk k hk'⟩, h.of (hk g hb.lt)⟩⟩
      rw [Nat.zero_add, hb'.cell k]
      have : (cur.toList.take ((34180 + 1) * 1))[k]? = (cs ++ [.int .u64 0])[k]? := by rw [q6]
      rw [List.getElem?_take, if_pos (by omega)] at this
      rw [this]
      by_cases c : k = 34180
      · subst c
        rw [List.getElem?_append_right (by omega), hl, hcap, ap0_at]
        rfl
      · rw [List.getElem?_append_left (by omega), ap0_ne X c]
        exact hc k (by omega)
end
end Go.Proofs.Qxb6500887aGreat
