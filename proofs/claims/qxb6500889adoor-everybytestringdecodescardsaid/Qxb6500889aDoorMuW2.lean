/- The world's own parts are written. -/
import Derived.Test.Qxb6500889aDoorMuW1
namespace Go.Proofs.Qxb6500889aDoor
open Go.RowKit
set_option linter.unusedSimpArgs false
set_option linter.unusedVariables false
section
variable {w w' w'' : World} {ρ ρ' ρ'' : Rl} {L L' : HL} {T T' : XL} {V V' : WL} {H H' : HS} {X X' : XS} {ks ks' : Nat → List Nat} {G G' : List Nat}
theorem HM.keepR (h : HM w ρ L H) (hs : w.heap.size ≤ w'.heap.size) (hb : ∀ g, g < w.heap.size → HR (ρ g) → w'.heap[g]? = w.heap[g]? ∧ ρ' g = ρ g) (hd : ∀ g, ρ' g ≠ 0 → g < w'.heap.size) : HM w' ρ' L H := by
  have e1 := hb _ h.hb.lt (by rw [h.r1]; omega)
  have e2 := hb _ h.tk.lt (by rw [h.r2]; omega)
  obtain ⟨E, p1, p2, p3⟩ := h.mo
  obtain ⟨F, q1, q2, q3⟩ := h.mc
  have e3 := hb _ p1.lt (by rw [h.r3]; omega)
  have e4 := hb _ q1.lt (by rw [h.r4]; omega)
  exact ⟨h.hb.of e1.1, h.tk.of e2.1, ⟨E, p1.of e3.1, p2, p3⟩, ⟨F, q1.of e4.1, q2, q3⟩, fun a x hx => (h.o a x hx).of (fun g hg hr => hb g hg (by omega)), fun m hm => (h.rt m hm).of (fun g hg hr => hb g hg (by omega)), by rw [e1.2]; exact h.r1, by rw [e2.2]; exact h.r2, by rw [e3.2]; exact h.r3, by rw [e4.2]; exact h.r4, hd⟩
theorem MM.keepR (h : MM w ρ L T H X) (hs : w.heap.size ≤ w'.heap.size) (hb : ∀ g, g < w.heap.size → XR (ρ g) → w'.heap[g]? = w.heap[g]? ∧ ρ' g = ρ g) (hd : ∀ g, ρ' g ≠ 0 → g < w'.heap.size) : MM w' ρ' L T H X := by
  have e1 := hb _ h.xb.lt (by rw [h.rx]; omega)
  exact ⟨h.hm.keepR hs (fun g hg hr => hb g hg (.inl hr)) hd, h.xb.of e1.1, by rw [e1.2]; exact h.rx, fun m hm => (h.tr m hm).of (fun g hg hr => hb g hg (by omega))⟩
/-- The world's parts are others. -/
theorem WK.change (h : WK w ρ L T V H X ks G) (hs : w.heap.size ≤ w'.heap.size) (ho : ∀ g, g < w.heap.size → ρ' g = ρ g) (hd : ∀ g, ρ' g ≠ 0 → g < w'.heap.size) (hb : ∀ g, g < w.heap.size → XR (ρ g) → w'.heap[g]? = w.heap[g]?) (hw : V'.wB = V.wB) (hwb : Blk w' V.wB 46 (wC L.hB T.xB V'))
    (hlv : ∀ m, m < 4 → LvM w' (V'.lm m) (ks' m)) (hrl : ∀ m, m < 4 → ρ' (V'.lm m) = 40 + m) (hal : RowK w' ρ' 39 .u64 44 V'.av G') : WK w' ρ' L T V' H X ks' G' :=
  ⟨h.mm.keepR hs (fun g hg hr => ⟨hb g hg hr, ho g hg⟩) hd, by rw [hw]; exact hwb, by rw [hw, ho _ h.wb.lt]; exact h.rw, hlv, hrl, hal⟩
/-- A key is put into a live map. -/
theorem WK.putLive (h : WK w ρ L T V H X ks G) {m : Nat} (hm : m < 4) {k : Nat} (hk : k ∉ ks m) : ∃ w', (Instr.mapUpdate 43 (.map (some (V.lm m))) (.int .u64 (k : Int)) (.bool true)).run Tryd.prog w = .ok () w' ∧ WO w ρ L T V H X (fup ks m (ks m ++ [k])) G w' ∧ Upd (V.lm m) w w' := by
  obtain ⟨E, h1, h2, h3⟩ := h.lv m hm
  obtain ⟨w2, b, g1, g2, g3⟩ := h1.put (P := Tryd.prog) Tryd.underlying43 Tryd.underlying39 k (.bool true) (fun e he hek => hk (by rw [← h3, ← hek]; exact List.mem_map_of_mem he))
  have hr := h.rl m hm
  have eb : ∀ g, g < w.heap.size → ρ g ≠ 40 + m → w2.heap[g]? = w.heap[g]? := fun g hg hne => g3.block g hg (fun e => hne (by rw [e]; exact hr))
  refine ⟨w2, g1, ⟨ρ, L, T, V, h.change g3.size (fun _ _ => rfl) (fun g hg => Nat.lt_of_lt_of_le (h.dom g hg) g3.size) (fun g hg hx => eb g hg (by omega)) rfl (h.wb.of (eb _ h.wb.lt (by rw [h.rw]; omega))) (fun i hi => ?_) h.rl (h.al.of (fun g hg hr => ⟨eb g hg (by omega), rfl⟩)), rfl, rfl, rfl, Fw.upd g3 (by rw [hr]; omega)⟩, g3⟩
  by_cases e : i = m
  · subst e
    rw [fup_self]
    refine ⟨_, g2, fun y hy => ?_, by simp [h3]⟩
    rcases List.mem_append.1 hy with hy | hy
    · exact h2 y hy
    · rw [List.mem_singleton.1 hy]
  · rw [fup_ne _ _ e]
    exact (h.lv i hi).of (eb _ (h.lv i hi).lt (by rw [h.rl i hi]; omega))
theorem wC_lm (hB xB : Nat) (V : WL) {m : Nat} (hm : m < 4) (g : Nat) : (wC hB xB V).set (2 + m) (.map (some g)) = wC hB xB { V with lm := fup V.lm m g } := by
  rcases (by omega : m = 0 ∨ m = 1 ∨ m = 2 ∨ m = 3) with rfl | rfl | rfl | rfl <;> rfl
/-- A live map is made anew. -/
theorem WK.newLive (h : WK w ρ L T V H X ks G) {m : Nat} (hm : m < 4) : WO w ρ L T V H X (fup ks m []) G ((w.alloc (.map #[] 0)).setCell ⟨V.wB, 2 + m, none⟩ (.map (some w.heap.size))) := by
  have hb := nbel w (.map #[] 0)
  have hu : Upd V.wB (w.alloc (.map #[] 0)) ((w.alloc (.map #[] 0)).setCell ⟨V.wB, 2 + m, none⟩ (.map (some w.heap.size))) := (Upd.refl V.wB _).setCell (p := ⟨V.wB, 2 + m, none⟩) rfl _
  have hs1 : (w.alloc (.map #[] 0)).heap.size = w.heap.size + 1 := by simp
  have eb : ∀ g, g < w.heap.size → ρ g ≠ 6 → ((w.alloc (.map #[] 0)).setCell ⟨V.wB, 2 + m, none⟩ (.map (some w.heap.size))).heap[g]? = w.heap[g]? := fun g hg hne => (hu.block g (by omega) (fun e => hne (by rw [e]; exact h.rw))).trans (hb.block g hg)
  have hsz : ((w.alloc (.map #[] 0)).setCell ⟨V.wB, 2 + m, none⟩ (.map (some w.heap.size))).heap.size = w.heap.size + 1 := by rw [← hs1]; simp
  have hbl := (h.wb.below hb).set (2 + m) (.map (some w.heap.size))
  rw [wC_lm _ _ _ hm] at hbl
  have hwlt := h.wb.lt
  refine ⟨fup ρ w.heap.size (40 + m), L, T, { V with lm := fup V.lm m w.heap.size }, h.change (by omega) (fun g hg => fup_ne _ _ (by omega)) (fun g hg => ?_) (fun g hg hx => eb g hg (by omega)) rfl hbl (fun i hi => ?_) (fun i hi => ?_) (h.al.of (fun g hg hr => ⟨eb g hg (by omega), fup_ne _ _ (by omega)⟩)), rfl, rfl, rfl, ⟨hu.os.trans hb.os, hu.tape.trans hb.tape, hu.output.trans hb.output, by omega, fun g hg => fup_ne _ _ (by omega), fun g hg h0 => eb g hg (by omega)⟩⟩
  · rw [hsz]
    by_cases e : g = w.heap.size
    · omega
    · rw [fup_ne _ _ e] at hg
      have := h.dom g hg
      omega
  · show LvM _ (fup V.lm m w.heap.size i) _
    by_cases e : i = m
    · subst e
      rw [fup_self, fup_self]
      exact ⟨[], (PN.new w rfl).of (hu.block _ (by omega) (by omega)), fun e he => (by cases he), rfl⟩
    · rw [fup_ne _ _ e, fup_ne _ _ e]
      exact (h.lv i hi).of (eb _ (h.lv i hi).lt (by rw [h.rl i hi]; omega))
  · show fup ρ w.heap.size (40 + m) (fup V.lm m w.heap.size i) = 40 + i
    by_cases e : i = m
    · subst e
      rw [fup_self, fup_self]
    · rw [fup_ne _ _ e, fup_ne _ _ (by have := (h.lv i hi).lt; omega)]
      exact h.rl i hi
/-- All the handles are another row now. -/
theorem WK.setAll (h : WK w ρ L T V H X ks G) {v : Value} (hb0 : Below 0 w w') (hk : ∀ g, g < w.heap.size → ρ g ≠ 44 → w'.heap[g]? = w.heap[g]?) (ho : ∀ g, g < w.heap.size → ρ' g = ρ g) (hd : ∀ g, ρ' g ≠ 0 → g < w'.heap.size) (hr : RowK w' ρ' 39 .u64 44 v G') :
    WO w ρ L T V H X ks G' (w'.setCell ⟨V.wB, 6, none⟩ v) := by
  have hu : Upd V.wB w' (w'.setCell ⟨V.wB, 6, none⟩ v) := (Upd.refl V.wB w').setCell (p := ⟨V.wB, 6, none⟩) rfl _
  have hbl := (h.wb.of (hk _ h.wb.lt (by rw [h.rw]; omega))).set 6 v
  have hwr : ρ' V.wB = 6 := by rw [ho _ h.wb.lt]; exact h.rw
  have eb : ∀ g, g < w.heap.size → ρ g ≠ 44 → ρ g ≠ 6 → (w'.setCell ⟨V.wB, 6, none⟩ v).heap[g]? = w.heap[g]? := fun g hg h1 h2 => (hu.block g (Nat.lt_of_lt_of_le hg hb0.size) (fun e => h2 (by rw [e]; exact h.rw))).trans (hk g hg h1)
  refine ⟨ρ', L, T, { V with av := v }, h.change (Nat.le_trans hb0.size hu.size) ho (fun g hg => Nat.lt_of_lt_of_le (hd g hg) hu.size) (fun g hg hx => eb g hg (by omega) (by omega)) rfl hbl (fun i hi => (h.lv i hi).of (eb _ (h.lv i hi).lt (by rw [h.rl i hi]; omega) (by rw [h.rl i hi]; omega))) (fun i hi => by rw [ho _ (h.lv i hi).lt]; exact h.rl i hi) (hr.of (fun g hg hgr => ⟨hu.block g hg (fun e => by rw [e, hwr] at hgr; omega), rfl⟩)), rfl, rfl, rfl, ⟨hu.os.trans hb0.os, hu.tape.trans hb0.tape, hu.output.trans hb0.output, Nat.le_trans hb0.size hu.size, ho, fun g hg h0 => eb g hg (by omega) (by omega)⟩⟩
set_option maxRecDepth 100000 in
theorem gives_walk (k : Nat) (hk : k < 256) (w : World) : Calls Tryd.prog 22 #[.int .u8 (k : Int)] w fun e w' => e = .returned (.bool (decide (k = 0 ∨ k = 1 ∨ k = 6))) ∧ w' = w := by
  obtain ⟨b0, h0⟩ : ∃ b, ((k : Int) == 0) = b := ⟨_, rfl⟩
  obtain ⟨b1, h1⟩ : ∃ b, ((k : Int) == 1) = b := ⟨_, rfl⟩
  obtain ⟨b6, h6⟩ : ∃ b, ((k : Int) == 6) = b := ⟨_, rfl⟩
  have HE : Hid (decide (k = 0 ∨ k = 1 ∨ k = 6) = (b0 || (b1 || b6))) := hid (by
    rw [← h0, ← h1, ← h6, Bool.eq_iff_iff]
    simp
    omega)
  clear hk
  cases b0 <;> cases b1 <;> cases b6 <;>
  · go_enter Tryd.func22, Tryd.ntmps22
    go_wp2
    go_ret
    exact ⟨by rw [HE.out]; rfl, rfl⟩
end
end Go.Proofs.Qxb6500889aDoor
