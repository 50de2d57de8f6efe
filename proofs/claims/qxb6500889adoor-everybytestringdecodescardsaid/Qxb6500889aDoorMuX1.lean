/- The machine in memory: tables, history, counts. -/
import Derived.Test.Qxb6500889aDoorMuH9
namespace Go.Proofs.Qxb6500889aDoor
open Go.RowKit
set_option linter.unusedSimpArgs false
set_option linter.unusedVariables false

structure Tb where
  gen : Nat
  ad : List Nat
/-- The machine's plain state. -/
structure XS where
  tb : Nat → Tb
  ring : Nat → Nat
  nx : Nat
  ct : Nat
  st : Nat
  rf : Nat
  al : Nat
  sf : Nat
structure XL where
  xB : Nat
  tv : Nat → Value
def hdC (hB : Nat) (tv : Nat → Value) (X : XS) : List Value := [.pointer (some ⟨hB, 0, none⟩), .int .i64 0, .int .u64 ((X.tb 0).gen : Int), tv 0, .int .i64 1, .int .u64 ((X.tb 1).gen : Int), tv 1, .int .i64 2, .int .u64 ((X.tb 2).gen : Int), tv 2, .int .i64 3, .int .u64 ((X.tb 3).gen : Int), tv 3]
def ringC (f : Nat → Nat) : List Value := (List.range 255).map fun i => .int .u64 ((f i : Nat) : Int)
def tlC (X : XS) : List Value := [.int .i64 (X.nx : Int), .int .i64 (X.ct : Int), .int .u64 (X.st : Int), .int .u64 (X.rf : Int), .int .u64 (X.al : Int), .int .u64 (X.sf : Int), .int .i64 0, .int .i64 0]
def xC (hB : Nat) (tv : Nat → Value) (X : XS) : List Value := hdC hB tv X ++ (ringC X.ring ++ tlC X)
theorem ringC_len (f : Nat → Nat) : (ringC f).length = 255 := by simp [ringC]
theorem xC_len (hB : Nat) (tv : Nat → Value) (X : XS) : (xC hB tv X).length = 276 := by simp [xC, hdC, tlC, ringC_len]
theorem xC_hd (hB : Nat) (tv : Nat → Value) (X : XS) {i : Nat} (h : i < 13) : (xC hB tv X)[i]? = (hdC hB tv X)[i]? := by
  unfold xC
  rw [List.getElem?_append_left (by simp [hdC]; omega)]
theorem xC_ring (hB : Nat) (tv : Nat → Value) (X : XS) {i : Nat} (h : i < 255) : (xC hB tv X)[13 + i]? = some (.int .u64 ((X.ring i : Nat) : Int)) := by
  unfold xC
  have hl : (hdC hB tv X).length = 13 := rfl
  rw [List.getElem?_append_right (by omega), hl, List.getElem?_append_left (by rw [ringC_len]; omega), show 13 + i - 13 = i by omega]
  simp [ringC, h]
theorem xC_tl (hB : Nat) (tv : Nat → Value) (X : XS) (j : Nat) : (xC hB tv X)[268 + j]? = (tlC X)[j]? := by
  unfold xC
  have hl : (hdC hB tv X).length = 13 := rfl
  rw [List.getElem?_append_right (by omega), hl, List.getElem?_append_right (by rw [ringC_len]; omega), ringC_len, show 268 + j - 13 - 255 = j by omega]
theorem xC_set_hd (hB : Nat) (tv tv' : Nat → Value) (X X' : XS) {i : Nat} {v : Value} (h : i < 13) (hh : (hdC hB tv X).set i v = hdC hB tv' X') (hr : X'.ring = X.ring) (ht : tlC X' = tlC X) : (xC hB tv X).set i v = xC hB tv' X' := by
  unfold xC
  rw [List.set_append_left _ _ (by simp [hdC]; omega), hh, hr, ht]
theorem xC_set_tl (hB : Nat) (tv : Nat → Value) (X X' : XS) {j : Nat} {v : Value} (hh : (tlC X).set j v = tlC X') (hr : X'.ring = X.ring) (ht : X'.tb = X.tb) : (xC hB tv X).set (268 + j) v = xC hB tv X' := by
  unfold xC
  have hl : (hdC hB tv X).length = 13 := rfl
  rw [List.set_append_right _ _ (by omega), hl, List.set_append_right _ _ (by rw [ringC_len]; omega), ringC_len, show 268 + j - 13 - 255 = j by omega, hh, hr]
  congr 1
  unfold hdC
  rw [ht]
theorem xC_set_ring (hB : Nat) (tv : Nat → Value) (X : XS) {i : Nat} (h : i < 255) (v : Nat) : (xC hB tv X).set (13 + i) (.int .u64 (v : Int)) = xC hB tv { X with ring := fup X.ring i v } := by
  unfold xC
  have hl : (hdC hB tv X).length = 13 := rfl
  rw [List.set_append_right _ _ (by omega), hl, List.set_append_left _ _ (by rw [ringC_len]; omega), show 13 + i - 13 = i by omega]
  have e : (ringC X.ring).set i (.int .u64 (v : Int)) = ringC (fup X.ring i v) := by
    apply List.ext_getElem?
    intro j
    by_cases hj : j = i
    · subst hj
      rw [List.getElem?_set_self (by rw [ringC_len]; exact h)]
      simp [ringC, h, fup_self]
    · rw [List.getElem?_set_ne (fun e => hj e.symm)]
      unfold ringC
      rw [List.getElem?_map, List.getElem?_map]
      cases hr : (List.range 255)[j]? with
      | none => rfl
      | some q =>
        have hq : q = j := by
          have := List.getElem?_eq_some_iff.1 hr
          obtain ⟨h1, h2⟩ := this
          simp at h2
          exact h2.symm
        subst hq
        show some (Value.int .u64 ((X.ring q : Nat) : Int)) = some (Value.int .u64 ((fup X.ring i v q : Nat) : Int))
        rw [fup_ne _ _ hj]
  rw [e]
  rfl
/-- Bounds of the machine's numbers. -/
structure XB (X : XS) : Prop where
  nx : X.nx < 255
  ct : X.ct ≤ 255
  gen : ∀ m, (X.tb m).gen ≤ 1099511627775
  len : ∀ m, (X.tb m).ad.length ≤ 128
  st : X.st ≤ 100000000000
  rf : X.rf ≤ 100000000000
  al : X.al ≤ 100000000000
  sf : X.sf ≤ 100000000000
/-- The machine and its heap. -/
structure MM (w : World) (ρ : Rl) (L : HL) (T : XL) (H : HS) (X : XS) : Prop where
  hm : HM w ρ L H
  xb : Blk w T.xB 113 (xC L.hB T.tv X)
  rx : ρ T.xB = 5
  tr : ∀ m, m < 4 → RowA w ρ (32 + m) (T.tv m) (X.tb m).ad
/-- The machine's own roles. -/
abbrev XR (c : Nat) : Prop := HR c ∨ c = 5 ∨ (32 ≤ c ∧ c < 36)
structure Fx (ρ : Rl) (w : World) (ρ' : Rl) (w' : World) : Prop where
  os : w'.os = w.os
  tape : w'.tape = w.tape
  output : w'.output = w.output
  size : w.heap.size ≤ w'.heap.size
  old : ∀ g, g < w.heap.size → ρ' g = ρ g
  blk : ∀ g, g < w.heap.size → ¬ XR (ρ g) → w'.heap[g]? = w.heap[g]?
section
variable {w w' w'' : World} {ρ ρ' ρ'' : Rl} {L L' : HL} {T : XL} {H H' : HS} {X : XS}
theorem Fx.refl (ρ : Rl) (w : World) : Fx ρ w ρ w := ⟨rfl, rfl, rfl, Nat.le_refl _, fun _ _ => rfl, fun _ _ _ => rfl⟩
theorem Fx.trans (h : Fx ρ w ρ' w') (k : Fx ρ' w' ρ'' w'') : Fx ρ w ρ'' w'' :=
  ⟨k.os.trans h.os, k.tape.trans h.tape, k.output.trans h.output, Nat.le_trans h.size k.size, fun g hg => (k.old g (Nat.lt_of_lt_of_le hg h.size)).trans (h.old g hg), fun g hg h0 => (k.blk g (Nat.lt_of_lt_of_le hg h.size) (by rw [h.old g hg]; exact h0)).trans (h.blk g hg h0)⟩
theorem Fr.fx (h : Fr ρ w ρ' w') : Fx ρ w ρ' w' := ⟨h.os, h.tape, h.output, h.size, h.old, fun g hg h0 => h.blk g hg (fun e => h0 (.inl e))⟩
theorem Fx.below (h : Below w.heap.size w w') : Fx ρ w ρ w' := (Fr.below h).fx
theorem Fx.upd {g : Nat} (h : Upd g w w') (hg : XR (ρ g)) : Fx ρ w ρ w' := ⟨h.os, h.tape, h.output, h.size, fun _ _ => rfl, fun k hk h0 => h.block k hk (fun e => h0 (by rw [e]; exact hg))⟩
theorem MM.below (h : MM w ρ L T H X) (hb : Below w.heap.size w w') : MM w' ρ L T H X := ⟨h.hm.below hb, h.xb.below hb, h.rx, fun m hm => (h.tr m hm).of (fun g hg _ => ⟨hb.block g hg, rfl⟩)⟩
/-- The heap has worked. -/
theorem MM.heap (h : MM w ρ L T H X) (hm : HM w' ρ' L' H') (hB : L'.hB = L.hB) (hf : Fr ρ w ρ' w') : MM w' ρ' L' T H' X := by
  refine ⟨hm, by rw [hB]; exact h.xb.of (hf.blk _ h.xb.lt (by rw [h.rx]; omega)), by rw [hf.old _ h.xb.lt]; exact h.rx, fun m hm' => (h.tr m hm').of (fun g hg hr => ⟨hf.blk g hg (by omega), hf.old g hg⟩)⟩
/-- The machine's own block is written. -/
theorem MM.setX (h : MM w ρ L T H X) {i : Nat} {v : Value} {tv' : Nat → Value} {X' : XS} (hc : (xC L.hB T.tv X).set i v = xC L.hB tv' X') (hr : ∀ m, m < 4 → RowA w ρ (32 + m) (tv' m) (X'.tb m).ad) : MM (w.setCell ⟨T.xB, i, none⟩ v) ρ L ⟨T.xB, tv'⟩ H X' ∧ Fx ρ w ρ (w.setCell ⟨T.xB, i, none⟩ v) := by
  have hu : Upd T.xB w (w.setCell ⟨T.xB, i, none⟩ v) := (Upd.refl T.xB w).setCell (p := ⟨T.xB, i, none⟩) rfl _
  refine ⟨⟨h.hm.other hu (by rw [h.rx]; omega), by have := h.xb.set i v; rw [hc] at this; exact this, h.rx, fun m hm => (hr m hm).of (fun g hg hgr => ⟨hu.block g hg (fun e => by rw [e, h.rx] at hgr; omega), rfl⟩)⟩, Fx.upd hu (by rw [h.rx]; omega)⟩
theorem MM.xcell (h : MM w ρ L T H X) (i : Nat) : w.cell? ⟨T.xB, i, none⟩ = (xC L.hB T.tv X)[i]? := h.xb.cell i
theorem MM.heapP (h : MM w ρ L T H X) : w.cell? ⟨T.xB, 0, none⟩ = some (.pointer (some ⟨L.hB, 0, none⟩)) := by rw [h.xcell, xC_hd _ _ _ (by omega)]; rfl
theorem MM.tcells (h : MM w ρ L T H X) {m : Nat} (hm : m < 4) : w.cell? ⟨T.xB, 1 + m * 3, none⟩ = some (.int .i64 (m : Int)) ∧ w.cell? ⟨T.xB, 1 + m * 3 + 1, none⟩ = some (.int .u64 ((X.tb m).gen : Int)) ∧ w.cell? ⟨T.xB, 1 + m * 3 + 2, none⟩ = some (T.tv m) := by
  rw [h.xcell, h.xcell, h.xcell, xC_hd _ _ _ (by omega), xC_hd _ _ _ (by omega), xC_hd _ _ _ (by omega)]
  rcases (by omega : m = 0 ∨ m = 1 ∨ m = 2 ∨ m = 3) with rfl | rfl | rfl | rfl <;> exact ⟨rfl, rfl, rfl⟩
theorem MM.hcells (h : MM w ρ L T H X) : w.cell? ⟨T.xB, 268, none⟩ = some (.int .i64 (X.nx : Int)) ∧ w.cell? ⟨T.xB, 269, none⟩ = some (.int .i64 (X.ct : Int)) := by
  rw [h.xcell, h.xcell, show 268 = 268 + 0 from rfl, xC_tl, show 269 = 268 + 1 from rfl, xC_tl]
  exact ⟨rfl, rfl⟩
set_option maxRecDepth 1000000 in
theorem table_walk (x m : Nat) (hm : m < 4) (w : World) :
    Calls Tryd.prog 25 #[.pointer (some ⟨x, 0, none⟩), .int .i64 (m : Int)] w fun e w' => e = .returned (.tuple #[.pointer (some ⟨x, 1 + m * 3, none⟩), .int .u8 0]) ∧ w' = w := by
  have i1 : (m : Int) < 4 := by omega
  have d1 : decide ((m : Int) < 0) = false := decide_eq_false (by omega)
  have d2 : decide ((m : Int) ≥ 4) = false := decide_eq_false (by omega)
  have d3 : decide ((4 : Int) ≤ (m : Int)) = false := decide_eq_false (by omega)
  go_enter Tryd.func25, Tryd.ntmps25
  go_wp2
  exact bodyPost_ret (v := .tuple #[.pointer (some ⟨x, 1 + m * 3, none⟩), .int .u8 0]) (by simp [results, Tryd.results25, go_sem]) rfl ⟨rfl, rfl⟩
def fullB (t : Tb) : Bool := decide (t.ad.length = 128) || decide (t.gen = 1099511627775)
set_option maxRecDepth 1000000 in
theorem full_walk (h : MM w ρ L T H X) {m : Nat} (hm : m < 4) (hb : XB X) :
    Calls Tryd.prog 65 #[.pointer (some ⟨T.xB, 1 + m * 3, none⟩)] w fun e w' => e = .returned (.bool (fullB (X.tb m))) ∧ w' = w := by
  obtain ⟨c1, c2, c3⟩ := h.tcells hm
  obtain ⟨a, k, hv⟩ := (h.tr m hm).shape
  rw [hv] at c3
  have hl := hb.len m
  have hg := hb.gen m
  unfold fullB
  generalize (X.tb m).ad.length = n at *
  generalize (X.tb m).gen = gn at *
  generalize T.xB = xB at *
  clear h hv
  by_cases h1 : n = 128
  · subst h1
    go_enter Tryd.func65, Tryd.ntmps65
    go_wp2
    go_ret
    exact ⟨by simp, rfl⟩
  · have d1 : ((n : Int) == 128) = false := by simp; omega
    obtain ⟨b2, hb2⟩ : ∃ b, ((gn : Int) == 1099511627775) = b := ⟨_, rfl⟩
    have Hb2 : Hid (decide (gn = 1099511627775) = b2) := hid (by rw [← hb2, Bool.eq_iff_iff]; simp; omega)
    clear hg
    go_enter Tryd.func65, Tryd.ntmps65
    go_wp2
    go_ret
    exact ⟨by rw [Hb2.out, decide_eq_false h1]; rfl, rfl⟩
end
end Go.Proofs.Qxb6500889aDoor
