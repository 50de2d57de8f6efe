/- The ground under the barrier in memory: heap, space, counts. -/
import Derived.Test.Qxb6500888aRowX
import Derived.Test.Qxb6500888aProg
namespace Go.Proofs.Qxb6500888a
open Go.RowKit
set_option linter.unusedSimpArgs false
set_option linter.unusedVariables false

/-- The ground's plain state. -/
structure GS where
  head : Nat → Option (Nat × Nat)
  word : Nat → Nat
  lg : Nat → Bool
  tk : Nat → Bool
  cnt : Nat → Nat
  pend : Nat → Nat
  calls : List (Bool × Nat)
  deaths : List Nat
  errs : Nat
/-- Where it lies. -/
structure GL where
  hB : Nat
  wB : Nat
  lB : Nat
  sB : Nat
  tB : Nat
  cB : Nat
  mH : Nat
  mC : Nat
  mP : Nat
  cv : Value
  dv : Value
def rtA : RK Nat := ⟨48, 34, 1, 8, fun x => [.int .u64 (x : Int)]⟩
def rtC : RK (Bool × Nat) := ⟨83, 74, 2, 16, fun p => [.bool p.1, .int .u64 (p.2 : Int)]⟩
def rtE : RK (Nat × Nat) := ⟨59, 56, 2, 16, fun p => [.int .u64 (p.1 : Int), .int .u64 (p.2 : Int)]⟩
theorem info_of {t : TypeId} {z : Value} {n b : Nat} (h : (Try.prog.info? t).map (fun i => (i.zero, i.size, i.bytes)) = some (some z, n, b)) (hz : z.cells.size = n) : ∃ i z, Try.prog.info? t = some i ∧ i.zero = some z ∧ i.size = n ∧ i.bytes = b ∧ z.cells.size = n := by
  obtain ⟨i, hi, he⟩ := Option.map_eq_some_iff.1 h
  simp only [Prod.mk.injEq] at he
  exact ⟨i, z, hi, he.1, he.2.1, he.2.2, hz⟩
theorem okA : RKok Try.prog rtA := ⟨Try.underlying34, info_of (z := .int .u64 0) (by kernel_rfl) rfl, by decide, by decide, fun _ => rfl, fun x u hu => by simp [rtA] at hu; subst hu; rfl⟩
theorem okC : RKok Try.prog rtC := ⟨Try.underlying74, info_of (z := .agg #[.bool false, .int .u64 0]) (by kernel_rfl) rfl, by decide, by decide, fun _ => rfl, fun x u hu => by simp [rtC] at hu; rcases hu with rfl | rfl <;> rfl⟩
theorem okE : RKok Try.prog rtE := ⟨Try.underlying56, info_of (z := .agg #[.int .u64 0, .int .u64 0]) (by kernel_rfl) rfl, by decide, by decide, fun _ => rfl, fun x u hu => by simp [rtE] at hu; rcases hu with rfl | rfl <;> rfl⟩
def shV (p : Nat × Nat) : Value := .agg #[.int .i64 (p.1 : Int), .int .i64 (p.2 : Int)]
def hdF (f : Nat → Option (Nat × Nat)) : Nat → Option Value := fun a => (f a).map shV
def ctF (f : Nat → Nat) : Nat → Option Value := fun a => if f a = 0 then none else some (.int .i64 (f a : Int))
def wdC (f : Nat → Nat) : List Value := fnC 32768 (fun i => .int .u64 (f i : Int))
def bitC (f : Nat → Bool) : List Value := fnC 32768 (fun i => .bool (f i))
def hC (L : GL) : List Value := [.map (some L.mH), .slice (some ⟨L.wB, 0, none⟩) 32768 32768, .slice (some ⟨L.lB, 0, none⟩) 32768 32768]
def sC (L : GL) : List Value := [.slice (some ⟨L.tB, 0, none⟩) 32768 32768]
def cC (L : GL) (n : Nat) : List Value := [.pointer (some ⟨L.hB, 0, none⟩), .pointer (some ⟨L.sB, 0, none⟩), .map (some L.mC), .map (some L.mP), L.cv, L.dv, .int .i64 (n : Int)]
/-- The ground's roles: 1 heap, 2 words, 3 log bits, 4 space, 5 taken, 6 counts, 7 heads, 8 count, 9 pending, 10 calls, 11 deaths. -/
structure GMh (X : Nat → Bool) (w : World) (ρ : Rl) (L : GL) (G : GS) : Prop where
  hb : X 1 = false → Blk w L.hB 66 (hC L)
  wb : X 2 = false → Blk w L.wB 48 (wdC G.word)
  lb : X 3 = false → Blk w L.lB 4 (bitC G.lg)
  sb : X 4 = false → Blk w L.sB 80 (sC L)
  tb : X 5 = false → Blk w L.tB 4 (bitC G.tk)
  cb : X 6 = false → Blk w L.cB 76 (cC L G.errs)
  mh : X 7 = false → MF w L.mH (hdF G.head)
  mc : X 8 = false → MF w L.mC (ctF G.cnt)
  mp : X 9 = false → MF w L.mP (ctF G.pend)
  cl : X 10 = false → RowX rtC w ρ 10 L.cv G.calls
  dl : X 11 = false → RowX rtA w ρ 11 L.dv G.deaths
  r1 : ρ L.hB = 1
  r2 : ρ L.wB = 2
  r3 : ρ L.lB = 3
  r4 : ρ L.sB = 4
  r5 : ρ L.tB = 5
  r6 : ρ L.cB = 6
  r7 : ρ L.mH = 7
  r8 : ρ L.mC = 8
  r9 : ρ L.mP = 9
  dom : ∀ g, ρ g ≠ 0 → g < w.heap.size
abbrev GM := GMh (fun _ => false)
/-- The ground's roles. -/
def gX (c : Nat) : Bool := decide (1 ≤ c ∧ c ≤ 11)
theorem gX_of {r c : Nat} (hr : 1 ≤ r ∧ r ≤ 11) (h : (c == r) = true) : gX c = true := by
  have : c = r := by simpa using h
  subst this
  exact decide_eq_true hr
section
variable {X : Nat → Bool} {w w' : World} {ρ ρ' : Rl} {L : GL} {G : GS}
theorem GMh.but (h : GM w ρ L G) (hf : Fr X ρ w ρ' w') : GMh X w' ρ' L G := by
  have hd := h.dom
  have lt : ∀ {g c}, ρ g = c → c ≠ 0 → g < w.heap.size := fun e hc => hd _ (by rw [e]; exact hc)
  exact ⟨fun hx => hf.keep (h.hb rfl) h.r1 hx, fun hx => hf.keep (h.wb rfl) h.r2 hx, fun hx => hf.keep (h.lb rfl) h.r3 hx, fun hx => hf.keep (h.sb rfl) h.r4 hx, fun hx => hf.keep (h.tb rfl) h.r5 hx, fun hx => hf.keep (h.cb rfl) h.r6 hx,
    fun hx => (h.mh rfl).of (hf.blk _ (lt h.r7 (by decide)) (by rw [h.r7]; exact hx)), fun hx => (h.mc rfl).of (hf.blk _ (lt h.r8 (by decide)) (by rw [h.r8]; exact hx)), fun hx => (h.mp rfl).of (hf.blk _ (lt h.r9 (by decide)) (by rw [h.r9]; exact hx)),
    fun hx => (h.cl rfl).fr hf hx, fun hx => (h.dl rfl).fr hf hx,
    by rw [hf.old _ (lt h.r1 (by decide))]; exact h.r1, by rw [hf.old _ (lt h.r2 (by decide))]; exact h.r2, by rw [hf.old _ (lt h.r3 (by decide))]; exact h.r3, by rw [hf.old _ (lt h.r4 (by decide))]; exact h.r4, by rw [hf.old _ (lt h.r5 (by decide))]; exact h.r5,
    by rw [hf.old _ (lt h.r6 (by decide))]; exact h.r6, by rw [hf.old _ (lt h.r7 (by decide))]; exact h.r7, by rw [hf.old _ (lt h.r8 (by decide))]; exact h.r8, by rw [hf.old _ (lt h.r9 (by decide))]; exact h.r9, hf.dom hd⟩
/-- Nothing of the ground's is written. -/
theorem GMh.full (h : GMh X w ρ L G) (hx : ∀ c, gX c = true → X c = false) : GM w ρ L G :=
  ⟨fun _ => h.hb (hx _ rfl), fun _ => h.wb (hx _ rfl), fun _ => h.lb (hx _ rfl), fun _ => h.sb (hx _ rfl), fun _ => h.tb (hx _ rfl), fun _ => h.cb (hx _ rfl), fun _ => h.mh (hx _ rfl), fun _ => h.mc (hx _ rfl), fun _ => h.mp (hx _ rfl), fun _ => h.cl (hx _ rfl), fun _ => h.dl (hx _ rfl), h.r1, h.r2, h.r3, h.r4, h.r5, h.r6, h.r7, h.r8, h.r9, h.dom⟩
theorem GMh.below (h : GM w ρ L G) (hb : Below w.heap.size w w') : GM w' ρ L G := GMh.but h (Fr.below hb)
theorem GMh.drew (h : GM w ρ L G) (hb : Drew w w') : GM w' ρ L G := h.below (Drew.below hb _)
theorem wdC_set (f : Nat → Nat) {i : Nat} (h : i < 32768) (x : Nat) : (wdC f).set i (.int .u64 (x : Int)) = wdC (fup f i x) := by
  unfold wdC
  rw [fnC_set _ h, fup_map (fun (x : Nat) => (.int .u64 (x : Int) : Value))]
theorem bitC_set (f : Nat → Bool) {i : Nat} (h : i < 32768) (x : Bool) : (bitC f).set i (.bool x) = bitC (fup f i x) := by
  unfold bitC
  rw [fnC_set _ h, fup_map (fun (x : Bool) => (.bool x : Value))]
/-- One word is written. -/
theorem GMh.setW (h : GM w ρ L G) {i : Nat} (hi : i < 32768) (x : Nat) : GM (w.setCell ⟨L.wB, i, none⟩ (.int .u64 (x : Int))) ρ L { G with word := fup G.word i x } ∧ Fr gX ρ w ρ (w.setCell ⟨L.wB, i, none⟩ (.int .u64 (x : Int))) := by
  have hf : Fr (fun r => r == 2) ρ w ρ (w.setCell ⟨L.wB, i, none⟩ (.int .u64 (x : Int))) := Fr.set _ (by show (ρ L.wB == 2) = true; rw [h.r2]; rfl)
  have k := GMh.but h hf
  refine ⟨⟨fun _ => k.hb rfl, fun _ => ?_, fun _ => k.lb rfl, fun _ => k.sb rfl, fun _ => k.tb rfl, fun _ => k.cb rfl, fun _ => k.mh rfl, fun _ => k.mc rfl, fun _ => k.mp rfl, fun _ => k.cl rfl, fun _ => k.dl rfl, k.r1, k.r2, k.r3, k.r4, k.r5, k.r6, k.r7, k.r8, k.r9, k.dom⟩, hf.mono fun c => gX_of (by decide)⟩
  have := (h.wb rfl).set i (.int .u64 (x : Int))
  rw [wdC_set _ hi] at this
  exact this
/-- One log bit is written. -/
theorem GMh.setL (h : GM w ρ L G) {i : Nat} (hi : i < 32768) (x : Bool) : GM (w.setCell ⟨L.lB, i, none⟩ (.bool x)) ρ L { G with lg := fup G.lg i x } ∧ Fr gX ρ w ρ (w.setCell ⟨L.lB, i, none⟩ (.bool x)) := by
  have hf : Fr (fun r => r == 3) ρ w ρ (w.setCell ⟨L.lB, i, none⟩ (.bool x)) := Fr.set _ (by show (ρ L.lB == 3) = true; rw [h.r3]; rfl)
  have k := GMh.but h hf
  refine ⟨⟨fun _ => k.hb rfl, fun _ => k.wb rfl, fun _ => ?_, fun _ => k.sb rfl, fun _ => k.tb rfl, fun _ => k.cb rfl, fun _ => k.mh rfl, fun _ => k.mc rfl, fun _ => k.mp rfl, fun _ => k.cl rfl, fun _ => k.dl rfl, k.r1, k.r2, k.r3, k.r4, k.r5, k.r6, k.r7, k.r8, k.r9, k.dom⟩, hf.mono fun c => gX_of (by decide)⟩
  have := (h.lb rfl).set i (.bool x)
  rw [bitC_set _ hi] at this
  exact this
/-- One taken bit is written. -/
theorem GMh.setT (h : GM w ρ L G) {i : Nat} (hi : i < 32768) (x : Bool) : GM (w.setCell ⟨L.tB, i, none⟩ (.bool x)) ρ L { G with tk := fup G.tk i x } ∧ Fr gX ρ w ρ (w.setCell ⟨L.tB, i, none⟩ (.bool x)) := by
  have hf : Fr (fun r => r == 5) ρ w ρ (w.setCell ⟨L.tB, i, none⟩ (.bool x)) := Fr.set _ (by show (ρ L.tB == 5) = true; rw [h.r5]; rfl)
  have k := GMh.but h hf
  refine ⟨⟨fun _ => k.hb rfl, fun _ => k.wb rfl, fun _ => k.lb rfl, fun _ => k.sb rfl, fun _ => ?_, fun _ => k.cb rfl, fun _ => k.mh rfl, fun _ => k.mc rfl, fun _ => k.mp rfl, fun _ => k.cl rfl, fun _ => k.dl rfl, k.r1, k.r2, k.r3, k.r4, k.r5, k.r6, k.r7, k.r8, k.r9, k.dom⟩, hf.mono fun c => gX_of (by decide)⟩
  have := (h.tb rfl).set i (.bool x)
  rw [bitC_set _ hi] at this
  exact this
/-- The errors' number is written. -/
theorem GMh.setE (h : GM w ρ L G) (n : Nat) : GM (w.setCell ⟨L.cB, 6, none⟩ (.int .i64 (n : Int))) ρ L { G with errs := n } ∧ Fr gX ρ w ρ (w.setCell ⟨L.cB, 6, none⟩ (.int .i64 (n : Int))) := by
  have hf : Fr (fun r => r == 6) ρ w ρ (w.setCell ⟨L.cB, 6, none⟩ (.int .i64 (n : Int))) := Fr.set _ (by show (ρ L.cB == 6) = true; rw [h.r6]; rfl)
  have k := GMh.but h hf
  exact ⟨⟨fun _ => k.hb rfl, fun _ => k.wb rfl, fun _ => k.lb rfl, fun _ => k.sb rfl, fun _ => k.tb rfl, fun _ => (h.cb rfl).set 6 (.int .i64 (n : Int)), fun _ => k.mh rfl, fun _ => k.mc rfl, fun _ => k.mp rfl, fun _ => k.cl rfl, fun _ => k.dl rfl, k.r1, k.r2, k.r3, k.r4, k.r5, k.r6, k.r7, k.r8, k.r9, k.dom⟩, hf.mono fun c => gX_of (by decide)⟩
/-- The map of heads is written. -/
theorem GMh.setH (h : GM w ρ L G) {f : Nat → Option (Nat × Nat)} (hu : Upd L.mH w w') (hm : MF w' L.mH (hdF f)) : GM w' ρ L { G with head := f } ∧ Fr gX ρ w ρ w' := by
  have hf : Fr (fun r => r == 7) ρ w ρ w' := Fr.upd hu (by show (ρ L.mH == 7) = true; rw [h.r7]; rfl)
  have k := GMh.but h hf
  exact ⟨⟨fun _ => k.hb rfl, fun _ => k.wb rfl, fun _ => k.lb rfl, fun _ => k.sb rfl, fun _ => k.tb rfl, fun _ => k.cb rfl, fun _ => hm, fun _ => k.mc rfl, fun _ => k.mp rfl, fun _ => k.cl rfl, fun _ => k.dl rfl, k.r1, k.r2, k.r3, k.r4, k.r5, k.r6, k.r7, k.r8, k.r9, k.dom⟩, hf.mono fun c => gX_of (by decide)⟩
/-- The map of counts is written. -/
theorem GMh.setC (h : GM w ρ L G) {f : Nat → Nat} (hu : Upd L.mC w w') (hm : MF w' L.mC (ctF f)) : GM w' ρ L { G with cnt := f } ∧ Fr gX ρ w ρ w' := by
  have hf : Fr (fun r => r == 8) ρ w ρ w' := Fr.upd hu (by show (ρ L.mC == 8) = true; rw [h.r8]; rfl)
  have k := GMh.but h hf
  exact ⟨⟨fun _ => k.hb rfl, fun _ => k.wb rfl, fun _ => k.lb rfl, fun _ => k.sb rfl, fun _ => k.tb rfl, fun _ => k.cb rfl, fun _ => k.mh rfl, fun _ => hm, fun _ => k.mp rfl, fun _ => k.cl rfl, fun _ => k.dl rfl, k.r1, k.r2, k.r3, k.r4, k.r5, k.r6, k.r7, k.r8, k.r9, k.dom⟩, hf.mono fun c => gX_of (by decide)⟩
/-- The map of waiting decrements is written. -/
theorem GMh.setP (h : GM w ρ L G) {f : Nat → Nat} (hu : Upd L.mP w w') (hm : MF w' L.mP (ctF f)) : GM w' ρ L { G with pend := f } ∧ Fr gX ρ w ρ w' := by
  have hf : Fr (fun r => r == 9) ρ w ρ w' := Fr.upd hu (by show (ρ L.mP == 9) = true; rw [h.r9]; rfl)
  have k := GMh.but h hf
  exact ⟨⟨fun _ => k.hb rfl, fun _ => k.wb rfl, fun _ => k.lb rfl, fun _ => k.sb rfl, fun _ => k.tb rfl, fun _ => k.cb rfl, fun _ => k.mh rfl, fun _ => k.mc rfl, fun _ => hm, fun _ => k.cl rfl, fun _ => k.dl rfl, k.r1, k.r2, k.r3, k.r4, k.r5, k.r6, k.r7, k.r8, k.r9, k.dom⟩, hf.mono fun c => gX_of (by decide)⟩
/-- The row of calls is another. -/
theorem GMh.setK (h : GM w ρ L G) {v : Value} {xs : List (Bool × Nat)} (hf : Fr (fun r => r == 10) ρ w ρ' w') (hr : RowX rtC w' ρ' 10 v xs) : GM (w'.setCell ⟨L.cB, 4, none⟩ v) ρ' { L with cv := v } { G with calls := xs } ∧ Fr gX ρ w ρ' (w'.setCell ⟨L.cB, 4, none⟩ v) := by
  have hlt : L.cB < w.heap.size := (h.cb rfl).lt
  have r6 : ρ' L.cB = 6 := by rw [hf.old _ hlt]; exact h.r6
  have hf2 : Fr (fun r => r == 6) ρ' w' ρ' (w'.setCell ⟨L.cB, 4, none⟩ v) := Fr.set _ (by show (ρ' L.cB == 6) = true; rw [r6]; rfl)
  have hf3 : Fr (fun r => r == 10 || r == 6) ρ w ρ' (w'.setCell ⟨L.cB, 4, none⟩ v) := (hf.mono fun c hc => by simp at hc ⊢; exact .inl hc).trans (hf2.mono fun c hc => by simp at hc ⊢; exact .inr hc)
  have k := GMh.but h hf3
  refine ⟨⟨fun _ => k.hb rfl, fun _ => k.wb rfl, fun _ => k.lb rfl, fun _ => k.sb rfl, fun _ => k.tb rfl, fun _ => ((GMh.but h hf).cb rfl).set 4 v, fun _ => k.mh rfl, fun _ => k.mc rfl, fun _ => k.mp rfl, fun _ => hr.fr hf2 rfl, fun _ => k.dl rfl, k.r1, k.r2, k.r3, k.r4, k.r5, k.r6, k.r7, k.r8, k.r9, k.dom⟩, hf3.mono fun c hc => ?_⟩
  simp at hc
  rcases hc with rfl | rfl <;> rfl
/-- The row of deaths is another. -/
theorem GMh.setD (h : GM w ρ L G) {v : Value} {xs : List Nat} (hf : Fr (fun r => r == 11) ρ w ρ' w') (hr : RowX rtA w' ρ' 11 v xs) : GM (w'.setCell ⟨L.cB, 5, none⟩ v) ρ' { L with dv := v } { G with deaths := xs } ∧ Fr gX ρ w ρ' (w'.setCell ⟨L.cB, 5, none⟩ v) := by
  have hlt : L.cB < w.heap.size := (h.cb rfl).lt
  have r6 : ρ' L.cB = 6 := by rw [hf.old _ hlt]; exact h.r6
  have hf2 : Fr (fun r => r == 6) ρ' w' ρ' (w'.setCell ⟨L.cB, 5, none⟩ v) := Fr.set _ (by show (ρ' L.cB == 6) = true; rw [r6]; rfl)
  have hf3 : Fr (fun r => r == 11 || r == 6) ρ w ρ' (w'.setCell ⟨L.cB, 5, none⟩ v) := (hf.mono fun c hc => by simp at hc ⊢; exact .inl hc).trans (hf2.mono fun c hc => by simp at hc ⊢; exact .inr hc)
  have k := GMh.but h hf3
  refine ⟨⟨fun _ => k.hb rfl, fun _ => k.wb rfl, fun _ => k.lb rfl, fun _ => k.sb rfl, fun _ => k.tb rfl, fun _ => ((GMh.but h hf).cb rfl).set 5 v, fun _ => k.mh rfl, fun _ => k.mc rfl, fun _ => k.mp rfl, fun _ => k.cl rfl, fun _ => hr.fr hf2 rfl, k.r1, k.r2, k.r3, k.r4, k.r5, k.r6, k.r7, k.r8, k.r9, k.dom⟩, hf3.mono fun c hc => ?_⟩
  simp at hc
  rcases hc with rfl | rfl <;> rfl
theorem GMh.wcell (h : GM w ρ L G) {i : Nat} (hi : i < 32768) : w.cell? ⟨L.wB, i, none⟩ = some (.int .u64 (G.word i : Int)) := by rw [(h.wb rfl).cell]; exact fnC_get _ hi
theorem GMh.lcell (h : GM w ρ L G) {i : Nat} (hi : i < 32768) : w.cell? ⟨L.lB, i, none⟩ = some (.bool (G.lg i)) := by rw [(h.lb rfl).cell]; exact fnC_get _ hi
theorem GMh.tcell (h : GM w ρ L G) {i : Nat} (hi : i < 32768) : w.cell? ⟨L.tB, i, none⟩ = some (.bool (G.tk i)) := by rw [(h.tb rfl).cell]; exact fnC_get _ hi
theorem GMh.hcells (h : GM w ρ L G) : w.cell? ⟨L.hB, 0, none⟩ = some (.map (some L.mH)) ∧ w.cell? ⟨L.hB, 1, none⟩ = some (.slice (some ⟨L.wB, 0, none⟩) 32768 32768) ∧ w.cell? ⟨L.hB, 2, none⟩ = some (.slice (some ⟨L.lB, 0, none⟩) 32768 32768) := ⟨(h.hb rfl).cell 0, (h.hb rfl).cell 1, (h.hb rfl).cell 2⟩
theorem GMh.scell (h : GM w ρ L G) : w.cell? ⟨L.sB, 0, none⟩ = some (.slice (some ⟨L.tB, 0, none⟩) 32768 32768) := (h.sb rfl).cell 0
theorem GMh.ccells (h : GM w ρ L G) : w.cell? ⟨L.cB, 0, none⟩ = some (.pointer (some ⟨L.hB, 0, none⟩)) ∧ w.cell? ⟨L.cB, 1, none⟩ = some (.pointer (some ⟨L.sB, 0, none⟩)) ∧ w.cell? ⟨L.cB, 2, none⟩ = some (.map (some L.mC)) ∧ w.cell? ⟨L.cB, 3, none⟩ = some (.map (some L.mP)) ∧ w.cell? ⟨L.cB, 4, none⟩ = some L.cv ∧ w.cell? ⟨L.cB, 5, none⟩ = some L.dv ∧ w.cell? ⟨L.cB, 6, none⟩ = some (.int .i64 (G.errs : Int)) := ⟨(h.cb rfl).cell 0, (h.cb rfl).cell 1, (h.cb rfl).cell 2, (h.cb rfl).cell 3, (h.cb rfl).cell 4, (h.cb rfl).cell 5, (h.cb rfl).cell 6⟩
theorem ctF_up (f : Nat → Nat) (k n : Nat) (hn : n ≠ 0) : fup (ctF f) k (some (.int .i64 (n : Int))) = ctF (fup f k n) := by
  funext i
  by_cases h : i = k
  · subst h; rw [fup_self]; unfold ctF; rw [fup_self, if_neg hn]
  · rw [fup_ne _ _ h]; unfold ctF; rw [fup_ne _ _ h]
theorem ctF_no (f : Nat → Nat) (k : Nat) : fup (ctF f) k none = ctF (fup f k 0) := by
  funext i
  by_cases h : i = k
  · subst h; rw [fup_self]; unfold ctF; rw [fup_self, if_pos rfl]
  · rw [fup_ne _ _ h]; unfold ctF; rw [fup_ne _ _ h]
theorem ctF_get (f : Nat → Nat) (k : Nat) : (ctF f k).getD (.int .i64 0) = .int .i64 (f k : Int) := by
  unfold ctF
  by_cases h : f k = 0
  · rw [if_pos h, h]; rfl
  · rw [if_neg h]; rfl
theorem hdF_up (f : Nat → Option (Nat × Nat)) (k : Nat) (p : Nat × Nat) : fup (hdF f) k (some (shV p)) = hdF (fup f k (some p)) := by
  funext i
  by_cases h : i = k
  · subst h; rw [fup_self]; unfold hdF; rw [fup_self]; rfl
  · rw [fup_ne _ _ h]; unfold hdF; rw [fup_ne _ _ h]
theorem hdF_no (f : Nat → Option (Nat × Nat)) (k : Nat) : fup (hdF f) k none = hdF (fup f k none) := by
  funext i
  by_cases h : i = k
  · subst h; rw [fup_self]; unfold hdF; rw [fup_self]; rfl
  · rw [fup_ne _ _ h]; unfold hdF; rw [fup_ne _ _ h]
theorem hdF_get (f : Nat → Option (Nat × Nat)) (k : Nat) : (hdF f k).getD (.agg #[.int .i64 0, .int .i64 0]) = shV ((f k).getD (0, 0)) := by
  unfold hdF
  cases f k <;> rfl
end
theorem zero_int (w : World) : (zeroValue 3).run Try.prog w = .ok (.int .i64 0) w := by kernel_rfl
theorem zero_shape (w : World) : (zeroValue 73).run Try.prog w = .ok (.agg #[.int .i64 0, .int .i64 0]) w := by kernel_rfl
section
variable {w : World} {ρ : Rl} {L : GL} {G : GS}
/-- What the maps answer. -/
theorem GMh.lookH (h : GM w ρ L G) (k : Nat) : (Instr.lookup 63 (.map (some L.mH)) (.int .u64 (k : Int)) false).run Try.prog w = .ok (shV ((G.head k).getD (0, 0))) w := by
  have := (h.mh rfl).look (P := Try.prog) (mt := 63) (kt := 48) (vt := 73) Try.underlying63 Try.underlying48 k zero_shape
  rw [hdF_get] at this
  exact this
theorem GMh.lookHT (h : GM w ρ L G) (k : Nat) : (Instr.lookup 63 (.map (some L.mH)) (.int .u64 (k : Int)) true).run Try.prog w = .ok (.tuple #[shV ((G.head k).getD (0, 0)), .bool (G.head k).isSome]) w := by
  have := (h.mh rfl).lookT (P := Try.prog) (mt := 63) (kt := 48) (vt := 73) Try.underlying63 Try.underlying48 k zero_shape
  rw [hdF_get] at this
  rw [this]
  unfold hdF
  simp
theorem GMh.lookC (h : GM w ρ L G) (k : Nat) : (Instr.lookup 71 (.map (some L.mC)) (.int .u64 (k : Int)) false).run Try.prog w = .ok (.int .i64 (G.cnt k : Int)) w := by
  have := (h.mc rfl).look (P := Try.prog) (mt := 71) (kt := 48) (vt := 3) Try.underlying71 Try.underlying48 k zero_int
  rw [ctF_get] at this
  exact this
theorem GMh.lookP (h : GM w ρ L G) (k : Nat) : (Instr.lookup 71 (.map (some L.mP)) (.int .u64 (k : Int)) false).run Try.prog w = .ok (.int .i64 (G.pend k : Int)) w := by
  have := (h.mp rfl).look (P := Try.prog) (mt := 71) (kt := 48) (vt := 3) Try.underlying71 Try.underlying48 k zero_int
  rw [ctF_get] at this
  exact this
theorem GMh.putH (h : GM w ρ L G) (k : Nat) (p : Nat × Nat) : ∃ w', (Instr.mapUpdate 63 (.map (some L.mH)) (.int .u64 (k : Int)) (shV p)).run Try.prog w = .ok () w' ∧ GM w' ρ L { G with head := fup G.head k (some p) } ∧ Fr gX ρ w ρ w' := by
  obtain ⟨w', g1, g2, g3⟩ := (h.mh rfl).put (P := Try.prog) (mt := 63) (kt := 48) (vt := 73) Try.underlying63 Try.underlying48 k (shV p)
  rw [hdF_up] at g2
  exact ⟨w', g1, h.setH g3 g2⟩
theorem GMh.delH (h : GM w ρ L G) (k : Nat) (ty : TypeId) : ∃ w', (Builtin.delete_ #[63, 48] ty #[.map (some L.mH), .int .u64 (k : Int)]).run Try.prog w = .ok (.tuple #[]) w' ∧ GM w' ρ L { G with head := fup G.head k none } ∧ Fr gX ρ w ρ w' := by
  obtain ⟨w', g1, g2, g3⟩ := (h.mh rfl).del (P := Try.prog) (mt := 63) (kt := 48) (vt := 73) Try.underlying63 Try.underlying48 k ty
  rw [hdF_no] at g2
  exact ⟨w', g1, h.setH g3 g2⟩
theorem GMh.putC (h : GM w ρ L G) (k n : Nat) (hn : n ≠ 0) : ∃ w', (Instr.mapUpdate 71 (.map (some L.mC)) (.int .u64 (k : Int)) (.int .i64 (n : Int))).run Try.prog w = .ok () w' ∧ GM w' ρ L { G with cnt := fup G.cnt k n } ∧ Fr gX ρ w ρ w' := by
  obtain ⟨w', g1, g2, g3⟩ := (h.mc rfl).put (P := Try.prog) (mt := 71) (kt := 48) (vt := 3) Try.underlying71 Try.underlying48 k (.int .i64 (n : Int))
  rw [ctF_up _ _ _ hn] at g2
  exact ⟨w', g1, h.setC g3 g2⟩
theorem GMh.delC (h : GM w ρ L G) (k : Nat) (ty : TypeId) : ∃ w', (Builtin.delete_ #[71, 48] ty #[.map (some L.mC), .int .u64 (k : Int)]).run Try.prog w = .ok (.tuple #[]) w' ∧ GM w' ρ L { G with cnt := fup G.cnt k 0 } ∧ Fr gX ρ w ρ w' := by
  obtain ⟨w', g1, g2, g3⟩ := (h.mc rfl).del (P := Try.prog) (mt := 71) (kt := 48) (vt := 3) Try.underlying71 Try.underlying48 k ty
  rw [ctF_no] at g2
  exact ⟨w', g1, h.setC g3 g2⟩
theorem GMh.putP (h : GM w ρ L G) (k n : Nat) (hn : n ≠ 0) : ∃ w', (Instr.mapUpdate 71 (.map (some L.mP)) (.int .u64 (k : Int)) (.int .i64 (n : Int))).run Try.prog w = .ok () w' ∧ GM w' ρ L { G with pend := fup G.pend k n } ∧ Fr gX ρ w ρ w' := by
  obtain ⟨w', g1, g2, g3⟩ := (h.mp rfl).put (P := Try.prog) (mt := 71) (kt := 48) (vt := 3) Try.underlying71 Try.underlying48 k (.int .i64 (n : Int))
  rw [ctF_up _ _ _ hn] at g2
  exact ⟨w', g1, h.setP g3 g2⟩
end
end Go.Proofs.Qxb6500888a
