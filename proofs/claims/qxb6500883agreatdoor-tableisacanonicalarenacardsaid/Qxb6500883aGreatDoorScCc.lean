/- Local blocks beside the checker; parts of rows; a map cleared. -/
import Derived.Test.Qxb6500883aGreatDoorScCb
namespace Go.Proofs.Qxb6500883aGreatDoor
open Go.RowKit
set_option linter.unusedSimpArgs false
set_option linter.unusedVariables false
section
variable {N mg : Nat} {ρ ρ' : Rl} {w w' w1 w2 : World} {l : PL} {bs : List UInt8} {F : FS} {U : FV} {c n : Nat} {V : CV} {errs : List (Nat × Nat)} {v : Value}
theorem CM.keep (h : CM N mg ρ w l bs F U c V errs) (hz : w.heap.size ≤ w'.heap.size) (ho : w'.os = w.os ∧ w'.tape = w.tape ∧ w'.output = w.output) (hb : ∀ b, b < w.heap.size → (b < N ∨ ρ b ≠ 0 ∨ ∃ ad, l.a = some ad ∧ ad.block = b) → w'.heap[b]? = w.heap[b]?) : CM N mg ρ w' l bs F U c V errs := by
  have hk : ∀ {α : Type} {K : RK α} {c : Nat} {v : Value} {xs : List α}, c ≠ 0 → RowX K w ρ c v xs → RowX K w' ρ c v xs := fun hc hr => hr.of (fun g hg hr => ⟨hb g hg (.inr (.inl (by rw [hr]; exact hc))), rfl⟩)
  refine ⟨h.r.keep hz ho hb, h.fb.of (hb _ h.fb.lt (.inr (.inl (by rw [h.r.rf]; decide)))), ⟨hk (by decide) h.fr.d, hk (by decide) h.fr.t, hk (by decide) h.fr.e, hk (by decide) h.fr.f, hk (by decide) h.fr.o⟩, h.cb.of (hb _ h.cb.lt (.inr (.inl (by rw [h.rc]; decide)))), h.rc, ?_⟩
  obtain ⟨qs, h1, h2, h3, h4⟩ := h.dg.row
  refine ⟨⟨qs, hk (by decide) h1, h2, h3, fun i q hq => ?_⟩, h.dg.pos⟩
  obtain ⟨k, m, e1, e2, e3, e4, e5⟩ := h4 i q hq
  exact ⟨k, m, e1, e2, e3, e4.of (hb _ e4.lt (.inr (.inl (by rw [e5]; decide)))), e5⟩
/-- A block of the caller's own is written. -/
theorem CM.updL {q n0 : Nat} (h : CM N mg ρ w l bs F U c V errs) (hu : Upd q w w') (hq : ρ q = 0) (hn : n0 ≤ q) (hN : N ≤ n0) (hs : ∀ ad, l.a = some ad → ad.block < n0) : CM N mg ρ w' l bs F U c V errs :=
  h.keep hu.size ⟨hu.os, hu.tape, hu.output⟩ (fun b hb hc => hu.block b hb (fun e => by
    subst e
    rcases hc with h1 | h1 | ⟨ad, h1, h2⟩
    · omega
    · exact h1 hq
    · have := hs ad h1; omega))
/-- A map with a hint of its size. -/
theorem run_makeMapN {t kt vt : TypeId} (ht : Tryz.prog.underlying t = some (.map kt vt)) (n : Nat) (w : World) : (Instr.makeMap t (some (.int .i64 (n : Int)))).run Tryz.prog w = .ok (.map (some w.heap.size)) (w.alloc (.map #[] 0)) := by
  simp [Instr.makeMap, run_underlying ht, go_sem]
/-- A map is cleared. -/
theorem MG.clear {m : Nat} {f : ByteArray → Option Value} {mt kt vt : TypeId} (hmt : Tryz.prog.underlying mt = some (.map kt vt)) (h : MG (fun s : ByteArray => Value.string s) w m f) (ty : TypeId) : ∃ w', (Builtin.clear_ #[mt] ty #[.map (some m)]).run Tryz.prog w = .ok (.tuple #[]) w' ∧ MG (fun s : ByteArray => Value.string s) w' m (fun _ => none) ∧ Upd m w w' := by
  have hlt := h.lt
  obtain ⟨E, ck, h1, h2⟩ := h
  refine ⟨{ w with heap := w.heap.setIfInBounds m (.map #[] ck) }, ?_, ⟨[], ck, by simp [hlt], ⟨by simp, by simp, fun e he => by cases he⟩, fun (e : EntG ByteArray) (he : e ∈ ([] : List (EntG ByteArray))) => by simp at he, fun (a : ByteArray) (v : Value) (h : none = some v) => by simp at h⟩, updN_obj w m _⟩
  unfold Builtin.clear_
  simp [run_underlying hmt, MapKept.run_getObj_map h1]
  rw [MapKept.run_setObj_map _ h1]
  rfl
/-- Where a part of a row begins. -/
def subA (a : Option Addr) (k : Nat) (e : Bool) : Option Addr := match a with
  | none => none
  | some ad => some (if e then ad else ad.add k)
theorem slice_fn {a : Option Addr} {n cp lo hi : Nat} (h1 : lo ≤ hi) (h2 : hi ≤ n) (h3 : n ≤ cp) (h4 : cp ≤ maxLen) (h5 : a = none → cp = 0) (w : World) : (Instr.sliceAt 106 (.slice a n cp) (some (.int .i32 (lo : Int))) (some (.int .i32 (hi : Int))) none).run Tryz.prog w = .ok (.slice (subA a (lo * 3) (cp == lo)) (hi - lo) (cp - lo)) w := by
  have e3 : ¬ (hi < lo) := by omega
  have e4 : (lo : Int) ≤ (hi : Int) := by omega
  have e5 : (hi : Int) ≤ (cp : Int) := by omega
  have e6 : hi ≤ cp := by omega
  have e7 : ¬ (cp < hi) := by omega
  cases a with
  | none =>
    have h0 := h5 rfl
    subst h0
    obtain rfl : hi = 0 := by omega
    obtain rfl : lo = 0 := by omega
    obtain rfl : n = 0 := by omega
    simp [Instr.sliceAt, go_sem, Instr.sliceBounds, subA]
  | some ad =>
    by_cases he : cp = lo
    · have ehl : hi = lo := by omega
      subst he
      subst ehl
      simp [Instr.sliceAt, go_sem, Instr.sliceBounds, subA]
    · have e8 : ¬ (cp - lo = 0) := by omega
      simp [Instr.sliceAt, go_sem, Instr.sliceBounds, h1, e3, e4, e5, e6, e7, e8, he, subA]
/-- A phase of the checker under way: no error so far just if P; a map of one's own (or none) beside. -/
structure CkS (N mg : Nat) (ρ : Rl) (w : World) (l : PL) (bs : List UInt8) (F : FS) (U : FV) (c : Nat) (V : CV) (P : Prop) (B : Nat) (sm : Option Nat) (f : ByteArray → Option Value) (w' : World) : Prop where
  m : ∃ (ρ' : Rl) (v' : Value) (errs : List (Nat × Nat)), CM N mg ρ' w' l bs F U c { V with list := v' } errs ∧ Fr XD ρ w ρ' w' ∧ (errs = [] ↔ P) ∧ errs.length ≤ B ∧ ∀ m, sm = some m → MG (fun s : ByteArray => Value.string s) w' m f ∧ ρ' m = 0 ∧ w.heap.size ≤ m
variable {P Q : Prop} {B B' : Nat} {sm : Option Nat} {f g : ByteArray → Option Value}
theorem CkS.below (h : CkS N mg ρ w l bs F U c V P B sm f w1) (hb : Below w1.heap.size w1 w2) : CkS N mg ρ w l bs F U c V P B sm f w2 := by
  obtain ⟨ρ', v', errs, h1, h2, h3, h4, h5⟩ := h.m
  exact ⟨ρ', v', errs, h1.below hb, h2.trans (Fr.below hb), h3, h4, fun m hm => ⟨(h5 m hm).1.below hb, (h5 m hm).2⟩⟩
theorem CkS.iff (h : CkS N mg ρ w l bs F U c V P B sm f w1) (hp : P ↔ Q) (hB : B ≤ B') : CkS N mg ρ w l bs F U c V Q B' sm f w1 := by
  obtain ⟨ρ', v', errs, h1, h2, h3, h4, h5⟩ := h.m
  exact ⟨ρ', v', errs, h1, h2, h3.trans hp, Nat.le_trans h4 hB, h5⟩
theorem CkS.start (h : CM N mg ρ w l bs F U c V errs) (hB : errs.length ≤ B) : CkS N mg ρ w l bs F U c V (errs = []) B none f w :=
  ⟨ρ, V.list, errs, h, Fr.refl _ _ _, Iff.rfl, hB, fun m hm => by cases hm⟩
/-- An error more. -/
theorem CkS.add {k pos : Nat} {ρ' : Rl} {v' : Value} (h2 : Fr XD ρ w ρ' w1) (h5 : ∀ m, sm = some m → MG (fun s : ByteArray => Value.string s) w1 m f ∧ ρ' m = 0 ∧ w.heap.size ≤ m) (ha : CAd N mg ρ' w1 l bs F U c { V with list := v' } (errs ++ [(k, pos)]) w2) (hB : errs.length ≤ B) : CkS N mg ρ w l bs F U c V False (B + 1) sm f w2 := by
  obtain ⟨ρ2, v2, h6, h7⟩ := ha.m
  refine ⟨ρ2, v2, errs ++ [(k, pos)], h6, h2.trans h7, ⟨fun h => by simp at h, fun h => h.elim⟩, by rw [List.length_append, List.length_singleton]; omega, fun m hm => ?_⟩
  obtain ⟨g1, g2, g3⟩ := h5 m hm
  exact ⟨g1.of (h7.blk m g1.lt (by rw [g2]; rfl)), by rw [h7.old m g1.lt]; exact g2, g3⟩
end
end Go.Proofs.Qxb6500883aGreatDoor
