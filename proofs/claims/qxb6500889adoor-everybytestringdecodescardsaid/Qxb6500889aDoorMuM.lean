/- The collector's heap in memory: roles of blocks, the plain state, the relation. -/
import Derived.Test.Qxb6500889aDoorMapN
import Derived.Test.Qxb6500889aDoorOwn
import Derived.Test.Qxb6500889aDoorProg
import Derived.KernelRfl
import Derived.WalkKit
import Derived.WalkSpells
namespace Go.Proofs.Qxb6500889aDoor
open Go.RowKit
set_option linter.unusedSimpArgs false
set_option linter.unusedVariables false

def fup {α : Type} (f : Nat → α) (k : Nat) (v : α) : Nat → α := fun i => if i = k then v else f i
theorem fup_self {α : Type} (f : Nat → α) (k : Nat) (v : α) : fup f k v k = v := by simp [fup]
theorem fup_ne {α : Type} (f : Nat → α) {k i : Nat} (v : α) (h : i ≠ k) : fup f k v i = f i := by simp [fup, h]
structure Ob where
  refs : List Nat
  data : List Nat
/-- The heap's plain state. -/
structure HS where
  objs : Nat → Option Ob
  cond : Nat → Bool
  taken : Nat → Bool
  roots : Nat → List Nat
  run : Nat → Bool
/-- Roles of blocks: 0 is no role. -/
abbrev Rl := Nat → Nat
/-- The heap's own roles. -/
abbrev HR (c : Nat) : Prop := (1 ≤ c ∧ c ≤ 4) ∨ (16 ≤ c ∧ c < 20) ∨ 64 ≤ c
structure Fr (ρ : Rl) (w : World) (ρ' : Rl) (w' : World) : Prop where
  os : w'.os = w.os
  tape : w'.tape = w.tape
  output : w'.output = w.output
  size : w.heap.size ≤ w'.heap.size
  old : ∀ g, g < w.heap.size → ρ' g = ρ g
  blk : ∀ g, g < w.heap.size → ¬ HR (ρ g) → w'.heap[g]? = w.heap[g]?
theorem Fr.refl (ρ : Rl) (w : World) : Fr ρ w ρ w := ⟨rfl, rfl, rfl, Nat.le_refl _, fun _ _ => rfl, fun _ _ _ => rfl⟩
theorem Fr.trans {ρ ρ' ρ'' : Rl} {w w' w'' : World} (h : Fr ρ w ρ' w') (k : Fr ρ' w' ρ'' w'') : Fr ρ w ρ'' w'' :=
  ⟨k.os.trans h.os, k.tape.trans h.tape, k.output.trans h.output, Nat.le_trans h.size k.size, fun g hg => (k.old g (Nat.lt_of_lt_of_le hg h.size)).trans (h.old g hg), fun g hg h0 => (k.blk g (Nat.lt_of_lt_of_le hg h.size) (by rw [h.old g hg]; exact h0)).trans (h.blk g hg h0)⟩
theorem Fr.below {ρ : Rl} {w w' : World} (h : Below w.heap.size w w') : Fr ρ w ρ w' := ⟨h.os, h.tape, h.output, h.size, fun _ _ => rfl, fun g hg _ => h.block g hg⟩
theorem Fr.upd {ρ : Rl} {w w' : World} {g : Nat} (h : Upd g w w') (hg : (1 ≤ ρ g ∧ ρ g ≤ 4) ∨ (16 ≤ ρ g ∧ ρ g < 20) ∨ 64 ≤ ρ g) : Fr ρ w ρ w' := ⟨h.os, h.tape, h.output, h.size, fun _ _ => rfl, fun k hk h0 => h.block k hk (fun e => h0 (by rw [e]; exact hg))⟩
theorem Fr.alloc (ρ : Rl) (w : World) (o : Obj) (c : Nat) : Fr ρ w (fup ρ w.heap.size c) (w.alloc o) := ⟨rfl, rfl, rfl, by simp, fun g hg => fup_ne _ _ (by omega), fun g hg _ => Below.heap_alloc _ _ _ hg⟩
/-- What lies below the world's blocks stays. -/
theorem Fr.toBelow {ρ ρ' : Rl} {w w' : World} {B : Nat} (h : Fr ρ w ρ' w') (hB : B ≤ w.heap.size) (h0 : ∀ g, g < B → ρ g = 0) : Below B w w' := ⟨h.os, h.tape, h.output, h.size, fun g hg => h.blk g (by omega) (by rw [h0 g hg]; omega)⟩

theorem Blk.of {w w' : World} {g : Nat} {t : TypeId} {cs : List Value} (h : Blk w g t cs) (he : w'.heap[g]? = w.heap[g]?) : Blk w' g t cs := by
  unfold Blk
  rw [he]
  exact h
def aC (l : List Nat) : List Value := l.map fun (x : Nat) => .int .u64 (x : Int)
def tkC (f : Nat → Bool) : List Value := (List.range 32768).map fun i => .bool (f i)
theorem tkC_len (f : Nat → Bool) : (tkC f).length = 32768 := by simp [tkC]
theorem tkC_get (f : Nat → Bool) {i : Nat} (h : i < 32768) : (tkC f)[i]? = some (.bool (f i)) := by simp [tkC, h]
theorem tkC_set (f : Nat → Bool) {i : Nat} (h : i < 32768) (b : Bool) : (tkC f).set i (.bool b) = tkC (fup f i b) := by
  apply List.ext_getElem?
  intro j
  by_cases hj : j = i
  · subst hj
    rw [List.getElem?_set_self (by rw [tkC_len]; exact h), tkC_get _ h, fup_self]
  · rw [List.getElem?_set_ne (fun e => hj e.symm)]
    by_cases hj2 : j < 32768
    · rw [tkC_get _ hj2, tkC_get _ hj2, fup_ne _ _ hj]
    · rw [List.getElem?_eq_none (by rw [tkC_len]; omega), List.getElem?_eq_none (by rw [tkC_len]; omega)]
/-- A row of addresses that the world owns, in a block of role c. -/
structure RowA (w : World) (ρ : Rl) (c : Nat) (v : Value) (xs : List Nat) : Prop where
  own : w.ownsRow 0 50 1 v xs.length (aC xs)
  role : ∀ g, v.ownBlock = some g → ρ g = c
theorem RowA.of {w w' : World} {ρ ρ' : Rl} {c : Nat} {v : Value} {xs : List Nat} (h : RowA w ρ c v xs) (hb : ∀ g, g < w.heap.size → ρ g = c → w'.heap[g]? = w.heap[g]? ∧ ρ' g = ρ g) : RowA w' ρ' c v xs := by
  obtain ⟨h1, h2⟩ := h
  obtain ⟨h3, h4⟩ := h1
  rcases h4 with ⟨rfl, h5⟩ | ⟨g, cap, cur, rfl, h5, h6, h7⟩
  · exact ⟨⟨h3, .inl ⟨rfl, h5⟩⟩, fun g hg => by cases hg⟩
  · have hr := h2 g rfl
    have hlt := (Array.getElem?_eq_some_iff.1 h6).1
    obtain ⟨e1, e2⟩ := hb g hlt hr
    exact ⟨⟨h3, .inr ⟨g, cap, cur, rfl, h5, by rw [e1]; exact h6, h7⟩⟩, fun g' hg' => by cases hg'; rw [e2]; exact hr⟩
theorem RowA.shape {w : World} {ρ : Rl} {c : Nat} {v : Value} {xs : List Nat} (h : RowA w ρ c v xs) : ∃ a k, v = .slice a xs.length k := by
  rcases h.own.2 with ⟨rfl, h0⟩ | ⟨g, cap, cur, rfl, _⟩
  · rw [h0]; exact ⟨none, 0, rfl⟩
  · exact ⟨_, _, rfl⟩
theorem RowA.get {w : World} {ρ : Rl} {c : Nat} {v : Value} {xs : List Nat} (h : RowA w ρ c v xs) {i x : Nat} (hx : xs[i]? = some x) : ∃ g k, v = .slice (some ⟨g, 0, none⟩) xs.length k ∧ w.cell? ⟨g, i, none⟩ = some (.int .u64 (x : Int)) := by
  have hi := (List.getElem?_eq_some_iff.1 hx).1
  rcases h.own.2 with ⟨rfl, h0⟩ | ⟨g, cap, cur, rfl, _, hg, hn, hc, hs, ht⟩
  · omega
  · refine ⟨g, cap, rfl, ?_⟩
    have e : (aC xs)[i]? = some (.int .u64 (x : Int)) := by unfold aC; rw [List.getElem?_map, hx]; rfl
    rw [← ht, List.getElem?_take, if_pos (by omega)] at e
    simp [World.cell?, hg]
    simpa using e
theorem RowA.le {w : World} {ρ : Rl} {c : Nat} {v : Value} {xs : List Nat} (h : RowA w ρ c v xs) : xs.length ≤ maxLen := by
  rcases h.own.2 with ⟨rfl, h0⟩ | ⟨g, cap, cur, rfl, _, hg, hn, hc, hs, ht⟩
  · omega
  · omega
/-- A beginning of the row. -/
theorem RowA.cut {w : World} {ρ : Rl} {c : Nat} {g n k : Nat} {xs : List Nat} (h : RowA w ρ c (.slice (some ⟨g, 0, none⟩) n k) xs) {j : Nat} (hj : j ≤ xs.length) : RowA w ρ c (.slice (some ⟨g, 0, none⟩) j k) (xs.take j) := by
  rcases h.own.2 with ⟨h0, _⟩ | ⟨g', cap, cur, he, h5, hg, hn, hc, hs, ht⟩
  · cases h0
  · injection he with h1 h2 h3
    cases h1
    subst h3
    have hl : (xs.take j).length = j := by rw [List.length_take]; omega
    refine ⟨⟨by simp [aC], .inr ⟨g, k, cur, by rw [hl], h5, hg, by omega, hc, hs, ?_⟩⟩, fun g' hg' => h.role g' hg'⟩
    rw [hl]
    have : aC (xs.take j) = (aC xs).take j := by simp [aC, List.map_take]
    rw [this, ← ht, List.take_take]
    congr 1
    omega
/-- Where the parts lie. -/
structure HL where
  hB : Nat
  tB : Nat
  mO : Nat
  mC : Nat
  ob : Nat → Nat
  rb : Nat → Nat
  db : Nat → Nat
  rv : Nat → Value
def hC (L : HL) (H : HS) : List Value := [.map (some L.mO), .slice (some ⟨L.tB, 0, none⟩) 32768 32768, L.rv 0, L.rv 1, L.rv 2, L.rv 3, .bool (H.run 0), .bool (H.run 1), .bool (H.run 2), .bool (H.run 3), .map (some L.mC)]
/-- An object in memory. -/
structure ObM (w : World) (ρ : Rl) (L : HL) (a : Nat) (x : Ob) : Prop where
  o : Blk w (L.ob a) 90 [.slice (some ⟨L.rb a, 0, none⟩) x.refs.length x.refs.length, .slice (some ⟨L.db a, 0, none⟩) x.data.length x.data.length]
  r : Blk w (L.rb a) 50 (aC x.refs)
  d : Blk w (L.db a) 29 (aC x.data)
  ro : ρ (L.ob a) = 64 + 3 * a
  rr : ρ (L.rb a) = 65 + 3 * a
  rd : ρ (L.db a) = 66 + 3 * a
  sz : x.refs.length + x.data.length ≤ 8192
structure HM (w : World) (ρ : Rl) (L : HL) (H : HS) : Prop where
  hb : Blk w L.hB 85 (hC L H)
  tk : Blk w L.tB 4 (tkC H.taken)
  mo : ∃ E, PN w L.mO E ∧ (∀ e ∈ E, e.v = .pointer (some ⟨L.ob e.k, 0, none⟩)) ∧ ∀ a, (∃ e ∈ E, e.k = a) ↔ (H.objs a).isSome = true
  mc : ∃ E, PN w L.mC E ∧ (∀ e ∈ E, e.v = .bool true) ∧ ∀ a, (∃ e ∈ E, e.k = a) ↔ H.cond a = true
  o : ∀ a x, H.objs a = some x → ObM w ρ L a x
  rt : ∀ m, m < 4 → RowA w ρ (16 + m) (L.rv m) (H.roots m)
  r1 : ρ L.hB = 1
  r2 : ρ L.tB = 2
  r3 : ρ L.mO = 3
  r4 : ρ L.mC = 4
  dom : ∀ g, ρ g ≠ 0 → g < w.heap.size
section
variable {w w' : World} {ρ ρ' : Rl} {L : HL} {H : HS}
theorem ObM.of {a : Nat} {x : Ob} (h : ObM w ρ L a x) (hb : ∀ g, g < w.heap.size → (ρ g = 64 + 3 * a ∨ ρ g = 65 + 3 * a ∨ ρ g = 66 + 3 * a) → w'.heap[g]? = w.heap[g]? ∧ ρ' g = ρ g) : ObM w' ρ' L a x := by
  have e1 := hb _ h.o.lt (.inl h.ro)
  have e2 := hb _ h.r.lt (.inr (.inl h.rr))
  have e3 := hb _ h.d.lt (.inr (.inr h.rd))
  exact ⟨h.o.of e1.1, h.r.of e2.1, h.d.of e3.1, by rw [e1.2]; exact h.ro, by rw [e2.2]; exact h.rr, by rw [e3.2]; exact h.rd, h.sz⟩
/-- Blocks with a role stay. -/
theorem HM.keep (h : HM w ρ L H) (hs : w.heap.size ≤ w'.heap.size) (hb : ∀ g, g < w.heap.size → ρ g ≠ 0 → w'.heap[g]? = w.heap[g]? ∧ ρ' g = ρ g) (hd : ∀ g, ρ' g ≠ 0 → g < w'.heap.size) : HM w' ρ' L H := by
  have e1 := hb _ h.hb.lt (by rw [h.r1]; omega)
  have e2 := hb _ h.tk.lt (by rw [h.r2]; omega)
  obtain ⟨E, p1, p2, p3⟩ := h.mo
  obtain ⟨F, q1, q2, q3⟩ := h.mc
  have e3 := hb _ p1.lt (by rw [h.r3]; omega)
  have e4 := hb _ q1.lt (by rw [h.r4]; omega)
  exact ⟨h.hb.of e1.1, h.tk.of e2.1, ⟨E, p1.of e3.1, p2, p3⟩, ⟨F, q1.of e4.1, q2, q3⟩, fun a x hx => (h.o a x hx).of (fun g hg hr => hb g hg (by omega)), fun m hm => (h.rt m hm).of (fun g hg hr => hb g hg (by omega)), by rw [e1.2]; exact h.r1, by rw [e2.2]; exact h.r2, by rw [e3.2]; exact h.r3, by rw [e4.2]; exact h.r4, hd⟩
theorem HM.below (h : HM w ρ L H) (hb : Below w.heap.size w w') : HM w' ρ L H := h.keep hb.size (fun g hg _ => ⟨hb.block g hg, rfl⟩) (fun g hg => Nat.lt_of_lt_of_le (h.dom g hg) hb.size)
/-- A block whose role is none of the heap's is written. -/
theorem HM.other (h : HM w ρ L H) {g : Nat} (hu : Upd g w w') (hg : ρ g = 0 ∨ (5 ≤ ρ g ∧ ρ g < 16) ∨ (20 ≤ ρ g ∧ ρ g < 64)) : HM w' ρ L H := by
  have e : ∀ k, k < w.heap.size → ρ k ≠ ρ g → w'.heap[k]? = w.heap[k]? := fun k hk hne => hu.block k hk (fun e => hne (by rw [e]))
  obtain ⟨E, p1, p2, p3⟩ := h.mo
  obtain ⟨F, q1, q2, q3⟩ := h.mc
  exact ⟨h.hb.of (e _ h.hb.lt (by rw [h.r1]; omega)), h.tk.of (e _ h.tk.lt (by rw [h.r2]; omega)), ⟨E, p1.of (e _ p1.lt (by rw [h.r3]; omega)), p2, p3⟩, ⟨F, q1.of (e _ q1.lt (by rw [h.r4]; omega)), q2, q3⟩, fun a x hx => (h.o a x hx).of (fun g' hg' hr => ⟨e g' hg' (by omega), rfl⟩), fun m hm => (h.rt m hm).of (fun g' hg' hr => ⟨e g' hg' (by omega), rfl⟩), h.r1, h.r2, h.r3, h.r4, fun g' hg' => Nat.lt_of_lt_of_le (h.dom g' hg') hu.size⟩
/-- The heap's own block is written. -/
theorem HM.setH (h : HM w ρ L H) {L' : HL} {H' : HS} (hu : Upd L.hB w w') (hb : Blk w' L.hB 85 (hC L' H')) (hL : L'.hB = L.hB ∧ L'.tB = L.tB ∧ L'.mO = L.mO ∧ L'.mC = L.mC ∧ L'.ob = L.ob ∧ L'.rb = L.rb ∧ L'.db = L.db) (hH : H'.objs = H.objs ∧ H'.cond = H.cond ∧ H'.taken = H.taken)
    (hr : ∀ m, m < 4 → RowA w ρ (16 + m) (L'.rv m) (H'.roots m)) : HM w' ρ L' H' := by
  have e : ∀ k, k < w.heap.size → ρ k ≠ 1 → w'.heap[k]? = w.heap[k]? := fun k hk hne => hu.block k hk (fun e => hne (by rw [e]; exact h.r1))
  obtain ⟨l1, l2, l3, l4, l5, l6, l7⟩ := hL
  obtain ⟨k1, k2, k3⟩ := hH
  obtain ⟨E, p1, p2, p3⟩ := h.mo
  obtain ⟨F, q1, q2, q3⟩ := h.mc
  refine ⟨by rw [l1]; exact hb, by rw [l2, k3]; exact h.tk.of (e _ h.tk.lt (by rw [h.r2]; omega)), ⟨E, by rw [l3]; exact p1.of (e _ p1.lt (by rw [h.r3]; omega)), by rw [l5]; exact p2, by rw [k1]; exact p3⟩, ⟨F, by rw [l4]; exact q1.of (e _ q1.lt (by rw [h.r4]; omega)), q2, by rw [k2]; exact q3⟩, fun a x hx => ?_, fun m hm => (hr m hm).of (fun g' hg' hr => ⟨e g' hg' (by omega), rfl⟩), by rw [l1]; exact h.r1, by rw [l2]; exact h.r2, by rw [l3]; exact h.r3, by rw [l4]; exact h.r4, fun g' hg' => Nat.lt_of_lt_of_le (h.dom g' hg') hu.size⟩
  rw [k1] at hx
  have hm := (h.o a x hx).of (w' := w') (ρ' := ρ) (fun g' hg' hr => ⟨e g' hg' (by omega), rfl⟩)
  exact ⟨by rw [l5, l6, l7]; exact hm.o, by rw [l6]; exact hm.r, by rw [l7]; exact hm.d, by rw [l5]; exact hm.ro, by rw [l6]; exact hm.rr, by rw [l7]; exact hm.rd, hm.sz⟩
/-- One word of Taken is written. -/
theorem HM.setT (h : HM w ρ L H) {i : Nat} (hi : i < 32768) (b : Bool) : HM (w.setCell ⟨L.tB, i, none⟩ (.bool b)) ρ L { H with taken := fup H.taken i b } := by
  have hu : Upd L.tB w (w.setCell ⟨L.tB, i, none⟩ (.bool b)) := (Upd.refl L.tB w).setCell (p := ⟨L.tB, i, none⟩) rfl _
  have e : ∀ k, k < w.heap.size → ρ k ≠ 2 → (w.setCell ⟨L.tB, i, none⟩ (.bool b)).heap[k]? = w.heap[k]? := fun k hk hne => hu.block k hk (fun e => hne (by rw [e]; exact h.r2))
  obtain ⟨E, p1, p2, p3⟩ := h.mo
  obtain ⟨F, q1, q2, q3⟩ := h.mc
  exact ⟨h.hb.of (e _ h.hb.lt (by rw [h.r1]; omega)), by have := h.tk.set i (.bool b); rw [tkC_set _ hi] at this; exact this, ⟨E, p1.of (e _ p1.lt (by rw [h.r3]; omega)), p2, p3⟩, ⟨F, q1.of (e _ q1.lt (by rw [h.r4]; omega)), q2, q3⟩, fun a x hx => (h.o a x hx).of (fun g' hg' hr => ⟨e g' hg' (by omega), rfl⟩), fun m hm => (h.rt m hm).of (fun g' hg' hr => ⟨e g' hg' (by omega), rfl⟩), h.r1, h.r2, h.r3, h.r4, fun g' hg' => Nat.lt_of_lt_of_le (h.dom g' hg') hu.size⟩
/-- The map of objects is written. -/
theorem HM.setO (h : HM w ρ L H) {H' : HS} {E : List Ent} (hu : Upd L.mO w w') (hp : PN w' L.mO E) (hv : ∀ e ∈ E, e.v = .pointer (some ⟨L.ob e.k, 0, none⟩)) (hE : ∀ a, (∃ e ∈ E, e.k = a) ↔ (H'.objs a).isSome = true) (ho : ∀ a x, H'.objs a = some x → ObM w ρ L a x) (hH : H'.cond = H.cond ∧ H'.taken = H.taken ∧ H'.roots = H.roots ∧ H'.run = H.run) : HM w' ρ L H' := by
  have e : ∀ k, k < w.heap.size → ρ k ≠ 3 → w'.heap[k]? = w.heap[k]? := fun k hk hne => hu.block k hk (fun e => hne (by rw [e]; exact h.r3))
  obtain ⟨k1, k2, k3, k4⟩ := hH
  obtain ⟨F, q1, q2, q3⟩ := h.mc
  exact ⟨by unfold hC; rw [k4]; exact h.hb.of (e _ h.hb.lt (by rw [h.r1]; omega)), by rw [k2]; exact h.tk.of (e _ h.tk.lt (by rw [h.r2]; omega)), ⟨E, hp, hv, hE⟩, ⟨F, q1.of (e _ q1.lt (by rw [h.r4]; omega)), q2, by rw [k1]; exact q3⟩, fun a x hx => (ho a x hx).of (fun g' hg' hr => ⟨e g' hg' (by omega), rfl⟩), fun m hm => by rw [k3]; exact (h.rt m hm).of (fun g' hg' hr => ⟨e g' hg' (by omega), rfl⟩), h.r1, h.r2, h.r3, h.r4, fun g' hg' => Nat.lt_of_lt_of_le (h.dom g' hg') hu.size⟩
/-- The map of the condemned is written. -/
theorem HM.setC (h : HM w ρ L H) {H' : HS} {F : List Ent} (hu : Upd L.mC w w') (hp : PN w' L.mC F) (hv : ∀ e ∈ F, e.v = .bool true) (hF : ∀ a, (∃ e ∈ F, e.k = a) ↔ H'.cond a = true) (hH : H'.objs = H.objs ∧ H'.taken = H.taken ∧ H'.roots = H.roots ∧ H'.run = H.run) : HM w' ρ L H' := by
  have e : ∀ k, k < w.heap.size → ρ k ≠ 4 → w'.heap[k]? = w.heap[k]? := fun k hk hne => hu.block k hk (fun e => hne (by rw [e]; exact h.r4))
  obtain ⟨k1, k2, k3, k4⟩ := hH
  obtain ⟨E, p1, p2, p3⟩ := h.mo
  exact ⟨by unfold hC; rw [k4]; exact h.hb.of (e _ h.hb.lt (by rw [h.r1]; omega)), by rw [k2]; exact h.tk.of (e _ h.tk.lt (by rw [h.r2]; omega)), ⟨E, p1.of (e _ p1.lt (by rw [h.r3]; omega)), p2, by rw [k1]; exact p3⟩, ⟨F, hp, hv, hF⟩, fun a x hx => (h.o a x (by rw [← k1]; exact hx)).of (fun g' hg' hr => ⟨e g' hg' (by omega), rfl⟩), fun m hm => by rw [k3]; exact (h.rt m hm).of (fun g' hg' hr => ⟨e g' hg' (by omega), rfl⟩), h.r1, h.r2, h.r3, h.r4, fun g' hg' => Nat.lt_of_lt_of_le (h.dom g' hg') hu.size⟩
/-- One object's field is written. -/
theorem HM.setF (h : HM w ρ L H) {a : Nat} {x y : Ob} {g : Nat} (hx : H.objs a = some x) (hu : Upd g w w') (hg : ρ g = 65 + 3 * a ∨ ρ g = 66 + 3 * a) (hy : ObM w' ρ L a y) : HM w' ρ L { H with objs := fup H.objs a (some y) } := by
  have e : ∀ k, k < w.heap.size → ρ k ≠ ρ g → w'.heap[k]? = w.heap[k]? := fun k hk hne => hu.block k hk (fun e => hne (by rw [e]))
  obtain ⟨E, p1, p2, p3⟩ := h.mo
  obtain ⟨F, q1, q2, q3⟩ := h.mc
  refine ⟨h.hb.of (e _ h.hb.lt (by rw [h.r1]; omega)), h.tk.of (e _ h.tk.lt (by rw [h.r2]; omega)), ⟨E, p1.of (e _ p1.lt (by rw [h.r3]; omega)), p2, fun b => ?_⟩, ⟨F, q1.of (e _ q1.lt (by rw [h.r4]; omega)), q2, q3⟩, fun b z hz => ?_, fun m hm => (h.rt m hm).of (fun g' hg' hr => ⟨e g' hg' (by omega), rfl⟩), h.r1, h.r2, h.r3, h.r4, fun g' hg' => Nat.lt_of_lt_of_le (h.dom g' hg') hu.size⟩
  · rw [p3 b]
    by_cases hb : b = a
    · subst hb; show _ ↔ (fup H.objs b (some y) b).isSome = true; rw [fup_self, hx]; simp
    · show _ ↔ (fup H.objs a (some y) b).isSome = true; rw [fup_ne _ _ hb]
  · have hz' : fup H.objs a (some y) b = some z := hz
    by_cases hb : b = a
    · subst hb; rw [fup_self] at hz'; cases hz'; exact hy
    · rw [fup_ne _ _ hb] at hz'
      exact (h.o b z hz').of (fun g' hg' hr => ⟨e g' hg' (by omega), rfl⟩)
end
end Go.Proofs.Qxb6500889aDoor
