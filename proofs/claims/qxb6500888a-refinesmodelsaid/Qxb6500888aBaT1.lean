/- The plain machine: counts, protected objects, logs: the invariant. -/
import Derived.Test.Qxb6500888aBaS1
namespace Go.Proofs.Qxb6500888a
open Go.RowKit
set_option linter.unusedSimpArgs false
set_option linter.unusedVariables false

def slots (G : GS) (a : Nat) : List Nat := (List.range (rfOf G a)).map fun i => offA a + 1 + i
theorem mem_slots {G : GS} {a s : Nat} : s ∈ slots G a ↔ ∃ i, i < rfOf G a ∧ s = offA a + 1 + i := by
  unfold slots
  rw [List.mem_map]
  constructor
  · rintro ⟨i, hi, rfl⟩; exact ⟨i, List.mem_range.1 hi, rfl⟩
  · rintro ⟨i, hi, rfl⟩; exact ⟨i, List.mem_range.2 hi, rfl⟩
theorem slots_nd (G : GS) (a : Nat) : (slots G a).Nodup := by
  unfold slots
  rw [List.nodup_iff_pairwise_ne, List.pairwise_map]
  exact List.Pairwise.imp (fun h e => h (by omega)) (List.nodup_iff_pairwise_ne.1 List.nodup_range)
/-- The objects made in this epoch; all log entries. -/
def frL (B : BS) : List Nat := (List.range 4).flatMap B.fresh
def lgL (B : BS) : List (Nat × Nat) := (List.range 4).flatMap B.logs
theorem mem_four {α : Type} {f : Nat → List α} {x : α} : x ∈ (List.range 4).flatMap f ↔ ∃ m, m < 4 ∧ x ∈ f m := by
  rw [List.mem_flatMap]
  constructor
  · rintro ⟨m, hm, hx⟩; exact ⟨m, List.mem_range.1 hm, hx⟩
  · rintro ⟨m, hm, hx⟩; exact ⟨m, List.mem_range.2 hm, hx⟩
theorem four_eq {α : Type} (f : Nat → List α) : (List.range 4).flatMap f = f 0 ++ (f 1 ++ (f 2 ++ f 3)) := by simp [List.range, List.range.loop]
theorem four_add {α : Type} (f : Nat → List α) {m : Nat} (hm : m < 4) (e : α) : ((List.range 4).flatMap (fup f m (f m ++ [e]))).Perm (e :: (List.range 4).flatMap f) := by
  rw [four_eq, four_eq]
  rcases (by omega : m = 0 ∨ m = 1 ∨ m = 2 ∨ m = 3) with rfl | rfl | rfl | rfl
  · rw [fup_self, fup_ne _ _ (by decide), fup_ne _ _ (by decide), fup_ne _ _ (by decide), List.append_assoc]
    exact List.perm_middle
  · rw [fup_self, fup_ne _ _ (by decide), fup_ne _ _ (by decide), fup_ne _ _ (by decide), List.append_assoc]
    refine (List.Perm.append_left _ List.perm_middle).trans List.perm_middle
  · rw [fup_self, fup_ne _ _ (by decide), fup_ne _ _ (by decide), fup_ne _ _ (by decide), List.append_assoc]
    refine (List.Perm.append_left _ (List.Perm.append_left _ List.perm_middle)).trans ((List.Perm.append_left _ List.perm_middle).trans List.perm_middle)
  · rw [fup_self, fup_ne _ _ (by decide), fup_ne _ _ (by decide), fup_ne _ _ (by decide)]
    refine (List.Perm.append_left _ (List.Perm.append_left _ (List.Perm.append_left _ List.perm_middle))).trans ((List.Perm.append_left _ (List.Perm.append_left _ List.perm_middle)).trans ((List.Perm.append_left _ List.perm_middle).trans ?_))
    rw [List.append_nil]
    exact List.perm_middle
def oldB (G : GS) (B : BS) (a : Nat) : Bool := (G.head a).isSome && !decide (a ∈ frL B)
theorem oldB_t {G : GS} {B : BS} {a : Nat} : oldB G B a = true ↔ (G.head a).isSome = true ∧ a ∉ frL B := by
  unfold oldB
  simp
def OL (G : GS) (B : BS) : List Nat := ((List.range 32768).map (65536 + ·)).filter (oldB G B)
theorem OL_nd (G : GS) (B : BS) : (OL G B).Nodup := by
  unfold OL
  refine List.Pairwise.filter _ ?_
  show List.Nodup _
  rw [List.nodup_iff_pairwise_ne, List.pairwise_map]
  exact List.Pairwise.imp (fun h e => h (by omega)) (List.nodup_iff_pairwise_ne.1 List.nodup_range)
theorem mem_OL {G : GS} {B : BS} (h : GOk G) {a : Nat} : a ∈ OL G B ↔ oldB G B a = true := by
  unfold OL
  rw [List.mem_filter]
  constructor
  · exact fun h => h.2
  · intro ha
    refine ⟨?_, ha⟩
    have := h.head_in (oldB_t.1 ha).1
    exact List.mem_map.2 ⟨a - 65536, List.mem_range.2 (by omega), by omega⟩
/-- The reference fields of the older objects. -/
def FS (G : GS) (B : BS) : List Nat := (OL G B).flatMap (slots G)
theorem mem_FS {G : GS} {B : BS} (h : GOk G) {s : Nat} : s ∈ FS G B ↔ ∃ a, oldB G B a = true ∧ s ∈ slots G a := by
  unfold FS
  rw [List.mem_flatMap]
  constructor
  · rintro ⟨a, ha, hs⟩; exact ⟨a, (mem_OL h).1 ha, hs⟩
  · rintro ⟨a, ha, hs⟩; exact ⟨a, (mem_OL h).2 ha, hs⟩
def Fn (G : GS) (B : BS) (atp : Nat → Nat) (o : Nat) : Nat := (FS G B).countP fun s => decide (atp s = o)
/-- What a count should be. -/
def tot (G : GS) (B : BS) (atp : Nat → Nat) (o : Nat) : Nat := Fn G B atp o + B.last.count o + G.pend o
/-- What can be reached, or could be at the last pause, or is new. -/
def Ac (B : BS) (Z : Nat → Prop) (r : Nat) : Prop := Z r ∨ r ∈ frL B
structure CI (G : GS) (B : BS) (atp : Nat → Nat) (Z : Nat → Prop) : Prop where
  ok : GOk G
  tk : ∀ a n q, G.head a = some (n, q) → ∀ j, j ≤ n → G.tk (offA a + j) = true
  dj : ∀ a b n q n' q', a ≠ b → G.head a = some (n, q) → G.head b = some (n', q') → offA a + n < offA b ∨ offA b + n' < offA a
  fz : ∀ a ∈ frL B, (G.head a).isSome = true
  nd : (frL B).Nodup
  ce1 : ∀ a, oldB G B a = true → 1 ≤ G.cnt a ∧ (G.cnt a = 3 ∨ G.cnt a = tot G B atp a)
  ce0 : ∀ a, a ≠ 0 → oldB G B a = false → G.cnt a = 0 ∧ tot G B atp a = 0
  er : G.errs = 0
  z1 : ∀ o, Z o → oldB G B o = true
  z2 : ∀ o, Z o → o ∈ B.last ∨ ∃ p, Z p ∧ ∃ s ∈ slots G p, atp s = o
  z3 : ∀ o ∈ B.last, Z o
  z4 : ∀ p, Z p → ∀ s ∈ slots G p, atp s = 0 ∨ Z (atp s)
  y1 : ∀ m, m < 4 → ∀ r ∈ B.roots m, Ac B Z r
  y2 : ∀ o, Ac B Z o → ∀ s ∈ slots G o, G.word s = 0 ∨ Ac B Z (G.word s)
  l1 : ((lgL B).map Prod.fst).Nodup
  l2 : ∀ e ∈ lgL B, ∃ o, Z o ∧ ∃ s ∈ slots G o, e.1 = 65536 + s ∧ e.2 = atp s ∧ G.lg s = true
  l3 : ∀ o, oldB G B o = true → ∀ s ∈ slots G o, (G.lg s = true → ∃ e ∈ lgL B, e.1 = 65536 + s) ∧ (G.lg s = false → G.word s = atp s)
  l4 : ∀ o ∈ frL B, ∀ s ∈ slots G o, G.lg s = true
section
variable {G G' : GS} {B B' : BS} {atp : Nat → Nat} {Z : Nat → Prop}
theorem stand_rf {a n q : Nat} (h : G.head a = some (n, q)) : rfOf G a = q ∧ szOf G a = n := by
  unfold rfOf szOf
  rw [h]
  exact ⟨rfl, rfl⟩
theorem CI.Ac_st (h : CI G B atp Z) {o : Nat} (ha : Ac B Z o) : (G.head o).isSome = true := by
  rcases ha with ha | ha
  · exact (oldB_t.1 (h.z1 o ha)).1
  · exact h.fz o ha
theorem st_some {o : Nat} (h : (G.head o).isSome = true) : ∃ n q, G.head o = some (n, q) := by
  obtain ⟨⟨n, q⟩, e⟩ := Option.isSome_iff_exists.1 h
  exact ⟨n, q, e⟩
/-- A slot lies within its object. -/
theorem CI.slot_in (h : CI G B atp Z) {o n q s : Nat} (ho : G.head o = some (n, q)) (hs : s ∈ slots G o) : offA o < s ∧ s ≤ offA o + n ∧ s < 32768 := by
  obtain ⟨i, hi, rfl⟩ := mem_slots.1 hs
  rw [(stand_rf ho).1] at hi
  have := h.ok.hd o n q ho
  omega
theorem CI.slot_one (h : CI G B atp Z) {o p s : Nat} (ho : (G.head o).isSome = true) (hp : (G.head p).isSome = true) (hs : s ∈ slots G o) (hs2 : s ∈ slots G p) : o = p := by
  apply Classical.byContradiction
  intro hne
  obtain ⟨n, q, e1⟩ := st_some ho
  obtain ⟨n', q', e2⟩ := st_some hp
  have h1 := h.slot_in e1 hs
  have h2 := h.slot_in e2 hs2
  have := h.dj o p n q n' q' hne e1 e2
  omega
theorem CI.FS_nd (h : CI G B atp Z) : (FS G B).Nodup := by
  unfold FS
  rw [List.nodup_iff_pairwise_ne, List.pairwise_flatMap]
  refine ⟨fun a ha => List.nodup_iff_pairwise_ne.1 (slots_nd G a), ?_⟩
  have hnd := List.nodup_iff_pairwise_ne.1 (OL_nd G B)
  refine List.Pairwise.imp_of_mem ?_ hnd
  intro a b ha hb hne x hx y hy e
  subst e
  exact hne (h.slot_one (oldB_t.1 ((mem_OL h.ok).1 ha)).1 (oldB_t.1 ((mem_OL h.ok).1 hb)).1 hx hy)
/-- A protected object is held by a root of the last pause or by a field. -/
theorem CI.held (h : CI G B atp Z) {o : Nat} (hz : Z o) : 1 ≤ Fn G B atp o + B.last.count o := by
  rcases h.z2 o hz with hl | ⟨p, hp, s, hs, e⟩
  · have := List.count_pos_iff.2 hl; omega
  · have : 0 < Fn G B atp o := by
      unfold Fn
      rw [List.countP_pos_iff]
      exact ⟨s, (mem_FS h.ok).2 ⟨p, h.z1 p hp, hs⟩, by simp [e]⟩
    omega
theorem CI.pend_old (h : CI G B atp Z) {o : Nat} (hp : G.pend o ≠ 0) : oldB G B o = true := by
  cases e : oldB G B o with
  | true => rfl
  | false =>
    have h0 := (h.ok.pd o hp).1
    have := (h.ce0 o (by omega) e).2
    unfold tot at this
    omega
end
end Go.Proofs.Qxb6500888a
