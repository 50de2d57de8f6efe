/- Two worlds and some blocks beside them. -/
import Derived.Test.Qxb6500889aDoorMuP6
namespace Go.Proofs.Qxb6500889aDoor
open Go.RowKit
set_option linter.unusedSimpArgs false
set_option linter.unusedVariables false
structure WSt where
  k : Nat
  ρ : Rl
  L : HL
  T : XL
  V : WL
  H : HS
  X : XS
  G : List Nat
abbrev LWs (w0 : World) (wB : Nat) (S : WSt) (wr : World) : Prop := LW w0 wB S.k S.ρ S.L S.T S.V S.H S.X S.G wr
structure D2 (w0 : World) (wB1 wB2 : Nat) (S1 S2 : WSt) (xs : List XBk) (wr : World) : Prop where
  a : LWs w0 wB1 S1 wr
  b : LWs w0 wB2 S2 wr
  dj : ∀ g, S1.ρ g ≠ 0 → S2.ρ g = 0
  bl : ∀ x ∈ xs, Blk wr x.1 x.2.1 x.2.2 ∧ S1.ρ x.1 = 0 ∧ S2.ρ x.1 = 0 ∧ w0.heap.size ≤ x.1
  nd : (xs.map (·.1)).Nodup
/-- What a step leaves. -/
structure Pld (S : WSt) (o : OpP) (z : Rz) (S' : WSt) : Prop where
  k : S'.k = S.k + 1
  ds : ∃ X', DoS S.H S.X o S'.H X' z ∧ S'.X = doX X' z
  G : S'.G = S.G ++ gvL o z
section
variable {w0 wr w' : World} {wB1 wB2 : Nat} {S1 S2 : WSt} {xs : List XBk}
theorem set_spec {xs : List XBk} (nd : (xs.map (·.1)).Nodup) {i g : Nat} {t : TypeId} {cs cs' : List Value} (hi : xs[i]? = some (g, t, cs)) : (∀ x, x ∈ xs.set i (g, t, cs') → x = (g, t, cs') ∨ (x ∈ xs ∧ x.1 ≠ g)) ∧ (xs.set i (g, t, cs')).map (·.1) = xs.map (·.1) := by
  have hlt := (List.getElem?_eq_some_iff.1 hi).1
  refine ⟨fun x hx => ?_, ?_⟩
  · obtain ⟨j, hj⟩ := List.mem_iff_getElem?.1 hx
    by_cases hij : j = i
    · subst hij
      rw [List.getElem?_set_self hlt] at hj
      exact .inl (Option.some.inj hj).symm
    · rw [List.getElem?_set_ne (fun e => hij e.symm)] at hj
      refine .inr ⟨List.mem_of_getElem? hj, fun e => hij ?_⟩
      have e1 : (xs.map (·.1))[j]? = some g := by rw [List.getElem?_map, hj]; simp [e]
      have e2 : (xs.map (·.1))[i]? = some g := by rw [List.getElem?_map, hi]; rfl
      obtain ⟨l1, l2⟩ := List.getElem?_eq_some_iff.1 e1
      obtain ⟨l3, l4⟩ := List.getElem?_eq_some_iff.1 e2
      exact (List.getElem_inj nd).1 (l2.trans l4.symm)
  · apply List.ext_getElem?
    intro j
    rw [List.getElem?_map, List.getElem?_map]
    by_cases hij : j = i
    · subst hij
      rw [List.getElem?_set_self hlt, hi]; rfl
    · rw [List.getElem?_set_ne (fun e => hij e.symm)]
theorem D2.flip (h : D2 w0 wB1 wB2 S1 S2 xs wr) : D2 w0 wB2 wB1 S2 S1 xs wr := ⟨h.b, h.a, dj_flip h.dj, fun x hx => ⟨(h.bl x hx).1, (h.bl x hx).2.2.1, (h.bl x hx).2.1, (h.bl x hx).2.2.2⟩, h.nd⟩
theorem D2.below (h : D2 w0 wB1 wB2 S1 S2 xs wr) (hb : Below wr.heap.size wr w') : D2 w0 wB1 wB2 S1 S2 xs w' := ⟨h.a.below hb, h.b.below hb, h.dj, fun x hx => ⟨(h.bl x hx).1.below hb, (h.bl x hx).2⟩, h.nd⟩
theorem D2.alloc (h : D2 w0 wB1 wB2 S1 S2 xs wr) (cs : List Value) (t : TypeId) : D2 w0 wB1 wB2 S1 S2 ((wr.heap.size, t, cs) :: xs) (wr.alloc (.cells cs.toArray t)) := by
  have hb := nbel wr (.cells cs.toArray t)
  refine ⟨h.a.below hb, h.b.below hb, h.dj, fun x hx => ?_, ?_⟩
  · rcases List.mem_cons.1 hx with rfl | hx
    · exact ⟨Blk.new wr cs t, h.a.wm.new0 (Nat.le_refl _), h.b.wm.new0 (Nat.le_refl _), h.a.bel.size⟩
    · exact ⟨(h.bl x hx).1.below hb, (h.bl x hx).2⟩
  · rw [List.map_cons, List.nodup_cons]
    refine ⟨fun hm => ?_, h.nd⟩
    obtain ⟨x, hx, he⟩ := List.mem_map.1 hm
    have := (h.bl x hx).1.lt
    omega
theorem D2.set (h : D2 w0 wB1 wB2 S1 S2 xs wr) {i g : Nat} {t : TypeId} {cs cs' : List Value} (hi : xs[i]? = some (g, t, cs)) (hb : Blk w' g t cs') (hu : Upd g wr w') : D2 w0 wB1 wB2 S1 S2 (xs.set i (g, t, cs')) w' := by
  obtain ⟨hm1, hm2⟩ := set_spec h.nd (cs' := cs') hi
  obtain ⟨b1, b2, b3, b4⟩ := h.bl _ (List.mem_of_getElem? hi)
  refine ⟨h.a.other hu b2 b4, h.b.other hu b3 b4, h.dj, fun x hx => ?_, by rw [hm2]; exact h.nd⟩
  rcases hm1 x hx with rfl | ⟨hx, hne⟩
  · exact ⟨hb, b2, b3, b4⟩
  · exact ⟨(h.bl x hx).1.upd hu hne, (h.bl x hx).2⟩
theorem D2.drop (h : D2 w0 wB1 wB2 S1 S2 xs wr) : D2 w0 wB1 wB2 S1 S2 [] wr := ⟨h.a, h.b, h.dj, fun x hx => (by cases hx), List.nodup_nil⟩
theorem D2.play1 (h : D2 w0 wB1 wB2 S1 S2 xs wr) (hk : S1.k < 100000000000) (o : OpP) (hob : OpB o) :
    Calls Tryd.prog 8 #[.pointer (some ⟨wB1, 0, none⟩), .agg (opC o).toArray] wr fun e w' => ∃ z S', e = .returned (.agg (rzC z).toArray) ∧ Pld S1 o z S' ∧ D2 w0 wB1 wB2 S' S2 xs w' := by
  refine (h.a.play hk o hob).mono ?_
  rintro e w' ⟨H', X', z, ρ', L', T', V', k1, k2, k3, k4⟩
  refine ⟨z, ⟨S1.k + 1, ρ', L', T', V', H', doX X' z, S1.G ++ gvL o z⟩, k1, ⟨rfl, ⟨X', k2, rfl⟩, rfl⟩, k3, h.b.beside k4 h.dj k3.bel, dj_play h.a h.b k4 h.dj, fun x hx => ?_, h.nd⟩
  obtain ⟨b1, b2, b3, b4⟩ := h.bl x hx
  exact ⟨b1.of (k4.blk _ b1.lt (by rw [b2]; omega)), by show ρ' x.1 = 0; rw [k4.old _ b1.lt]; exact b2, b3, b4⟩
theorem D2.play2 (h : D2 w0 wB1 wB2 S1 S2 xs wr) (hk : S2.k < 100000000000) (o : OpP) (hob : OpB o) :
    Calls Tryd.prog 8 #[.pointer (some ⟨wB2, 0, none⟩), .agg (opC o).toArray] wr fun e w' => ∃ z S', e = .returned (.agg (rzC z).toArray) ∧ Pld S2 o z S' ∧ D2 w0 wB1 wB2 S1 S' xs w' := by
  refine (h.flip.play1 hk o hob).mono ?_
  rintro e w' ⟨z, S', k1, k2, k3⟩
  exact ⟨z, S', k1, k2, k3.flip⟩
/-- Two new worlds. -/
theorem D2.start {w1 w2 : World} {ρ1 ρ2 : Rl} {L1 L2 : HL} {T1 T2 : XL} {V1 V2 : WL} (h1 : WM w1 ρ1 L1 T1 V1 H0 X0 []) (l1 : ∀ g, g < w0.heap.size → ρ1 g = 0) (b1 : Below w0.heap.size w0 w1) (h2 : WM w2 ρ2 L2 T2 V2 H0 X0 []) (l2 : ∀ g, g < w1.heap.size → ρ2 g = 0) (b2 : Below w1.heap.size w1 w2) : D2 w0 V1.wB V2.wB ⟨0, ρ1, L1, T1, V1, H0, X0, []⟩ ⟨0, ρ2, L2, T2, V2, H0, X0, []⟩ [] w2 := by
  have b := b1.trans (b2.mono b1.size)
  exact ⟨⟨h1.below b2, rfl, HI.zero, XN.zero, GvI.zero, Nat.le_refl _, b, l1⟩, ⟨h2, rfl, HI.zero, XN.zero, GvI.zero, Nat.le_refl _, b, fun g hg => l2 g (Nat.lt_of_lt_of_le hg b1.size)⟩, fun g hg => l2 g (h1.dom g hg), fun x hx => (by cases hx), List.nodup_nil⟩
end
end Go.Proofs.Qxb6500889aDoor
