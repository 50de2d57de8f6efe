/- The law's comparison of world and model: alike. -/
import Derived.Test.Qxb6500889aDoorMuK1
import Derived.Test.Qxb6500889aDoorMuL1
import Derived.Test.Qxb6500889aDoorMuNs
namespace Go.Proofs.Qxb6500889aDoor
open Go.RowKit
set_option linter.unusedSimpArgs false
set_option linter.unusedVariables false
/-- While alike gathers: the matching, all of it named; c bounds what is left to do. -/
structure AL (xs : List XBk) (w : World) (pB i1 i2 : Nat) (φ : Nat → Nat) (H : HS) (X : XS) (c : Nat) (wr : World) : Prop where
  bel : Below w.heap.size w wr
  ex : ∃ v S D, Mch xs w.heap.size pB i1 i2 φ v S D wr ∧ S.Nodup ∧ (∀ a ∈ S, Nm H X a) ∧ (∀ a ∈ D, a ∈ S) ∧ D.length ≤ S.length ∧ (98305 - S.length) * 2 + D.length ≤ c
def tdN (w : World) (pB : Nat) : Nat := match w.cell? ⟨pB, 2, none⟩ with
  | some v => sliceN v
  | none => 0
section
variable {w w' wr : World} {xs : List XBk} {pB i1 i2 : Nat} {φ : Nat → Nat} {H : HS} {X : XS} {c : Nat} {objs : List MO}
theorem AL.below (h : AL xs w pB i1 i2 φ H X c wr) (hb : Below wr.heap.size wr w') : AL xs w pB i1 i2 φ H X c w' := by
  obtain ⟨v, S, D, h1, h2⟩ := h.ex
  exact ⟨h.bel.trans (hb.mono h.bel.size), v, S, D, h1.below hb, h2⟩
theorem AL.mono {d : Nat} (h : AL xs w pB i1 i2 φ H X c wr) (hd : c ≤ d) : AL xs w pB i1 i2 φ H X d wr := by
  obtain ⟨v, S, D, h1, h2, h3, h4, h5, h6⟩ := h.ex
  exact ⟨h.bel, v, S, D, h1, h2, h3, h4, h5, Nat.le_trans h6 hd⟩
theorem AL.drop (h : AL xs w pB i1 i2 φ H X c wr) : AL [] w pB i1 i2 φ H X c wr := by
  obtain ⟨v, S, D, h1, h2⟩ := h.ex
  exact ⟨h.bel, v, S, D, ⟨h1.bk, h1.m1, h1.m2, h1.own, h1.lo, h1.ne, h1.dj, fun x hx => (by cases hx)⟩, h2⟩
theorem named_bound (hi : HI H X) {S : List Nat} (hn : S.Nodup) (ha : ∀ a ∈ S, Nm H X a) : S.length ≤ 98304 :=
  nodup_bound 98304 S hn (fun a h => by
    obtain ⟨⟨x, hx⟩, _⟩ := hi.nm a (ha a h)
    exact (hi.wf.lt hx).2)
theorem AL.meas (h : AL xs w pB i1 i2 φ H X c wr) : (98305 - mapN wr i1) * 2 + tdN wr pB ≤ c := by
  obtain ⟨v, S, D, h1, h2, h3, h4, h5, h6⟩ := h.ex
  obtain ⟨E, e1, e2, e3⟩ := h1.m1
  obtain ⟨a, k, hv⟩ := own_shape h1.own
  have hE : E.length = S.length := by rw [← e2, List.length_map]
  have ht : tdN wr pB = D.length := by
    unfold tdN
    rw [h1.bk.cell 2, hv]
    rfl
  rw [e1.mapN, ht, hE]
  exact h6
theorem AL.pair (h : AL xs w pB i1 i2 φ H X c wr) (hi : HI H X) (hm : Mt H X objs φ) (a : Nat) (ha : a = 0 ∨ Nm H X a) :
    Calls Tryd.prog 63 #[.pointer (some ⟨pB, 0, none⟩), .int .u64 (a : Int), .int .i64 (φ a : Int)] wr fun e w' => e = .returned (.bool true) ∧ AL xs w pB i1 i2 φ H X c w' := by
  obtain ⟨v, S, D, h1, h2, h3, h4, h5, h6⟩ := h.ex
  have hl := named_bound hi h2 h3
  refine (pair_walk h1 a hm.z (fun hz => ?_) (by omega)).mono ?_
  · have hN : Nm H X a := ha.resolve_left hz
    obtain ⟨x, q, _, k1, _⟩ := hm.ob a hN
    exact ⟨k1, fun b hb e => hm.inj b a (h3 b hb) hN e⟩
  · rintro e w' ⟨rfl, hb, v', hM⟩
    refine ⟨rfl, h.bel.trans hb, ?_⟩
    by_cases hz : a = 0 ∨ a ∈ S
    · rw [if_pos hz, if_pos hz] at hM
      exact ⟨v', S, D, hM, h2, h3, h4, h5, h6⟩
    · rw [if_neg hz, if_neg hz] at hM
      have hN : Nm H X a := ha.resolve_left (fun e => hz (.inl e))
      have hS2 : (S ++ [a]).Nodup := by
        rw [List.nodup_append]
        refine ⟨h2, by simp, fun b hb c hc e => ?_⟩
        simp at hc
        exact hz (.inr (by rw [← hc, ← e]; exact hb))
      have hA2 : ∀ b ∈ S ++ [a], Nm H X b := fun b hb => by
        rcases List.mem_append.1 hb with h | h
        · exact h3 b h
        · simp at h; rw [h]; exact hN
      have hl2 := named_bound hi hS2 hA2
      refine ⟨v', _, _, hM, hS2, hA2, fun b hb => ?_, by simp; omega, ?_⟩
      · rcases List.mem_append.1 hb with h | h
        · exact List.mem_append_left _ (h4 b h)
        · exact List.mem_append_right _ h
      · rw [List.length_append, List.length_append, List.length_singleton] at *
        omega
theorem Mch.pop {base : Nat} {v : Value} {S zs : List Nat} {x : Nat} (h : Mch xs base pB i1 i2 φ v S (zs ++ [x]) w) : ∃ g k, v = .slice (some ⟨g, 0, none⟩) (zs.length + 1) k ∧ zs.length + 1 ≤ k ∧ k ≤ maxLen ∧
    ∀ wy, Below w.heap.size w wy → wy.cell? ⟨g, zs.length, none⟩ = some (.int .u64 (x : Int)) ∧ wy.cell? ⟨pB, 2, none⟩ = some (.slice (some ⟨g, 0, none⟩) (zs.length + 1) k) ∧ wy.frozen? ⟨pB, 2, none⟩ = false ∧ Mch xs base pB i1 i2 φ (.slice (some ⟨g, 0, none⟩) zs.length k) S zs (wy.setCell ⟨pB, 2, none⟩ (.slice (some ⟨g, 0, none⟩) zs.length k)) := by
  obtain ⟨g, k, hv, hk1, hk2, cx, hpop⟩ := own_pop h.own
  refine ⟨g, k, hv, hk1, hk2, fun wy hy => ?_⟩
  have hM := h.below hy
  obtain ⟨g', k', hv', _, _, cx', hpop'⟩ := own_pop hM.own
  rw [hv] at hv'
  injection hv' with t1 t2 t3
  injection t1 with t1
  injection t1 with t1
  subst t1 t3
  have hu : Upd pB wy (wy.setCell ⟨pB, 2, none⟩ (.slice (some ⟨g, 0, none⟩) zs.length k)) := (Upd.refl pB wy).setCell (p := ⟨pB, 2, none⟩) rfl _
  have hob : ∀ g', (Value.slice (some ⟨g, 0, none⟩) zs.length k).ownBlock = some g' → v.ownBlock = some g' := fun g' hg' => by rw [hv]; exact hg'
  refine ⟨cx', by rw [← hv]; exact hM.bk.cell 2, hM.bk.frozen 2, ?_⟩
  obtain ⟨E1, e1, e2⟩ := hM.m1
  obtain ⟨E2, e3, e4⟩ := hM.m2
  exact ⟨hM.bk.set 2 _, ⟨E1, e1.upd hu (fun e => hM.ne.2.1 e.symm), e2⟩, ⟨E2, e3.upd hu (fun e => hM.ne.2.2 e.symm), e4⟩, own_upd2 hpop' hu (fun g' hg' => (hM.dj g' (hob g' hg')).1), hM.lo, hM.ne, fun g' hg' => hM.dj g' (hob g' hg'), fun y hy => ⟨(hM.bl y hy).1.upd hu (hM.bl y hy).2.1.1, (hM.bl y hy).2.1, fun hg => (hM.bl y hy).2.2 (hob _ hg)⟩⟩
theorem AL.alloc (h : AL xs w pB i1 i2 φ H X c wr) (cs : List Value) (t : TypeId) : AL ((wr.heap.size, t, cs) :: xs) w pB i1 i2 φ H X c (wr.alloc (.cells cs.toArray t)) := by
  have hb := nbel wr (.cells cs.toArray t)
  have h' := h.below hb
  obtain ⟨v, S, D, h1, h2⟩ := h'.ex
  obtain ⟨v0, S0, D0, h10, h20⟩ := h.ex
  have hbk := h1.bk
  have e : v0 = v := by
    have k1 := h10.bk.cell 2
    have k2 := h1.bk.cell 2
    have k3 : (wr.alloc (.cells cs.toArray t)).cell? ⟨pB, 2, none⟩ = wr.cell? ⟨pB, 2, none⟩ := World.cell?_of_block (hb.block pB h10.bk.lt)
    rw [k3, k1] at k2
    injection k2
  subst e
  refine ⟨h'.bel, v0, S, D, ⟨h1.bk, h1.m1, h1.m2, h1.own, h1.lo, h1.ne, h1.dj, fun x hx => ?_⟩, h2⟩
  rcases List.mem_cons.1 hx with rfl | hx
  · obtain ⟨E1, e1, _⟩ := h10.m1
    obtain ⟨E2, e2, _⟩ := h10.m2
    have l1 := h10.bk.lt
    have l2 := e1.lt
    have l3 := e2.lt
    exact ⟨Blk.new wr cs t, ⟨by dsimp only; omega, by dsimp only; omega, by dsimp only; omega⟩, fun hv => by have := (h10.own.lt _ hv).2; dsimp only at this; omega⟩
  · exact h1.bl x hx
theorem AL.setx {g : Nat} {t : TypeId} {cs cs' : List Value} (h : AL ((g, t, cs) :: xs) w pB i1 i2 φ H X c wr) (hg : w.heap.size ≤ g) (hne : ∀ x ∈ xs, x.1 ≠ g) (hb : Blk w' g t cs') (hu : Upd g wr w') : AL ((g, t, cs') :: xs) w pB i1 i2 φ H X c w' := by
  obtain ⟨v, S, D, h1, h2⟩ := h.ex
  obtain ⟨b1, b2, b3⟩ := h1.bl _ List.mem_cons_self
  obtain ⟨E1, e1, e2⟩ := h1.m1
  obtain ⟨E2, e3, e4⟩ := h1.m2
  refine ⟨h.bel.trans (hu.below hg h.bel.size), v, S, D, ⟨h1.bk.upd hu (fun e => b2.1 e.symm), ⟨E1, e1.upd hu (fun e => b2.2.1 e.symm), e2⟩, ⟨E2, e3.upd hu (fun e => b2.2.2 e.symm), e4⟩, own_upd2 h1.own hu (fun g' hg' e => b3 (by rw [hg', e])), h1.lo, h1.ne, h1.dj, fun x hx => ?_⟩, h2⟩
  rcases List.mem_cons.1 hx with rfl | hx
  · exact ⟨hb, b2, b3⟩
  · obtain ⟨c1, c2⟩ := h1.bl x (List.mem_cons_of_mem _ hx)
    exact ⟨c1.upd hu (hne x hx), c2⟩
theorem AL.xblk (h : AL xs w pB i1 i2 φ H X c wr) : ∀ x ∈ xs, Blk wr x.1 x.2.1 x.2.2 := fun x hx => by
  obtain ⟨v, S, D, h1, h2⟩ := h.ex
  exact (h1.bl x hx).1
/-- The matching at the start. -/
theorem AL.start (w : World) : AL [] w (w.heap.size + 2) w.heap.size (w.heap.size + 1) φ H X 196610 (((w.alloc (.map #[] 0)).alloc (.map #[] 0)).alloc (.cells #[.map (some w.heap.size), .map (some (w.heap.size + 1)), .slice none 0 0] 145)) := by
  have b1 := nbel w (.map #[] 0)
  have b2 := nbel (w.alloc (.map #[] 0)) (.map #[] 0)
  have b3 := nbel ((w.alloc (.map #[] 0)).alloc (.map #[] 0)) (.cells #[.map (some w.heap.size), .map (some (w.heap.size + 1)), .slice none 0 0] 145)
  have hs1 : (w.alloc (.map #[] 0)).heap.size = w.heap.size + 1 := by simp
  have hs2 : ((w.alloc (.map #[] 0)).alloc (.map #[] 0)).heap.size = w.heap.size + 2 := by simp
  refine ⟨(b1.trans (b2.mono (by omega))).trans (b3.mono (by omega)), .slice none 0 0, [], [], ⟨?_, ⟨[], ?_, rfl, fun e he => (by cases he)⟩, ⟨[], ?_, rfl⟩, World.ownsRow_nil _ _ _ _, ⟨by omega, by omega, by omega⟩, ⟨by omega, by omega, by omega⟩, fun g hg => (by cases hg), fun x hx => (by cases hx)⟩, List.nodup_nil, fun a ha => (by cases ha), fun a ha => (by cases ha), Nat.le_refl _, by simp⟩
  · have := Blk.new ((w.alloc (.map #[] 0)).alloc (.map #[] 0)) [.map (some w.heap.size), .map (some (w.heap.size + 1)), .slice none 0 0] 145
    rw [hs2] at this
    exact this
  · exact ((PN.new w rfl).below b2).below b3
  · exact (IK.PN.new (w.alloc (.map #[] 0)) hs1).below b3
end
end Go.Proofs.Qxb6500889aDoor
