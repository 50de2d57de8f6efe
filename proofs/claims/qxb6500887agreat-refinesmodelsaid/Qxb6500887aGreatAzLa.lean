/- An arena inside a law. -/
import Derived.Test.Qxb6500887aGreatAzZz
import Derived.Test.Qxb6500887aGreatArOps
namespace Go.Proofs.Qxb6500887aGreat
open Go.RowKit
set_option linter.unusedSimpArgs false
set_option linter.unusedVariables false
/-- An arena inside a law that began at w0: its blocks are the law's own. -/
structure LS (w0 : World) (l : AL) (S : AS) (w : World) : Prop where
  am : AM l S w
  bel : Below w0.heap.size w0 w
  ab : ∀ g ∈ l.all, w0.heap.size ≤ g
theorem AL.above.all {l : AL} {n : Nat} (h : l.above n) : ∀ g ∈ l.all, n ≤ g := by
  obtain ⟨h1, h2, h3, h4, h5, h6, h7, h8, h9, h0⟩ := h
  intro g hg
  simp only [AL.all, List.mem_cons, List.not_mem_nil, or_false] at hg
  rcases hg with rfl | rfl | rfl | rfl | rfl | rfl | rfl | rfl | rfl | rfl <;> assumption
section
variable {w0 w w' : World} {l : AL} {S S' : AS}
theorem LS.below (h : LS w0 l S w) (hb : Below w.heap.size w w') : LS w0 l S w' := ⟨h.am.below hb, h.bel.trans (hb.mono h.bel.size), h.ab⟩
theorem LS.step (h : LS w0 l S w) (hu : AU l w S' w') : LS w0 l S' w' := ⟨hu.m, h.bel.trans (hu.u.below h.bel.size (fun g hg => h.ab g (AL.wr_all hg))), h.ab⟩
theorem LS.start (w : World) : Calls Tryz.prog 11 #[] w fun e w' => ∃ l : AL, e = .returned (.pointer (some ⟨l.a, 0, none⟩)) ∧ Hid (LS w l S0 w') := (arenaNewZ w).mono (by
  rintro e w1 ⟨l, rfl, H⟩
  exact ⟨l, rfl, hid ⟨H.out.1, H.out.2.1, H.out.2.2.all⟩⟩)
theorem LS.play (h : LS w0 l S w) (k a b c : Int) (hk0 : 0 ≤ k) (ha : U64 a) (hb : U64 b) (hc : U64 c) : Calls Tryz.prog 13 #[.pointer (some ⟨l.a, 0, none⟩), .agg #[.int .u8 k, .int .u64 a, .int .u64 b, .int .u64 c]] w fun e w' => ∃ rs S', e = .returned (.agg rs.toArray) ∧ Hid (RsOk rs ∧ AU l w S' w' ∧ PlR S k.toNat a b c rs S') := by
  have := playW h.am k.toNat a b c ha hb hc
  rw [show ((k.toNat : Nat) : Int) = k by omega] at this
  exact this
theorem AM.of (h : AM l S w) (hk : ∀ g ∈ l.all, g < w.heap.size → w'.heap[g]? = w.heap[g]?) : AM l S w' := by
  have hl := h.lts
  simp only [AL.all, List.mem_cons, List.not_mem_nil, or_false, forall_eq_or_imp, forall_eq] at hk hl
  obtain ⟨k1, k2, k3, k4, k5, k6, k7, k8, k9, k0⟩ := hk
  obtain ⟨l1, l2, l3, l4, l5, l6, l7, l8, l9, l0⟩ := hl
  exact ⟨h.a.of (k1 l1), h.ws.of (k6 l6), h.wl, ⟨h.tc.tb.of (k2 l2), h.tc.wb.of (k7 l7), h.tc.lt, h.tc.ne, h.tc.k⟩, ⟨h.tm.tb.of (k3 l3), h.tm.wb.of (k8 l8), h.tm.lt, h.tm.ne, h.tm.k⟩, ⟨h.tl.tb.of (k4 l4), h.tl.wb.of (k9 l9), h.tl.lt, h.tl.ne, h.tl.k⟩, ⟨h.tt.tb.of (k5 l5), h.tt.wb.of (k0 l0), h.tt.lt, h.tt.ne, h.tt.k⟩, h.nd, h.vl⟩
/-- A block of another kind is none of the arena's. -/
theorem AM.neT (h : AM l S w) {g : Nat} {t : TypeId} {cs : List Value} (hb : Blk w g t cs) (h1 : t ≠ 105) (h2 : t ≠ 216) (h3 : t ≠ 29) : g ∉ l.all := fun hg => by
  simp only [AL.all, List.mem_cons, List.not_mem_nil, or_false] at hg
  rcases hg with e | e | e | e | e | e | e | e | e | e
  · exact hb.tneA h.a h1 e
  · exact hb.tneA h.tc.tb h2 e
  · exact hb.tneA h.tm.tb h2 e
  · exact hb.tneA h.tl.tb h2 e
  · exact hb.tneA h.tt.tb h2 e
  · exact hb.tneA h.ws h3 e
  · exact hb.tneA h.tc.wb h3 e
  · exact hb.tneA h.tm.wb h3 e
  · exact hb.tneA h.tl.wb h3 e
  · exact hb.tneA h.tt.wb h3 e
theorem OwR.neA {α : Type} {K : RK α} {n0 : Nat} {v : Value} {xs : List α} (h : OwR K n0 w v xs) (hm : AM l S w) (h1 : K.t ≠ 105) (h2 : K.t ≠ 216) (h3 : K.t ≠ 29) : ∀ g, v.ownBlock = some g → g ∉ l.all := fun g hg => by
  rcases h.2 with ⟨e, _⟩ | ⟨g', cap, cur, e, _, e3, _⟩
  · rw [e] at hg; cases hg
  · rw [e] at hg
    cases hg
    exact hm.neT (show Blk w g' K.t cur.toList from by unfold Blk; exact e3) h1 h2 h3
theorem LS.kep {α : Type} {K : RK α} {v : Value} {xs : List α} (h : LS w0 l S w) (hr : OwR K w0.heap.size w v xs) (hk : Kep w v w') (h1 : K.t ≠ 105) (h2 : K.t ≠ 216) (h3 : K.t ≠ 29) : LS w0 l S w' :=
  ⟨h.am.of (fun g hg hlt => hk.blk g hlt (fun g' hg' e => hr.neA h.am h1 h2 h3 g' hg' (e ▸ hg))), h.bel.trans (hk.below hr.hi h.bel.size), h.ab⟩
theorem OwR.stepA {α : Type} {K : RK α} {n0 : Nat} {v : Value} {xs : List α} (h : OwR K n0 w v xs) (hm : AM l S w) (hu : UL l.wr w w') (h1 : K.t ≠ 105) (h2 : K.t ≠ 216) (h3 : K.t ≠ 29) : OwR K n0 w' v xs := h.of (fun g hg hlt => hu.block g hlt (fun hw => h.neA hm h1 h2 h3 g hg (AL.wr_all hw)))
theorem Blk.stepA {g : Nat} {t : TypeId} {cs : List Value} (h : Blk w g t cs) (hm : AM l S w) (hu : UL l.wr w w') (h1 : t ≠ 105) (h2 : t ≠ 216) (h3 : t ≠ 29) : Blk w' g t cs := hu.blk h (fun hw => hm.neT h h1 h2 h3 (AL.wr_all hw))
end
end Go.Proofs.Qxb6500887aGreat
