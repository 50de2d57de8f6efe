/- Several arenas inside a law, and blocks of the law's own beside them. -/
import Derived.Test.Qxb6500887aGreatAzLa
import Derived.Test.Qxb6500887aGreatAzPb
import Derived.Deep.DeepCutAuto
namespace Go.Proofs.Qxb6500887aGreat
open Go.RowKit
set_option linter.unusedSimpArgs false
set_option linter.unusedVariables false
structure LN (w0 : World) (zs : List (AL × AS)) (bl : List (Nat × TypeId × List Value)) (w : World) : Prop where
  ls : ∀ x ∈ zs, LS w0 x.1 x.2 w
  dj : zs.Pairwise (fun x y => ∀ g ∈ x.1.all, g ∉ y.1.all)
  bk : ∀ x ∈ bl, Blk w x.1 x.2.1 x.2.2
  ty : ∀ x ∈ bl, x.2.1 ≠ 105 ∧ x.2.1 ≠ 216 ∧ x.2.1 ≠ 29
  bel : Below w0.heap.size w0 w
section
variable {w0 w w' : World} {L l : AL} {S S' : AS} {zs xs ys : List (AL × AS)} {bl : List (Nat × TypeId × List Value)} {p : Nat} {t : TypeId} {cs : List Value}
theorem LN.start (w : World) : LN w [] [] w := ⟨fun _ hx => (by cases hx), List.Pairwise.nil, fun _ hx => (by cases hx), fun _ hx => (by cases hx), Below.refl _ _⟩
theorem LN.below (h : LN w0 zs bl w) (hb : Below w.heap.size w w') : LN w0 zs bl w' := ⟨fun x hx => (h.ls x hx).below hb, h.dj, fun x hx => (h.bk x hx).below hb, h.ty, h.bel.trans (hb.mono h.bel.size)⟩
theorem LN.mem (h : LN w0 (xs ++ (l, S) :: ys) bl w) : LS w0 l S w := h.ls (l, S) (by simp)
/-- A step of one arena. -/
theorem LN.step (h : LN w0 (xs ++ (l, S) :: ys) bl w) (hu : AU l w S' w') : LN w0 (xs ++ (l, S') :: ys) bl w' := by
  have hm := h.mem
  have hd := List.pairwise_append.1 h.dj
  have hd2 := List.pairwise_cons.1 hd.2.1
  have keep : ∀ x ∈ xs ++ ys, LS w0 x.1 x.2 w' := fun x hx => by
    have hxl : LS w0 x.1 x.2 w := h.ls x (by
      rcases List.mem_append.1 hx with c | c
      · exact List.mem_append_left _ c
      · exact List.mem_append_right _ (List.mem_cons_of_mem _ c))
    have ne : ∀ g ∈ x.1.all, g ∉ l.all := by
      rcases List.mem_append.1 hx with c | c
      · exact fun g hg => hd.2.2 x c (l, S) (by simp) g hg
      · exact fun g hg hgl => hd2.1 x c g hgl hg
    exact ⟨hxl.am.of (fun g hg hlt => hu.u.block g hlt (fun hw => ne g hg (AL.wr_all hw))), hm.bel.trans (hu.u.below hm.bel.size (fun g hg => hm.ab g (AL.wr_all hg))), hxl.ab⟩
  refine ⟨fun x hx => ?_, ?_, fun x hx => (h.bk x hx).stepA hm.am hu.u (h.ty x hx).1 (h.ty x hx).2.1 (h.ty x hx).2.2, h.ty, (hm.step hu).bel⟩
  · rcases List.mem_append.1 hx with c | c
    · exact keep x (List.mem_append_left _ c)
    · rcases List.mem_cons.1 c with c | c
      · rw [c]; exact hm.step hu
      · exact keep x (List.mem_append_right _ c)
  · exact List.pairwise_append.2 ⟨hd.1, List.pairwise_cons.2 ⟨hd2.1, hd2.2⟩, fun a ha b hb => by
      rcases List.mem_cons.1 hb with c | c
      · rw [c]; exact hd.2.2 a ha (l, S) (by simp)
      · exact hd.2.2 a ha b (List.mem_cons_of_mem _ c)⟩
/-- A block of the law's own is made. -/
theorem LN.new (h : LN w0 zs bl w) (hp : w.heap.size = p) (h1 : t ≠ 105 ∧ t ≠ 216 ∧ t ≠ 29) : LN w0 zs (bl ++ [(p, t, cs)]) (w.alloc (.cells cs.toArray t)) := by
  have hb := h.below (nbel w (.cells cs.toArray t))
  refine ⟨hb.ls, hb.dj, fun x hx => ?_, fun x hx => ?_, hb.bel⟩
  · rcases List.mem_append.1 hx with hx | hx
    · exact hb.bk x hx
    · rw [List.mem_singleton.1 hx]
      have kk := Blk.new w cs t
      rw [hp] at kk
      exact kk
  · rcases List.mem_append.1 hx with hx | hx
    · exact h.ty x hx
    · rw [List.mem_singleton.1 hx]; exact h1
/-- Blocks that are wanted no more. -/
theorem LN.drop {bl' : List (Nat × TypeId × List Value)} (h : LN w0 zs bl w) (hs : ∀ x ∈ bl', x ∈ bl) : LN w0 zs bl' w := ⟨h.ls, h.dj, fun x hx => h.bk x (hs x hx), fun x hx => h.ty x (hs x hx), h.bel⟩
/-- An own block is written. -/
theorem LN.put {cs' : List Value} {b1 b2 : List (Nat × TypeId × List Value)} (h : LN w0 zs (b1 ++ (p, t, cs) :: b2) w) (hu : Upd p w w') (hb : Blk w' p t cs') (hp : w0.heap.size ≤ p) (hn : ∀ x ∈ b1 ++ b2, x.1 ≠ p) : LN w0 zs (b1 ++ (p, t, cs') :: b2) w' := by
  have hk := h.bk (p, t, cs) (by simp)
  have ht := h.ty (p, t, cs) (by simp)
  have hbel : Below w0.heap.size w0 w' := h.bel.trans (hu.below hp h.bel.size)
  refine ⟨fun x hx => ⟨(h.ls x hx).am.of (fun g hg hlt => hu.block g hlt (fun e => (h.ls x hx).am.neT hk ht.1 ht.2.1 ht.2.2 (e ▸ hg))), hbel, (h.ls x hx).ab⟩, h.dj, fun x hx => ?_, fun x hx => ?_, hbel⟩
  · rcases List.mem_append.1 hx with c | c
    · exact (h.bk x (List.mem_append_left _ c)).upd hu (hn x (List.mem_append_left _ c))
    · rcases List.mem_cons.1 c with c | c
      · rw [c]; exact hb
      · exact (h.bk x (List.mem_append_right _ (List.mem_cons_of_mem _ c))).upd hu (hn x (List.mem_append_right _ c))
  · rcases List.mem_append.1 hx with c | c
    · exact h.ty x (List.mem_append_left _ c)
    · rcases List.mem_cons.1 c with c | c
      · rw [c]; exact ht
      · exact h.ty x (List.mem_append_right _ (List.mem_cons_of_mem _ c))
/-- A new arena. -/
theorem LN.arena (h : LN w0 zs bl w) : Calls Tryz.prog 11 #[] w fun e w' => ∃ l : AL, e = .returned (.pointer (some ⟨l.a, 0, none⟩)) ∧ Hid (LN w0 (zs ++ [(l, S0)]) bl w') := (LS.start w).mono (by
  rintro e w1 ⟨l, rfl, H⟩
  have hb := H.out.bel
  have hn := h.below hb
  refine ⟨l, rfl, hid ⟨fun x hx => ?_, ?_, hn.bk, hn.ty, hn.bel⟩⟩
  · rcases List.mem_append.1 hx with c | c
    · exact hn.ls x c
    · rw [List.mem_singleton.1 c]
      exact ⟨H.out.am, hn.bel, fun g hg => Nat.le_trans h.bel.size (H.out.ab g hg)⟩
  · refine List.pairwise_append.2 ⟨h.dj, by simp, fun x hx y hy g hg hgl => ?_⟩
    rw [List.mem_singleton.1 hy] at hgl
    have h1 := (h.ls x hx).am.lts g hg
    have h2 := H.out.ab g hgl
    omega)
end
/-- Steps are of one outcome. -/
theorem PlR.det {S S1 S2 : AS} {k : Nat} {a b c : Int} {r1 r2 : List Value} (h : PlR S k a b c r1 S1) (k' : PlR S k a b c r2 S2) : S1 = S2 := by
  cases e : plW S k a b c with
  | none => rw [(h.2 e).1, (k'.2 e).1]
  | some r => rw [(h.1 r e).2, (k'.1 r e).2]
end Go.Proofs.Qxb6500887aGreat
