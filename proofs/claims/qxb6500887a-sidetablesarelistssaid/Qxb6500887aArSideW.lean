/- SideTablesAreLists: the worlds on the road. -/
import Derived.Test.Qxb6500887aArAgree
import Derived.Test.Qxb6500887aArOps
namespace Go.Proofs.Qxb6500887a
open Go.RowKit
set_option linter.unusedSimpArgs false
set_option linter.unusedVariables false

/-- The tables read as cs', ms', ls'; the lists hold cs, ms, ls. -/
structure Sd (w0 : World) (A tc bc tm bm tl bl L lc lm ll : Nat) (cs ms ls cs' ms' ls' : List Nat) (w : World) : Prop where
  bel : Below w0.heap.size w0 w
  ar : Ar w A tc bc tm bm tl bl cs' ms' ls'
  lst : Ls w L lc lm ll cs ms ls
  nd : [A, tc, bc, tm, bm, tl, bl, L, lc, lm, ll].Nodup
  lo : ∀ g ∈ [A, tc, bc, tm, bm, tl, bl, L, lc, lm, ll], w0.heap.size ≤ g
structure Sx (w0 : World) (A tc bc tm bm tl bl L lc lm ll p : Nat) (kd x b c : Int) (cs ms ls cs' ms' ls' : List Nat) (w : World) : Prop where
  sd : Sd w0 A tc bc tm bm tl bl L lc lm ll cs ms ls cs' ms' ls' w
  bp : Blk w p 34 [.int .u8 kd, .int .u64 x, .int .u64 b, .int .u64 c]
  pn : p ∉ [A, tc, bc, tm, bm, tl, bl, L, lc, lm, ll]
section
variable {w0 w wm w' : World} {A tc bc tm bm tl bl L lc lm ll p : Nat} {kd x b c : Int} {cs ms ls cs' ms' ls' : List Nat}
theorem Sd.below (h : Sd w0 A tc bc tm bm tl bl L lc lm ll cs ms ls cs' ms' ls' w) (hb : Below w.heap.size w w') : Sd w0 A tc bc tm bm tl bl L lc lm ll cs ms ls cs' ms' ls' w' :=
  ⟨h.bel.trans (hb.mono h.bel.size), h.ar.below hb, h.lst.below hb, h.nd, h.lo⟩
theorem Sx.below (h : Sx w0 A tc bc tm bm tl bl L lc lm ll p kd x b c cs ms ls cs' ms' ls' w) (hb : Below w.heap.size w w') : Sx w0 A tc bc tm bm tl bl L lc lm ll p kd x b c cs ms ls cs' ms' ls' w' :=
  ⟨h.sd.below hb, h.bp.below hb, h.pn⟩
theorem Sx.drew (h : Sx w0 A tc bc tm bm tl bl L lc lm ll p kd x b c cs ms ls cs' ms' ls' w) (hd : Drew w w') : Sx w0 A tc bc tm bm tl bl L lc lm ll p kd x b c cs ms ls cs' ms' ls' w' := h.below (hd.below _)
theorem Sd.lt (h : Sd w0 A tc bc tm bm tl bl L lc lm ll cs ms ls cs' ms' ls' w) : ∀ g ∈ [A, tc, bc, tm, bm, tl, bl, L, lc, lm, ll], g < w.heap.size := by
  obtain ⟨wa, tt, ver, h1⟩ := h.ar.ar
  have a1 := h1.lt
  have a2 := h.ar.rc.lt
  have a3 := h.ar.rm.lt
  have a4 := h.ar.rl.lt
  have a5 := h.lst.lb.lt
  have a6 := h.lst.bc.lt
  have a7 := h.lst.bm.lt
  have a8 := h.lst.bl.lt
  intro g hg
  simp only [List.mem_cons, List.not_mem_nil, or_false] at hg
  omega
theorem Sd.op (h : Sd w0 A tc bc tm bm tl bl L lc lm ll cs ms ls cs' ms' ls' w) (kd x b c : Int) :
    Sx w0 A tc bc tm bm tl bl L lc lm ll w.heap.size kd x b c cs ms ls cs' ms' ls' (w.alloc (.cells #[.int .u8 kd, .int .u64 x, .int .u64 b, .int .u64 c] 34)) :=
  ⟨h.below (bel_alloc _ _), Blk.new w [.int .u8 kd, .int .u64 x, .int .u64 b, .int .u64 c] _, fun hm => Nat.lt_irrefl _ (h.lt _ hm)⟩
theorem Sx.upd2 {g1 g2 : Nat} {ds es fs : List Nat} (h : Sx w0 A tc bc tm bm tl bl L lc lm ll p kd x b c cs ms ls cs' ms' ls' w) (h1 : Upd g1 w wm) (h2 : Upd g2 wm w')
    (m1 : g1 ∈ [A, tc, bc, tm, bm, tl, bl]) (m2 : g2 ∈ [A, tc, bc, tm, bm, tl, bl]) (ha : Ar w' A tc bc tm bm tl bl ds es fs) : Sx w0 A tc bc tm bm tl bl L lc lm ll p kd x b c cs ms ls ds es fs w' := by
  have nd := h.sd.nd
  have e : [A, tc, bc, tm, bm, tl, bl, L, lc, lm, ll] = [A, tc, bc, tm, bm, tl, bl] ++ [L, lc, lm, ll] := rfl
  rw [e, List.nodup_append] at nd
  have dj : ∀ g, g ∈ [A, tc, bc, tm, bm, tl, bl] → g ∉ [L, lc, lm, ll] := fun g hg hg' => nd.2.2 g hg g hg' rfl
  have up : ∀ g, g ∈ [A, tc, bc, tm, bm, tl, bl] → g ∈ [A, tc, bc, tm, bm, tl, bl, L, lc, lm, ll] := fun g hg => by rw [e]; exact List.mem_append_left _ hg
  have np : ∀ g, g ∈ [A, tc, bc, tm, bm, tl, bl] → p ≠ g := fun g hg hp => h.pn (hp ▸ up g hg)
  have hs := h.sd.bel.size
  refine ⟨⟨(h.sd.bel.trans (h1.below (h.sd.lo g1 (up g1 m1)) hs)).trans (h2.below (h.sd.lo g2 (up g2 m2)) (Nat.le_trans hs h1.size)), ha, (h.sd.lst.upd h1 (dj g1 m1)).upd h2 (dj g2 m2), h.sd.nd, h.sd.lo⟩, (h.bp.upd h1 (np g1 m1)).upd h2 (np g2 m2), h.pn⟩
theorem Sx.wr {g : Nat} {ds es fs : List Nat} (h : Sx w0 A tc bc tm bm tl bl L lc lm ll p kd x b c cs ms ls cs' ms' ls' w) (h1 : Upd g w w') (m1 : g ∈ [L, lc, lm, ll]) (hl : Ls w' L lc lm ll ds es fs) : Sx w0 A tc bc tm bm tl bl L lc lm ll p kd x b c ds es fs cs' ms' ls' w' := by
  have nd := h.sd.nd
  have e : [A, tc, bc, tm, bm, tl, bl, L, lc, lm, ll] = [A, tc, bc, tm, bm, tl, bl] ++ [L, lc, lm, ll] := rfl
  rw [e, List.nodup_append] at nd
  have up : g ∈ [A, tc, bc, tm, bm, tl, bl, L, lc, lm, ll] := by rw [e]; exact List.mem_append_right _ m1
  have dj : g ∉ [A, tc, bc, tm, bm, tl, bl] := fun hg => nd.2.2 g hg g m1 rfl
  exact ⟨⟨h.sd.bel.trans (h1.below (h.sd.lo g up) h.sd.bel.size), h.sd.ar.upd h1 dj, hl, h.sd.nd, h.sd.lo⟩, h.bp.upd h1 (fun hp => h.pn (hp ▸ up)), h.pn⟩
theorem Sd.ne (h : Sd w0 A tc bc tm bm tl bl L lc lm ll cs ms ls cs' ms' ls' w) : [L, lc, lm, ll].Nodup := by
  have nd := h.nd
  have e : [A, tc, bc, tm, bm, tl, bl, L, lc, lm, ll] = [A, tc, bc, tm, bm, tl, bl] ++ [L, lc, lm, ll] := rfl
  rw [e, List.nodup_append] at nd
  exact nd.2.1
theorem onB_if (on : Bool) : onB (if on then 1 else 0) = on := by cases on <;> rfl
theorem Sx.stc (h : Sx w0 A tc bc tm bm tl bl L lc lm ll p kd x b c cs ms ls cs' ms' ls' w) (g v : Nat) (hv : v ≤ 3) :
    Sx w0 A tc bc tm bm tl bl L lc lm ll p kd x b c (cs.set g v) ms ls cs' ms' ls' (w.setCell ⟨lc, g, none⟩ (.int .u8 (v : Int))) := by
  have hu : Upd lc w (w.setCell ⟨lc, g, none⟩ (.int .u8 (v : Int))) := (Upd.refl lc w).setCell rfl _
  have hn := h.sd.ne
  simp only [List.nodup_cons, List.mem_cons, List.not_mem_nil, or_false, not_or] at hn
  refine h.wr hu (by simp) ⟨h.sd.lst.lb.upd hu hn.1.1, ?_, h.sd.lst.bm.upd hu (Ne.symm hn.2.1.1), h.sd.lst.bl.upd hu (Ne.symm hn.2.1.2), by simpa using h.sd.lst.n1, h.sd.lst.n2, h.sd.lst.n3, fun y hy => ?_⟩
  · rw [List.map_set]
    exact h.sd.lst.bc.set g _
  · rcases List.mem_or_eq_of_mem_set hy with hy | rfl
    · exact h.sd.lst.c3 y hy
    · exact hv
theorem Sx.stm (h : Sx w0 A tc bc tm bm tl bl L lc lm ll p kd x b c cs ms ls cs' ms' ls' w) (g : Nat) (on : Bool) :
    Sx w0 A tc bc tm bm tl bl L lc lm ll p kd x b c cs (ms.set g (if on then 1 else 0)) ls cs' ms' ls' (w.setCell ⟨lm, g, none⟩ (.bool on)) := by
  have hu : Upd lm w (w.setCell ⟨lm, g, none⟩ (.bool on)) := (Upd.refl lm w).setCell rfl _
  have hn := h.sd.ne
  simp only [List.nodup_cons, List.mem_cons, List.not_mem_nil, or_false, not_or] at hn
  refine h.wr hu (by simp) ⟨h.sd.lst.lb.upd hu hn.1.2.1, h.sd.lst.bc.upd hu hn.2.1.1, ?_, h.sd.lst.bl.upd hu (Ne.symm hn.2.2.1), h.sd.lst.n1, by simpa using h.sd.lst.n2, h.sd.lst.n3, h.sd.lst.c3⟩
  rw [List.map_set, onB_if]
  exact h.sd.lst.bm.set g _
theorem Sx.stl (h : Sx w0 A tc bc tm bm tl bl L lc lm ll p kd x b c cs ms ls cs' ms' ls' w) (g : Nat) (on : Bool) :
    Sx w0 A tc bc tm bm tl bl L lc lm ll p kd x b c cs ms (ls.set g (if on then 1 else 0)) cs' ms' ls' (w.setCell ⟨ll, g, none⟩ (.bool on)) := by
  have hu : Upd ll w (w.setCell ⟨ll, g, none⟩ (.bool on)) := (Upd.refl ll w).setCell rfl _
  have hn := h.sd.ne
  simp only [List.nodup_cons, List.mem_cons, List.not_mem_nil, or_false, not_or] at hn
  refine h.wr hu (by simp) ⟨h.sd.lst.lb.upd hu hn.1.2.2, h.sd.lst.bc.upd hu hn.2.1.2, h.sd.lst.bm.upd hu hn.2.2.1, ?_, h.sd.lst.n1, h.sd.lst.n2, by simpa using h.sd.lst.n3, h.sd.lst.c3⟩
  rw [List.map_set, onB_if]
  exact h.sd.lst.bl.set g _
/-- Some lists, the same in the tables and beside them. -/
def Sy (w0 : World) (A tc bc tm bm tl bl L lc lm ll p : Nat) (kd x b c : Int) (w : World) : Prop := ∃ cs ms ls, Sx w0 A tc bc tm bm tl bl L lc lm ll p kd x b c cs ms ls cs ms ls w
def Sz' (w0 : World) (A tc bc tm bm tl bl L lc lm ll : Nat) (w : World) : Prop := ∃ cs ms ls, Sd w0 A tc bc tm bm tl bl L lc lm ll cs ms ls cs ms ls w
end
end Go.Proofs.Qxb6500887a
