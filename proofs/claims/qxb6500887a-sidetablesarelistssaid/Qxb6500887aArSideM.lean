/- SideTablesAreLists: the lists made. -/
import Derived.Test.Qxb6500887aArSideW
namespace Go.Proofs.Qxb6500887a
open Go.RowKit
set_option linter.unusedSimpArgs false
set_option linter.unusedVariables false

theorem info_u8 : (Try.prog.info? 5).map (fun i => (i.zero, i.size, i.bytes)) = some (some (.int .u8 0), 1, 1) := by kernel_rfl
theorem info_bool : (Try.prog.info? 4).map (fun i => (i.zero, i.size, i.bytes)) = some (some (.bool false), 1, 1) := by kernel_rfl
theorem made_u8 (n : Nat) : madeCells #[Value.int .u8 0] n = ((zeros n).map fun (x : Nat) => Value.int .u8 (x : Int)).toArray := by
  apply Array.ext
  · simp [madeCells, zeros]
  · intro i h1 h2
    simp [madeCells, Nat.mod_one, zeros]
theorem made_bool (n : Nat) : madeCells #[Value.bool false] n = ((zeros n).map fun (x : Nat) => Value.bool (onB x)).toArray := by
  apply Array.ext
  · simp [madeCells, zeros]
  · intro i h1 h2
    simp [madeCells, Nat.mod_one, zeros, onB]

theorem zeros_len (n : Nat) : (zeros n).length = n := by simp [zeros]
theorem zeros_mem {n x : Nat} (h : x ∈ zeros n) : x = 0 := List.eq_of_mem_replicate h
attribute [local irreducible] zeros
theorem blk3 (x : World) {z : Nat} (hz : x.heap.size = z) (l1 l2 l3 : List Value) (t1 t2 t3 : TypeId) :
    Blk (((x.alloc (.cells l1.toArray t1)).alloc (.cells l2.toArray t2)).alloc (.cells l3.toArray t3)) z t1 l1 ∧
    Blk (((x.alloc (.cells l1.toArray t1)).alloc (.cells l2.toArray t2)).alloc (.cells l3.toArray t3)) (z + 1) t2 l2 ∧
    Blk (((x.alloc (.cells l1.toArray t1)).alloc (.cells l2.toArray t2)).alloc (.cells l3.toArray t3)) (z + 1 + 1) t3 l3 ∧
    Below x.heap.size x (((x.alloc (.cells l1.toArray t1)).alloc (.cells l2.toArray t2)).alloc (.cells l3.toArray t3)) ∧
    (((x.alloc (.cells l1.toArray t1)).alloc (.cells l2.toArray t2)).alloc (.cells l3.toArray t3)).heap.size = z + 1 + 1 + 1 := by
  subst hz
  have s1 : ∀ (x : World) (o : Obj), (x.alloc o).heap.size = x.heap.size + 1 := fun x o => by simp
  have b1 := Blk.new x l1 t1
  have b2 := Blk.new (x.alloc (.cells l1.toArray t1)) l2 t2
  have b3 := Blk.new ((x.alloc (.cells l1.toArray t1)).alloc (.cells l2.toArray t2)) l3 t3
  rw [s1] at b2
  rw [s1, s1] at b3
  refine ⟨(b1.alloc _).alloc _, b2.alloc _, b3, ?_, by rw [s1, s1, s1]⟩
  exact (((bel_alloc x _).alloc (by rw [s1]; omega) _)).alloc (by rw [s1, s1]; omega) _
theorem lists_made {w0 w1 y : World} {A tc bc tm bm tl bl z lc lm ll : Nat} (hb : Below w0.heap.size w0 w1) (hlo : ∀ g ∈ [A, tc, bc, tm, bm, tl, bl], w0.heap.size ≤ g) (ha : Ar w1 A tc bc tm bm tl bl (zeros 16384) (zeros 16384) (zeros 32768))
    (hz : w1.heap.size = z) (hy : Below w1.heap.size w1 y) (hs : y.heap.size = z + 1 + 1 + 1)
    (h1 : Blk y lc 5 ((zeros 16384).map fun (x : Nat) => Value.int .u8 (x : Int))) (h2 : Blk y lm 4 ((zeros 16384).map fun (x : Nat) => Value.bool (onB x))) (h3 : Blk y ll 4 ((zeros 32768).map fun (x : Nat) => Value.bool (onB x)))
    (hd : z ≤ lc ∧ z ≤ lm ∧ z ≤ ll ∧ lc ≠ lm ∧ lc ≠ ll ∧ lm ≠ ll) :
    Sz' w0 A tc bc tm bm tl bl (z + 1 + 1 + 1) lc lm ll (y.alloc (.cells #[.slice (some ⟨lc, 0, none⟩) 16384 16384, .slice (some ⟨lm, 0, none⟩) 16384 16384, .slice (some ⟨ll, 0, none⟩) 32768 32768] 30)).drew := by
  have hx := (bel_alloc y (.cells #[.slice (some ⟨lc, 0, none⟩) 16384 16384, .slice (some ⟨lm, 0, none⟩) 16384 16384, .slice (some ⟨ll, 0, none⟩) 32768 32768] 30))
  have hx2 := hx.trans (Drew.below ⟨1, rfl⟩ _ : Below y.heap.size (y.alloc (.cells #[.slice (some ⟨lc, 0, none⟩) 16384 16384, .slice (some ⟨lm, 0, none⟩) 16384 16384, .slice (some ⟨ll, 0, none⟩) 32768 32768] 30)) (y.alloc (.cells #[.slice (some ⟨lc, 0, none⟩) 16384 16384, .slice (some ⟨lm, 0, none⟩) 16384 16384, .slice (some ⟨ll, 0, none⟩) 32768 32768] 30)).drew)
  have hall := hy.trans (hx2.mono hy.size)
  have lc1 := h1.lt
  have lm1 := h2.lt
  have ll1 := h3.lt
  obtain ⟨wa, tt, ver, har⟩ := ha.ar
  have a1 := har.lt
  have a2 := ha.rc.lt
  have a3 := ha.rm.lt
  have a4 := ha.rl.lt
  have nd := ha.nd
  have hs0 := hb.size
  have bL := Blk.new y [.slice (some ⟨lc, 0, none⟩) 16384 16384, .slice (some ⟨lm, 0, none⟩) 16384 16384, .slice (some ⟨ll, 0, none⟩) 32768 32768] 30
  rw [hs] at bL
  refine ⟨zeros 16384, zeros 16384, zeros 32768, hb.trans (hall.mono hb.size), ha.below hall, ⟨bL.drewN 1, h1.below hx2, h2.below hx2, h3.below hx2, zeros_len _, zeros_len _, zeros_len _, fun x hx => ?_⟩, ?_, ?_⟩
  · rw [zeros_mem hx]; omega
  · have e : [A, tc, bc, tm, bm, tl, bl, z + 1 + 1 + 1, lc, lm, ll] = [A, tc, bc, tm, bm, tl, bl] ++ [z + 1 + 1 + 1, lc, lm, ll] := rfl
    rw [e, List.nodup_append]
    refine ⟨nd, ?_, ?_⟩
    · simp only [List.nodup_cons, List.mem_cons, List.not_mem_nil, or_false, not_or, not_false_eq_true, List.nodup_nil, and_true]
      omega
    · intro g hg g' hg' he
      simp only [List.mem_cons, List.not_mem_nil, or_false] at hg hg'
      omega
  · intro g hg
    have e : [A, tc, bc, tm, bm, tl, bl, z + 1 + 1 + 1, lc, lm, ll] = [A, tc, bc, tm, bm, tl, bl] ++ [z + 1 + 1 + 1, lc, lm, ll] := rfl
    rw [e] at hg
    rcases List.mem_append.1 hg with hg | hg
    · exact hlo g hg
    · simp only [List.mem_cons, List.not_mem_nil, or_false] at hg
      omega

end Go.Proofs.Qxb6500887a
