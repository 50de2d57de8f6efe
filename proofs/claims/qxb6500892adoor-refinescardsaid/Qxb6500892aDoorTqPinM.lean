/- PinnedStay: its memory. -/
import Derived.Test.Qxb6500892aDoorTqEff
namespace Go.Proofs.Qxb6500892aDoor
open Go.RowKit
set_option linter.unusedSimpArgs false
set_option linter.unusedVariables false

def zC : Nat → Value
  | 0 => .int .i64 0
  | 1 => .int .u64 0
  | 2 => .int .i64 0
  | _ => .bool false
def bfL (s : ES) (j n : Nat) : List Value := fnL (n * 4) fun c => if c / 4 < j then enC s (c / 4) (c % 4) else zC (c % 4)
def wsL (s : ES) (j n : Nat) : List Value := fnL n fun c => .bool (if c < j then lv s c else false)
theorem info_entz : ∃ i, Tryd.prog.info? 64 = some i ∧ i.zero = some (.agg #[.int .i64 0, .int .u64 0, .int .i64 0, .bool false]) ∧ i.size = 4 ∧ i.bytes = 32 := by
  have h : (Tryd.prog.info? 64).map (fun i => (i.zero, i.size, i.bytes)) = some (some (.agg #[.int .i64 0, .int .u64 0, .int .i64 0, .bool false]), 4, 32) := by kernel_rfl
  obtain ⟨i, hi, he⟩ := Option.map_eq_some_iff.1 h
  simp only [Prod.mk.injEq] at he
  exact ⟨i, hi, he.1, he.2.1, he.2.2⟩
theorem info_bool : (Tryd.prog.info? 4).map (fun i => (i.zero, i.size, i.bytes)) = some (some (.bool false), 1, 1) := by kernel_rfl
theorem made_ent (s : ES) (n : Nat) : madeCells #[.int .i64 0, .int .u64 0, .int .i64 0, .bool false] (n * 4) = (bfL s 0 n).toArray := by
  unfold bfL
  apply Array.ext
  · simp [madeCells, fnL_len]
  · intro c h1 h2
    have hc : c < n * 4 := by simpa [madeCells] using h1
    have h3 := fnL_get (n := n * 4) (fun c => if c / 4 < 0 then enC s (c / 4) (c % 4) else zC (c % 4)) hc
    refine Eq.trans ?_ (List.getElem?_eq_some_iff.1 h3).2.symm
    rw [if_neg (by omega)]
    simp only [madeCells, Array.getElem_map, Array.getElem_range, List.size_toArray, List.length_cons, List.length_nil]
    have hj : c % 4 < 4 := Nat.mod_lt _ (by omega)
    generalize c % 4 = j at hj
    rcases j with _ | _ | _ | _ | j <;> first | rfl | omega
theorem made_was (s : ES) (n : Nat) : madeCells #[.bool false] n = (wsL s 0 n).toArray := by
  unfold wsL
  apply Array.ext
  · simp [madeCells, fnL_len]
  · intro c h1 h2
    have hc : c < n := by simpa [madeCells] using h1
    have h3 := fnL_get (n := n) (fun c => .bool (if c < 0 then lv s c else false)) hc
    refine Eq.trans ?_ (List.getElem?_eq_some_iff.1 h3).2.symm
    simp [madeCells, Nat.mod_one]
theorem make_ent (n : Nat) (hn : n ≤ 100000000) (w : World) : (Instr.makeSlice 38 (.int .i64 (n : Int)) (.int .i64 (n : Int))).run Tryd.prog w = .ok (.slice (some ⟨w.heap.size, 0, none⟩) n n) (w.alloc (.cells (madeCells #[.int .i64 0, .int .u64 0, .int .i64 0, .bool false] (n * 4)) 64)) := by
  obtain ⟨i0, hi, hz0, hz1, hz2⟩ := info_entz
  have := run_make (P := Tryd.prog) w 38 64 i0 _ Tryd.underlying38 hi hz0 .i64 .i64 (n : Int) (n : Int) (by omega) (by omega) (by rw [hz2]; omega) (by omega)
  rw [hz1, show (Value.agg #[.int .i64 0, .int .u64 0, .int .i64 0, .bool false]).cells = #[.int .i64 0, .int .u64 0, .int .i64 0, .bool false] from rfl] at this
  simpa using this
theorem make_was (n : Nat) (hn : n ≤ 100000000) (w : World) : (Instr.makeSlice 54 (.int .i64 (n : Int)) (.int .i64 (n : Int))).run Tryd.prog w = .ok (.slice (some ⟨w.heap.size, 0, none⟩) n n) (w.alloc (.cells (madeCells #[.bool false] n) 4)) :=
  run_make_row' (P := Tryd.prog) 54 4 (.bool false) 1 (by kernel_rfl) info_bool rfl .i64 .i64 n (by omega) (by omega) w
theorem field_cfg0 (a b c d : Int) (w : World) : (Instr.field 31 (.agg #[.int .i64 a, .int .i64 b, .int .i64 c, .int .i64 d]) 0).run Tryd.prog w = .ok (.int .i64 a) w := by kernel_rfl
theorem StpS.len0 {x : Int} {k : Nat} {B : Bool} {a b c d : Int} {s s' : ES} {L L' : Nat → List Nat} {kind err : Nat} {som : Bool} {slt : Int} (h : StpS x k B a b c d s L kind err som slt s' L') (hk : kind = 0) (he : err = 0) : L' 1 = [] ∧ L' 2 = [] := by
  cases h with
  | new _ _ _ h => exact ⟨h.l1, h.l2⟩
  | _ => omega
theorem EffAt.cells {kind : Nat} {x : Int} {err : Nat} {s s' : ES} {i : Nat} {a1 a2 b1 b2 : Int} {a4 b4 : Bool} (h : EffAt kind x err s s' i) (e1 : enC s i 1 = .int .u64 a1) (e2 : enC s i 2 = .int .i64 a2) (e4 : lv s i = a4) (g1 : enC s' i 1 = .int .u64 b1) (g2 : enC s' i 2 = .int .i64 b2) (g4 : lv s' i = b4) :
    (a4 = true → 0 < a2 → b4 = true ∧ b1 = a1) ∧ (b4 = true → ¬ freshP kind x err i → a4 = true) ∧ (b4 = true → b2 = (if freshP kind x err i then 0 else a2) + dltP kind x err i) := by
  have el : ∀ t : ES, lv t i = true ↔ t.whr i ≠ 0 := fun t => by unfold lv; simp
  subst e4 g4
  simp only [enC, Value.int.injEq, true_and] at e1 e2 g1 g2
  refine ⟨fun h1 h2 => ?_, fun h1 h2 => ?_, fun h1 => ?_⟩
  · rw [if_pos h1] at e1 e2
    obtain ⟨k1, k2⟩ := h.stay ((el s).1 h1) (by omega)
    have k3 := (el s').2 k1
    rw [if_pos k3] at g1
    exact ⟨k3, by rw [← g1, ← e1, k2]⟩
  · exact (el s).2 (h.from_ ((el s').1 h1) h2)
  · have k1 := h.pins ((el s').1 h1)
    rw [if_pos h1] at g2
    by_cases hf : freshP kind x err i
    · rw [if_pos hf] at k1 ⊢
      omega
    · rw [if_neg hf] at k1 ⊢
      have k2 := (el s).2 (h.from_ ((el s').1 h1) hf)
      rw [if_pos k2] at e2
      omega
/-- The memory of a round: the operation, the entries before, the slots that were live. -/
structure PB (w0 : World) (r e gn gb : Nat) (s : ES) (L C : Nat → List Nat) (o : TOp) (t : ES) (ob bf wb j n : Nat) (w : World) : Prop where
  rs : RS w0 r e gn gb s L C w
  ko : Blk w ob 33 (opCells o)
  kf : Blk w bf 64 (bfL t j n)
  kw : Blk w wb 4 (wsL t j n)
  lbf : w0.heap.size ≤ bf
  lwb : w0.heap.size ≤ wb
section
variable {w0 : World} {r e gn gb : Nat} {s s' t : ES} {L C L' C' : Nat → List Nat} {o : TOp} {ob bf wb j n : Nat} {w w' : World}
theorem PB.below (h : PB w0 r e gn gb s L C o t ob bf wb j n w) (hb : Below w.heap.size w w') : PB w0 r e gn gb s L C o t ob bf wb j n w' := ⟨h.rs.below hb, h.ko.below hb, h.kf.below hb, h.kw.below hb, h.lbf, h.lwb⟩
/-- A store into a block of the round. -/
theorem RS.upd {g : Nat} {tt : TypeId} {cs : List Value} (h : RS w0 r e gn gb s L C w) (hg : Blk w g tt cs) (h1 : tt ≠ 44) (h2 : tt ≠ 84) (h3 : tt ≠ 86) (h4 : tt ≠ 21) (hl : w0.heap.size ≤ g) (hu : Upd g w w') : RS w0 r e gn gb s L C w' :=
  ⟨h.rb.upd hu (Ne.symm (hg.tne h.rb h1)), ⟨h.em.eb.upd hu (Ne.symm (hg.tne h.em.eb h2)), h.em.nb.upd hu (Ne.symm (hg.tne h.em.nb h3)), h.em.bb.upd hu (Ne.symm (hg.tne h.em.bb h4))⟩, h.ei, h.bel.trans (hu.below hl h.bel.size), h.lr, h.le, h.ln, h.lb⟩
theorem bfL_set (s : ES) {j n : Nat} (hj : j < n) : ((((bfL s j n).set (j * 4) (enC s j 0)).set (j * 4 + 1) (enC s j 1)).set (j * 4 + 2) (enC s j 2)).set (j * 4 + 3) (enC s j 3) = bfL s (j + 1) n := by
  unfold bfL
  rw [fnL_set _ (by omega), fnL_set _ (by omega), fnL_set _ (by omega), fnL_set _ (by omega)]
  refine fnL_ext fun c hc => ?_
  by_cases e : c / 4 = j
  · have hm : c % 4 = 0 ∨ c % 4 = 1 ∨ c % 4 = 2 ∨ c % 4 = 3 := by omega
    rw [if_pos (show c / 4 < j + 1 by omega), e]
    rcases hm with hm | hm | hm | hm
    · rw [if_neg (by omega), if_neg (by omega), if_neg (by omega), if_pos (by omega), hm]
    · rw [if_neg (by omega), if_neg (by omega), if_pos (by omega), hm]
    · rw [if_neg (by omega), if_pos (by omega), hm]
    · rw [if_pos (by omega), hm]
  · rw [if_neg (by omega), if_neg (by omega), if_neg (by omega), if_neg (by omega)]
    by_cases e2 : c / 4 < j
    · rw [if_pos e2, if_pos (by omega)]
    · rw [if_neg e2, if_neg (by omega)]
theorem wsL_set (s : ES) {j n : Nat} (hj : j < n) : (wsL s j n).set j (.bool (lv s j)) = wsL s (j + 1) n := by
  unfold wsL
  rw [fnL_set _ hj]
  refine fnL_ext fun c hc => ?_
  by_cases e : c = j
  · rw [if_pos e, if_pos (by omega), e]
  · rw [if_neg e]
    by_cases e2 : c < j
    · rw [if_pos e2, if_pos (by omega)]
    · rw [if_neg e2, if_neg (by omega)]
theorem bfL_len (s : ES) (j n : Nat) : (bfL s j n).length = n * 4 := by unfold bfL; rw [fnL_len]
theorem PB.put (h : PB w0 r e gn gb s L C o t ob bf wb j n w) (hj : j < n) : PB w0 r e gn gb s L C o t ob bf wb (j + 1) n (((((w.setCell ⟨bf, j * 4, none⟩ (enC t j 0)).setCell ⟨bf, j * 4 + 1, none⟩ (enC t j 1)).setCell ⟨bf, j * 4 + 2, none⟩ (enC t j 2)).setCell ⟨bf, j * 4 + 3, none⟩ (enC t j 3)).setCell ⟨wb, j, none⟩ (.bool (lv t j))) := by
  have hu : Upd bf w ((((w.setCell ⟨bf, j * 4, none⟩ (enC t j 0)).setCell ⟨bf, j * 4 + 1, none⟩ (enC t j 1)).setCell ⟨bf, j * 4 + 2, none⟩ (enC t j 2)).setCell ⟨bf, j * 4 + 3, none⟩ (enC t j 3)) := ((((Upd.refl bf w).setCell rfl _).setCell rfl _).setCell rfl _).setCell rfl _
  have b4 := (((h.kf.set (j * 4) (enC t j 0)).set (j * 4 + 1) (enC t j 1)).set (j * 4 + 2) (enC t j 2)).set (j * 4 + 3) (enC t j 3)
  rw [bfL_set t hj] at b4
  have r4 := h.rs.upd h.kf (by decide) (by decide) (by decide) (by decide) h.lbf hu
  have o4 := h.ko.upd hu (h.ko.tne h.kf (by decide))
  have w4 := h.kw.upd hu (h.kw.tne h.kf (by decide))
  generalize (((w.setCell ⟨bf, j * 4, none⟩ (enC t j 0)).setCell ⟨bf, j * 4 + 1, none⟩ (enC t j 1)).setCell ⟨bf, j * 4 + 2, none⟩ (enC t j 2)).setCell ⟨bf, j * 4 + 3, none⟩ (enC t j 3) = w5 at *
  have hu2 : Upd wb w5 (w5.setCell ⟨wb, j, none⟩ (.bool (lv t j))) := (Upd.refl wb w5).setCell rfl _
  have b5 := w4.set j (.bool (lv t j))
  rw [wsL_set t hj] at b5
  exact ⟨r4.upd w4 (by decide) (by decide) (by decide) (by decide) h.lwb hu2, o4.upd hu2 (o4.tne w4 (by decide)), b4.upd hu2 (b4.tne w4 (by decide)), b5, h.lbf, h.lwb⟩
theorem bfL_get (s : ES) {n i c : Nat} (hi : i < n) (hc : c < 4) : (bfL s n n)[i * 4 + c]? = some (enC s i c) := by
  unfold bfL
  rw [fnL_get _ (by omega), show (i * 4 + c) / 4 = i by omega, show (i * 4 + c) % 4 = c by omega, if_pos hi]
theorem wsL_get (s : ES) {n i : Nat} (hi : i < n) : (wsL s n n)[i]? = some (.bool (lv s i)) := by
  unfold wsL
  rw [fnL_get _ hi, if_pos hi]
theorem bfL_z (s : ES) {j n c : Nat} (hj : j < n) (hc : c < 4) : (bfL s j n)[j * 4 + c]? = some (zC c) := by
  unfold bfL
  rw [fnL_get _ (by omega), show (j * 4 + c) / 4 = j by omega, show (j * 4 + c) % 4 = c by omega, if_neg (by omega)]
theorem wsL_z (s : ES) {j n : Nat} (hj : j < n) : (wsL s j n)[j]? = some (.bool false) := by
  unfold wsL
  rw [fnL_get _ hj, if_neg (by omega)]
/-- The cells that a round of the first loop writes. -/
structure PutC (bf wb j : Nat) (a0 a1 a2 : Int) (a3 a4 : Bool) (w : World) : Prop where
  z0 : w.cell? ⟨bf, j * 4, none⟩ = some (.int .i64 0)
  z1 : (w.setCell ⟨bf, j * 4, none⟩ (.int .i64 a0)).cell? ⟨bf, j * 4 + 1, none⟩ = some (.int .u64 0)
  z2 : ((w.setCell ⟨bf, j * 4, none⟩ (.int .i64 a0)).setCell ⟨bf, j * 4 + 1, none⟩ (.int .u64 a1)).cell? ⟨bf, j * 4 + 2, none⟩ = some (.int .i64 0)
  z3 : (((w.setCell ⟨bf, j * 4, none⟩ (.int .i64 a0)).setCell ⟨bf, j * 4 + 1, none⟩ (.int .u64 a1)).setCell ⟨bf, j * 4 + 2, none⟩ (.int .i64 a2)).cell? ⟨bf, j * 4 + 3, none⟩ = some (.bool false)
  z4 : ((((w.setCell ⟨bf, j * 4, none⟩ (.int .i64 a0)).setCell ⟨bf, j * 4 + 1, none⟩ (.int .u64 a1)).setCell ⟨bf, j * 4 + 2, none⟩ (.int .i64 a2)).setCell ⟨bf, j * 4 + 3, none⟩ (.bool a3)).cell? ⟨wb, j, none⟩ = some (.bool false)
  f0 : w.frozen? ⟨bf, j * 4, none⟩ = false
  f1 : (w.setCell ⟨bf, j * 4, none⟩ (.int .i64 a0)).frozen? ⟨bf, j * 4 + 1, none⟩ = false
  f2 : ((w.setCell ⟨bf, j * 4, none⟩ (.int .i64 a0)).setCell ⟨bf, j * 4 + 1, none⟩ (.int .u64 a1)).frozen? ⟨bf, j * 4 + 2, none⟩ = false
  f3 : (((w.setCell ⟨bf, j * 4, none⟩ (.int .i64 a0)).setCell ⟨bf, j * 4 + 1, none⟩ (.int .u64 a1)).setCell ⟨bf, j * 4 + 2, none⟩ (.int .i64 a2)).frozen? ⟨bf, j * 4 + 3, none⟩ = false
  f4 : ((((w.setCell ⟨bf, j * 4, none⟩ (.int .i64 a0)).setCell ⟨bf, j * 4 + 1, none⟩ (.int .u64 a1)).setCell ⟨bf, j * 4 + 2, none⟩ (.int .i64 a2)).setCell ⟨bf, j * 4 + 3, none⟩ (.bool a3)).frozen? ⟨wb, j, none⟩ = false
theorem PB.putC (h : PB w0 r e gn gb s L C o t ob bf wb j n w) (hj : j < n) (a0 a1 a2 : Int) (a3 a4 : Bool) : PutC bf wb j a0 a1 a2 a3 a4 w := by
  have b0 := h.kf
  have b1 := b0.set (j * 4) (.int .i64 a0)
  have b2 := b1.set (j * 4 + 1) (.int .u64 a1)
  have b3 := b2.set (j * 4 + 2) (.int .i64 a2)
  have hne := h.kw.tne h.kf (by decide)
  have c4 := (((h.kw.setOther (p := ⟨bf, j * 4, none⟩) (Ne.symm hne) (.int .i64 a0)).setOther (p := ⟨bf, j * 4 + 1, none⟩) (Ne.symm hne) (.int .u64 a1)).setOther (p := ⟨bf, j * 4 + 2, none⟩) (Ne.symm hne) (.int .i64 a2)).setOther (p := ⟨bf, j * 4 + 3, none⟩) (Ne.symm hne) (.bool a3)
  refine ⟨?_, ?_, ?_, ?_, ?_, b0.frozen _, b1.frozen _, b2.frozen _, b3.frozen _, c4.frozen _⟩
  · rw [b0.cell]; exact bfL_z t hj (c := 0) (by omega)
  · rw [b1.cell, List.getElem?_set_ne (by omega)]; exact bfL_z t hj (c := 1) (by omega)
  · rw [b2.cell, List.getElem?_set_ne (by omega), List.getElem?_set_ne (by omega)]; exact bfL_z t hj (c := 2) (by omega)
  · rw [b3.cell, List.getElem?_set_ne (by omega), List.getElem?_set_ne (by omega), List.getElem?_set_ne (by omega)]; exact bfL_z t hj (c := 3) (by omega)
  · rw [c4.cell]; exact wsL_z t hj
/-- The round behind the step. -/
theorem PB.step (h : PB w0 r e gn gb s L C o t ob bf wb j n w) {e' gn' gb' : Nat} (hr : RS w0 r e' gn' gb' s' L' C' w') (hu : U4 r e gn gb w w') : PB w0 r e' gn' gb' s' L' C' o t ob bf wb j n w' :=
  ⟨hr, hu.blk h.ko (h.ko.tne h.rs.rb (by decide)) (h.ko.tne h.rs.em.eb (by decide)) (h.ko.tne h.rs.em.nb (by decide)) (h.ko.tne h.rs.em.bb (by decide)), hu.blk h.kf (h.kf.tne h.rs.rb (by decide)) (h.kf.tne h.rs.em.eb (by decide)) (h.kf.tne h.rs.em.nb (by decide)) (h.kf.tne h.rs.em.bb (by decide)), hu.blk h.kw (h.kw.tne h.rs.rb (by decide)) (h.kw.tne h.rs.em.eb (by decide)) (h.kw.tne h.rs.em.nb (by decide)) (h.kw.tne h.rs.em.bb (by decide)), h.lbf, h.lwb⟩
end
end Go.Proofs.Qxb6500892aDoor
