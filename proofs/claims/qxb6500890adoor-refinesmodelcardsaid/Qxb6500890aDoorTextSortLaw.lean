/- The law SortOrderedPermutation. -/
import Derived.Test.Qxb6500890aDoorTextStab
import Derived.WalkLawsBesides
namespace Go.Proofs.Qxb6500890aDoor
open Go.RowKit
set_option linter.unusedSimpArgs false
set_option linter.unusedVariables false

theorem Blk.row {w : World} {g n : Nat} {T : TypeId} {X : List ByteArray} (h : Blk w g T (X.map .string)) (hn : X.length = n) (hb : n ≤ 65536) : RowOf w 1 strCell (some ⟨g, 0, none⟩) n n X := by
  refine ⟨hn, Nat.le_refl _, ⟨by omega, by simp [maxLen]; omega, fun h => by cases h⟩, fun i hi => ⟨g, 0, rfl, h.lt, fun j hj => ?_⟩⟩
  obtain rfl : j = 0 := by omega
  rw [h.cell]
  simp [strCell, hi]

theorem str_ne {x s : ByteArray} (h : ¬ x = s) : (x.toList == s.toList) = false := by
  simp only [beq_eq_false_iff_ne, ByteArray.toList_eq]
  intro e
  exact h (ByteArray.ext (Array.toList_inj.1 e))

theorem bytesLess_cmp : ∀ a b : List UInt8, Op.bytesLess a b = decide (cmpL a b < 0)
  | [], [] => by simp [Op.bytesLess, cmpL]
  | [], _ :: _ => by simp [Op.bytesLess, cmpL]
  | _ :: _, [] => by simp [Op.bytesLess, cmpL]
  | x :: a, y :: b => by
    have ih := bytesLess_cmp a b
    have hlt : (x < y) ↔ x.toNat < y.toNat := UInt8.lt_iff_toNat_lt
    have hlt2 : (y < x) ↔ y.toNat < x.toNat := UInt8.lt_iff_toNat_lt
    by_cases h : x.toNat = y.toNat
    · have : x = y := UInt8.toNat_inj.1 h
      subst this
      simp [Op.bytesLess, cmpL, ih]
    · by_cases h2 : x.toNat < y.toNat
      · have : ¬ y < x := by rw [hlt2]; omega
        simp [Op.bytesLess, cmpL, h, h2, hlt, hlt2]
      · have : ¬ x = y := fun e => h (by rw [e])
        have h3 : y.toNat < x.toNat := by omega
        simp [Op.bytesLess, cmpL, h, h2, hlt, hlt2, h3, this]

theorem str_le {x y : ByteArray} (h : ltS y x = false) : (!(Op.bytesLess x.toList y.toList || x.toList == y.toList)) = false := by
  have e := cmp_neg y.data.toList x.data.toList
  have z := cmp_zero x.data.toList y.data.toList
  simp only [ltS, decide_eq_false_iff_not] at h
  rw [bytesLess_cmp, ByteArray.toList_eq, ByteArray.toList_eq]
  by_cases h1 : cmpL x.data.toList y.data.toList = 0
  · simp [z.1 h1]
  · have : cmpL x.data.toList y.data.toList < 0 := by omega
    simp [this]

theorem sort_adj {X : List ByteArray} {m : Nat} {x y : ByteArray} (hm : 1 ≤ m) (hx : (ssort ltS X)[m - 1]? = some x) (hy : (ssort ltS X)[m]? = some y) : ltS y x = false := by
  obtain ⟨i, rfl⟩ : ∃ i, m = i + 1 := ⟨m - 1, by omega⟩
  obtain ⟨h1, rfl⟩ := List.getElem?_eq_some_iff.1 hx
  obtain ⟨h2, rfl⟩ := List.getElem?_eq_some_iff.1 hy
  exact srt_get ltS_ord _ (ssort_srt ltS_ord X) i h2

theorem op_ln {l : List TOp} {k : Nat} {o : TOp} (h : l[k]? = some o) : o.ln ≤ opsW l ∧ o.rn ≤ opsW l := by
  have : opW o ≤ opsW l := by
    have hm := List.mem_of_getElem? h
    unfold opsW
    clear h
    induction l with
    | nil => cases hm
    | cons a l ih =>
      simp only [List.map_cons, List.sum_cons]
      rcases List.mem_cons.1 hm with rfl | h
      · omega
      · have := ih h; omega
  unfold opW at this
  omega

def cnt (s : ByteArray) (l : List ByteArray) : Nat := l.countP (fun x => decide (x = s))
theorem cnt_succ {s x : ByteArray} {l : List ByteArray} {k : Nat} (h : l[k]? = some x) : cnt s (l.take (k + 1)) = cnt s (l.take k) + if x = s then 1 else 0 := by
  rw [List.take_add_one, h]
  unfold cnt
  rw [List.countP_append]
  by_cases e : x = s <;> simp [e]
theorem cnt_le (s : ByteArray) (l : List ByteArray) : cnt s l ≤ l.length := List.countP_le_length

set_option maxRecDepth 100000 in
set_option maxHeartbeats 1000000 in
theorem copyStrings_walk (a : Option Addr) (n c : Nat) (X : List ByteArray) (w : World) (hr : RowOf w 1 strCell a n c X) (hn : n ≤ 65536) :
    Calls Tryd.prog 21 #[.slice a n c] w fun e w' => e = .returned (.slice (some ⟨w.heap.size, 0, none⟩) n n) ∧ Below w.heap.size w w' ∧ Blk w' w.heap.size 9 (X.map .string) := by
  have hmk := run_make_row' (P := Tryd.prog) 33 9 (.string ByteArray.empty) 16 (by kernel_rfl) info_str2 rfl .i64 .i64 n (by omega) (by omega)
  obtain ⟨i0, hi, hz0, hz1, hz2⟩ := info_parts info_str
  obtain ⟨wx, hwx⟩ : ∃ wx, (w.alloc (Obj.cells (madeCells #[Value.string ByteArray.empty] n) 9)) = wx := ⟨_, rfl⟩
  have hBx : Blk wx w.heap.size 9 ((List.replicate n ByteArray.empty).map .string) := by
    subst hwx
    have e := Blk.new w ((List.replicate n ByteArray.empty).map .string) 9
    rw [← made_str] at e
    exact e
  have hU : Below w.heap.size w wx := by subst hwx; exact Below.alloc (Below.refl _ _) (Nat.le_refl _) _
  have hrx := hr.below hU
  have hXl := hr.len
  obtain ⟨w6, hrun, hb6, hu6⟩ := run_copy_blk (P := Tryd.prog) wx 33 33 3 9 i0 1 Tryd.underlying33 hi hz1 (some ⟨w.heap.size, 0, none⟩) a n n n c w.heap.size 0 9 _ (X.map .string) hBx (by rw [List.length_map, hXl]; simp) (fun h0 => by
    have h0' : 0 < n := by simpa using h0
    obtain ⟨x, hx, b, off, rfl, hb, cx⟩ := hrx.cell1 h0'
    refine ⟨rfl, _, rfl, fun j v hv => ?_⟩
    have hj : j < n := by
      have := (List.getElem?_eq_some_iff.1 hv).1
      rw [List.length_map, hXl] at this
      exact this
    obtain ⟨y, hy, b2, off2, e2, _, cy⟩ := hrx.cell1 hj
    cases e2
    have : (⟨b, off, none⟩ : Addr).add j = ⟨b, off + j, none⟩ := by by_cases h0 : j = 0 <;> simp [Addr.add, h0]
    rw [this, cy, ← hv, List.getElem?_map, hy]
    rfl) (by simp [hXl]) (str_one _)
  have HB6 := hid hb6
  have HXl := hid hXl
  have HU6 : Hid (Below w.heap.size w w6) := hid (hU.trans (hu6.below (Nat.le_refl _) hU.size))
  rw [← hwx] at hrun
  clear hb6 hu6 hBx hU hrx hXl hwx hr
  go_enter Tryd.func21, Tryd.ntmps21
  go_wp2
  go_ret
  refine ⟨rfl, HU6.out, ?_⟩
  have e6 : splice ((List.replicate n ByteArray.empty).map Value.string) 0 (X.map Value.string) = X.map Value.string := by
    unfold splice
    rw [List.drop_of_length_le (by rw [List.length_map, List.length_map, List.length_replicate, HXl.out]; omega)]
    simp
  have h6 := HB6.out
  rw [e6] at h6
  exact h6

set_option maxRecDepth 100000 in
set_option maxHeartbeats 1000000 in
theorem sortStrings_walk (g n : Nat) (X : List ByteArray) (hX : X.length = n) (hn : n ≤ 65536) (hok : ∀ s ∈ X, s.size ≤ 140737488351232) (w : World) (hb : Blk w g 9 (X.map .string)) :
    Calls Tryd.prog 22 #[.slice (some ⟨g, 0, none⟩) n n] w fun e w' => e = .returned (.tuple #[]) ∧ Upd g w w' ∧ Blk w' g 9 ((ssort ltS X).map .string) := by
  have HB0 := hid hb
  have HOk := hid hok
  clear hb hok
  go_enter Tryd.func22, Tryd.ntmps22
  go_wp2_with fail
  refine (stable_walk g n X hX hn HOk.out _ HB0.out).mono ?_
  rintro e w1 ⟨rfl, hu1, hb1⟩
  have HU1 := hid hu1
  have HB1 := hid hb1
  clear hu1 hb1
  go_wp2
  go_end0
  exact ⟨rfl, HU1.out, HB1.out⟩

end Go.Proofs.Qxb6500890aDoor
