/- Names as values. -/
import Derived.Test.Qxb6500891aPtCmp
import Derived.Test.Qxb6500891aBlk
import Derived.Test.Qxb6500891aRet
import Derived.Test.Qxb6500891aLast
namespace Go.Proofs.Qxb6500891a
open Go.RowKit
set_option linter.unusedSimpArgs false
set_option linter.unusedVariables false

/-- A name's cells: its size, its bytes, zeros. -/
def nameC (l : List Nat) : List Value := .int .u8 (l.length : Int) :: (l ++ List.replicate (32 - l.length) 0).map fun (x : Nat) => .int .u8 (x : Int)
def nameV (l : List Nat) : Value := .agg (nameC l).toArray
structure NmOk (l : List Nat) : Prop where
  le : l.length ≤ 32
  b : ∀ x ∈ l, x < 256
theorem nameC_len {l : List Nat} (h : l.length ≤ 32) : (nameC l).length = 33 := by simp [nameC]; omega
theorem nameC_0 (l : List Nat) : (nameC l)[0]? = some (.int .u8 (l.length : Int)) := rfl
theorem nameC_s (l : List Nat) {k x : Nat} (h : l[k]? = some x) : (nameC l)[k + 1]? = some (.int .u8 (x : Int)) := by
  have hk := (List.getElem?_eq_some_iff.1 h).1
  unfold nameC
  rw [List.getElem?_cons_succ, List.getElem?_map, List.getElem?_append_left hk, h]
  rfl
theorem nameRow {w : World} {g : Nat} {t : TypeId} {l : List Nat} (h : NmOk l) (hb : Blk w g t (nameC l)) : ByteRow w (some ⟨g, 1, none⟩) l.length 32 l := by
  refine ⟨⟨rfl, h.le, ⟨by have := h.le; omega, by simp [maxLen], fun e => by cases e⟩, fun i hi => ⟨g, 1, rfl, hb.lt, fun j hj => ?_⟩⟩, h.b⟩
  have hj0 : j = 0 := by omega
  subst hj0
  have hx : l[i]? = some l[i] := List.getElem?_eq_getElem hi
  rw [hb.cell, show 1 + i * 1 + 0 = i + 1 by omega, nameC_s l hx]
  rfl

theorem nums_eq {l1 l2 : List Nat} (h1 : ∀ b ∈ l1, b < 256) (h2 : ∀ b ∈ l2, b < 256) : ((strOfNums (l1.map Int.ofNat)).toList == (strOfNums (l2.map Int.ofNat)).toList) = decide (l1 = l2) := by
  rw [ByteArray.toList_eq, ByteArray.toList_eq, strOfNums_data, strOfNums_data, List.map_map, List.map_map, Bool.eq_iff_iff, beq_iff_eq, decide_eq_true_iff]
  constructor
  · intro h
    have h3 := congrArg (List.map UInt8.toNat) h
    rw [List.map_map, List.map_map] at h3
    have e : ∀ l : List Nat, (∀ b ∈ l, b < 256) → l.map (UInt8.toNat ∘ ((fun n => UInt8.ofNat n.toNat) ∘ Int.ofNat)) = l := fun l hl => by
      conv => rhs; rw [← List.map_id l]
      apply List.map_congr_left
      intro b hb
      have := hl b hb
      simp [Nat.mod_eq_of_lt this]
    rw [e l1 h1, e l2 h2] at h3
    exact h3
  · rintro rfl; rfl

theorem ByteRow.str {w : World} {a : Option Addr} {n c : Nat} {l : List Nat} (h : ByteRow w a n c l) : (convert 26 9 (.slice a n c)).run Try.prog w = .ok (.string (strOfNums (l.map Int.ofNat))) w := by
  cases a with
  | none =>
    have hl : l = [] := List.eq_nil_of_length_eq_zero (by rw [h.1.len]; exact (h.1.nil rfl).1)
    subst hl
    exact run_convert_bytes_nil (P := Try.prog) w 26 5 Try.underlying26 Try.underlying5 n c 9 Try.underlying9
  | some ad =>
    by_cases h0 : n = 0
    · have hl : l = [] := List.eq_nil_of_length_eq_zero (by rw [h.1.len]; exact h0)
      subst hl h0
      rw [run_convert_bytes_string w _ _ _ _ _ _ Try.underlying26 Try.underlying5 Try.underlying9, run_bytesToString w _ 0 c [] (by simpa using run_loadCells_list (P := Try.prog) w ad [] (by simp)), foldl_push_bytes]
      simp [strOfNums, ByteArray.empty, ByteArray.emptyWithCapacity]
      rfl
    · obtain ⟨x, _, _, b, off, e, _, _⟩ := h.get (show 0 < n by omega)
      cases e
      exact run_convert_bytes_arg (P := Try.prog) w 26 5 Try.underlying26 Try.underlying5 b off n c (l.map Int.ofNat) (by rw [List.length_map, h.1.len]) (fun i hi => by
        obtain ⟨y, hy, _, b', off', e, _, cy⟩ := h.get hi
        cases e
        rw [cy, List.getD_eq_getElem?_getD, List.getElem?_map, hy]
        rfl) 9 Try.underlying9
theorem slice_h (ad : Addr) (n : Nat) (hn : n ≤ 32) (w : World) : (Instr.sliceAt 34 (.pointer (some ad)) none (some (.int .u8 (n : Int))) none).run Try.prog w = .ok (.slice (some ad) n 32) w := by
  have hal : Try.prog.arrayLen 34 = 32 := by kernel_rfl
  rw [run_sliceAt_array_h w 34 ad (by kernel_rfl) .u8 (n : Int) (by omega) (by rw [hal]; omega)]
  simp [slicedAt, hal, go_sem, Addr.add]
theorem slice_all (ad : Addr) (w : World) : (Instr.sliceAt 34 (.pointer (some ad)) none none none).run Try.prog w = .ok (.slice (some ad) 32 32) w := by
  have hal : Try.prog.arrayLen 34 = 32 := by kernel_rfl
  rw [run_sliceAt_array_all w 34 ad (by kernel_rfl)]
  simp [slicedAt, hal, go_sem, Addr.add]
theorem nbel (w : World) (o : Obj) : Below w.heap.size w (w.alloc o) := Below.alloc (Below.refl _ _) (Nat.le_refl _) _
set_option maxRecDepth 100000 in
theorem nmLen_walk (l : List Nat) (h : NmOk l) (w : World) :
    Calls Try.prog 25 #[nameV l] w fun e w' => e = .returned (.int .i64 (l.length : Int)) ∧ Below w.heap.size w w' := by
  have hle := h.le
  have HB := hid (Blk.new w (nameC l) 36)
  have c0 : (w.alloc (.cells (nameC l).toArray 36)).cell? ⟨w.heap.size, 0, none⟩ = some (.int .u8 (l.length : Int)) := HB.out.cell 0
  unfold nameV
  generalize nameC l = C at *
  go_enter Try.func25, Try.ntmps25
  go_wp2
  go_ret
  exact ⟨rfl, nbel _ _⟩
set_option maxRecDepth 100000 in
theorem nmEmpty_walk (l : List Nat) (h : NmOk l) (h1 : 1 ≤ l.length) (w : World) :
    Calls Try.prog 26 #[nameV l] w fun e w' => e = .returned (.bool false) ∧ Below w.heap.size w w' := by
  have hle := h.le
  have HB := hid (Blk.new w (nameC l) 36)
  have c0 : (w.alloc (.cells (nameC l).toArray 36)).cell? ⟨w.heap.size, 0, none⟩ = some (.int .u8 (l.length : Int)) := HB.out.cell 0
  have d : (((l.length : Nat) : Int) == 0) = false := by simp; intro e; rw [e] at h1; simp at h1
  unfold nameV
  generalize nameC l = C at *
  go_enter Try.func26, Try.ntmps26
  go_wp2
  go_ret
  exact ⟨by first | rfl | (rw [d]) | simp [d], nbel _ _⟩
set_option maxRecDepth 100000 in
theorem nmHash_walk (l : List Nat) (h : NmOk l) (w : World) :
    Calls Try.prog 23 #[nameV l] w fun e w' => e = .returned (.int .u32 (hashL 2166136261 l)) ∧ Below w.heap.size w w' := by
  have hle := h.le
  have HB := hid (Blk.new w (nameC l) 36)
  have HH := hid (hashBytes_walk _ _ _ l _ (nameRow h HB.out))
  have hsl := fun w' => slice_h ⟨w.heap.size, 1, none⟩ l.length hle w'
  have c0 : (w.alloc (.cells (nameC l).toArray 36)).cell? ⟨w.heap.size, 0, none⟩ = some (.int .u8 (l.length : Int)) := HB.out.cell 0
  generalize hashL 2166136261 l = H at *
  unfold nameV
  generalize nameC l = C at *
  clear h
  go_enter Try.func23, Try.ntmps23
  go_wp2_with fail
  refine (HH.out).mono ?_
  rintro e w1 ⟨rfl, rfl⟩
  go_wp2
  go_ret
  exact ⟨rfl, nbel _ _⟩
def strL (l : List Nat) : ByteArray := strOfNums (l.map Int.ofNat)
set_option maxRecDepth 100000 in
theorem nmString_walk (l : List Nat) (h : NmOk l) (w : World) :
    Calls Try.prog 21 #[nameV l] w fun e w' => e = .returned (.string (strL l)) ∧ Below w.heap.size w w' := by
  have hle := h.le
  have HB := hid (Blk.new w (nameC l) 36)
  have hcv := (nameRow h HB.out).str
  have hsl := fun w' => slice_h ⟨w.heap.size, 1, none⟩ l.length hle w'
  have c0 : (w.alloc (.cells (nameC l).toArray 36)).cell? ⟨w.heap.size, 0, none⟩ = some (.int .u8 (l.length : Int)) := HB.out.cell 0
  have hs : strOfNums (l.map Int.ofNat) = strL l := rfl
  rw [hs] at hcv
  generalize strL l = S at *
  unfold nameV
  generalize nameC l = C at *
  clear h hs
  go_enter Try.func21, Try.ntmps21
  go_wp2
  go_ret
  exact ⟨rfl, nbel _ _⟩
end Go.Proofs.Qxb6500891a
