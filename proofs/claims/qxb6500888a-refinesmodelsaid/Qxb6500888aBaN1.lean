/- The law's world made: arenam.New. -/
import Derived.Test.Qxb6500888aBaV2
import Derived.Deep.OwnRows
namespace Go.Proofs.Qxb6500888a
open Go.RowKit
set_option linter.unusedSimpArgs false
set_option linter.unusedVariables false

theorem made_1 (v : Value) (n : Nat) : madeCells #[v] n = (fnC n fun _ => v).toArray := by
  apply Array.ext'
  apply List.ext_getElem
  · have := size_madeCells #[v] n
    simp [fnC]
    simpa using this
  · intro i h1 h2
    simp [madeCells, Nat.mod_one, fnC]
theorem make_bit (w : World) : (Instr.makeSlice 64 (.int .i64 32768) (.int .i64 32768)).run Try.prog w = .ok (.slice (some ⟨w.heap.size, 0, none⟩) 32768 32768) (w.alloc (.cells (bitC fun _ => false).toArray 4)) := by
  have h := run_make_row' (P := Try.prog) 64 4 (.bool false) 1 Try.underlying64 (by kernel_rfl) rfl .i64 .i64 32768 (by omega) (by omega) w
  rw [made_1] at h
  exact h
theorem make_wd (w : World) : (Instr.makeSlice 34 (.int .i64 32768) (.int .i64 32768)).run Try.prog w = .ok (.slice (some ⟨w.heap.size, 0, none⟩) 32768 32768) (w.alloc (.cells (wdC fun _ => 0).toArray 48)) := by
  have h := run_make_row' (P := Try.prog) 34 48 (.int .u64 0) 8 Try.underlying34 (by kernel_rfl) rfl .i64 .i64 32768 (by omega) (by omega) w
  rw [made_1] at h
  exact h
attribute [local irreducible] bitC wdC
/-- A new heap. -/
structure HNew (w : World) (hB mH wB lB : Nat) (w' : World) : Prop where
  hb : Blk w' hB 66 [.map (some mH), .slice (some ⟨wB, 0, none⟩) 32768 32768, .slice (some ⟨lB, 0, none⟩) 32768 32768]
  mh : MF w' mH (fun _ => none)
  wb : Blk w' wB 48 (wdC fun _ => 0)
  lb : Blk w' lB 4 (bitC fun _ => false)
  be : Below w.heap.size w w'
  g1 : w.heap.size ≤ hB ∧ w.heap.size ≤ mH ∧ w.heap.size ≤ wB ∧ w.heap.size ≤ lB
  df : hB ≠ mH ∧ hB ≠ wB ∧ hB ≠ lB ∧ mH ≠ wB ∧ mH ≠ lB ∧ wB ≠ lB
theorem heap4 (w : World) {n : Nat} (hn : w.heap.size = n) (o1 o2 o3 o4 : Obj) : ((((w.alloc o1).alloc o2).alloc o3).alloc o4).drew.heap[n]? = some o1 ∧ ((((w.alloc o1).alloc o2).alloc o3).alloc o4).drew.heap[n + 1]? = some o2 ∧ ((((w.alloc o1).alloc o2).alloc o3).alloc o4).drew.heap[n + 1 + 1]? = some o3 ∧ ((((w.alloc o1).alloc o2).alloc o3).alloc o4).drew.heap[n + 1 + 1 + 1]? = some o4 ∧ Below w.heap.size w ((((w.alloc o1).alloc o2).alloc o3).alloc o4).drew := by
  have s1 : (w.alloc o1).heap.size = n + 1 := by simp [hn]
  have s2 : ((w.alloc o1).alloc o2).heap.size = n + 1 + 1 := by simp [hn]
  have s3 : (((w.alloc o1).alloc o2).alloc o3).heap.size = n + 1 + 1 + 1 := by simp [hn]
  have a1 : (w.alloc o1).heap[n]? = some o1 := by rw [← hn]; exact (MapKept.heap_alloc w _).1
  have a2 : ((w.alloc o1).alloc o2).heap[n + 1]? = some o2 := by rw [← s1]; exact (MapKept.heap_alloc _ _).1
  have a3 : (((w.alloc o1).alloc o2).alloc o3).heap[n + 1 + 1]? = some o3 := by rw [← s2]; exact (MapKept.heap_alloc _ _).1
  have a4 : ((((w.alloc o1).alloc o2).alloc o3).alloc o4).heap[n + 1 + 1 + 1]? = some o4 := by rw [← s3]; exact (MapKept.heap_alloc _ _).1
  refine ⟨?_, ?_, ?_, a4, ?_⟩
  · show ((((w.alloc o1).alloc o2).alloc o3).alloc o4).heap[n]? = _
    rw [Below.heap_alloc _ _ _ (by omega), Below.heap_alloc _ _ _ (by omega), Below.heap_alloc _ _ _ (by omega), a1]
  · show ((((w.alloc o1).alloc o2).alloc o3).alloc o4).heap[n + 1]? = _
    rw [Below.heap_alloc _ _ _ (by omega), Below.heap_alloc _ _ _ (by omega), a2]
  · show ((((w.alloc o1).alloc o2).alloc o3).alloc o4).heap[n + 1 + 1]? = _
    rw [Below.heap_alloc _ _ _ (by omega), a3]
  · have b1 := nbel w o1
    have b2 := b1.trans ((nbel (w.alloc o1) o2).mono b1.size)
    have b3 := b2.trans ((nbel ((w.alloc o1).alloc o2) o3).mono b2.size)
    have b4 := b3.trans ((nbel (((w.alloc o1).alloc o2).alloc o3) o4).mono b3.size)
    exact b4.trans (Drew.below ⟨1, rfl⟩ _)
theorem MF.empty {w : World} {m : Nat} (h : w.heap[m]? = some (.map #[] 0)) : MF w m (fun _ => none) := ⟨[], ⟨0, by simpa using h, ⟨by simp, by simp, fun e he => by cases he⟩⟩, fun (e : Ent) (he : e ∈ ([] : List Ent)) => by simp at he, fun (a : Nat) (v : Value) (h : none = some v) => by simp at h⟩
theorem HNew.of (w : World) {n : Nat} (hn : w.heap.size = n) {o1 o2 o3 : Obj} {mH wB lB : Nat} (hm : (mH = n ∧ o1 = .map #[] 0) ∨ (mH = n + 1 ∧ o2 = .map #[] 0) ∨ (mH = n + 1 + 1 ∧ o3 = .map #[] 0))
    (hw : (wB = n ∧ o1 = .cells (wdC fun _ => 0).toArray 48) ∨ (wB = n + 1 ∧ o2 = .cells (wdC fun _ => 0).toArray 48) ∨ (wB = n + 1 + 1 ∧ o3 = .cells (wdC fun _ => 0).toArray 48))
    (hl : (lB = n ∧ o1 = .cells (bitC fun _ => false).toArray 4) ∨ (lB = n + 1 ∧ o2 = .cells (bitC fun _ => false).toArray 4) ∨ (lB = n + 1 + 1 ∧ o3 = .cells (bitC fun _ => false).toArray 4)) (hd : mH ≠ wB ∧ mH ≠ lB ∧ wB ≠ lB) :
    HNew w (n + 1 + 1 + 1) mH wB lB ((((w.alloc o1).alloc o2).alloc o3).alloc (.cells #[.map (some mH), .slice (some ⟨wB, 0, none⟩) 32768 32768, .slice (some ⟨lB, 0, none⟩) 32768 32768] 66)).drew := by
  obtain ⟨a1, a2, a3, a4, b⟩ := heap4 w hn o1 o2 o3 (.cells #[.map (some mH), .slice (some ⟨wB, 0, none⟩) 32768 32768, .slice (some ⟨lB, 0, none⟩) 32768 32768] 66)
  generalize ((((w.alloc o1).alloc o2).alloc o3).alloc (.cells #[.map (some mH), .slice (some ⟨wB, 0, none⟩) 32768 32768, .slice (some ⟨lB, 0, none⟩) 32768 32768] 66)).drew = w' at a1 a2 a3 a4 b
  refine ⟨a4, MF.empty ?_, ?_, ?_, b, by omega, by omega⟩
  · rcases hm with ⟨e1, e2⟩ | ⟨e1, e2⟩ | ⟨e1, e2⟩
    · rw [e1, a1, e2]
    · rw [e1, a2, e2]
    · rw [e1, a3, e2]
  · unfold Blk
    rcases hw with ⟨e1, e2⟩ | ⟨e1, e2⟩ | ⟨e1, e2⟩
    · rw [e1, a1, e2]
    · rw [e1, a2, e2]
    · rw [e1, a3, e2]
  · unfold Blk
    rcases hl with ⟨e1, e2⟩ | ⟨e1, e2⟩ | ⟨e1, e2⟩
    · rw [e1, a1, e2]
    · rw [e1, a2, e2]
    · rw [e1, a3, e2]
def AnP (w : World) (e : Ending) (w' : World) : Prop := ∃ hB mH wB lB, e = .returned (.pointer (some ⟨hB, 0, none⟩)) ∧ HNew w hB mH wB lB w'
set_option maxRecDepth 1000000 in
set_option maxHeartbeats 4000000 in
theorem aNew_walk (w : World) : Calls Try.prog 39 #[] w fun e w' => AnP w e w' := by
  have h1 := make_bit
  have h2 := make_wd
  have hmk := @run_makeMap Try.prog
  obtain ⟨n, hn⟩ : ∃ n, w.heap.size = n := ⟨_, rfl⟩
  have Hn := hid hn
  go_enter Try.func39, Try.ntmps39
  go_upto_region 1 with fail
  go_region
  all_goals go_wp2
  all_goals clear h1 h2 hmk hn
  all_goals
    refine bodyPost_ret (v := .pointer (some ⟨n + 1 + 1 + 1, 0, none⟩)) (by simp [results, Try.results39, go_sem]) rfl ?_
    unfold AnP
    first
    | exact ⟨_, n, n + 1, n + 1 + 1, rfl, HNew.of w Hn.out (.inl ⟨rfl, rfl⟩) (.inr (.inl ⟨rfl, rfl⟩)) (.inr (.inr ⟨rfl, rfl⟩)) (by omega)⟩
    | exact ⟨_, n, n + 1 + 1, n + 1, rfl, HNew.of w Hn.out (.inl ⟨rfl, rfl⟩) (.inr (.inr ⟨rfl, rfl⟩)) (.inr (.inl ⟨rfl, rfl⟩)) (by omega)⟩
    | exact ⟨_, n + 1, n, n + 1 + 1, rfl, HNew.of w Hn.out (.inr (.inl ⟨rfl, rfl⟩)) (.inl ⟨rfl, rfl⟩) (.inr (.inr ⟨rfl, rfl⟩)) (by omega)⟩
    | exact ⟨_, n + 1, n + 1 + 1, n, rfl, HNew.of w Hn.out (.inr (.inl ⟨rfl, rfl⟩)) (.inr (.inr ⟨rfl, rfl⟩)) (.inl ⟨rfl, rfl⟩) (by omega)⟩
    | exact ⟨_, n + 1 + 1, n, n + 1, rfl, HNew.of w Hn.out (.inr (.inr ⟨rfl, rfl⟩)) (.inl ⟨rfl, rfl⟩) (.inr (.inl ⟨rfl, rfl⟩)) (by omega)⟩
    | exact ⟨_, n + 1 + 1, n + 1, n, rfl, HNew.of w Hn.out (.inr (.inr ⟨rfl, rfl⟩)) (.inr (.inl ⟨rfl, rfl⟩)) (.inl ⟨rfl, rfl⟩) (by omega)⟩
set_option maxRecDepth 1000000 in
set_option maxHeartbeats 4000000 in
theorem sNew_walk (w : World) : Calls Try.prog 40 #[] w fun e w' => e = .returned (.pointer (some ⟨w.heap.size + 1, 0, none⟩)) ∧ Blk w' (w.heap.size + 1) 80 [.slice (some ⟨w.heap.size, 0, none⟩) 32768 32768] ∧ Blk w' w.heap.size 4 (bitC fun _ => false) ∧ Below w.heap.size w w' ∧ w'.heap.size = w.heap.size + 2 := by
  have h1 := make_bit
  obtain ⟨n, hn⟩ : ∃ n, w.heap.size = n := ⟨_, rfl⟩
  rw [hn]
  have HR : Hid (∀ w', (w.alloc (.cells (bitC fun _ => false).toArray 4)).alloc (.cells #[.slice (some ⟨n, 0, none⟩) 32768 32768] 80) = w' → Blk w' (n + 1) 80 [.slice (some ⟨n, 0, none⟩) 32768 32768] ∧ Blk w' n 4 (bitC fun _ => false) ∧ Below n w w' ∧ w'.heap.size = n + 2) := hid (by
    rintro w' rfl
    have s1 : (w.alloc (.cells (bitC fun _ => false).toArray 4)).heap.size = n + 1 := by simp [hn]
    have b1 := nbel w (.cells (bitC fun _ => false).toArray 4)
    rw [hn] at b1
    refine ⟨?_, ?_, b1.trans ((nbel _ _).mono (by omega)), by simp [hn]⟩
    · rw [← s1]; exact Blk.new _ [.slice (some ⟨n, 0, none⟩) 32768 32768] _
    · refine Blk.alloc ?_ _
      rw [← hn]
      exact Blk.new w (bitC fun _ => false) _)
  have Hn := hid hn
  go_enter Try.func40, Try.ntmps40
  go_wp2
  exact bodyPost_ret (v := .pointer (some ⟨n + 1, 0, none⟩)) (by simp [results, Try.results40, go_sem]) rfl ⟨rfl, HR.out _ rfl⟩
set_option maxRecDepth 1000000 in
set_option maxHeartbeats 4000000 in
theorem cNew_walk (hB sB : Nat) (w : World) : Calls Try.prog 41 #[.pointer (some ⟨hB, 0, none⟩), .pointer (some ⟨sB, 0, none⟩)] w fun e w' => e = .returned (.pointer (some ⟨w.heap.size + 2, 0, none⟩)) ∧ Blk w' (w.heap.size + 2) 76 [.pointer (some ⟨hB, 0, none⟩), .pointer (some ⟨sB, 0, none⟩), .map (some w.heap.size), .map (some (w.heap.size + 1)), .slice none 0 0, .slice none 0 0, .int .i64 0] ∧ MF w' w.heap.size (fun _ => none) ∧ MF w' (w.heap.size + 1) (fun _ => none) ∧ Below w.heap.size w w' ∧ w'.heap.size = w.heap.size + 3 := by
  have hmk := @run_makeMap Try.prog
  obtain ⟨n, hn⟩ : ∃ n, w.heap.size = n := ⟨_, rfl⟩
  rw [hn]
  have HR : Hid (∀ w', ((w.alloc (.map #[] 0)).alloc (.map #[] 0)).alloc (.cells #[.pointer (some ⟨hB, 0, none⟩), .pointer (some ⟨sB, 0, none⟩), .map (some n), .map (some (n + 1)), .slice none 0 0, .slice none 0 0, .int .i64 0] 76) = w' → Blk w' (n + 2) 76 [.pointer (some ⟨hB, 0, none⟩), .pointer (some ⟨sB, 0, none⟩), .map (some n), .map (some (n + 1)), .slice none 0 0, .slice none 0 0, .int .i64 0] ∧ MF w' n (fun _ => none) ∧ MF w' (n + 1) (fun _ => none) ∧ Below n w w' ∧ w'.heap.size = n + 3) := hid (by
    rintro w' rfl
    have s1 : (w.alloc (.map #[] 0)).heap.size = n + 1 := by simp [hn]
    have s2 : ((w.alloc (.map #[] 0)).alloc (.map #[] 0)).heap.size = n + 2 := by simp [hn]
    have b1 := nbel w (.map #[] 0)
    rw [hn] at b1
    have b2 := b1.trans ((nbel (w.alloc (.map #[] 0)) (.map #[] 0)).mono (by omega))
    refine ⟨?_, MF.empty ?_, MF.empty ?_, b2.trans ((nbel _ _).mono (by omega)), by simp [hn]⟩
    · rw [← s2]; exact Blk.new _ [.pointer (some ⟨hB, 0, none⟩), .pointer (some ⟨sB, 0, none⟩), .map (some n), .map (some (n + 1)), .slice none 0 0, .slice none 0 0, .int .i64 0] _
    · rw [Below.heap_alloc _ _ _ (by omega), Below.heap_alloc _ _ _ (by omega), ← hn]
      exact (MapKept.heap_alloc w _).1
    · rw [Below.heap_alloc _ _ _ (by omega), ← s1]
      exact (MapKept.heap_alloc _ _).1)
  go_enter Try.func41, Try.ntmps41
  go_wp2
  exact bodyPost_ret (v := .pointer (some ⟨n + 2, 0, none⟩)) (by simp [results, Try.results41, go_sem]) rfl ⟨rfl, HR.out _ rfl⟩
end Go.Proofs.Qxb6500888a
