/- The law's own copy of the words. -/
import Derived.Test.Qxb6500888aBaQ4
namespace Go.Proofs.Qxb6500888a
open Go.RowKit
set_option linter.unusedSimpArgs false
set_option linter.unusedVariables false

theorem make_snap (w : World) : (Instr.makeSlice 53 (.int .i64 32768) (.int .i64 32768)).run Try.prog w = .ok (.slice (some ⟨w.heap.size, 0, none⟩) 32768 32768) (w.alloc (.cells (wdC fun _ => 0).toArray 48)) := by
  have h := run_make_row' (P := Try.prog) 53 48 (.int .u64 0) 8 Try.underlying53 (by kernel_rfl) rfl .i64 .i64 32768 (by omega) (by omega) w
  rw [made_1] at h
  exact h
attribute [local irreducible] wdC
set_option maxRecDepth 1000000 in
theorem newSnapshot_walk (w : World) : Calls Try.prog 21 #[] w fun e w' => e = .returned (.slice (some ⟨w.heap.size, 0, none⟩) 32768 32768) ∧ Blk w' w.heap.size 48 (wdC fun _ => 0) ∧ Below w.heap.size w w' := by
  have h2 := make_snap
  have HR : Hid (Blk (w.alloc (.cells (wdC fun _ => 0).toArray 48)) w.heap.size 48 (wdC fun _ => 0) ∧ Below w.heap.size w (w.alloc (.cells (wdC fun _ => 0).toArray 48))) := hid ⟨Blk.new w _ _, nbel w _⟩
  go_enter Try.func21, Try.ntmps21
  go_wp2
  clear h2
  generalize w.alloc (.cells (wdC fun _ => 0).toArray 48) = wx at HR ⊢
  go_ret
  exact ⟨rfl, HR.out⟩
theorem infoA1 : ∃ i, Try.prog.info? 48 = some i ∧ i.size = 1 := by
  have h : (Try.prog.info? 48).map (fun i => i.size) = some 1 := by kernel_rfl
  obtain ⟨i, hi, he⟩ := Option.map_eq_some_iff.1 h
  exact ⟨i, hi, he⟩
section
variable {w w' : World} {ρ ρ' : Rl} {L : GL} {G : GS} {atp : Nat → Nat} {sN : Nat}
theorem wdC_len (f : Nat → Nat) : (wdC f).length = 32768 := by unfold wdC; exact fnC_len _ _
theorem wdC_get (f : Nat → Nat) {i : Nat} (h : i < 32768) : (wdC f)[i]? = some (.int .u64 (f i : Int)) := by unfold wdC; exact fnC_get _ h
theorem wdC_one (f : Nat → Nat) : ∀ v ∈ wdC f, v.oneCell' = true := fun v hv => by
  unfold wdC fnC at hv
  obtain ⟨i, _, rfl⟩ := List.mem_map.1 hv
  rfl
theorem copy_snap (h : GM w ρ L G) (hs : Blk w sN 48 (wdC atp)) (ty : TypeId) : ∃ w', (Builtin.copy_ #[53, 34] ty #[.slice (some ⟨sN, 0, none⟩) 32768 32768, .slice (some ⟨L.wB, 0, none⟩) 32768 32768]).run Try.prog w = .ok (.int .i64 32768) w' ∧ Blk w' sN 48 (wdC G.word) ∧ Upd sN w w' := by
  obtain ⟨i, hi, hz⟩ := infoA1
  obtain ⟨w', h1, h2, h3⟩ := run_copy_blk (P := Try.prog) w 53 34 ty 48 i 1 Try.underlying53 hi hz (some ⟨sN, 0, none⟩) (some ⟨L.wB, 0, none⟩) 32768 32768 32768 32768 sN 0 48 (wdC atp) (wdC G.word) hs (by rw [wdC_len]; rfl) (fun _ => ⟨rfl, _, rfl, fun j v hj => by
    have hlt : j < 32768 := by
      have := (List.getElem?_eq_some_iff.1 hj).1
      rw [wdC_len] at this
      exact this
    rw [wdC_get _ hlt] at hj
    cases hj
    have := h.wcell hlt
    unfold Addr.add
    split
    · next e => subst e; exact this
    · rw [Nat.zero_add]; exact this⟩) (by rw [wdC_len, wdC_len]; omega) (wdC_one _)
  refine ⟨w', h1, ?_, h3⟩
  have e : splice (wdC atp) 0 (wdC G.word) = wdC G.word := by
    unfold splice
    rw [List.take_zero, List.nil_append, List.drop_of_length_le (by rw [wdC_len, wdC_len]; omega), List.append_nil]
  rw [e] at h2
  exact h2
set_option maxRecDepth 1000000 in
theorem take_walk (h : GM w ρ L G) (hs : Blk w sN 48 (wdC atp)) : Calls Try.prog 22 #[.slice (some ⟨sN, 0, none⟩) 32768 32768, .pointer (some ⟨L.hB, 0, none⟩)] w fun e w' => e = .returned (.tuple #[]) ∧ Blk w' sN 48 (wdC G.word) ∧ Upd sN w w' := by
  obtain ⟨w2, h1, h2, h3⟩ := copy_snap h hs 3
  have c1 := h.hcells.2.1
  have HR := hid (And.intro h2 h3)
  clear h hs h2 h3
  go_enter Try.func22, Try.ntmps22
  go_wp2
  exact bodyPost_end (v := .tuple #[]) (by simp [results, Try.results22, go_sem]) rfl ⟨rfl, HR.out⟩
set_option maxRecDepth 1000000 in
theorem at_walk (hs : Blk w sN 48 (wdC atp)) {a s : Nat} (ha : 65536 + s = a) (h : s < 32768) : Calls Try.prog 24 #[.slice (some ⟨sN, 0, none⟩) 32768 32768, .int .u64 (a : Int)] w fun e w' => e = .returned (.int .u64 (atp s : Int)) ∧ w' = w := by
  have c1 : w.cell? ⟨sN, s, none⟩ = some (.int .u64 (atp s : Int)) := by rw [hs.cell]; exact wdC_get _ h
  have h1 : (a : Int) - 65536 = (s : Int) := by omega
  have h2 : (s : Int) < 32768 := by omega
  generalize atp s = x at c1 ⊢
  clear hs ha h
  go_enter Try.func24, Try.ntmps24
  go_wp2
  go_ret
  exact ⟨rfl, rfl⟩
end
end Go.Proofs.Qxb6500888a
