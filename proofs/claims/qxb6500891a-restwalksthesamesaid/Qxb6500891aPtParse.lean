/- Parse, Len, Span, At. -/
import Derived.Test.Qxb6500891aPtSet
namespace Go.Proofs.Qxb6500891a
open Go.RowKit
set_option linter.unusedSimpArgs false
set_option linter.unusedVariables false

set_option maxRecDepth 1000000 in
set_option maxHeartbeats 2000000 in
theorem pathLen_walk (g o : Nat) (t : TypeId) (cs : List Value) (l : List Nat) (sp : List Sp) (w : World) (hb : Blk w g t cs) (hp : PathOk cs o l sp) :
    Calls Try.prog 14 #[.pointer (some ⟨g, o, none⟩)] w fun e w' => e = .returned (.int .i64 (sp.length : Int)) ∧ w' = w := by
  have c256 : w.cell? ⟨g, o + 256, none⟩ = some (.int .i64 (sp.length : Int)) := by rw [hb.cell]; exact hp.ct
  clear hb hp
  go_enter Try.func14, Try.ntmps14
  go_wp2
  go_ret
  exact ⟨rfl, rfl⟩

def zPath : List Value := List.replicate 255 (.int .u8 0) ++ [.int .i64 0, .int .i64 0] ++ (List.replicate 128 [Value.int .u8 0, .int .u8 0, .int .u8 0, .bool false, .int .u32 0]).flatten
theorem zPath_len : zPath.length = 897 := by kernel_rfl
set_option maxRecDepth 1000000 in
theorem zero_path (w : World) : (zeroValue 63).run Try.prog w = .ok (.agg zPath.toArray) w := by kernel_rfl
attribute [local irreducible] zPath
set_option maxRecDepth 1000000 in
set_option maxHeartbeats 2000000 in
theorem parse_walk (a : Option Addr) (n c : Nat) (l : List Nat) (w : World) (hr : ByteRow w a n c l) :
    Calls Try.prog 10 #[.slice a n c] w fun e w' => Below w.heap.size w w' ∧ ((∃ code : Int, code ≠ 0 ∧ e = .returned (.tuple #[.pointer none, .int .u8 code])) ∨
      (∃ g ds sp, w.heap.size ≤ g ∧ e = .returned (.tuple #[.pointer (some ⟨g, 0, none⟩), .int .u8 0]) ∧ Blk w' g 63 ds ∧ PathOk ds 0 l sp)) := by
  have HR := hid hr
  clear hr
  go_enter Try.func10, Try.ntmps10
  have hz := zero_path
  have hl0 := zPath_len
  have HB := hid (Blk.new w zPath 63)
  generalize zPath = Z at *
  have HSet := hid (pathSet_walk w.heap.size 0 63 Z a n c l _ HB.out (by omega) (HR.out.below (nbel w _)) (fun hn b off e => by
    obtain ⟨x, _, _, b', off', e', hb', _⟩ := HR.out.get hn
    rw [e] at e'
    cases e'
    omega))
  go_wp2_with fail
  refine (HSet.out).mono ?_
  rintro e w1 ⟨code, rfl, hu, ⟨ds, hds, hsame, hok, hbad⟩, _⟩
  have HBl : Hid (Below w.heap.size w w1) := hid ((nbel w _).trans (hu.below (Nat.le_refl _) (by simp)))
  have HDS := hid hds
  have HOK := hid hok
  clear HSet hu hds hsame hok hbad hz
  by_cases hc : code = 0
  · subst hc
    obtain ⟨sp, hsp⟩ := HOK.out rfl
    go_wp2
    exact bodyPost_ret (v := .tuple #[.pointer (some ⟨w.heap.size, 0, none⟩), .int .u8 0]) (by simp [results, Try.results10, go_sem]) rfl ⟨HBl.out, .inr ⟨w.heap.size, ds, sp, Nat.le_refl _, rfl, HDS.out, hsp⟩⟩
  · have dc : (code != 0) = true := by simpa using hc
    go_wp2
    exact bodyPost_ret (v := .tuple #[.pointer none, .int .u8 code]) (by simp [results, Try.results10, go_sem]) rfl ⟨HBl.out, .inl ⟨code, hc, rfl⟩⟩
end Go.Proofs.Qxb6500891a
