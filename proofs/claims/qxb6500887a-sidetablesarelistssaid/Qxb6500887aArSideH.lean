/- The side tables by the word's number. -/
import Derived.Test.Qxb6500887aArSideM
namespace Go.Proofs.Qxb6500887a
open Go.RowKit
set_option linter.unusedSimpArgs false
set_option linter.unusedVariables false
section
variable {w : World} {A tc bc tm bm tl bl : Nat} {cs ms ls : List Nat}
theorem even_x {h g : Nat} (e : h = 2 * g) : 65536 + (h : Int) = 65536 + 2 * (g : Int) := by omega
theorem count_h (ha : Ar w A tc bc tm bm tl bl cs ms ls) {h g : Nat} (v : Nat) (e : h = 2 * g) (hg : g < 16384) (hv : cs[g]? = some v) (hv3 : v ≤ 255) :
    Calls Try.prog 12 #[.pointer (some ⟨A, 0, none⟩), .int .u64 (65536 + (h : Int))] w fun e w' => e = .returned (.tuple #[.int .u8 (v : Int), .int .u8 0]) ∧ Drew w w' := by
  rw [even_x e]; exact count_at ha g v hg hv hv3
theorem marked_h (ha : Ar w A tc bc tm bm tl bl cs ms ls) {h g : Nat} (v : Nat) (e : h = 2 * g) (hg : g < 16384) (hv : ms[g]? = some v) :
    Calls Try.prog 15 #[.pointer (some ⟨A, 0, none⟩), .int .u64 (65536 + (h : Int))] w fun e w' => e = .returned (.tuple #[.bool (onB v), .int .u8 0]) ∧ Drew w w' := by
  rw [even_x e]; exact marked_at ha g v hg hv
theorem setCount_h (ha : Ar w A tc bc tm bm tl bl cs ms ls) {h g : Nat} (v : Nat) (e : h = 2 * g) (hg : g < 16384) (hv : v ≤ 3) :
    Calls Try.prog 13 #[.pointer (some ⟨A, 0, none⟩), .int .u64 (65536 + (h : Int)), .int .u8 (v : Int)] w fun e w' => e = .returned (.int .u8 0) ∧ ∃ wm, Upd A w wm ∧ Upd bc wm w' ∧ Ar w' A tc bc tm bm tl bl (cs.set g v) ms ls := by
  rw [even_x e]; exact setCount_at ha g v hg hv
theorem setCountBig_h {h g : Nat} (v : Int) (e : h = 2 * g) (hg : g < 16384) (hv : 3 < v) (w : World) (A : Nat) :
    Calls Try.prog 13 #[.pointer (some ⟨A, 0, none⟩), .int .u64 (65536 + (h : Int)), .int .u8 v] w fun e w' => e = .returned (.int .u8 3) ∧ w' = w := by
  rw [even_x e]; exact setCount_big g v hg hv w A
theorem setMarked_h (ha : Ar w A tc bc tm bm tl bl cs ms ls) {h g : Nat} (e : h = 2 * g) (hg : g < 16384) (on : Bool) :
    Calls Try.prog 16 #[.pointer (some ⟨A, 0, none⟩), .int .u64 (65536 + (h : Int)), .bool on] w fun e w' => e = .returned (.int .u8 0) ∧ ∃ wm, Upd A w wm ∧ Upd bm wm w' ∧ Ar w' A tc bc tm bm tl bl cs (ms.set g (if on then 1 else 0)) ls := by
  rw [even_x e]; exact setMarked_at ha g hg on
theorem wantO_even {h g : Nat} (e : h = 2 * g) (hg : g < 16384) : wantO (65536 + (h : Int)) = 0 := by
  unfold wantO
  rw [if_pos ⟨by omega, by omega⟩, if_pos (by omega)]
theorem wantO_odd {h : Nat} (e : h % 2 = 1) (hg : h < 32768) : wantO (65536 + (h : Int)) = 2 := by
  unfold wantO
  rw [if_pos ⟨by omega, by omega⟩, if_neg (by omega)]
theorem wantO_out {x : Int} (h : ¬ InH x) : wantO x = 1 := by unfold wantO; rw [if_neg h]
theorem wantW_out {x : Int} (h : ¬ InH x) : wantW x = 1 := by unfold wantW; rw [if_neg h]
theorem wantW_in {x : Int} (h : InH x) : wantW x = 0 := by unfold wantW; rw [if_pos h]
theorem wantWord_w (x : Int) (w : World) : Calls Try.prog 17 #[.int .u64 x] w fun e w' => e = .returned (.int .u8 (wantW x)) ∧ w' = w := wantWord_walk x w
theorem smallV_le {v : Nat} (h : v ≤ 3) : smallV (v : Int) = (v : Int) := by unfold smallV; rw [if_neg (by omega)]
theorem smallV_big {b : Int} (h : 3 < b) : 3 < smallV b := by unfold smallV; split <;> omega
end
end Go.Proofs.Qxb6500887a
