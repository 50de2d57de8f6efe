/- number, refuse, answer, Stats. -/
import Derived.Test.Qxb6500889aDoorMuX8
import Derived.Test.Qxb6500889aDoorRet
import Derived.Test.Qxb6500889aDoorMid
namespace Go.Proofs.Qxb6500889aDoor
open Go.RowKit
set_option linter.unusedSimpArgs false
set_option linter.unusedVariables false

/-- What a step answers. -/
structure Rz where
  c : Nat
  v : Nat
  a : Nat
  b : Nat
  d : Nat
  e : Nat
  h : Nat
  r : Nat
def stC (z : Rz) : List Value := [.int .u64 (z.a : Int), .int .u64 (z.b : Int), .int .u64 (z.d : Int), .int .u64 (z.e : Int), .int .i64 (z.h : Int), .int .i64 (z.r : Int)]
def rzC (z : Rz) : List Value := [.int .u8 (z.c : Int), .int .u64 (z.v : Int), .int .u64 (z.a : Int), .int .u64 (z.b : Int), .int .u64 (z.d : Int), .int .u64 (z.e : Int), .int .i64 (z.h : Int), .int .i64 (z.r : Int)]
def rzR (c : Nat) : Rz := ⟨c, 0, 0, 0, 0, 0, 0, 0⟩
def rzA (v c : Nat) : Rz := if c = 0 then ⟨0, v, 0, 0, 0, 0, 0, 0⟩ else rzR c
theorem info_rz : (Tryd.prog.info? 36).map (·.size) = some 8 := by kernel_rfl
theorem info_st : (Tryd.prog.info? 34).map (·.size) = some 6 := by kernel_rfl
def numX (v : Nat) : Int := wrap64 (v : Int)
section
variable {w w' w'' : World} {ρ ρ' ρ'' : Rl} {L L' : HL} {T : XL} {H H' : HS} {X : XS}
set_option maxRecDepth 100000 in
theorem number_walk (v : Nat) (w : World) : Calls Tryd.prog 52 #[.int .u64 (v : Int)] w fun e w' => e = .returned (.int .i64 (numX v)) ∧ w' = w := by
  go_enter Tryd.func52, Tryd.ntmps52
  go_wp2
  go_ret
  exact ⟨rfl, rfl⟩
set_option maxRecDepth 100000 in
theorem refuse_walk (c : Nat) (w : World) : Calls Tryd.prog 49 #[.int .u8 (c : Int)] w fun e w' => e = .returned (.agg (rzC (rzR c)).toArray) ∧ Below w.heap.size w w' := by
  obtain ⟨r, hr⟩ : ∃ r, w.heap.size = r := ⟨_, rfl⟩
  have hb := Blk.new w (rzC (rzR 0)) 36
  rw [hr] at hb
  have HB := hid hb
  have I0 : Hid ((Tryd.prog.info? 36).map (·.size) = some (rzC (rzR c)).length) := hid info_rz
  clear hb
  go_enter Tryd.func49, Tryd.ntmps49
  go_wp2_with (refine wpList_store_blk rfl 36 _ _ rfl r rfl (rzC (rzR c)) rfl HB.out rfl I0.out (fun v hv => by simp [rzC, rzR] at hv; rcases hv with rfl | rfl | rfl | rfl | rfl | rfl | rfl | rfl <;> rfl) ?_; intro w9 HB9 HU9)
  exact bodyPost_ret (results_blk Tryd.results49 rfl (show AggOf Tryd.prog 36 (rzC (rzR c)).length from AggOf.struct Tryd.underlying36 info_rz) HB9.out) rfl
    ⟨rfl, (nbel w _).trans (HU9.out.below (by omega) (by simp))⟩
set_option maxRecDepth 100000 in
theorem answer_walk (v c : Nat) (w : World) : Calls Tryd.prog 53 #[.int .u64 (v : Int), .int .u8 (c : Int)] w fun e w' => e = .returned (.agg (rzC (rzA v c)).toArray) ∧ Below w.heap.size w w' := by
  obtain ⟨r, hr⟩ : ∃ r, w.heap.size = r := ⟨_, rfl⟩
  have hb := Blk.new w (rzC (rzR 0)) 36
  have hbe := nbel w (.cells (rzC (rzR 0)).toArray 36)
  unfold rzA
  by_cases hc : c = 0
  · subst hc
    rw [if_pos rfl]
    rw [hr] at hb
    have HB := hid hb
    have I0 : Hid ((Tryd.prog.info? 36).map (·.size) = some (rzC (rzA v 0)).length) := hid info_rz
    clear hb hbe
    go_enter Tryd.func53, Tryd.ntmps53
    go_wp2_with (refine wpList_store_blk rfl 36 _ _ rfl r rfl (rzC ⟨0, v, 0, 0, 0, 0, 0, 0⟩) rfl HB.out rfl I0.out (fun v hv => by simp [rzC, rzR] at hv; rcases hv with rfl | rfl | rfl | rfl | rfl | rfl | rfl | rfl <;> rfl) ?_; intro w9 HB9 HU9)
    exact bodyPost_ret (results_blk Tryd.results53 rfl (show AggOf Tryd.prog 36 (rzC ⟨0, v, 0, 0, 0, 0, 0, 0⟩).length from AggOf.struct Tryd.underlying36 info_rz) HB9.out) rfl
      ⟨rfl, (nbel w _).trans (HU9.out.below (by omega) (by simp))⟩
  · rw [if_neg hc]
    have dc : ((c : Int) != 0) = true := by simp; omega
    rw [hr] at hb
    have HB := hid hb
    have HBe := hid hbe
    have I0 : Hid ((Tryd.prog.info? 36).map (·.size) = some (rzC (rzR c)).length) := hid info_rz
    have HR := hid (fun w => refuse_walk c w)
    clear hb hbe hc
    go_enter Tryd.func53, Tryd.ntmps53
    go_upto_region 1 with fail
    obtain ⟨w1, hw1⟩ : ∃ w1, w.alloc (.cells (rzC (rzR 0)).toArray 36) = w1 := ⟨_, rfl⟩
    rw [hw1] at HB HBe
    rw [show w.alloc (Obj.cells #[Value.int .u8 0, Value.int .u64 0, Value.int .u64 0, Value.int .u64 0, Value.int .u64 0, Value.int .u64 0, Value.int .i64 0, Value.int .i64 0] 36) = w1 from hw1]
    clear hw1
    go_wp2_with fail
    refine (HR.out _).mono ?_
    rintro e w2 ⟨rfl, hb2⟩
    have HB2 := hid (HB.out.below hb2)
    have Hb2 := hid hb2
    clear hb2
    go_wp2_with (refine wpList_store_blk rfl 36 _ _ rfl r rfl (rzC (rzR c)) rfl HB2.out rfl I0.out (fun v hv => by simp [rzC, rzR] at hv; rcases hv with rfl | rfl | rfl | rfl | rfl | rfl | rfl | rfl <;> rfl) ?_; intro w9 HB9 HU9)
    exact bodyPost_ret (results_blk Tryd.results53 rfl (show AggOf Tryd.prog 36 (rzC (rzR c)).length from AggOf.struct Tryd.underlying36 info_rz) HB9.out) rfl
      ⟨rfl, HBe.out.trans ((Hb2.out.mono HBe.out.size).trans (HU9.out.below (by omega) (Nat.le_trans HBe.out.size Hb2.out.size)))⟩
/-- Sum of the first k. -/
def sumT (f : Nat → Nat) : Nat → Nat
  | 0 => 0
  | k + 1 => sumT f k + f k
def stX (H : HS) (X : XS) (k : Nat) : Rz := ⟨0, 0, X.st, X.rf, X.al, X.sf, sumT (fun m => (X.tb m).ad.length) k, sumT (fun m => (H.roots m).length) k⟩
theorem sumT_le {f : Nat → Nat} {c : Nat} (h : ∀ m, m < 4 → f m ≤ c) : ∀ k, k ≤ 4 → sumT f k ≤ k * c
  | 0, _ => by simp [sumT]
  | k + 1, hk => by
    have := sumT_le h k (by omega)
    have := h k (by omega)
    rw [sumT, Nat.succ_mul]
    omega
end
end Go.Proofs.Qxb6500889aDoor
