/- Plain: the model's count of steps changes no answer; two worlds. -/
import Derived.Test.Qxb6500889aDoorMuP5
import Derived.Test.Qxb6500889aDoorMuL1
import Derived.Laws.StructEq
namespace Go.Proofs.Qxb6500889aDoor
open Go.RowKit
set_option linter.unusedSimpArgs false
set_option linter.unusedVariables false
def stM (M : MS) (s : Nat) : MS := { M with st := s }
def stZ0 (z : Rz) : Rz := { z with a := 0 }
section
variable {M : MS} {s : Nat}
theorem mAlloc_st (m size refs : Nat) (r : Bool) : mAlloc (stM M s) m size refs r = (stM (mAlloc M m size refs r).1 s, (mAlloc M m size refs r).2) := by
  unfold mAlloc
  rw [show mFull (stM M s) m = mFull M m from rfl]
  split
  · rfl
  split
  · rfl
  split
  · rfl
  split <;> rfl
theorem mPop_st (m : Nat) : mPop (stM M s) m = (stM (mPop M m).1 s, (mPop M m).2) := by
  unfold mPop
  rw [show (stM M s).roots = M.roots from rfl, show mFull (stM M s) m = mFull M m from rfl]
  cases (M.roots m).getLast? with
  | none => rfl
  | some id => dsimp only; split <;> rfl
theorem mSetR_st (id i v : Nat) : mSetR (stM M s) id i v = stM (mSetR M id i v) s := by
  unfold mSetR
  rw [show (stM M s).objs = M.objs from rfl]
  cases M.objs[id - 1]? <;> rfl
theorem mSetD_st (id i v : Nat) : mSetD (stM M s) id i v = stM (mSetD M id i v) s := by
  unfold mSetD
  rw [show (stM M s).objs = M.objs from rfl]
  cases M.objs[id - 1]? <;> rfl
theorem mObj_st (m : Nat) (o : OpP) (id : Nat) (q : MO) : mObj (stM M s) m o id q = (stM (mObj M m o id q).1 s, (mObj M m o id q).2) := by
  unfold mObj
  rw [show (stM M s).roots = M.roots from rfl, show mFull (stM M s) m = mFull M m from rfl, show mOp (stM M s) o.c = mOp M o.c from rfl, show mLook (stM M s) m (mOp M o.c) = mLook M m (mOp M o.c) from rfl]
  split
  · split <;> rfl
  split
  · split <;> rfl
  split
  · split
    · rfl
    · rw [mSetD_st]
  split
  · split
    · rfl
    split
    · rfl
    split <;> rfl
  · split
    · rfl
    split
    · rw [mSetR_st]
    cases mLook M m (mOp M o.c) with
    | none => rfl
    | some v => dsimp only; rw [mSetR_st]
theorem mDo_st (o : OpP) (r : Bool) : (mDo (stM M s) o r).1 = stM (mDo M o r).1 s ∧ stZ0 (mDo (stM M s) o r).2 = stZ0 (mDo M o r).2 ∧ (mDo (stM M s) o r).2.c = (mDo M o r).2.c := by
  unfold mDo
  rw [show mOp (stM M s) o.a = mOp M o.a from rfl, show mLook (stM M s) o.ac (mOp M o.a) = mLook M o.ac (mOp M o.a) from rfl, show (stM M s).objs = M.objs from rfl]
  split
  · exact ⟨rfl, rfl, rfl⟩
  split
  · exact ⟨rfl, rfl, rfl⟩
  split
  · rw [mAlloc_st]; exact ⟨rfl, rfl, rfl⟩
  split
  · rw [mPop_st]; exact ⟨rfl, rfl, rfl⟩
  split
  · exact ⟨rfl, rfl, rfl⟩
  split
  · exact ⟨rfl, rfl, rfl⟩
  split
  · exact ⟨rfl, rfl, rfl⟩
  split
  · exact ⟨rfl, rfl, rfl⟩
  cases mLook M o.ac (mOp M o.a) with
  | none => exact ⟨rfl, rfl, rfl⟩
  | some id =>
    dsimp only
    cases M.objs[id - 1]? with
    | none => exact ⟨rfl, rfl, rfl⟩
    | some q => dsimp only; rw [mObj_st]; exact ⟨rfl, rfl, rfl⟩
end
set_option maxHeartbeats 1000000 in
theorem neq_rz (z : Rz) (w : World) : (binOp .neq 36 (.agg (rzC z).toArray) (.agg (rzC z).toArray)).run Tryd.prog w = .ok (.bool false) w := by
  rw [run_neq_struct]
  unfold rzC
  simp [go_sem, part]
section
variable {w0 wr w' : World} {wB1 wB2 k1 k2 : Nat} {ρ1 ρ2 ρ' : Rl} {L1 L2 : HL} {T1 T2 : XL} {V1 V2 : WL} {H1 H2 : HS} {X1 X2 : XS} {G1 G2 : List Nat}
/-- The other world has worked: this one stands. -/
theorem LW.beside (h : LW w0 wB2 k2 ρ2 L2 T2 V2 H2 X2 G2 wr) (hf : Fw ρ1 wr ρ' w') (dj : ∀ g, ρ1 g ≠ 0 → ρ2 g = 0) (hb : Below w0.heap.size w0 w') : LW w0 wB2 k2 ρ2 L2 T2 V2 H2 X2 G2 w' :=
  ⟨h.wm.keep hf.size (fun g hg h0 => hf.blk g hg (by
    have : ρ1 g = 0 := by
      cases hz : ρ1 g with
      | zero => rfl
      | succ k => exact absurd (dj g (by omega)) h0
    rw [this]; omega)), h.hv, h.hi, h.xn, h.gv, h.gl, hb, h.low⟩
theorem dj_play (h1 : LW w0 wB1 k1 ρ1 L1 T1 V1 H1 X1 G1 wr) (h2 : LW w0 wB2 k2 ρ2 L2 T2 V2 H2 X2 G2 wr) (hf : Fw ρ1 wr ρ' w') (dj : ∀ g, ρ1 g ≠ 0 → ρ2 g = 0) : ∀ g, ρ' g ≠ 0 → ρ2 g = 0 := by
  intro g hg
  by_cases hlt : g < wr.heap.size
  · rw [hf.old g hlt] at hg
    exact dj g hg
  · exact h2.wm.new0 (by omega)
theorem dj_flip (dj : ∀ g, ρ1 g ≠ 0 → ρ2 g = 0) : ∀ g, ρ2 g ≠ 0 → ρ1 g = 0 := by
  intro g hg
  cases hz : ρ1 g with
  | zero => rfl
  | succ k => exact absurd (dj g (by omega)) hg
theorem LW.szs (h : LW w0 wB1 k1 ρ1 L1 T1 V1 H1 X1 G1 wr) : ∀ a x, H1.objs a = some x → x.refs.length + x.data.length ≤ 8192 := fun a x hx => (h.wm.mm.hm.o a x hx).sz
end
end Go.Proofs.Qxb6500889aDoor
