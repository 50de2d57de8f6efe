/- What the last region of barrierm.New makes, and what follows of it. -/
import Derived.Test.Qxb6500888aBaKn
namespace Go.Proofs.Qxb6500888a
open Go.RowKit
set_option linter.unusedSimpArgs false
set_option linter.unusedVariables false
attribute [local irreducible] bitC wdC

theorem at_new {X : World} {o : Obj} {g : Nat} (h : X.heap.size = g) : (X.alloc o).heap[g]? = some o := by rw [← h]; exact (MapKept.heap_alloc X o).1
theorem at_old {X : World} {o : Obj} {g : Nat} {v : Option Obj} (h : g < X.heap.size) (k : X.heap[g]? = v) : (X.alloc o).heap[g]? = v := by rw [Below.heap_alloc _ _ _ h]; exact k
theorem at_drew {X : World} {g : Nat} {v : Option Obj} (k : X.heap[g]? = v) : X.drew.heap[g]? = v := k
theorem at_call {X W : World} {B g : Nat} {v : Option Obj} (c : Below B X W) (h : g < B) (k : X.heap[g]? = v) : W.heap[g]? = v := by rw [c.block g h]; exact k
abbrev mdC (hB sB cB aB mW mF : Nat) : List Value := [.pointer (some ⟨hB, 0, none⟩), .pointer (some ⟨sB, 0, none⟩), .pointer (some ⟨cB, 0, none⟩), .slice none 0 0, .slice none 0 0, .slice none 0 0, .slice none 0 0, .slice none 0 0, .slice (some ⟨aB, 0, none⟩) 32768 32768, .map (some mW), .map (some mF), .bool false, .bool false]
abbrev cnC (hB sB mC mP : Nat) : List Value := [.pointer (some ⟨hB, 0, none⟩), .pointer (some ⟨sB, 0, none⟩), .map (some mC), .map (some mP), .slice none 0 0, .slice none 0 0, .int .i64 0]
/-- What the last region of New makes. -/
structure RgN (w2 : World) (hB sB cB mC mP aB mW mF mB : Nat) (w' : World) : Prop where
  cb : w'.heap[cB]? = some (.cells (cnC hB sB mC mP).toArray 76)
  mc : MF w' mC (fun _ => none)
  mp : MF w' mP (fun _ => none)
  ab : w'.heap[aB]? = some (.cells (wdC fun _ => 0).toArray 48)
  mw : w'.heap[mW]? = some (.map #[] 0)
  mf : w'.heap[mF]? = some (.map #[] 0)
  mb : w'.heap[mB]? = some (.cells (mdC hB sB cB aB mW mF).toArray 47)
  be : Below w2.heap.size w2 w'
  ge : w2.heap.size ≤ cB ∧ w2.heap.size ≤ mC ∧ w2.heap.size ≤ mP ∧ w2.heap.size ≤ aB ∧ w2.heap.size ≤ mW ∧ w2.heap.size ≤ mF ∧ w2.heap.size ≤ mB
  n1 : cB ≠ mC ∧ cB ≠ mP ∧ cB ≠ aB ∧ cB ≠ mW ∧ cB ≠ mF ∧ cB ≠ mB ∧ mC ≠ mP ∧ mC ≠ aB ∧ mC ≠ mW ∧ mC ≠ mF ∧ mC ≠ mB
  n2 : mP ≠ aB ∧ mP ≠ mW ∧ mP ≠ mF ∧ mP ≠ mB ∧ aB ≠ mW ∧ aB ≠ mF ∧ aB ≠ mB ∧ mW ≠ mF ∧ mW ≠ mB ∧ mF ≠ mB
theorem RgN.of {w2 : World} {hB sB cB mC mP aB mW mF mB : Nat} {w' : World} (mb : w'.heap[mB]? = some (.cells (mdC hB sB cB aB mW mF).toArray 47)) (cb : w'.heap[cB]? = some (.cells (cnC hB sB mC mP).toArray 76)) (mc : MF w' mC (fun _ => none)) (mp : MF w' mP (fun _ => none)) (ab : w'.heap[aB]? = some (.cells (wdC fun _ => 0).toArray 48)) (mw : w'.heap[mW]? = some (.map #[] 0)) (mf : w'.heap[mF]? = some (.map #[] 0)) (be : Below w2.heap.size w2 w') (ge : w2.heap.size ≤ cB ∧ w2.heap.size ≤ mC ∧ w2.heap.size ≤ mP ∧ w2.heap.size ≤ aB ∧ w2.heap.size ≤ mW ∧ w2.heap.size ≤ mF ∧ w2.heap.size ≤ mB)
    (n1 : cB ≠ mC ∧ cB ≠ mP ∧ cB ≠ aB ∧ cB ≠ mW ∧ cB ≠ mF ∧ cB ≠ mB ∧ mC ≠ mP ∧ mC ≠ aB ∧ mC ≠ mW ∧ mC ≠ mF ∧ mC ≠ mB) (n2 : mP ≠ aB ∧ mP ≠ mW ∧ mP ≠ mF ∧ mP ≠ mB ∧ aB ≠ mW ∧ aB ≠ mF ∧ aB ≠ mB ∧ mW ≠ mF ∧ mW ≠ mB ∧ mF ≠ mB) : ∃ cB mC mP aB mW mF mB', (.pointer (some ⟨mB, 0, none⟩) : Value) = .pointer (some ⟨mB', 0, none⟩) ∧ RgN w2 hB sB cB mC mP aB mW mF mB' w' := ⟨cB, mC, mP, aB, mW, mF, mB, rfl, cb, mc, mp, ab, mw, mf, mb, be, ge, n1, n2⟩
def nmR (hB dB lB sB tB cB mH mC mP mB aB mW mF g : Nat) : Nat := if g = hB then 1 else if g = dB then 2 else if g = lB then 3 else if g = sB then 4 else if g = tB then 5 else if g = cB then 6 else if g = mH then 7 else if g = mC then 8 else if g = mP then 9 else if g = mB then 12 else if g = aB then 14 else if g = mW then 15 else if g = mF then 20 else 0
set_option maxHeartbeats 2000000 in
theorem NmP.of {w w1 w2 w' : World} {hB mH dB lB tB sB cB mC mP aB mW mF mB : Nat} (n1 : HNew w hB mH dB lB w1) (s1 : Blk w2 sB 80 [.slice (some ⟨tB, 0, none⟩) 32768 32768]) (s2 : Blk w2 tB 4 (bitC fun _ => false)) (s3 : Below tB w1 w2) (s4 : w2.heap.size = tB + 2) (e1 : w1.heap.size = tB) (e2 : tB + 1 = sB) (r : RgN w2 hB sB cB mC mP aB mW mF mB w') : NmP w (.returned (.pointer (some ⟨mB, 0, none⟩))) w' := by
  have b12 : Below w1.heap.size w1 w2 := by rw [e1]; exact s3
  have b2 := r.be
  have b1 := b12.trans (b2.mono b12.size)
  have b0 := n1.be.trans (b1.mono n1.be.size)
  have z0 := n1.be.size
  have hd := n1.df
  have hg := n1.g1
  have l1 := n1.hb.lt
  have l2 := n1.mh.lt
  have l3 := n1.wb.lt
  have l4 := n1.lb.lt
  have kc : Blk w' cB 76 (cnC hB sB mC mP) := r.cb
  have ka : Blk w' aB 48 (wdC fun _ => 0) := r.ab
  have kb : Blk w' mB 47 (mdC hB sB cB aB mW mF) := r.mb
  have k1 := kc.lt
  have k2 := ka.lt
  have k3 := kb.lt
  have k4 := r.mc.lt
  have k5 := r.mp.lt
  have k6 := (MF.empty r.mw).lt
  have k7 := (MF.empty r.mf).lt
  have k8 := b2.size
  have g1 := r.ge
  have HD := hid hd
  have H1 := hid r.n1
  have H2 := hid r.n2
  have g2 := g1.1
  clear hd
  refine ⟨mB, nmR hB dB lB sB tB cB mH mC mP mB aB mW mF, ⟨hB, dB, lB, sB, tB, cB, mH, mC, mP, .slice none 0 0, .slice none 0 0⟩, ⟨mB, aB, mW, mF, fun _ => .slice none 0 0, .slice none 0 0⟩, rfl, ⟨⟨fun _ => n1.hb.below b1, fun _ => n1.wb.below b1, fun _ => n1.lb.below b1, fun _ => s1.below b2, fun _ => s2.below b2, fun _ => kc, fun _ => n1.mh.below b1, fun _ => by rw [show G0.cnt = fun _ => 0 from rfl, ctF0]; exact r.mc, fun _ => by rw [show G0.pend = fun _ => 0 from rfl, ctF0]; exact r.mp, fun _ => RowX.nil _ _ _ _, fun _ => RowX.nil _ _ _ _, ?_, ?_, ?_, ?_, ?_, ?_, ?_, ?_, ?_, ?_⟩, kb, ?_, fun m _ => RowX.nil _ _ _ _, RowX.nil _ _ _ _, ka, ?_, MF.empty r.mw, ?_, MF.empty r.mf, ?_, fun m => Nat.zero_le _⟩, rfl, fun g hg' => ?_, b0⟩
  all_goals try dsimp only
  all_goals unfold nmR
  · rw [if_pos rfl]
  · rw [if_neg (Ne.symm HD.out.2.1), if_pos rfl]
  · rw [if_neg (Ne.symm HD.out.2.2.1), if_neg (Ne.symm HD.out.2.2.2.2.2), if_pos rfl]
  · rw [if_neg (by omega), if_neg (by omega), if_neg (by omega), if_pos rfl]
  · rw [if_neg (by omega), if_neg (by omega), if_neg (by omega), if_neg (by omega), if_pos rfl]
  · rw [if_neg (by omega), if_neg (by omega), if_neg (by omega), if_neg (by omega), if_neg (by omega), if_pos rfl]
  · rw [if_neg (Ne.symm HD.out.1), if_neg HD.out.2.2.2.1, if_neg HD.out.2.2.2.2.1, if_neg (by omega), if_neg (by omega), if_neg (by omega), if_pos rfl]
  · rw [if_neg (by omega), if_neg (by omega), if_neg (by omega), if_neg (by omega), if_neg (by omega), if_neg (Ne.symm H1.out.1), if_neg (by omega), if_pos rfl]
  · rw [if_neg (by omega), if_neg (by omega), if_neg (by omega), if_neg (by omega), if_neg (by omega), if_neg (Ne.symm H1.out.2.1), if_neg (by omega), if_neg (Ne.symm H1.out.2.2.2.2.2.2.1), if_pos rfl]
  · intro g hg'
    apply Classical.byContradiction
    intro hge
    apply hg'
    rw [if_neg (by omega), if_neg (by omega), if_neg (by omega), if_neg (by omega), if_neg (by omega), if_neg (by omega), if_neg (by omega), if_neg (by omega), if_neg (by omega), if_neg (by omega), if_neg (by omega), if_neg (by omega), if_neg (by omega)]
  · rw [if_neg (by omega), if_neg (by omega), if_neg (by omega), if_neg (by omega), if_neg (by omega), if_neg (Ne.symm H1.out.2.2.2.2.2.1), if_neg (by omega), if_neg (Ne.symm H1.out.2.2.2.2.2.2.2.2.2.2), if_neg (Ne.symm H2.out.2.2.2.1), if_pos rfl]
  · rw [if_neg (by omega), if_neg (by omega), if_neg (by omega), if_neg (by omega), if_neg (by omega), if_neg (Ne.symm H1.out.2.2.1), if_neg (by omega), if_neg (Ne.symm H1.out.2.2.2.2.2.2.2.1), if_neg (Ne.symm H2.out.1), if_neg H2.out.2.2.2.2.2.2.1, if_pos rfl]
  · rw [if_neg (by omega), if_neg (by omega), if_neg (by omega), if_neg (by omega), if_neg (by omega), if_neg (Ne.symm H1.out.2.2.2.1), if_neg (by omega), if_neg (Ne.symm H1.out.2.2.2.2.2.2.2.2.1), if_neg (Ne.symm H2.out.2.1), if_neg H2.out.2.2.2.2.2.2.2.2.1, if_neg (Ne.symm H2.out.2.2.2.2.1), if_pos rfl]
  · rw [if_neg (by omega), if_neg (by omega), if_neg (by omega), if_neg (by omega), if_neg (by omega), if_neg (Ne.symm H1.out.2.2.2.2.1), if_neg (by omega), if_neg (Ne.symm H1.out.2.2.2.2.2.2.2.2.2.1), if_neg (Ne.symm H2.out.2.2.1), if_neg H2.out.2.2.2.2.2.2.2.2.2, if_neg (Ne.symm H2.out.2.2.2.2.2.1), if_neg (Ne.symm H2.out.2.2.2.2.2.2.2.1), if_pos rfl]
  · rw [if_neg (by omega), if_neg (by omega), if_neg (by omega), if_neg (by omega), if_neg (by omega), if_neg (by omega), if_neg (by omega), if_neg (by omega), if_neg (by omega), if_neg (by omega), if_neg (by omega), if_neg (by omega), if_neg (by omega)]
end Go.Proofs.Qxb6500888a
