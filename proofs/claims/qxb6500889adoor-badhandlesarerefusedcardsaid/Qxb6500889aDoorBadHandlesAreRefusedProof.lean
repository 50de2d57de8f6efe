/-
  The proof of 'Rows.BadHandlesAreRefusedCardSaid': the guide's frame for a listed variable (its worked examples) round our walk.
-/
import Derived.Test.Qxb6500889aDoorRows
import Derived.Test.Qxb6500889aDoorCards
import Derived.Test.Qxb6500889aDoorTie
import Derived.Test.Qxb6500889aDoorMuB6
import Derived.WalkKit
import Derived.ProofKit
import Derived.Below
import Derived.SizedLaws
import Derived.Carry
import Derived.LaidMore
import Derived.SevenTiedAt
import Derived.Stop.Joined
namespace Go.Proofs.Qxb6500889aDoor.badHandlesAreRefused
open Go.ChangeShapes Go.WideShapes Go.ChangeAt Go.RowKit
set_option linter.unusedVariables false

abbrev laid1 : List (String × DataW Unit) := Rows.badHandlesAreRefusedRow.laid
theorem own : ownKnob Tryd.prog.godebug = none := by kernel_rfl
theorem laidOut : laidOutB Tryd.prog = true := by kernel_rfl
theorem gKinds : Tryd.prog.globalNamed "e2e/mutapilaw.handleKinds" = some 0 := by kernel_rfl
theorem tKinds : (Tryd.prog.globals[0]?).map (·.type) = some 47 := by kernel_rfl
theorem cellsKind : Tryd.prog.cellsOf 28 = 1 := by kernel_rfl

/-- The door's own heap meets the condition. -/
theorem door_met (os : Os) (args : Array Value) : laidMetH Tryd.prog laid1 ((World.doorLaid Tryd.prog 600 os).forCall (fun _ _ => 0) ⟨#[], args, []⟩).memory :=
  laidMetH_of_parts3 (fuel := 8) (laidMet_of_run' 8 (by kernel_rfl) (by kernel_rfl)) (by kernel_rfl) (by kernel_rfl)

/-- What the condition gives the walk. -/
theorem of_laid {W : World} (h : laidMetH Tryd.prog laid1 W) : ∃ gb go gc, HKi W gb go gc := by
  have h' : laidMet Tryd.prog [("e2e/mutapilaw.handleKinds", Rows.laid_e2e_mutapilaw_handleKinds)] W := h
  obtain ⟨ps, hv, _⟩ := h'
  obtain ⟨g, t, cs, fuel, p, q, hg, ht, hvar, hd, _⟩ := hv
  obtain rfl := Option.some.inj (gKinds.symm.trans hg)
  obtain rfl := Option.some.inj (tKinds.symm.trans ht)
  have hd' : DataW.trod (fun _ => ()) Tryd.prog W 0 (fun _ => true) false fuel 47 cs.toList = some (.slice [.lit (.int .u8 1), .lit (.int .u8 2), .lit (.int .u8 3), .lit (.int .u8 4), .lit (.int .u8 5)] [], p) := hd
  obtain ⟨a, cap, hcs, _, hel⟩ := open_row Tryd.underlying47 cellsKind hd'
  obtain ⟨b, off, spot⟩ := a
  have elem : ∀ (i : Nat) (z : Int), [(.lit (.int .u8 1) : DataW Unit), .lit (.int .u8 2), .lit (.int .u8 3), .lit (.int .u8 4), .lit (.int .u8 5)][i]? = some (.lit (.int .u8 z)) → W.cell? ((⟨b, off, spot⟩ : Addr).add i) = some (.int .u8 z) := fun i z hi => by
    obtain ⟨v, n, q, hc, hr⟩ := hel i _ hi
    obtain ⟨z', e1, e2, _⟩ := DataW.trod_int Tryd.underlying28 hr
    have e1' : v = .int .u8 z' := by simpa using e1
    have e2' : z = z' := by have := congrArg (·.1) e2; simpa using this
    rw [hc, e1', e2']
  have hspot : spot = none := by simpa [Addr.add] using World.cell?_spot (elem 0 1 rfl)
  subst hspot
  have hvc : W.cell? ⟨0, 0, none⟩ = some (.slice (some ⟨b, off, none⟩) 5 cap) := by
    have := World.var?_cell hg hvar 0
    rw [Array.eq_one_of_toList hcs] at this
    simpa using this
  refine ⟨b, off, cap, block_lt_of_cell hvc, ?_, hvc, fun i hi => ?_⟩
  · have := block_lt_of_cell (elem 0 1 rfl)
    simpa [Addr.add] using this
  · have hadd : (⟨b, off, none⟩ : Addr).add i = ⟨b, off + i, none⟩ := by unfold Addr.add; split <;> simp_all
    rw [← hadd]
    rcases (by omega : i = 0 ∨ i = 1 ∨ i = 2 ∨ i = 3 ∨ i = 4) with rfl | rfl | rfl | rfl | rfl
    · exact elem 0 1 rfl
    · exact elem 1 2 rfl
    · exact elem 2 3 rfl
    · exact elem 3 4 rfl
    · exact elem 4 5 rfl

set_option maxRecDepth 100000 in
theorem lifted (os : Os) (started : os.Started) (H : Type) (enc : TypeId × Value → H) :
    ReturnsInHanded {} Tryd.checked os 3 .any (fun w args => (Rows.badHandlesAreRefusedSpec.pre enc Tryd.prog Tryd.f3 [] false w args ∧ laidMetH Tryd.prog laid1 w) ∧ sizedMet enc Tryd.prog Tryd.f3 (OpenSpec.ofChange Rows.badHandlesAreRefusedSpec) false w args)
      (Rows.badHandlesAreRefusedSpec.post enc Tryd.prog Tryd.f3 false true false false) := by
  refine returnsInHanded_of_change_and (C := Tryd.checked) (X := fun w _ => laidMetH Tryd.prog laid1 w) (fun _ _ _ hh h => h.of_heap hh) own started (by kernel_rfl) Tryd.func3
    (ChangeSpec.witness_shaped (enc := enc) (C := Tryd.checked) (os := os) (X := fun w _ => laidMetH Tryd.prog laid1 w) false (World.doorLaid Tryd.prog 600 os) #[.slice none 0 0] 8 rfl (World.shaped_of_RefB (by kernel_rfl) (by kernel_rfl)) (by kernel_rfl) (by kernel_rfl) (by kernel_rfl) (door_met os _)) ?_
  intro W base args ds gs before hval0 hW hcnd hsz0 hL _
  have hval : ∀ (j : Nat) t v, Tryd.f3.params[j]? = some t → args[j]? = some v → Value.okWide Tryd.prog W .any base t v := hval0
  have hsz : (DataW.weightsEach Tryd.prog (Tryd.f3.params.toList ++ Rows.badHandlesAreRefusedSpec.plain.varTypes Tryd.prog) (ds ++ gs)).all (· ≤ reachBytes) = true := hsz0
  have hW' := hW
  obtain ⟨p, q, hA0, hV, rfl, hfz, hnd⟩ := hW
  have hA : DataW.TrodAll enc Tryd.prog W 0 (fun _ => true) true Tryd.f3.params.toList args.toList ds p := hA0
  rw [Tryd.params3] at hA hval hsz
  obtain ⟨v0, d0, rfl, rfl, h0⟩ := trodAll_one hA
  obtain ⟨rfl, rfl⟩ := trodVars_none hV
  have hz : Sz Tryd.prog 22 d0 := fun n hn => by
    have := List.all_eq_true.1 hsz _ (DataW.weights_mem_each (j := 0) (t := 22) (d := d0) rfl rfl n hn)
    simpa using this
  obtain ⟨a0, len0, cap0, rfl⟩ := okWide_slice Tryd.underlying22 (hval 0 22 v0 rfl rfl)
  have k0 := h0
  have lt0 : ∀ x ∈ p, x.block < W.heap.size := by obtain ⟨m, hm⟩ := k0; exact DataW.trod_lt m _ _ _ hm
  obtain ⟨fuel, hf⟩ := h0
  obtain ⟨a, n, c, l, hcs, hs⟩ := open_ops hf hz
  simp [Value.cells] at hcs
  obtain ⟨rfl, rfl, rfl⟩ := hcs
  obtain ⟨gb, go, gc, hK⟩ := of_laid hL
  clear hA0 hval0
  refine (bad_walk _ _ _ l W gb go gc hs hK).mono fun e W' ⟨he, bel⟩ => ?_
  subst he
  exact ⟨_, rfl, _, _, _, [], _, [], hW', trodAll_mk1 (shut_bool Tryd.underlying4 _), trodAll_mk1 (Below.trod laidOut (by kernel_rfl) (of_decide_eq_true (by kernel_rfl)) k0 bel lt0), rfl, bel.frame _, fun h => by cases h⟩

theorem over : Rows.BadHandlesAreRefusedSaid :=
  OpenClaim.holds_of_wide 3 Tryd.f3 rfl rfl rfl rfl rfl rfl rfl ⟨rfl, rfl, rfl, rfl, rfl⟩ rfl rfl rfl rfl rfl (by kernel_rfl) Tryd.func3 (by kernel_rfl)
    (of_decide_eq_true (by kernel_rfl)) (by unfold Func.isWrapper; first | (rw [if_pos (by decide +kernel)]; kernel_rfl) | (rw [if_neg (by decide +kernel)]; exact ⟨rfl, rfl⟩))
    (fun os started H enc _ => lifted os started H enc)

/-- THE STATEMENT: the tied card. -/
theorem proved : Rows.BadHandlesAreRefusedCardSaid :=
  Claim7.holds_tied_plain_at .later [] [.data] true (true, "133a3c9885c88e9ae7718c8d5d2f13d0e391b7bd655046a774180d53a1d499ba") false
    over (fun _ h => by cases h) (by kernel_rfl) (fun _ h => by cases h) badHandlesAreRefused_row_tie rfl ⟨rfl, rfl⟩ (by kernel_rfl) rfl
    (fun f fn hf hfn => by
      obtain rfl : f = 3 := Option.some.inj ((show Tryd.prog.funcNamed "e2e/mutapilaw.BadHandlesAreRefused" = some 3 by kernel_rfl).symm.trans hf) |>.symm
      obtain rfl : fn = Tryd.f3 := (Option.some.inj (Tryd.func3.symm.trans hfn)).symm
      exact ⟨by kernel_rfl, fun j t ht => by
        rw [Tryd.params3] at ht
        have h3 : t = 22 := by
          rcases j with _ | j
          · simpa using ht.symm
          · simp at ht
        subst h3
        exact (show Tryd.prog.wantsStandIn 22 = false by kernel_rfl)⟩)
    (by kernel_rfl)
end Go.Proofs.Qxb6500889aDoor.badHandlesAreRefused
