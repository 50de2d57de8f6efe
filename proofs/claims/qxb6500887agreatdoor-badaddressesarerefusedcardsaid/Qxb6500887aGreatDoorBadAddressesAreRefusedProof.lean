/-
  The proof of 'Rows.BadAddressesAreRefusedCardSaid': the guide's frame for a listed variable (its worked examples) round our walk.
-/
import Derived.Test.Qxb6500887aGreatDoorRows
import Derived.Test.Qxb6500887aGreatDoorCards
import Derived.Test.Qxb6500887aGreatDoorTie
import Derived.Test.Qxb6500887aGreatDoorAzBb
import Derived.WalkKit
import Derived.ProofKit
import Derived.Below
import Derived.SizedLaws
import Derived.Carry
import Derived.LaidMore
import Derived.SevenTiedAt
import Derived.Stop.Joined
namespace Go.Proofs.Qxb6500887aGreatDoor.badAddressesAreRefused
open Go.ChangeShapes Go.WideShapes Go.ChangeAt Go.RowKit
set_option linter.unusedVariables false

abbrev laid1 : List (String × DataW Unit) := Rows.badAddressesAreRefusedRow.laid
theorem own : ownKnob Tryz.prog.godebug = none := by kernel_rfl
theorem laidOut : laidOutB Tryz.prog = true := by kernel_rfl
theorem gW : Tryz.prog.globalNamed "e2e/arenalaw.wordKinds" = some 0 := by kernel_rfl
theorem gO : Tryz.prog.globalNamed "e2e/arenalaw.objectKinds" = some 1 := by kernel_rfl
theorem tW : (Tryz.prog.globals[0]?).map (·.type) = some 49 := by kernel_rfl
theorem tO : (Tryz.prog.globals[1]?).map (·.type) = some 49 := by kernel_rfl
theorem cellsKind : Tryz.prog.cellsOf 26 = 1 := by kernel_rfl

/-- The door's own heap meets the condition. -/
theorem door_met (os : Os) (args : Array Value) : laidMetH Tryz.prog laid1 ((World.doorLaid Tryz.prog 600 os).forCall (fun _ _ => 0) ⟨#[], args, []⟩).memory :=
  laidMetH_of_parts3 (fuel := 8) (laidMet_of_run' 8 (by kernel_rfl) (by kernel_rfl)) (by kernel_rfl) (by kernel_rfl)

def ksD (ks : List Nat) : DataW Unit := .slice (ks.map fun (k : Nat) => .lit (.int .u8 (k : Int))) []
/-- One listed row of kinds. -/
theorem row_laid {W : World} {g : Nat} {nm : String} {cs : Array Value} {fuel : Nat} {p : List MemPlace} (ks : List Nat) (hne : 0 < ks.length) (hg : Tryz.prog.globalNamed nm = some g) (hvar : W.var? Tryz.prog nm = some cs)
    (hd : DataW.trod (fun _ => ()) Tryz.prog W 0 (fun _ => true) false fuel 49 cs.toList = some (ksD ks, p)) : ∃ gb go gc, KRow g ks W gb go gc := by
  obtain ⟨a, cap, hcs, _, hel⟩ := open_row Tryz.underlying49 cellsKind hd
  obtain ⟨b, off, spot⟩ := a
  have elem : ∀ (i k : Nat), ks[i]? = some k → W.cell? ((⟨b, off, spot⟩ : Addr).add i) = some (.int .u8 (k : Int)) := fun i k hi => by
    obtain ⟨v, n, q, hc, hr⟩ := hel i (.lit (.int .u8 (k : Int))) (by rw [List.getElem?_map, hi]; rfl)
    obtain ⟨z', e1, e2, _⟩ := DataW.trod_int Tryz.underlying26 hr
    have e1' : v = .int .u8 z' := by simpa using e1
    have e2' : (k : Int) = z' := by have := congrArg (fun y => y.1) e2; simpa using this
    rw [hc, e1', e2']
  obtain ⟨k0, hk0⟩ : ∃ k, ks[0]? = some k := ⟨_, List.getElem?_eq_getElem hne⟩
  have hspot : spot = none := by simpa [Addr.add] using World.cell?_spot (elem 0 k0 hk0)
  subst hspot
  have hvc : W.cell? ⟨g, 0, none⟩ = some (.slice (some ⟨b, off, none⟩) ks.length cap) := by
    have := World.var?_cell hg hvar 0
    rw [Array.eq_one_of_toList hcs] at this
    simpa using this
  refine ⟨b, off, cap, block_lt_of_cell hvc, ?_, hvc, fun i k hi => ?_⟩
  · have := block_lt_of_cell (elem 0 k0 hk0)
    simpa [Addr.add] using this
  · have hadd : (⟨b, off, none⟩ : Addr).add i = ⟨b, off + i, none⟩ := by unfold Addr.add; split <;> simp_all
    rw [← hadd]
    exact elem i k hi
/-- What the condition gives the walk. -/
theorem of_laid {W : World} (h : laidMetH Tryz.prog laid1 W) : (∃ gb go gc, KRow 0 wordKs W gb go gc) ∧ ∃ gb go gc, KRow 1 objKs W gb go gc := by
  rw [MakeChecks.laidMetH_plain _ _ _ (by kernel_rfl)] at h
  obtain ⟨ps, ⟨g0, t0, cs0, f0, p0, q0, hg0, ht0, hv0, hd0, ⟨g1, t1, cs1, f1, p1, q1, hg1, ht1, hv1, hd1, _, _⟩, _⟩, _, _⟩ := h
  obtain rfl := Option.some.inj (gW.symm.trans hg0)
  obtain rfl := Option.some.inj (gO.symm.trans hg1)
  obtain rfl := Option.some.inj (tW.symm.trans ht0)
  obtain rfl := Option.some.inj (tO.symm.trans ht1)
  exact ⟨row_laid wordKs (by decide) hg0 hv0 hd0, row_laid objKs (by decide) hg1 hv1 hd1⟩

set_option maxRecDepth 100000 in
theorem lifted (os : Os) (started : os.Started) (H : Type) (enc : TypeId × Value → H) :
    ReturnsInHanded {} Tryz.checked os 3 .any (fun w args => (Rows.badAddressesAreRefusedSpec.pre enc Tryz.prog Tryz.f3 [] false w args ∧ laidMetH Tryz.prog laid1 w) ∧ sizedMet enc Tryz.prog Tryz.f3 (OpenSpec.ofChange Rows.badAddressesAreRefusedSpec) false w args)
      (Rows.badAddressesAreRefusedSpec.post enc Tryz.prog Tryz.f3 false true false false) := by
  refine returnsInHanded_of_change_and (C := Tryz.checked) (X := fun w _ => laidMetH Tryz.prog laid1 w) (fun _ _ _ hh h => h.of_heap hh) own started (by kernel_rfl) Tryz.func3
    (ChangeSpec.witness_shaped (enc := enc) (C := Tryz.checked) (os := os) (X := fun w _ => laidMetH Tryz.prog laid1 w) false (World.doorLaid Tryz.prog 600 os) #[.slice none 0 0] 8 rfl (World.shaped_of_RefB (by kernel_rfl) (by kernel_rfl)) (by kernel_rfl) (by kernel_rfl) (by kernel_rfl) (door_met os _)) ?_
  intro W base args ds gs before hval0 hW hcnd hsz0 hL _
  have hval : ∀ (j : Nat) t v, Tryz.f3.params[j]? = some t → args[j]? = some v → Value.okWide Tryz.prog W .any base t v := hval0
  have hsz : (DataW.weightsEach Tryz.prog (Tryz.f3.params.toList ++ Rows.badAddressesAreRefusedSpec.plain.varTypes Tryz.prog) (ds ++ gs)).all (· ≤ reachBytes) = true := hsz0
  have hW' := hW
  obtain ⟨p, q, hA0, hV, rfl, hfz, hnd⟩ := hW
  have hA : DataW.TrodAll enc Tryz.prog W 0 (fun _ => true) true Tryz.f3.params.toList args.toList ds p := hA0
  rw [Tryz.params3] at hA hval hsz
  obtain ⟨v0, d0, rfl, rfl, h0⟩ := trodAll_one hA
  obtain ⟨rfl, rfl⟩ := trodVars_none hV
  have hz : Sz Tryz.prog 22 d0 := fun n hn => by
    have := List.all_eq_true.1 hsz _ (DataW.weights_mem_each (j := 0) (t := 22) (d := d0) rfl rfl n hn)
    simpa using this
  obtain ⟨a0, len0, cap0, rfl⟩ := okWide_slice Tryz.underlying22 (hval 0 22 v0 rfl rfl)
  have k0 := h0
  have lt0 : ∀ x ∈ p, x.block < W.heap.size := by obtain ⟨m, hm⟩ := k0; exact DataW.trod_lt m _ _ _ hm
  obtain ⟨fuel, hf⟩ := h0
  obtain ⟨a, n, c, l, hcs, hs⟩ := open_ops hf hz
  simp [Value.cells] at hcs
  obtain ⟨rfl, rfl, rfl⟩ := hcs
  obtain ⟨⟨wb, wo, wc', hKw⟩, qb, qo, qc, hKo⟩ := of_laid hL
  clear hA0 hval0
  refine (badLaw_walk _ _ _ l W wb wo wc' qb qo qc hs hKw hKo).mono fun e W' ⟨he, bel⟩ => ?_
  subst he
  exact ⟨_, rfl, _, _, _, [], _, [], hW', trodAll_mk1 (shut_bool Tryz.underlying4 _), trodAll_mk1 (Below.trod laidOut (by kernel_rfl) (of_decide_eq_true (by kernel_rfl)) k0 bel lt0), rfl, bel.frame _, fun h => by cases h⟩

theorem over : Rows.BadAddressesAreRefusedSaid :=
  OpenClaim.holds_of_wide 3 Tryz.f3 rfl rfl rfl rfl rfl rfl rfl ⟨rfl, rfl, rfl, rfl, rfl⟩ rfl rfl rfl rfl rfl (by kernel_rfl) Tryz.func3 (by kernel_rfl)
    (of_decide_eq_true (by kernel_rfl)) (by unfold Func.isWrapper; first | (rw [if_pos (by decide +kernel)]; kernel_rfl) | (rw [if_neg (by decide +kernel)]; exact ⟨rfl, rfl⟩))
    (fun os started H enc _ => lifted os started H enc)

/-- THE STATEMENT: the tied card. -/
theorem proved : Rows.BadAddressesAreRefusedCardSaid :=
  Claim7.holds_tied_plain_at .later [] [.widerDeep, .widerDeep] true (true, "98e7aec5c3724184b9518dbdbe6bebdbd30c0560fb7f38cfac23eb8e1992e201") false
    over (fun _ h => by cases h) (by kernel_rfl) (fun _ h => by cases h) badAddressesAreRefused_row_tie rfl ⟨rfl, rfl⟩ (by kernel_rfl) rfl
    (fun f fn hf hfn => by
      obtain rfl : f = 3 := Option.some.inj ((show Tryz.prog.funcNamed "e2e/arenalaw.BadAddressesAreRefused" = some 3 by kernel_rfl).symm.trans hf) |>.symm
      obtain rfl : fn = Tryz.f3 := (Option.some.inj (Tryz.func3.symm.trans hfn)).symm
      exact ⟨by kernel_rfl, fun j t ht => by
        rw [Tryz.params3] at ht
        have h3 : t = 22 := by
          rcases j with _ | j
          · simpa using ht.symm
          · simp at ht
        subst h3
        exact (show Tryz.prog.wantsStandIn 22 = false by kernel_rfl)⟩)
    (by kernel_rfl)
end Go.Proofs.Qxb6500887aGreatDoor.badAddressesAreRefused
