/- CheckedArithmetic. -/
import Derived.Test.Qxb6500890aDoorTextAgree
import Derived.Test.Qxb6500890aDoorTextAt
namespace Go.Proofs.Qxb6500890aDoor
open Go.RowKit
set_option linter.unusedSimpArgs false
set_option linter.unusedVariables false

/-- The listed variable arithKinds reads as it is laid. -/
structure Kinds (v : Nat) (w : World) (gb go gc : Nat) : Prop where
  lv : v < w.heap.size
  lb : gb < w.heap.size
  var : w.cell? ⟨v, 0, none⟩ = some (.slice (some ⟨gb, go, none⟩) 6 gc)
  row : ∀ i : Nat, i < 6 → w.cell? ⟨gb, go + i, none⟩ = some (.int .i64 ((i : Int) + 2))
theorem Kinds.below {v : Nat} {w w' : World} {gb go gc : Nat} (f : Kinds v w gb go gc) (hb : Below w.heap.size w w') : Kinds v w' gb go gc :=
  ⟨Nat.lt_of_lt_of_le f.lv hb.size, Nat.lt_of_lt_of_le f.lb hb.size, by rw [hb.cell f.lv]; exact f.var, fun i hi => by rw [hb.cell f.lb]; exact f.row i hi⟩

structure Ro (w0 : World) (p : Nat) (oa ob : Int) (wr : World) : Prop where
  bel : Below w0.heap.size w0 wr
  lt : p < wr.heap.size
  ca : wr.cell? ⟨p, 1, none⟩ = some (.int .i64 oa)
  cb : wr.cell? ⟨p, 2, none⟩ = some (.int .i64 ob)
theorem Ro.below {w0 wr w' : World} {p : Nat} {oa ob : Int} (f : Ro w0 p oa ob wr) (hb : Below wr.heap.size wr w') : Ro w0 p oa ob w' :=
  ⟨f.bel.trans (hb.mono f.bel.size), by have := hb.size; have := f.lt; omega, by rw [hb.cell f.lt]; exact f.ca, by rw [hb.cell f.lt]; exact f.cb⟩

set_option maxRecDepth 100000 in
set_option maxHeartbeats 1000000 in
theorem chkLaw_walk (a : Option Addr) (n c : Nat) (l : List TOp) (w : World) (gb go gc : Nat) (hs : Script w a n c l) (hK : Kinds 0 w gb go gc) :
    Calls Tryd.prog 4 #[.slice a n c] w fun e w' => e = .returned (.bool true) ∧ Below w.heap.size w w' := by
  have HS := hid hs
  have HK := hid hK
  clear hs hK
  go_enter Tryd.func4, Tryd.ntmps4
  go_wp2_with fail
  refine (small_walk a n c l _ HS.out).mono ?_
  rintro e w' ⟨r, rfl, rfl, hr⟩
  cases r with
  | false =>
    go_wp2
    go_ret
    exact ⟨rfl, Below.refl _ _⟩
  | true =>
    have hsm := hr rfl
    have hn : n ≤ 65536 := by omega
    clear hr hsm
    go_wp2
    go_loopw [12] (fun i wr => ∃ k : Nat, k ≤ n ∧ i = .int .i64 k ∧ Hid (Below w'.heap.size w' wr)) (fun i _ => n - (intOf i).toNat)
    case atStart => exact ⟨0, Nat.zero_le _, rfl, hid (Below.refl _ _)⟩
    case round =>
      obtain ⟨k, hk, rfl, HB⟩ := hrel
      by_cases hlt : k < n
      · obtain ⟨o, ho, hok, b, off, rfl, hb, c0, c1, c2, c3, c4, c5, c6, c7⟩ := (HS.out.below HB.out).at hlt
        have hfa : I64 o.a := hok.fa
        have hfb : I64 o.b := hok.fb
        clear ho hok
        obtain ⟨kind, oa, ob, oc, s, t, la, ln, lc, list, ra, rn, rc, recs⟩ := o
        dsimp only at hfa hfb
        obtain ⟨wa, hwa⟩ : ∃ wa, wr.alloc (Obj.cells #[Value.int IntKind.i64 kind, Value.int IntKind.i64 oa, Value.int IntKind.i64 ob, Value.int IntKind.i64 oc, Value.string s, Value.string t, Value.slice la ln lc, Value.slice ra rn rc] 36) = wa := ⟨_, rfl⟩
        obtain ⟨p, hp⟩ : ∃ p, wr.heap.size = p := ⟨_, rfl⟩
        have HR : Hid (Ro w' p oa ob wa) := by
          subst hwa hp
          have hb := Blk.new wr [Value.int IntKind.i64 kind, Value.int IntKind.i64 oa, Value.int IntKind.i64 ob, Value.int IntKind.i64 oc, Value.string s, Value.string t, Value.slice la ln lc, Value.slice ra rn rc] 36
          exact hid ⟨HB.out.trans ((Below.alloc (Below.refl _ _) (Nat.le_refl _) _).mono HB.out.size), hb.lt, hb.cell 1, hb.cell 2⟩
        have HKa := hid (HK.out.below HR.out.bel)
        have kv := HKa.out.var
        go_upto_region 6 with fail
        clear hwa c0 c1 c2 c3 c4 c5 c6 c7 hp
        go_wp2
        go_loopw [18] (fun i wq => ∃ j : Nat, j ≤ 6 ∧ i = .int .i64 j ∧ Hid (Ro w' p oa ob wq)) (fun i _ => 6 - (intOf i).toNat)
        case atStart => exact ⟨0, by omega, rfl, HR⟩
        case round =>
          obtain ⟨j, hj, rfl, HQ⟩ := hrel
          by_cases hj6 : j < 6
          · have kr := (HK.out.below HQ.out.bel).row j hj6
            have ka := HQ.out.ca
            have kb := HQ.out.cb
            have i1 : (j : Int) < 6 := by omega
            have H1 := hid (fun w => agree_all ((j : Int) + 2) oa ob hfa hfb (by omega) w)
            have H2 := hid (fun w => agree_all ((j : Int) + 2) ob oa hfb hfa (by omega) w)
            obtain ⟨kd, hkd⟩ : ∃ kd, (j : Int) + 2 = kd := ⟨_, rfl⟩
            rw [hkd] at kr H1 H2
            clear hkd kv
            go_wp2_with fail
            refine (H1.out _).mono ?_
            rintro e w2 ⟨rfl, hb2⟩
            have HQ2 := hid (HQ.out.below hb2)
            clear hb2 kr ka kb
            have ka := HQ2.out.ca
            have kb := HQ2.out.cb
            go_wp2_with fail
            refine (H2.out _).mono ?_
            rintro e w3 ⟨rfl, hb3⟩
            have HQ3 := hid (HQ2.out.below hb3)
            clear hb3 ka kb
            go_wp2
            exact ⟨⟨j + 1, by omega, by go_num, HQ3⟩, by simp [intOf]; omega⟩
          · have hj6' : j = 6 := by omega
            subst hj6'
            go_wp2
            exact ⟨⟨k + 1, by omega, by go_num, hid HQ.out.bel⟩, by simp [intOf]; omega⟩
      · have hkn : k = n := by omega
        subst hkn
        go_wp2
        go_ret
        exact ⟨rfl, HB.out⟩
end Go.Proofs.Qxb6500890aDoor
