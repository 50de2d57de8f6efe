/- The heap: place, Shape, LoadRef, StoreRef, LoadData, StoreData, Depth. -/
import Derived.Test.Qxb6500889aDoorMuM
import Derived.Test.Qxb6500889aDoorLast3
import Derived.Test.Qxb6500889aDoorLastT
import Derived.Deep.DeepCutAuto
namespace Go.Proofs.Qxb6500889aDoor
open Go.RowKit
set_option linter.unusedSimpArgs false
set_option linter.unusedVariables false

def nextRun (tk : Bool) (i r : Nat) : Nat := if tk then 0 else if 0 < r ∨ i % 2 = 0 then r + 1 else r
def scanP (tk : Nat → Bool) (words : Nat) : Nat → Nat → Nat → Option Nat
  | 0, _, _ => none
  | f + 1, i, r => if nextRun (tk i) i r = words then some (i + 1 - words) else scanP tk words f (i + 1) (nextRun (tk i) i r)
def placeP (tk : Nat → Bool) (words : Nat) : Option Nat := scanP tk words 32768 0 0
section
variable {w : World} {ρ : Rl} {L : HL} {H : HS}
theorem HM.cells (h : HM w ρ L H) : w.cell? ⟨L.hB, 0, none⟩ = some (.map (some L.mO)) ∧ w.cell? ⟨L.hB, 1, none⟩ = some (.slice (some ⟨L.tB, 0, none⟩) 32768 32768) ∧ w.cell? ⟨L.hB, 10, none⟩ = some (.map (some L.mC)) := ⟨h.hb.cell 0, h.hb.cell 1, h.hb.cell 10⟩
theorem HM.tcell (h : HM w ρ L H) {i : Nat} (hi : i < 32768) : w.cell? ⟨L.tB, i, none⟩ = some (.bool (H.taken i)) := by rw [h.tk.cell]; exact tkC_get _ hi
def plcV (o : Option Nat) : Value := .tuple #[.int .i64 ((o.getD 0 : Nat) : Int), .bool o.isSome]
set_option maxRecDepth 1000000 in
set_option maxHeartbeats 2000000 in
theorem place_walk (h : HM w ρ L H) (words : Nat) (hw1 : 1 ≤ words) (hw2 : words ≤ 9000) :
    Calls Tryd.prog 79 #[.pointer (some ⟨L.hB, 0, none⟩), .int .i64 (words : Int)] w fun e w' => e = .returned (plcV (placeP H.taken words)) ∧ w' = w := by
  have c1 := h.cells.2.1
  have HT : Hid (∀ i, i < 32768 → w.cell? ⟨L.tB, i, none⟩ = some (.bool (H.taken i))) := hid (fun i hi => h.tcell hi)
  obtain ⟨hB, hhB⟩ : ∃ b, L.hB = b := ⟨_, rfl⟩
  obtain ⟨tB, htB⟩ : ∃ b, L.tB = b := ⟨_, rfl⟩
  rw [hhB, htB] at c1
  rw [htB] at HT
  rw [hhB]
  obtain ⟨tk, htk⟩ : ∃ tk, H.taken = tk := ⟨_, rfl⟩
  rw [htk] at HT ⊢
  clear h hhB htB htk
  go_enter Tryd.func79, Tryd.ntmps79
  go_wp2_with fail
  go_loopw [6, 14] (fun v6 v14 wr => wr = w ∧ ∃ i r : Nat, i ≤ 32768 ∧ r ≤ i ∧ v6 = .int .i64 (r : Int) ∧ v14 = .int .i64 (i : Int) ∧ Hid (scanP tk words (32768 - i) i r = placeP tk words)) (fun _ v _ => 32768 - (intOf v).toNat)
  case atStart => exact ⟨rfl, 0, 0, by omega, by omega, rfl, rfl, hid rfl⟩
  case round =>
    obtain ⟨rfl, i, r, hi, hr, rfl, rfl, HS⟩ := hrel
    by_cases hlt : i < 32768
    rotate_left
    · as_aux_lemma =>
      have dk : decide ((i : Int) < 32768) = false := decide_eq_false (by omega)
      have HN : Hid (placeP tk words = none) := hid (by rw [← HS.out, show 32768 - i = 0 by omega]; rfl)
      go_wp2
      exact bodyPost_ret (v := .tuple #[.int .i64 0, .bool false]) (by simp [results, Tryd.results79, go_sem]) rfl ⟨by rw [HN.out]; rfl, rfl⟩
    have dk : decide ((i : Int) < 32768) = true := decide_eq_true (by omega)
    have ct := HT.out i hlt
    have HSt : Hid (placeP tk words = if nextRun (tk i) i r = words then some (i + 1 - words) else scanP tk words (32768 - (i + 1)) (i + 1) (nextRun (tk i) i r)) := hid (by
      rw [← HS.out, show 32768 - i = (32768 - (i + 1)) + 1 by omega]
      rfl)
    clear HS
    obtain ⟨t, ht⟩ : ∃ t, tk i = t := ⟨_, rfl⟩
    rw [ht] at ct HSt
    clear ht
    have i1 : (i : Int) < 32768 := by omega
    have Hlt := hid hlt
    clear hlt hi
    go_upto_region 5 with fail
    clear dk ct c1
    cases t with
    | true =>
      have hnx : nextRun true i r = 0 := rfl
      have hw : ¬ 0 = words := by omega
      as_aux_lemma =>
      have dw : (((0 : Nat) : Int) == (words : Int)) = false := by simp; omega
      have dw' : ((0 : Int) == (words : Int)) = false := by simp; omega
      have HR : Hid (scanP tk words (32768 - (i + 1)) (i + 1) 0 = placeP tk words) := hid (by rw [HSt.out, if_neg (by rw [hnx]; exact hw), hnx])
      have Hw := hid (And.intro hw1 hw2)
      clear hnx HSt hw1 hw2
      go_wp2
      exact ⟨⟨by first | rfl | trivial, i + 1, 0, by have := Hlt.out; omega, by omega, by go_num, by go_num, HR⟩, by have := Hlt.out; simp [intOf]; omega⟩
    | false =>
      by_cases hr0 : 0 < r
      · have d0 : decide ((0 : Int) < (r : Int)) = true := decide_eq_true (by omega)
        have hnx : nextRun false i r = r + 1 := by unfold nextRun; rw [if_neg (by simp), if_pos (.inl hr0)]
        by_cases hw : r + 1 = words
        · as_aux_lemma =>
          have dw : (((r + 1 : Nat) : Int) == (words : Int)) = true := by simp; omega
          have dw2 : ((words : Int) == (words : Int)) = true := by simp
          have HR : Hid (placeP tk words = some (i + 1 - words)) := hid (by rw [HSt.out, if_pos (by rw [hnx]; exact hw)])
          have hge : words ≤ i + 1 := by omega
          have Hw := hid (And.intro hw1 hw2)
          clear hnx HSt hw1 hw2
          subst hw
          go_wp2
          exact bodyPost_ret (v := .tuple #[.int .i64 ((i : Int) + 1 - ((r + 1 : Nat) : Int)), .bool true]) (by simp [results, Tryd.results79, go_sem]) rfl ⟨by rw [HR.out]; simp [plcV] <;> omega, rfl⟩
        · as_aux_lemma =>
          have dw : (((r + 1 : Nat) : Int) == (words : Int)) = false := by simp; omega
          have dw' : (r + 1 == words) = false := by simp; omega
          have HR : Hid (scanP tk words (32768 - (i + 1)) (i + 1) (r + 1) = placeP tk words) := hid (by rw [HSt.out, if_neg (by rw [hnx]; exact hw), hnx])
          have Hw := hid (And.intro hw1 hw2)
          clear hnx HSt hw1 hw2
          go_wp2
          exact ⟨⟨by first | rfl | trivial, i + 1, r + 1, by have := Hlt.out; omega, by omega, by go_num, by go_num, HR⟩, by have := Hlt.out; simp [intOf]; omega⟩
      · obtain rfl : r = 0 := by omega
        by_cases he : i % 2 = 0
        · have e0 : ((i : Int).tmod 2 == 0) = true := by rw [Int.tmod_eq_emod_of_nonneg (by omega)]; simp; omega
          have hnx : nextRun false i 0 = 1 := by unfold nextRun; rw [if_neg (by simp), if_pos (.inr he)]
          by_cases hw : 1 = words
          · as_aux_lemma =>
            have dw : (((1 : Nat) : Int) == (words : Int)) = true := by simp; omega
            have dw2 : ((words : Int) == (words : Int)) = true := by simp
            have HR : Hid (placeP tk words = some (i + 1 - words)) := hid (by rw [HSt.out, if_pos (by rw [hnx]; exact hw)])
            have hge : words ≤ i + 1 := by omega
            have Hw := hid (And.intro hw1 hw2)
            clear hnx HSt hw1 hw2
            subst hw
            go_wp2
            exact bodyPost_ret (v := .tuple #[.int .i64 ((i : Int) + 1 - ((1 : Nat) : Int)), .bool true]) (by simp [results, Tryd.results79, go_sem]) rfl ⟨by rw [HR.out]; simp [plcV] <;> omega, rfl⟩
          · as_aux_lemma =>
            have dw : (((1 : Nat) : Int) == (words : Int)) = false := by simp; omega
            have dw' : (1 == words) = false := by simp; omega
            have HR : Hid (scanP tk words (32768 - (i + 1)) (i + 1) (1) = placeP tk words) := hid (by rw [HSt.out, if_neg (by rw [hnx]; exact hw), hnx])
            have Hw := hid (And.intro hw1 hw2)
            clear hnx HSt hw1 hw2
            go_wp2
            exact ⟨⟨by first | rfl | trivial, i + 1, 1, by have := Hlt.out; omega, by omega, by go_num, by go_num, HR⟩, by have := Hlt.out; simp [intOf]; omega⟩
        · have e0 : ((i : Int).tmod 2 == 0) = false := by rw [Int.tmod_eq_emod_of_nonneg (by omega)]; simp; omega
          have hnx : nextRun false i 0 = 0 := by unfold nextRun; rw [if_neg (by simp), if_neg (by omega)]
          have hw : ¬ 0 = words := by omega
          as_aux_lemma =>
          have dw : (((0 : Nat) : Int) == (words : Int)) = false := by simp; omega
          have dw' : ((0 : Int) == (words : Int)) = false := by simp; omega
          have HR : Hid (scanP tk words (32768 - (i + 1)) (i + 1) 0 = placeP tk words) := hid (by rw [HSt.out, if_neg (by rw [hnx]; exact hw), hnx])
          have Hw := hid (And.intro hw1 hw2)
          clear hnx HSt hw1 hw2
          go_wp2
          exact ⟨⟨by first | rfl | trivial, i + 1, 0, by have := Hlt.out; omega, by omega, by go_num, by go_num, HR⟩, by have := Hlt.out; simp [intOf]; omega⟩
end
end Go.Proofs.Qxb6500889aDoor
