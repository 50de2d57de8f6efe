/- place, newError. -/
import Derived.Test.Qxb6500883aGreatDoorScL
namespace Go.Proofs.Qxb6500883aGreatDoor
open Go.RowKit
set_option linter.unusedSimpArgs false
set_option linter.unusedVariables false
/-- One-cell elements of a row of one's own. -/
theorem OwR.at1 {α : Type} {K : RK α} {n0 g m q : Nat} {w : World} {l : List α} (h : OwR K n0 w (.slice (some ⟨g, 0, none⟩) m q) l) (hn : K.n = 1) (hl : ∀ x, (K.f x).length = K.n) {i : Nat} {x : α} (hx : l[i]? = some x) : w.cell? ⟨g, i, none⟩ = (K.f x)[0]? := by
  obtain ⟨g', q', e, hlt, hc⟩ := h.rx.get (by omega) hl hx
  cases e
  have := hc 0 (by omega)
  rw [hn, Nat.mul_one, Nat.add_zero] at this
  exact this
theorem OwR.some1 {α : Type} {K : RK α} {n0 : Nat} {w : World} {v : Value} {l : List α} (h : OwR K n0 w v l) (hp : 0 < l.length) : ∃ g q, v = .slice (some ⟨g, 0, none⟩) l.length q ∧ n0 ≤ g ∧ g < w.heap.size ∧ l.length ≤ q ∧ q ≤ maxLen := by
  rcases h.2 with ⟨_, h2⟩ | ⟨g, cap, cur, h1, h2, h3, h4, h5, _⟩
  · omega
  · exact ⟨g, cap, h1, h2, (Array.getElem?_eq_some_iff.1 h3).1, h4, h5⟩
def plV (p : Nat × Nat) : Value := .tuple #[.int .i64 (p.1 : Int), .int .i64 (p.2 : Int)]
section
variable {w w' : World} {n0 q n : Nat} {bs : List UInt8}
set_option maxRecDepth 100000 in
set_option maxHeartbeats 1000000 in
theorem placeW (h : LtM n0 w q (stF bs n)) (hn : bs.length = n) (hle : n ≤ 17592186044000) (pos : Nat) (hp : pos ≤ n) : Calls Tryz.prog 97 #[.pointer (some ⟨q, 0, none⟩), .int .i64 (pos : Int)] w fun e w' => e = .returned (plV (placeP (bs.take pos))) ∧ Drew w w' := by
  obtain ⟨v, hb, hr⟩ := h.row
  obtain ⟨g, cp, rfl, _, _, _, _⟩ := hr.some1 (by have := stF_len bs n; omega)
  have cv := hb.cell 0
  simp only [List.getElem?_cons_zero] at cv
  have HR : Hid (∀ (i x : Nat), (stF bs n)[i]? = some x → w.cell? ⟨g, i, none⟩ = some (.int .i64 (x : Int))) := hid (fun i x hx => hr.at1 rfl (fun _ => rfl) hx)
  obtain ⟨x9, hx9, hx92, HPl⟩ := place_st bs (p := pos) (by omega)
  obtain ⟨L, hL⟩ : ∃ L, (stF bs n).length = L := ⟨_, rfl⟩
  obtain ⟨M, hM⟩ : ∃ M, (stF bs pos).length = M := ⟨_, rfl⟩
  have hM1 := (stF_len bs pos).1
  have hML := stF_lens bs hp
  have hLn := (stF_len bs n).2
  rw [hM] at hM1 hML hx9 HPl
  rw [hL] at hML cv hLn
  have Hx9 : Hid ((stF bs n)[M - 1]? = some x9) := hid (by rw [stF_get bs hp (by omega)]; exact hx9)
  have HI : Hid (∀ (j x : Nat), (stF bs n)[j]? = some x → (x ≤ pos ↔ j < M)) := hid (fun j x hj => by rw [← hM]; exact stF_iff bs hp hj)
  have HL := hid hL
  rw [HPl]
  clear HPl hx9 hL hM hr hb h
  generalize stF bs n = l at HR HI HL Hx9
  go_enter Tryz.func97, Tryz.ntmps97
  go_upto_region 1 with fail
  go_quiet (fail)
  go_upto_region 2 with fail
  go_loopw [6, 7] (fun a b wr => ∃ lo hi : Nat, a = .int .i64 (lo : Int) ∧ b = .int .i64 (hi : Int) ∧ lo < M ∧ M ≤ hi ∧ hi ≤ L ∧ Hid (Drew w wr)) (fun a b _ => (intOf b).toNat - (intOf a).toNat)
  case atStart => exact ⟨0, L, rfl, rfl, by omega, by omega, Nat.le_refl _, hid ⟨_, rfl⟩⟩
  case round =>
  obtain ⟨lo, hi, rfl, rfl, h1, h2, h3, HD⟩ := hrel
  have cv2 : wr.cell? ⟨q, 0, none⟩ = some (.slice (some ⟨g, 0, none⟩) L cp) := by obtain ⟨m, rfl⟩ := HD.out; exact cv
  have HR2 : Hid (∀ (i x : Nat), l[i]? = some x → wr.cell? ⟨g, i, none⟩ = some (.int .i64 (x : Int))) := hid (fun i x hx => by obtain ⟨m, rfl⟩ := HD.out; exact HR.out i x hx)
  by_cases hd : hi = lo + 1
  · as_aux_lemma =>
    have d1 : decide ((hi : Int) - (lo : Int) > 1) = false := decide_eq_false (by omega)
    have d2 : decide (1 < (hi : Int) - (lo : Int)) = false := d1
    have hlM : lo = M - 1 := by omega
    have i1 : (lo : Int) < (L : Int) := by omega
    have cl := HR2.out lo x9 (by rw [hlM]; exact Hx9.out)
    have e1 : (pos : Int) - (x9 : Int) = ((pos - x9 : Nat) : Int) := by omega
    have HM : Hid (M = lo + 1) := hid (by omega)
    clear hlM hd
    go_upto_region 7 with fail
    go_quiet (fail)
    go_wp2
    go_ret2
    exact ⟨by rw [HM.out]; unfold plV; dsimp only; go_num, HD.out.next _⟩
  · have d1 : decide ((hi : Int) - (lo : Int) > 1) = true := decide_eq_true (by omega)
    have d2 : decide (1 < (hi : Int) - (lo : Int)) = true := d1
    obtain ⟨mid, hmid⟩ : ∃ mid, lo + (hi - lo) / 2 = mid := ⟨_, rfl⟩
    have e1 : (lo : Int) + ((hi : Int) - (lo : Int)).tdiv 2 = (mid : Int) := by
      rw [← hmid, Int.tdiv_eq_ediv_of_nonneg (by omega)]; omega
    have e2 : (lo : Int) + ((hi : Int) - (lo : Int)) / 2 = (mid : Int) := by omega
    have hm1 : lo < mid := by omega
    have hm2 : mid < hi := by omega
    clear hmid hd
    obtain ⟨x, hx⟩ : ∃ x, l[mid]? = some x := ⟨_, List.getElem?_eq_getElem (by rw [HL.out]; omega)⟩
    have hxi := HI.out mid x hx
    have cm := HR2.out mid x hx
    have i1 : (mid : Int) < (L : Int) := by omega
    clear hx
    by_cases hlt : mid < M
    · as_aux_lemma =>
      have d3 : decide ((x : Int) ≤ (pos : Int)) = true := decide_eq_true (by have := hxi.2 hlt; omega)
      go_wp2
      exact ⟨⟨mid, hi, rfl, rfl, hlt, h2, h3, HD⟩, by simp [intOf]; omega⟩
    · as_aux_lemma =>
      have d3 : decide ((x : Int) ≤ (pos : Int)) = false := decide_eq_false (fun h => hlt (hxi.1 (by omega)))
      go_wp2
      exact ⟨⟨lo, mid, rfl, rfl, h1, by omega, by omega, HD⟩, by simp [intOf]; omega⟩
end
end Go.Proofs.Qxb6500883aGreatDoor
