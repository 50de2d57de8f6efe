/- The lexer in memory; skipBlank. -/
import Derived.Test.Qxb6500883aGreatDoorScF
namespace Go.Proofs.Qxb6500883aGreatDoor
open Go.RowKit
set_option linter.unusedSimpArgs false
set_option linter.unusedVariables false
/-- The lexer at the head of block g: the text, the place, the tokens handed out. -/
structure LxM (w : World) (g : Nat) (t : TypeId) (cs : List Value) (a : Option Addr) (n c : Nat) (bs : List UInt8) (i k : Nat) : Prop where
  blk : Blk w g t cs
  src : Src w a n c bs
  c0 : cs[0]? = some (.slice a n c)
  c1 : cs[1]? = some (.int .i64 (i : Int))
  c2 : cs[2]? = some (.int .i64 (k : Int))
  ne : ∀ ad, a = some ad → ad.block ≠ g
  hi : i ≤ n
section
variable {w w' : World} {g : Nat} {t : TypeId} {cs : List Value} {a : Option Addr} {n c : Nat} {bs : List UInt8} {i k : Nat}
theorem LxM.cells (h : LxM w g t cs a n c bs i k) : w.cell? ⟨g, 0, none⟩ = some (.slice a n c) ∧ w.cell? ⟨g, 1, none⟩ = some (.int .i64 (i : Int)) ∧ w.cell? ⟨g, 2, none⟩ = some (.int .i64 (k : Int)) :=
  ⟨by rw [h.blk.cell]; exact h.c0, by rw [h.blk.cell]; exact h.c1, by rw [h.blk.cell]; exact h.c2⟩
theorem LxM.fz (h : LxM w g t cs a n c bs i k) (j : Nat) : w.frozen? ⟨g, j, none⟩ = false := h.blk.frozen j
theorem LxM.below (h : LxM w g t cs a n c bs i k) (hb : Below w.heap.size w w') : LxM w' g t cs a n c bs i k := ⟨h.blk.below hb, h.src.below hb, h.c0, h.c1, h.c2, h.ne, h.hi⟩
theorem LxM.pos (h : LxM w g t cs a n c bs i k) {j : Nat} (hj : j ≤ n) : LxM (w.setCell ⟨g, 1, none⟩ (.int .i64 (j : Int))) g t (cs.set 1 (.int .i64 (j : Int))) a n c bs j k := by
  have hu : Upd g w (w.setCell ⟨g, 1, none⟩ (.int .i64 (j : Int))) := (Upd.refl g w).setCell rfl _
  refine ⟨h.blk.set 1 _, h.src.upd hu h.ne, ?_, ?_, ?_, h.ne, hj⟩
  · rw [List.getElem?_set_ne (by omega)]; exact h.c0
  · rw [List.getElem?_set_self ?_]
    exact (List.getElem?_eq_some_iff.1 h.c1).1
  · rw [List.getElem?_set_ne (by omega)]; exact h.c2
theorem LxM.cnt (h : LxM w g t cs a n c bs i k) (j : Nat) : LxM (w.setCell ⟨g, 2, none⟩ (.int .i64 (j : Int))) g t (cs.set 2 (.int .i64 (j : Int))) a n c bs i j := by
  have hu : Upd g w (w.setCell ⟨g, 2, none⟩ (.int .i64 (j : Int))) := (Upd.refl g w).setCell rfl _
  refine ⟨h.blk.set 2 _, h.src.upd hu h.ne, ?_, ?_, ?_, h.ne, h.hi⟩
  · rw [List.getElem?_set_ne (by omega)]; exact h.c0
  · rw [List.getElem?_set_ne (by omega)]; exact h.c1
  · rw [List.getElem?_set_self ?_]
    exact (List.getElem?_eq_some_iff.1 h.c2).1
set_option maxRecDepth 100000 in
set_option maxHeartbeats 1000000 in
theorem skipBlankW (h : LxM w g t cs a n c bs i k) : Calls Tryz.prog 105 #[.pointer (some ⟨g, 0, none⟩)] w fun e w' => e = .returned (.tuple #[]) ∧ w' = w.setCell ⟨g, 1, none⟩ (.int .i64 (skipP bs i : Int)) := by
  obtain ⟨c0, c1, _⟩ := h.cells
  have f1 := h.fz 1
  have hi := h.hi
  have hn := h.src.cap.2.1
  have hnl := h.src.len
  have HS := hid h.src
  obtain ⟨r, hr⟩ : ∃ r, skipP bs i = r := ⟨_, rfl⟩
  have HR := hid hr
  have Hn := hid hnl
  rw [hr]
  clear h hr hnl
  go_enter Tryz.func105, Tryz.ntmps105
  go_upto_region 2 with fail
  go_loopw [3] (fun v wr => wr = w ∧ ∃ j : Nat, v = .int .i64 (j : Int) ∧ j ≤ n ∧ Hid (skipP bs j = r)) (fun v _ => n - (intOf v).toNat)
  case atStart => exact ⟨rfl, i, rfl, hi, HR⟩
  case round =>
  clear HR hi
  obtain ⟨rfl, j, rfl, hj, HR⟩ := hrel
  by_cases hjn : j < n
  rotate_left
  · as_aux_lemma =>
    have d1 : decide ((j : Int) < (n : Int)) = false := decide_eq_false (by omega)
    have HE : Hid (j = r) := hid (by rw [← HR.out]; exact (sk_end bs (by rw [Hn.out]; omega)).symm)
    obtain rfl : j = r := HE.out
    go_wp2
    exact bodyPost_end (v := .tuple #[]) (by simp [results, Tryz.results105, go_sem]) rfl ⟨rfl, rfl⟩
  have d1 : decide ((j : Int) < (n : Int)) = true := decide_eq_true (by omega)
  obtain ⟨b, off, rfl, hb, hc⟩ := HS.out.cell hjn
  obtain ⟨x, hx⟩ : ∃ x, cN bs j = x := ⟨_, rfl⟩
  have hx2 : x < 256 := by rw [← hx]; exact cN_lt _ _
  rw [hx] at hc
  have Hx := hid hx
  clear hx
  obtain ⟨sp, hsp⟩ : ∃ sp, spB x = sp := ⟨_, rfl⟩
  have HC := hid (isSpaceW x hx2)
  rw [hsp] at HC
  have Hsp := hid hsp
  clear hsp
  cases sp with
  | true =>
    as_aux_lemma =>
    have HE : Hid (skipP bs (j + 1) = r) := hid (by rw [← sk_sp bs (by rw [Hn.out]; exact hjn) (by rw [Hx.out]; exact Hsp.out)]; exact HR.out)
    go_wp2_with fail
    refine (HC.out _).mono ?_
    rintro e w2 ⟨rfl, rfl⟩
    go_wp2
    exact ⟨⟨trivial, j + 1, by go_num, by omega, HE⟩, by simp [intOf]; omega⟩
  | false =>
    by_cases h5 : x = 35
    rotate_left
    · as_aux_lemma =>
      have d2 : ((x : Int) != 35) = true := by simp; omega
      have HE : Hid (j = r) := hid (by rw [← HR.out]; exact (sk_no bs (by rw [Hn.out]; exact hjn) (by rw [Hx.out]; exact Hsp.out) (by rw [Hx.out]; exact h5)).symm)
      obtain rfl : j = r := HE.out
      go_wp2_with fail
      refine (HC.out _).mono ?_
      rintro e w2 ⟨rfl, rfl⟩
      go_wp2
      exact bodyPost_end (v := .tuple #[]) (by simp [results, Tryz.results105, go_sem]) rfl ⟨rfl, rfl⟩
    have d2 : ((x : Int) != 35) = false := by simp; omega
    have HE : Hid (skipC bs j = r) := hid (by rw [← sk_com bs (by rw [Hn.out]; exact hjn) (by rw [Hx.out]; exact h5)]; exact HR.out)
    have HLt := hid hjn
    have hj1 : 10 < x := by omega
    clear h5
    go_wp2_with fail
    refine (HC.out _).mono ?_
    rintro e w2 ⟨rfl, rfl⟩
    clear HC Hsp
    go_upto_region 7 with fail
    go_loopw [3] (fun v wr => wr = w2 ∧ ∃ m : Nat, v = .int .i64 (m : Int) ∧ m ≤ n ∧ j ≤ m ∧ (m = j ∨ j < m) ∧ Hid (skipC bs m = r)) (fun v _ => n - (intOf v).toNat)
    case atStart => exact ⟨rfl, j, rfl, hj, Nat.le_refl _, .inl rfl, HE⟩
    case round =>
    clear HE
    obtain ⟨rfl, m, rfl, hm, hjm, hjm2, HE⟩ := hrel
    by_cases hmn : m < n
    rotate_left
    · as_aux_lemma =>
      have d3 : decide ((m : Int) < (n : Int)) = false := decide_eq_false (by omega)
      have HF : Hid (skipP bs m = r) := hid (by rw [← HE.out, sk_end bs (by rw [Hn.out]; omega), sc_end bs (by rw [Hn.out]; omega)])
      go_wp2
      exact ⟨⟨trivial, m, rfl, hm, HF⟩, by simp [intOf]; omega⟩
    have d3 : decide ((m : Int) < (n : Int)) = true := decide_eq_true (by omega)
    obtain ⟨b', off', e', hb', hc'⟩ := HS.out.cell hmn
    cases e'
    obtain ⟨y, hy⟩ : ∃ y, cN bs m = y := ⟨_, rfl⟩
    rw [hy] at hc'
    have Hy := hid hy
    clear hy
    by_cases h10 : y = 10
    · as_aux_lemma =>
      have d4 : ((y : Int) != 10) = false := by simp; omega
      have HF : Hid (skipP bs m = r) := hid (by rw [← HE.out]; exact (sc_nl bs (by rw [Hn.out]; exact hmn) (by rw [Hy.out]; exact h10)).symm)
      have hne : j < m := by
        rcases hjm2 with h | h
        · exfalso
          have := Hx.out
          have := Hy.out
          subst h
          omega
        · exact h
      go_wp2
      exact ⟨⟨trivial, m, rfl, hm, HF⟩, by simp [intOf]; omega⟩
    · as_aux_lemma =>
      have d4 : ((y : Int) != 10) = true := by simp; omega
      have HF : Hid (skipC bs (m + 1) = r) := hid (by rw [← HE.out]; exact (sc_on bs (by rw [Hn.out]; exact hmn) (by rw [Hy.out]; exact h10)).symm)
      go_wp2
      exact ⟨⟨trivial, m + 1, by go_num, by omega, by omega, .inr (by omega), HF⟩, by simp [intOf]; omega⟩
end
end Go.Proofs.Qxb6500883aGreatDoor
