/- classes; members of a register whose table may stand already. -/
import Derived.Test.Qxb6500884aClFam
namespace Go.Proofs.Qxb6500884a
open Go.RowKit
set_option linter.unusedSimpArgs false
set_option linter.unusedVariables false

/-- The slice of a class, as a value. -/
def clV (t : Option Addr × Nat × Nat) : Value := .slice t.1 t.2.1 t.2.2
/-- Classes, one by one. -/
structure ClsOk (w : World) (T : List (Option Addr × Nat × Nat)) (Ls : List (List (Int × Int))) : Prop where
  len : T.length = Ls.length
  all : ∀ (i : Nat) (t : Option Addr × Nat × Nat) (l : List (Int × Int)), T[i]? = some t → Ls[i]? = some l → IvRow w t.1 t.2.1 t.2.2 l ∧ Nrm l ∧ Ty67 w t.1 t.2.1
theorem ClsOk.keep {w w' : World} {T : List (Option Addr × Nat × Nat)} {Ls : List (List (Int × Int))} (h : ClsOk w T Ls) (hk : KeepT w w') : ClsOk w' T Ls :=
  ⟨h.len, fun i t l h1 h2 => by
    obtain ⟨a, b, c⟩ := h.all i t l h1 h2
    exact ⟨a.keep c hk, b, c.keep hk⟩⟩
theorem ClsOk.below {w w' : World} {T : List (Option Addr × Nat × Nat)} {Ls : List (List (Int × Int))} (h : ClsOk w T Ls) (hb : Below w.heap.size w w') : ClsOk w' T Ls := h.keep (KeepT.below hb)
theorem ClsOk.at {w : World} {T : List (Option Addr × Nat × Nat)} {Ls : List (List (Int × Int))} (h : ClsOk w T Ls) {i : Nat} (hi : i < Ls.length) : ∃ t l, T[i]? = some t ∧ Ls[i]? = some l ∧ IvRow w t.1 t.2.1 t.2.2 l ∧ Nrm l ∧ Ty67 w t.1 t.2.1 := by
  have hi' : i < T.length := by rw [h.len]; exact hi
  have h1 : T[i]? = some T[i] := List.getElem?_eq_getElem hi'
  have h2 : Ls[i]? = some Ls[i] := List.getElem?_eq_getElem hi
  exact ⟨_, _, h1, h2, h.all i _ _ h1 h2⟩
theorem info_cls : ∃ i, Try.prog.info? 30 = some i ∧ i.zero = some (.agg #[.slice none 0 0]) ∧ i.size = 1 ∧ i.bytes = 24 := by
  have h : (Try.prog.info? 30).map (fun i => (i.zero, i.size, i.bytes)) = some (some (.agg #[.slice none 0 0]), 1, 24) := by kernel_rfl
  obtain ⟨i, hi, he⟩ := Option.map_eq_some_iff.1 h
  simp only [Prod.mk.injEq] at he
  exact ⟨i, hi, he.1, he.2.1, he.2.2⟩
theorem make_cls (n : Nat) (hn : n ≤ 1000000000) (w : World) : ∃ Z : List Value, Z.length = n ∧ (Instr.makeSlice 77 (.int .i64 (n : Int)) (.int .i64 (n : Int))).run Try.prog w = .ok (.slice (some ⟨w.heap.size, 0, none⟩) n n) (w.alloc (.cells Z.toArray 30)) := by
  obtain ⟨i0, hi, hz0, hz1, hz2⟩ := info_cls
  have := run_make (P := Try.prog) w 77 30 i0 _ Try.underlying77 hi hz0 .i64 .i64 (n : Int) (n : Int) (by omega) (by omega) (by rw [hz2]; omega) (by omega)
  rw [hz1] at this
  simp at this
  exact ⟨(madeCells (Value.agg #[.slice none 0 0]).cells n).toList, by rw [Array.length_toList]; exact size_madeCells _ n, by simpa using this⟩
set_option maxRecDepth 100000 in
set_option maxHeartbeats 1000000 in
theorem classes_walk (fa : Option Addr) (fn fc : Nat) (R : List (Nat × List (Int × Int))) (w : World) (hF : Fl w 38 fa fn fc (R.map ptV)) (hR : ∀ p ∈ R, RegOk w p.1 p.2) (hn : fn ≤ 65536) :
    Calls Try.prog 51 #[.slice fa fn fc] w fun e w' => ∃ g T, e = .returned (.slice (some ⟨g, 0, none⟩) fn fn) ∧ w.heap.size ≤ g ∧ Blk w' g 30 (T.map clV) ∧ ClsOk w' T (R.map (·.2)) ∧ Below w.heap.size w w' := by
  have HF := hid hF
  have HRg := hid hR
  have hl : R.length = fn := by have := hF.len; simpa using this
  obtain ⟨T, hT⟩ : ∃ T : List (Option Addr × Nat × Nat), T.length = R.length ∧ ∀ (i : Nat) t p, T[i]? = some t → R[i]? = some p → (∃ tb, Blk w p.1 40 [clV t, tb]) ∧ IvRow w t.1 t.2.1 t.2.2 p.2 ∧ Nrm p.2 ∧ Ty67 w t.1 t.2.1 := by
    clear HF HRg hF hl
    induction R with
    | nil => exact ⟨[], rfl, fun i t p h => by simp at h⟩
    | cons p R ih =>
      obtain ⟨T, h1, h2⟩ := ih (fun q hq => hR q (by simp [hq]))
      obtain ⟨a, n, c, tb, h3, h4, h5, _⟩ := (hR p (by simp)).out
      refine ⟨(a, n, c) :: T, by simp [h1], fun i t q ht hq => ?_⟩
      cases i with
      | zero =>
        simp at ht hq
        subst ht
        subst hq
        exact ⟨⟨tb, h3⟩, h4, (hR p (by simp)).nrm, h5⟩
      | succ i => exact h2 i t q (by simpa using ht) (by simpa using hq)
  obtain ⟨hTl, hTa⟩ := hT
  have HT := hid hTa
  have HCk : Hid (ClsOk w T (R.map (·.2))) := hid ⟨by simpa using hTl, fun i t l h1 h2 => by
    rw [List.getElem?_map] at h2
    obtain ⟨p, hp, rfl⟩ := Option.map_eq_some_iff.1 h2
    exact (hTa i t p h1 hp).2⟩
  obtain ⟨g, hg⟩ : ∃ g, w.heap.size = g := ⟨_, rfl⟩
  obtain ⟨Z, hZl, hmk⟩ := make_cls fn (by omega) w
  have hln : (T.map clV).length = fn := by rw [List.length_map, hTl, hl]
  have HF0 : Hid (Fill w g 30 (T.map clV) 0 (w.alloc (.cells Z.toArray 30))) := hid (by
    have hb := Blk.new w Z 30
    rw [hg] at hb
    exact ⟨nbel w _, _, hb, by rw [hln, hZl], fun i hi => by omega⟩)
  have I0 : Hid ((Try.prog.info? 30).map (·.size) = some 1) := hid info_reg
  clear hF hR hTa
  go_enter Try.func51, Try.ntmps51
  go_upto_region 3 with fail
  clear hZl
  generalize w.alloc (.cells Z.toArray 30) = w1 at HF0 ⊢
  clear hmk
  go_loopw [11] (fun i wr => ∃ (k : Nat), k ≤ fn ∧ i = .int .i64 k ∧ Hid (Fill w g 30 (T.map clV) k wr)) (fun i _ => fn - (intOf i).toNat)
  case atStart => exact ⟨0, Nat.zero_le _, rfl, HF0⟩
  case round =>
    clear HF0
    obtain ⟨k, hk, rfl, HFi⟩ := hrel
    by_cases hlt : k < fn
    · as_aux_lemma =>
      have hpk : R[k]? = some R[k] := List.getElem?_eq_getElem (by omega)
      have htk : T[k]? = some T[k] := List.getElem?_eq_getElem (by omega)
      generalize R[k] = p at hpk
      generalize T[k] = t at htk
      obtain ⟨⟨tb, hbk⟩, _⟩ := HT.out k t p htk hpk
      obtain ⟨b, off, rfl, e1⟩ := (HF.out.below HFi.out.bel).cell hlt
      rw [List.getElem?_map, hpk] at e1
      have e1' : wr.cell? ⟨b, off + k, none⟩ = some (.pointer (some ⟨p.1, 0, none⟩)) := e1
      have hxk : (T.map clV)[k]? = some (clV t) := by rw [List.getElem?_map, htk]; rfl
      obtain ⟨ta, tn, tc⟩ := t
      have c0 : wr.cell? ⟨p.1, 0, none⟩ = some (.slice ta tn tc) := (hbk.below HFi.out.bel).cell 0
      obtain ⟨v0, cg, fg⟩ := HFi.out.cell (i := k) (by omega)
      have HF2 := hid (HFi.out.step (by omega) hxk)
      have HF2' : Hid (Fill w g 30 (T.map clV) (k + 1) (wr.setCell ⟨g, k, none⟩ (.slice ta tn tc))) := HF2
      have dk : decide ((k : Int) < (fn : Int)) = true := decide_eq_true (by omega)
      have i1 : (k : Int) < (fn : Int) := by omega
      clear hpk htk hxk e1 hbk HF2
      go_wp2
      exact ⟨⟨k + 1, by omega, by go_num, HF2'⟩, by simp [intOf]; omega⟩
    · as_aux_lemma =>
      have dk : decide ((k : Int) < (fn : Int)) = false := decide_eq_false (by omega)
      go_wp2
      go_ret
      exact ⟨g, T, rfl, by omega, HFi.out.fin (by omega), HCk.out.below HFi.out.bel, HFi.out.bel⟩
end Go.Proofs.Qxb6500884a
