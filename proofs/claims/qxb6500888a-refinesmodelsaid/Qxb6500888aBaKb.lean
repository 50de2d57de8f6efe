/- The model and the machine, step by step: the plain side, but for the pause. -/
import Derived.Test.Qxb6500888aBaK8
import Derived.Test.Qxb6500888aBaT8
namespace Go.Proofs.Qxb6500888a
open Go.RowKit
set_option linter.unusedSimpArgs false
set_option linter.unusedVariables false

/-- Two grounds alike in what counts. -/
structure GSim (G G2 : GS) : Prop where
  hd : G2.head = G.head
  wd : G2.word = G.word
  tk : G2.tk = G.tk
  cn : G2.cnt = G.cnt
  pd : G2.pend = G.pend
  er : G2.errs = G.errs
  cl : G2.calls.length = G.calls.length
  de : G2.deaths.length = G.deaths.length
section
variable {G G2 : GS} {B : BS} {M : MS} {atp : Nat → Nat} {Z : Nat → Prop} {t : Nat}
theorem GSim.drop (h : GSim G G2) (o : Nat) : GSim (dropG G o) (dropG G2 o) := by
  obtain ⟨a1, a2, a3, a4, a5, a6, a7, a8, a9⟩ := G
  obtain ⟨b1, b2, b3, b4, b5, b6, b7, b8, b9⟩ := G2
  obtain ⟨h1, h2, h3, h4, h5, h6, h7, h8⟩ := h
  dsimp only at h1 h2 h3 h4 h5 h6 h7 h8
  subst h1 h2 h3 h4 h5 h6
  unfold dropG
  dsimp only
  split
  · exact ⟨rfl, rfl, rfl, rfl, rfl, rfl, by exact h7, by first | exact h8 | (show (_ ++ [o]).length = (_ ++ [o]).length; rw [List.length_append, List.length_append]; exact congrArg (· + 1) h8)⟩
  · split
    · exact ⟨rfl, rfl, rfl, rfl, rfl, rfl, by exact h7, by first | exact h8 | (show (_ ++ [o]).length = (_ ++ [o]).length; rw [List.length_append, List.length_append]; exact congrArg (· + 1) h8)⟩
    · split
      · exact ⟨rfl, rfl, rfl, rfl, rfl, rfl, by exact h7, by first | exact h8 | (show (_ ++ [o]).length = (_ ++ [o]).length; rw [List.length_append, List.length_append]; exact congrArg (· + 1) h8)⟩
      · exact ⟨rfl, rfl, rfl, rfl, rfl, rfl, by exact h7, by first | exact h8 | (show (_ ++ [o]).length = (_ ++ [o]).length; rw [List.length_append, List.length_append]; exact congrArg (· + 1) h8)⟩
theorem GSim.decN : ∀ (n : Nat) {G G2 : GS}, GSim G G2 → (decN n G2).1 = (decN n G).1 ∧ GSim (decN n G).2 (decN n G2).2
  | 0, G, G2, h => ⟨rfl, h⟩
  | n + 1, G, G2, h => by
    by_cases hz : ∃ a, G.pend a ≠ 0
    · have e1 : stepF G = some (dropG G (leastN fun a => G.pend a ≠ 0)) := by unfold stepF; rw [if_pos hz]
      have e2 : stepF G2 = some (dropG G2 (leastN fun a => G.pend a ≠ 0)) := by unfold stepF; rw [h.pd, if_pos hz]
      have ih := GSim.decN n (h.drop (leastN fun a => G.pend a ≠ 0))
      unfold Go.Proofs.Qxb6500888a.decN
      rw [e1, e2]
      dsimp only
      exact ⟨by rw [ih.1], ih.2⟩
    · have e1 : stepF G = none := by unfold stepF; rw [if_neg hz]
      have e2 : stepF G2 = none := by unfold stepF; rw [h.pd, if_neg hz]
      unfold Go.Proofs.Qxb6500888a.decN
      rw [e1, e2]
      exact ⟨rfl, h⟩
/-- The model's state is the machine's. -/
structure RelM (G : GS) (B : BS) (atp : Nat → Nat) (G2 : GS) (M : MS) : Prop where
  gs : GSim G G2
  rt : M.roots = B.roots
  la : M.last = B.last
  ap : M.atp = atp
  wr : ∀ x, M.wr x = true ↔ ∃ e ∈ lgL B, e.1 = x
  fr : ∀ x, M.fr x = true ↔ x ∈ frL B
  st : M.st = decide (B.tr = 1)
  tr : M.tr = decide (B.tr = 2)
theorem numX_two {v : Nat} (h : v < 18446744073709551616) : (numX v = (v : Int) ∧ v < 9223372036854775808) ∨ (numX v < 0 ∧ 9223372036854775808 ≤ v) := by
  unfold numX wrap64
  omega
theorem rootS_nat {m a : Nat} (hm : m < 4) (ha : a < 18446744073709551616) (hl : (B.roots m).length ≤ 64) : rootS B (m : Int) (numX a) = if a < (B.roots m).length then ((B.roots m).getD ((B.roots m).length - 1 - a) 0, 0) else (0, 10) := by
  have h := numX_two ha
  generalize numX a = z at h
  unfold rootS
  rw [if_neg (by unfold badM; omega), Int.toNat_natCast]
  by_cases h1 : a < (B.roots m).length
  · rw [if_pos h1]
    have hz : z = (a : Int) := by omega
    subst hz
    rw [if_neg (by omega), Int.toNat_natCast]
  · rw [if_neg h1, if_pos (by omega)]
theorem fieldS_nat (ok : GOk G) (obj : Nat) {i : Nat} (hi : i < 18446744073709551616) : fieldS G obj (numX i) = mfieldS G obj i := by
  have h := numX_two hi
  generalize numX i = z at h
  unfold fieldS mfieldS
  cases hh : G.head obj with
  | none => rfl
  | some p =>
    obtain ⟨n, q⟩ := p
    have h1 := ok.hd obj n q hh
    dsimp only
    by_cases h2 : q ≤ i
    · rw [if_pos h2, if_pos (by omega)]
    · rw [if_neg h2, if_neg (by omega)]
      have hz : z = (i : Int) := by omega
      subst hz
      rw [Int.toNat_natCast]
theorem GSim.field (h : GSim G G2) (obj i : Nat) : mfieldS G2 obj i = mfieldS G obj i := by unfold mfieldS; rw [h.hd]
theorem alocS_nat {m sz rf : Nat} (hm : m < 4) (h1 : sz < 18446744073709551616) (h2 : rf < 18446744073709551616) : alocS G B (m : Int) (numX sz) (numX rf) = if sz < 1 ∨ 8192 < sz then ((0, 5), G, B) else if sz < rf then ((0, 6), G, B) else match placeA G.tk (1 + sz) with | none => ((0, 7), G, B) | some s => ((65536 + s, 0), newG G s sz rf, newB B m (65536 + s)) := by
  have e1 := numX_two h1
  have e2 := numX_two h2
  generalize numX sz = z at e1
  generalize numX rf = y at e2
  unfold alocS
  rw [if_neg (by unfold badM; omega)]
  by_cases g1 : sz < 1 ∨ 8192 < sz
  · rw [if_pos g1, if_pos (by omega)]
  · rw [if_neg g1, if_neg (by omega)]
    have hz : z = (sz : Int) := by omega
    subst hz
    by_cases g2 : sz < rf
    · rw [if_pos g2, if_pos (by omega)]
    · rw [if_neg g2, if_neg (by omega)]
      have hy : y = (rf : Int) := by omega
      subst hy
      rw [Int.toNat_natCast, Int.toNat_natCast, Int.toNat_natCast]
      rfl
theorem pushS_nat (x : Nat) (ref : Nat) (hx : x < 4) (hst : (G.head ref).isSome = true) : pushS G B (x : Int) ref = if (B.roots x).length = 64 then (8, B) else (0, { B with roots := fup B.roots x (B.roots x ++ [ref]) }) := by
  unfold pushS
  rw [if_neg (by unfold badM; omega), if_neg (by rw [hst]; decide), Int.toNat_natCast]
theorem RelM.push (h : RelM G B atp G2 M) (x ref : Nat) : RelM G { B with roots := fup B.roots x (B.roots x ++ [ref]) } atp G2 (mpush M x ref) := ⟨h.gs, by show fup M.roots x _ = fup B.roots x _; rw [h.rt], h.la, h.ap, h.wr, h.fr, h.st, h.tr⟩
end
end Go.Proofs.Qxb6500888a
