/- '==' between arrays, of whatever length: the elements one by one. Nothing here speaks of one program. -/
import Derived.Laws.StructEq
namespace Go.Proofs.Qxb6500887aGreat
set_option linter.unusedSimpArgs false
set_option linter.unusedVariables false

def eqIdx (d : Nat) (e : TypeId) (n : Nat) (xs ys : Array Value) : List Nat → Sem Bool
  | [] => pure true
  | i :: is => do
    let a ← part e xs (i * n)
    let b ← part e ys (i * n)
    let r ← Op.equalIn d e a b
    if (!r) = true then pure false else eqIdx d e n xs ys is

section
variable {P : Program}
theorem run_equalIn_array (w : World) (d : Nat) (t e : TypeId) (len n : Nat) (xs ys : Array Value) (ht : P.underlying t = some (.array len e)) (hn : ∀ w, (sizeOf e).run P w = .ok n w) :
    (Op.equalIn (d + 1) t (.agg xs) (.agg ys)).run P w = (eqIdx d e n xs ys (List.range' 0 len)).run P w := by
  simp only [Op.equalIn, Sem.run_bind, run_underlying ht, Result.andThen_ok, hn]
  rw [Std.Legacy.Range.forIn_eq_forIn_range']
  simp only [Std.Legacy.Range.size, Nat.sub_zero, Nat.add_sub_cancel, Nat.div_one]
  generalize List.range' 0 len = is
  induction is generalizing w with
  | nil => simp [eqIdx]
  | cons i is ih =>
    simp only [List.forIn_cons, eqIdx, Sem.run_bind]
    generalize (part e xs (i * n)).run P w = r1
    cases r1 with
    | ok a w1 =>
      simp only [Result.andThen_ok]
      generalize (part e ys (i * n)).run P w1 = r2
      cases r2 with
      | ok b w2 =>
        simp only [Result.andThen_ok]
        generalize (Op.equalIn d e a b).run P w2 = r3
        cases r3 with
        | ok r w3 =>
          cases r
          · simp only [Result.andThen_ok, Bool.not_false, if_true, Sem.run_pure]
          · simp only [Result.andThen_ok, Bool.not_true, Bool.false_eq_true, if_false, Sem.run_pure]
            exact ih w3
        | halt x w3 => simp [Result.andThen]
      | halt x w2 => simp [Result.andThen]
    | halt x w1 => simp [Result.andThen]

/-- Arrays of integers. -/
theorem run_equalIn_ints (w : World) (d : Nat) (t e : TypeId) (k : IntKind) (xs ys : List Int) (hl : xs.length = ys.length) (ht : P.underlying t = some (.array xs.length e)) (he : P.underlying e = some (.int k))
    (hn : ∀ w, (sizeOf e).run P w = .ok 1 w) :
    (Op.equalIn (d + 2) t (.agg (xs.map (Value.int k)).toArray) (.agg (ys.map (Value.int k)).toArray)).run P w = .ok (decide (xs = ys)) w := by
  rw [run_equalIn_array w (d + 1) t e xs.length 1 _ _ ht hn]
  have ha : ∀ w, (isAgg e).run P w = .ok false w := fun w => by simp [isAgg, run_underlying he]
  have key : ∀ (m i : Nat), i + m = xs.length → (eqIdx (d + 1) e 1 (xs.map (Value.int k)).toArray (ys.map (Value.int k)).toArray (List.range' i m)).run P w = .ok (decide (xs.drop i = ys.drop i)) w := by
    intro m
    induction m with
    | zero =>
      intro i hi
      have h1 : xs.drop i = [] := List.drop_eq_nil_of_le (by omega)
      have h2 : ys.drop i = [] := List.drop_eq_nil_of_le (by omega)
      simp [eqIdx, h1, h2]
    | succ m ih =>
      intro i hi
      have hx : i < xs.length := by omega
      have hy : i < ys.length := by omega
      have p1 : (part e (xs.map (Value.int k)).toArray (i * 1)).run P w = .ok (.int k xs[i]) w := by simp [part, ha, hx]
      have p2 : (part e (ys.map (Value.int k)).toArray (i * 1)).run P w = .ok (.int k ys[i]) w := by simp [part, ha, hy]
      have q : (Op.equalIn (d + 1) e (.int k xs[i]) (.int k ys[i])).run P w = .ok (xs[i] == ys[i]) w := run_equalIn_int w d e k k _ _ he
      simp only [List.range'_succ, eqIdx, Sem.run_bind, p1, p2, q, Result.andThen_ok]
      rw [List.drop_eq_getElem_cons hx, List.drop_eq_getElem_cons hy]
      by_cases h : xs[i] = ys[i]
      · have hb : (xs[i] == ys[i]) = true := by simp [h]
        rw [hb]
        simp only [Bool.not_true, Bool.false_eq_true, if_false, ih (i + 1) (by omega), List.cons.injEq, h, true_and]
      · have hb : (xs[i] == ys[i]) = false := by simp [h]
        simp only [hb, Bool.not_false, if_true, Sem.run_pure, List.cons.injEq, h, false_and, decide_false]
  have := key xs.length 0 (by omega)
  simpa using this
end
end Go.Proofs.Qxb6500887aGreat
