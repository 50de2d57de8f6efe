/- Tokens are well formed; describe. -/
import Derived.Test.Qxb6500883aGreatDoorScN
namespace Go.Proofs.Qxb6500883aGreatDoor
open Go.RowKit
set_option linter.unusedSimpArgs false
set_option linter.unusedVariables false
theorem puN_ge (x : Nat) : puN x ≠ 0 → 6 ≤ puN x := by
  unfold puN
  split <;> intro h <;> first | decide | exact absurd rfl h
/-- What every token of a text of n bytes keeps. -/
structure TkOk (n : Nat) (t : Tk) : Prop where
  k : t.kind < 38
  pe : t.pos ≤ t.en
  en : t.en ≤ n
  bp : t.kind = 3 → t.pos ≤ t.bad
  bn : t.bad ≤ n
  v : t.val < 18446744073709551616
  f : 2 ≤ t.kind → t.pos < t.en
theorem numL_le (base v : Nat) (l : List UInt8) : (numL base v l).1 ≤ l.length := by
  induction l generalizing v with
  | nil => exact Nat.le_refl _
  | cons b r ih =>
    unfold numL
    split
    · exact Nat.zero_le _
    · split
      · have := ih (v * base + ‹Nat›)
        rw [List.length_cons]
        dsimp only
        omega
      · exact Nat.zero_le _
theorem numL_val (base v : Nat) (l : List UInt8) (hv : v < 18446744073709551616) : ∀ x, (numL base v l).2 = some x → x < 18446744073709551616 := by
  induction l generalizing v with
  | nil => intro x hx; cases hx; exact hv
  | cons b r ih =>
    intro x hx
    unfold numL at hx
    split at hx
    · cases hx; exact hv
    · split at hx
      · rename_i h
        exact ih _ h x hx
      · cases hx
section
variable {bs : List UInt8} {n : Nat}
theorem spo_ok {st b : Nat} (h1 : st ≤ b) (h2 : b ≤ n) (h3 : st < n) : TkOk n (spoT n st b) := by
  have hle : (if b < n then b + 1 else b) ≤ n := by split <;> omega
  have hlt : st < (if b < n then b + 1 else b) := by split <;> omega
  exact ⟨show 3 < 38 by decide, Nat.le_of_lt hlt, hle, fun _ => h1, h2, show 0 < _ by decide, fun _ => hlt⟩
theorem numEnd_ok {st e v : Nat} (h1 : st < e) (h2 : e ≤ n) (hv : v < 18446744073709551616) : TkOk n (numEnd bs n st e v) := by
  unfold numEnd
  split
  · exact spo_ok (by omega) h2 (by omega)
  · exact ⟨show 5 < 38 by decide, Nat.le_of_lt h1, h2, fun h => absurd h (show ¬ (5 = 3) by decide), Nat.zero_le _, hv, fun _ => h1⟩
theorem numFin_ok {st base i : Nat} (hn : bs.length = n) (h1 : st ≤ i) (h2 : i ≤ n) (h3 : st < n) (h4 : st < i ∨ ∃ d, dvN (cN bs st) base = some d ∧ i = st ∧ d < 16) : TkOk n (numFin bs n st base i 0) := by
  have hle := numL_le base 0 (bs.drop i)
  have hvl := numL_val base 0 (bs.drop i) (by decide)
  rw [List.length_drop] at hle
  unfold numFin numP
  cases hq : numL base 0 (bs.drop i) with
  | mk e o =>
    rw [hq] at hle hvl
    cases o with
    | none => exact spo_ok (by dsimp only; omega) (by dsimp only at hle ⊢; omega) h3
    | some v =>
      refine numEnd_ok ?_ (by dsimp only at hle ⊢; omega) (hvl v rfl)
      dsimp only
      rcases h4 with h4 | ⟨d, h5, h6, h7⟩
      · omega
      · subst h6
        have : 1 ≤ e := by
          obtain ⟨b, e1, e2⟩ := drop_cons bs (i := i) (by omega)
          rw [e1] at hq
          unfold numL at hq
          rw [← e2, h5] at hq
          dsimp only at hq
          rw [if_pos (by omega)] at hq
          have h9 := congrArg Prod.fst hq
          dsimp only at h9
          omega
        omega
theorem numT_ok (hn : bs.length = n) {st : Nat} (hs : st < n) (hd : dgB (cN bs st) = true) : TkOk n (numT bs n st) := by
  unfold numT
  split
  · split
    · split
      · exact numFin_ok hn (by omega) (by omega) hs (.inl (by omega))
      · exact spo_ok (by omega) (by omega) hs
    · split
      · exact spo_ok (by omega) (by omega) hs
      · exact numFin_ok hn (by omega) (by omega) hs (.inl (by omega))
  · refine numFin_ok hn (Nat.le_refl _) (by omega) hs (.inr ⟨cN bs st - 48, ?_, rfl, ?_⟩)
    · unfold dvN; rw [if_pos hd]
    · unfold dgB at hd
      simp at hd
      omega
theorem wordT_ok (hn : bs.length = n) {st : Nat} (hs : st < n) : TkOk n (wordT bs st) := by
  have h1 := wdP_ge bs (i := st + 1)
  have h2 := wdP_le bs (i := st + 1) (by omega)
  have h3 := kwOf_lt (sub bs st (wdP bs (st + 1)))
  have h4 := kwOf_ge (sub bs st (wdP bs (st + 1)))
  unfold wordT
  refine ⟨?_, by dsimp only; omega, by dsimp only; omega, fun h => ?_, Nat.zero_le _, show 0 < _ by decide, fun _ => by dsimp only; omega⟩
  · dsimp only; split <;> omega
  · exfalso
    dsimp only at h
    split at h
    · rename_i hq
      have := h4 (by simpa using hq)
      omega
    · omega
theorem tokAt_ok (hn : bs.length = n) {s k : Nat} (hs : s ≤ n) : TkOk n (tokAt bs n s k).1 := by
  unfold tokAt
  split
  · exact ⟨show 0 < 38 by decide, Nat.le_refl _, hs, fun h => absurd h (show ¬ (0 = 3) by decide), Nat.zero_le _, show 0 < _ by decide, fun h => absurd h (show ¬ (2 ≤ 0) by decide)⟩
  · split
    · exact ⟨show 1 < 38 by decide, Nat.le_refl _, hs, fun h => absurd h (show ¬ (1 = 3) by decide), Nat.zero_le _, show 0 < _ by decide, fun h => absurd h (show ¬ (2 ≤ 1) by decide)⟩
    · split
      · exact wordT_ok hn (by omega)
      · split
        · rename_i hd
          exact numT_ok hn (by omega) hd
        · split
          · exact ⟨show 2 < 38 by decide, Nat.le_succ _, show s + 1 ≤ n by omega, fun h => absurd h (show ¬ (2 = 3) by decide), Nat.zero_le _, show 0 < _ by decide, fun _ => Nat.lt_succ_self _⟩
          · split
            · rename_i h
              exact ⟨show 20 < 38 by decide, show s ≤ s + 1 + 1 by omega, show s + 1 + 1 ≤ n by omega, fun h => absurd h (show ¬ (20 = 3) by decide), Nat.zero_le _, show 0 < _ by decide, fun _ => show s < s + 1 + 1 by omega⟩
            · have hp := puN_lt (cN bs s)
              have h6 := puN_ge (cN bs s) (by assumption)
              exact ⟨show puN (cN bs s) < 38 by omega, Nat.le_succ _, show s + 1 ≤ n by omega, fun h => by dsimp only at h; omega, Nat.zero_le _, show 0 < _ by decide, fun _ => Nat.lt_succ_self _⟩
theorem nextT_ok (hn : bs.length = n) {i k : Nat} (hi : i ≤ n) : TkOk n (nextT bs n i k).1 := tokAt_ok hn (by rw [← hn]; exact skipP_le bs (by omega))
/-- A token past the end of the text has not been counted. -/
theorem nextT_cnt (i k : Nat) (hk : k ≤ 65536) : (nextT bs n i k).2 ≤ 65536 ∧ (2 ≤ (nextT bs n i k).1.kind → (nextT bs n i k).2 = k + 1) ∧ k ≤ (nextT bs n i k).2 := by
  unfold nextT tokAt
  split
  · exact ⟨hk, fun h => absurd h (show ¬ (2 ≤ 0) by decide), Nat.le_refl _⟩
  · split
    · exact ⟨hk, fun h => absurd h (show ¬ (2 ≤ 1) by decide), Nat.le_refl _⟩
    · have : k + 1 ≤ 65536 := by omega
      split
      · exact ⟨this, fun _ => rfl, Nat.le_succ _⟩
      · split
        · exact ⟨this, fun _ => rfl, Nat.le_succ _⟩
        · split
          · exact ⟨this, fun _ => rfl, Nat.le_succ _⟩
          · split
            · exact ⟨this, fun _ => rfl, Nat.le_succ _⟩
            · exact ⟨this, fun _ => rfl, Nat.le_succ _⟩
end
end Go.Proofs.Qxb6500883aGreatDoor
