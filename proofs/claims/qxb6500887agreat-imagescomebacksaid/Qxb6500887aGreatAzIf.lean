/- Images: the plain side. -/
import Derived.Test.Qxb6500887aGreatAzIe
import Derived.Test.Qxb6500887aGreatAzEd
namespace Go.Proofs.Qxb6500887aGreat
open Go.RowKit
set_option linter.unusedSimpArgs false
set_option linter.unusedVariables false
theorem ckN_congr {X Y : Nat → Nat} : ∀ (n : Nat), (∀ i, i < n → X i = Y i) → ckN X n = ckN Y n
  | 0, _ => rfl
  | n + 1, h => by
    show ((ckN X n ^^^ X n) * 1099511628211) % 18446744073709551616 = ((ckN Y n ^^^ Y n) * 1099511628211) % 18446744073709551616
    rw [ckN_congr n (fun i hi => h i (by omega)), h n (by omega)]
theorem mul_back (a : Nat) (ha : a < 18446744073709551616) : (a * 1099511628211 % 18446744073709551616 * 14886173955864302971) % 18446744073709551616 = a := by
  rw [Nat.mul_mod, Nat.mod_mod, ← Nat.mul_mod, Nat.mul_assoc, Nat.mul_mod, show (1099511628211 * 14886173955864302971) % 18446744073709551616 = 1 by decide, Nat.mul_one, Nat.mod_mod, Nat.mod_eq_of_lt ha]
theorem xor_lt {a b : Nat} (ha : a < 18446744073709551616) (hb : b < 18446744073709551616) : a ^^^ b < 18446744073709551616 := Nat.xor_lt_two_pow (n := 64) ha hb
theorem mul_inj {a b : Nat} (ha : a < 18446744073709551616) (hb : b < 18446744073709551616) (h : a * 1099511628211 % 18446744073709551616 = b * 1099511628211 % 18446744073709551616) : a = b := by
  rw [← mul_back a ha, ← mul_back b hb, h]
theorem xor_back (a c : Nat) : (a ^^^ c) ^^^ c = a := by rw [Nat.xor_assoc, Nat.xor_self, Nat.xor_zero]
theorem xor_inj {a b c : Nat} (h : a ^^^ c = b ^^^ c) : a = b := by rw [← xor_back a c, ← xor_back b c, h]
theorem xor_injL {a b c : Nat} (h : c ^^^ a = c ^^^ b) : a = b := by
  rw [Nat.xor_comm c a, Nat.xor_comm c b] at h
  exact xor_inj h
/-- A changed word changes the sum. -/
theorem ckN_ne {X Y : Nat → Nat} {k : Nat} (hX : ∀ i, X i < 18446744073709551616) (hY : ∀ i, Y i < 18446744073709551616) (hk : X k ≠ Y k) (he : ∀ i, i ≠ k → X i = Y i) : ∀ n, k < n → ckN X n ≠ ckN Y n
  | 0, h => by omega
  | n + 1, h => by
    intro e
    have e' : ((ckN X n ^^^ X n) * 1099511628211) % 18446744073709551616 = ((ckN Y n ^^^ Y n) * 1099511628211) % 18446744073709551616 := e
    have e2 := mul_inj (xor_lt (ckN_lt X n) (hX n)) (xor_lt (ckN_lt Y n) (hY n)) e'
    by_cases c : k = n
    · subst c
      rw [ckN_congr k (fun i hi => he i (by omega))] at e2
      exact hk (xor_injL e2)
    · rw [he n (by omega)] at e2
      exact ckN_ne hX hY hk he n (by omega) (xor_inj e2)
section
variable {S S' : AS} {X : Nat → Nat} {l : AL} {w : World}
theorem bdX_at {i v : Nat} (h : (bodyL S 4)[i]? = some v) : bdX S i = v := by
  unfold bdX
  rw [List.getD_eq_getElem?_getD, h]
  rfl
theorem bdX_word {i : Nat} (hi : i < 32768) : bdX S (3 + i) = S.W i := by
  refine bdX_at ?_
  have h1 : ([5501237299694953838, 1, 32768] : List Nat).length = 3 := rfl
  unfold bodyL preL
  rw [List.getElem?_append_left (by rw [List.length_append, fnL_len, h1]; omega), List.getElem?_append_right (by omega), h1, show 3 + i - 3 = i by omega]
  exact fnL_get _ hi
theorem tabsL_get : ∀ {n j q : Nat}, n ≤ 4 → j < n → q < tLn j → (tabsL S n)[tO j + q]? = some (S.tX j q)
  | 0, j, q, _, h, _ => by omega
  | n + 1, j, q, hn, h, hq => by
    show (tabsL S n ++ fnL (tLn n) (S.tX n))[tO j + q]? = _
    have hl := tabsL_len S (show n ≤ 4 by omega)
    by_cases c : j = n
    · subst c
      rw [List.getElem?_append_right (by omega), hl, show tO j + q - tO j = q by omega]
      exact fnL_get _ hq
    · have hmono : tO j + tLn j ≤ tO n := by
        rw [tO_step (show j < 4 by omega)]
        have : j + 1 ≤ n := by omega
        clear hl hq h
        match j, n, hn, this with
        | 0, 1, _, _ => decide
        | 0, 2, _, _ => decide
        | 0, 3, _, _ => decide
        | 1, 2, _, _ => decide
        | 1, 3, _, _ => decide
        | 2, 3, _, _ => decide
        | j, n + 4, hn, _ => omega
        | j + 3, 0, _, h => omega
        | j + 3, 1, _, h => omega
        | j + 3, 2, _, h => omega
        | j + 3, 3, _, h => omega
        | 0, 0, _, h => omega
        | 1, 0, _, h => omega
        | 1, 1, _, h => omega
        | 2, 0, _, h => omega
        | 2, 1, _, h => omega
        | 2, 2, _, h => omega
      rw [List.getElem?_append_left (by omega)]
      exact tabsL_get (by omega) (by omega) hq
theorem bdX_tab {j q : Nat} (hj : j < 4) (hq : q < tLn j) : bdX S (32771 + tO j + q) = S.tX j q := by
  refine bdX_at ?_
  have hp : (preL S).length = 32771 := by
    unfold preL
    rw [List.length_append, fnL_len]
    rfl
  unfold bodyL
  rw [List.getElem?_append_right (by omega), hp, show 32771 + tO j + q - 32771 = tO j + q by omega]
  exact tabsL_get (by omega) hj hq
theorem bdX_pre (S : AS) : bdX S 0 = 5501237299694953838 ∧ bdX S 1 = 1 ∧ bdX S 2 = 32768 := by
  have key : ∀ i v, i < 3 → ([5501237299694953838, 1, 32768] : List Nat)[i]? = some v → bdX S i = v := fun i v hi h => by
    refine bdX_at ?_
    unfold bodyL preL
    have h1 : ([5501237299694953838, 1, 32768] : List Nat).length = 3 := rfl
    rw [List.getElem?_append_left (by rw [List.length_append, fnL_len, h1]; omega), List.getElem?_append_left (by omega)]
    exact h
  exact ⟨key 0 _ (by omega) rfl, key 1 _ (by omega) rfl, key 2 _ (by omega) rfl⟩
theorem imX_ne {i : Nat} (h : i ≠ 34179) : imX S i = bdX S i := if_neg h
theorem imX_hd (S : AS) : hdOk (imX S) := by
  obtain ⟨h0, h1, h2⟩ := bdX_pre S
  exact ⟨by rw [imX_ne (by omega)]; exact h0, by rw [imX_ne (by omega)]; exact h1, by rw [imX_ne (by omega)]; exact h2⟩
theorem imX_ck (S : AS) : ckN (imX S) 34179 = imX S 34179 := by
  rw [ckN_congr 34179 (fun i hi => imX_ne (by omega))]
  unfold imX
  rw [if_pos rfl]
theorem imX_lt (h : AM l S w) (i : Nat) : imX S i < 18446744073709551616 := by
  unfold imX
  split
  · exact ckN_lt _ _
  · exact bdX_lt h i
theorem rdJ_W (S : AS) (X : Nat → Nat) : ∀ j, (rdJ S X j).W = fun i => X (3 + i)
  | 0 => rfl
  | j + 1 => by
    show ((rdJ S X j).setJ j _).W = _
    rw [← rdJ_W S X j]
    unfold AS.setJ
    split <;> rfl
theorem rdJ_X (S : AS) (X : Nat → Nat) {j : Nat} (hj : j < 4) : (rdJ S X 4).tX j = fun q => X (32771 + tO j + q) := by
  match j, hj with
  | 0, _ => rfl
  | 1, _ => rfl
  | 2, _ => rfl
  | 3, _ => rfl
/-- The image read back. -/
theorem Sm.image (S0' S : AS) : Sm (rdJ S0' (imX S) 4) S := by
  refine ⟨fun i hi => ?_, fun j hj i hi => ?_⟩
  · rw [rdJ_W]
    show imX S (3 + i) = _
    rw [imX_ne (by omega), bdX_word hi]
  · unfold AS.te eN
    rw [rdJ_X _ _ hj]
    have hq : i / tPr j < tLn j := by
      match j, hj with
      | 0, _ => have : i < 16384 := hi; show i / 32 < 512; omega
      | 1, _ => have : i < 16384 := hi; show i / 64 < 256; omega
      | 2, _ => have : i < 32768 := hi; show i / 64 < 512; omega
      | 3, _ => have : i < 2048 := hi; show i / 16 < 128; omega
    have hto : tO j + tLn j ≤ 1408 := by rw [tO_step hj]; exact tO_le (by omega)
    show enW _ (imX S (32771 + tO j + i / tPr j)) _ = _
    rw [imX_ne (by omega), bdX_tab hj hq]
/-- An image with one word changed is refused. -/
theorem RdI.changed {k y n : Nat} {cd : Int} (hn : n = 34180) (hX : ∀ i, X i < 18446744073709551616) (hy : y < 18446744073709551616) (hk : k < 34180) (hne : y ≠ X k) (ho : hdOk X) (hc : ckN X 34179 = X 34179) (h : RdI (fup X k y) n S cd S') : cd ≠ 0 ∧ S' = S := by
  have hself : fup X k y k = y := fup_self _ _ _
  have hoth : ∀ i, i ≠ k → X i = fup X k y i := fun i hi => (fup_ne _ _ hi).symm
  have hYlt : ∀ i, fup X k y i < 18446744073709551616 := fun i => by
    by_cases c : i = k
    · rw [c, hself]; exact hy
    · rw [← hoth i c]; exact hX i
  rcases h with ⟨h1, h2, h3⟩ | ⟨h1, h2, h3, h4⟩ | ⟨h1, h2, h3, h4, h5⟩ | ⟨h1, h2, h3, h4, h5⟩
  · exact absurd hn h1
  · exact ⟨by omega, h4⟩
  · exact ⟨by omega, h5⟩
  · exfalso
    by_cases c : k < 34179
    · have e : fup X k y 34179 = X 34179 := (hoth 34179 (by omega)).symm
      rw [e, ← hc] at h3
      exact ckN_ne hX hYlt (by rw [hself]; exact Ne.symm hne) hoth 34179 c h3.symm
    · have hk2 : k = 34179 := by omega
      subst hk2
      rw [hself, ← ckN_congr 34179 (fun i hi => hoth i (by omega)), hc] at h3
      exact hne h3.symm
end
end Go.Proofs.Qxb6500887aGreat
