/- Names, plainly: the first declaration of a name; what resolveNames answers. -/
import Derived.Test.Qxb6500883aGreatDoorScCd
namespace Go.Proofs.Qxb6500883aGreatDoor
open Go.RowKit
set_option linter.unusedSimpArgs false
set_option linter.unusedVariables false
/-- The first of the first k declarations that bears a name. -/
def fstI (F : FS) : Nat → ByteArray → Option Nat
  | 0, _ => none
  | k + 1, s => match fstI F k s with
    | some i => some i
    | none => if F.decls[k]?.map (·.name) = some s then some k else none
theorem fstI_some {F : FS} {s : ByteArray} {i : Nat} : ∀ {k : Nat}, fstI F k s = some i → i < k ∧ ∃ x, F.decls[i]? = some x ∧ x.name = s
  | 0, h => by cases h
  | k + 1, h => by
    unfold fstI at h
    cases hk : fstI F k s with
    | some j =>
      rw [hk] at h
      cases h
      obtain ⟨h1, h2⟩ := fstI_some hk
      exact ⟨by omega, h2⟩
    | none =>
      rw [hk] at h
      simp only at h
      split at h
      · rename_i hx
        obtain rfl : k = i := Option.some.inj h
        cases hd : F.decls[k]? with
        | none => rw [hd] at hx; cases hx
        | some x =>
          rw [hd] at hx
          exact ⟨by omega, x, rfl, by simpa using hx⟩
      · cases h
theorem fstI_none {F : FS} {s : ByteArray} : ∀ {k : Nat}, fstI F k s = none ↔ ∀ i x, i < k → F.decls[i]? = some x → x.name ≠ s
  | 0 => ⟨fun _ i x hi => absurd hi (Nat.not_lt_zero _), fun _ => rfl⟩
  | k + 1 => by
    have ih := @fstI_none F s k
    unfold fstI
    constructor
    · intro h i x hi hx e
      cases hk : fstI F k s with
      | some j => rw [hk] at h; cases h
      | none =>
        rw [hk] at h
        simp only at h
        by_cases hik : i = k
        · subst hik
          rw [hx] at h
          simp [e] at h
        · exact ih.1 hk i x (by omega) hx e
    · intro h
      have hk : fstI F k s = none := ih.2 (fun i x hi hx => h i x (by omega) hx)
      rw [hk]
      simp only
      rw [if_neg]
      intro e
      cases hd : F.decls[k]? with
      | none => rw [hd] at e; cases e
      | some x =>
        rw [hd] at e
        exact h k x (by omega) hd (by simpa using e)
theorem fstI_succ {F : FS} {k : Nat} {x : DN} (hx : F.decls[k]? = some x) (s : ByteArray) : fstI F (k + 1) s = if x.name = s ∧ fstI F k s = none then some k else fstI F k s := by
  rw [fstI]
  cases hk : fstI F k s with
  | some i => simp
  | none => simp [hx]
/-- The first k declarations bear different names. -/
def DclD (F : FS) (k : Nat) : Prop := ∀ a b y z, a < b → b < k → F.decls[a]? = some y → F.decls[b]? = some z → y.name ≠ z.name
theorem DclD.succ {F : FS} {k : Nat} {z : DN} (hz : F.decls[k]? = some z) : DclD F (k + 1) ↔ DclD F k ∧ fstI F k z.name = none := by
  rw [fstI_none]
  constructor
  · intro h
    exact ⟨fun a b y z' hab hb => h a b y z' hab (by omega), fun a y ha hy => h a k y z ha (by omega) hy hz⟩
  · rintro ⟨h1, h2⟩ a b y z' hab hb hy hz'
    by_cases e : b = k
    · subst e
      rw [hz] at hz'
      cases hz'
      exact h2 a y hab hy
    · exact h1 a b y z' hab (by omega) hy hz'
/-- What a type's name stands for: -1, or the declaration (no constant). -/
def tDof (F : FS) (x : TN) : Int :=
  if x.form = 2 then
    match fstI F F.decls.length x.name with
    | none => -1
    | some d => if (F.decls[d]?.map (·.sort)) = some 0 then -1 else (d : Int)
  else -1
/-- What an expression's name stands for: -1, or the constant's declaration. -/
def eDof (F : FS) (x : EN) : Int :=
  if x.form = 1 then
    match fstI F F.decls.length x.name with
    | none => -1
    | some d => if (F.decls[d]?.map (·.sort)) = some 0 then (d : Int) else -1
  else -1
/-- The first k types' names are known. -/
def TyR (F : FS) (k : Nat) : Prop := ∀ i x, i < k → F.types[i]? = some x → x.form = 2 → tDof F x ≠ -1
/-- The first k expressions' names are known. -/
def ExR (F : FS) (k : Nat) : Prop := ∀ i x, i < k → F.exprs[i]? = some x → x.form = 1 → eDof F x ≠ -1
theorem TyR.succ {F : FS} {k : Nat} {x : TN} (hx : F.types[k]? = some x) : TyR F (k + 1) ↔ TyR F k ∧ (x.form = 2 → tDof F x ≠ -1) := by
  constructor
  · intro h
    exact ⟨fun i y hi hy => h i y (by omega) hy, h k x (by omega) hx⟩
  · rintro ⟨h1, h2⟩ i y hi hy
    by_cases e : i = k
    · subst e
      rw [hx] at hy
      cases hy
      exact h2
    · exact h1 i y (by omega) hy
theorem ExR.succ {F : FS} {k : Nat} {x : EN} (hx : F.exprs[k]? = some x) : ExR F (k + 1) ↔ ExR F k ∧ (x.form = 1 → eDof F x ≠ -1) := by
  constructor
  · intro h
    exact ⟨fun i y hi hy => h i y (by omega) hy, h k x (by omega) hx⟩
  · rintro ⟨h1, h2⟩ i y hi hy
    by_cases e : i = k
    · subst e
      rw [hx] at hy
      cases hy
      exact h2
    · exact h1 i y (by omega) hy
/-- A name that stands for something stands for a declaration. -/
theorem tDof_ok {F : FS} {x : TN} {d : Nat} (h : tDof F x = (d : Int)) : ∃ y, F.decls[d]? = some y ∧ y.name = x.name ∧ y.sort ≠ 0 := by
  unfold tDof at h
  split at h
  · cases hf : fstI F F.decls.length x.name with
    | none => rw [hf] at h; simp only at h; omega
    | some e =>
      rw [hf] at h
      simp only at h
      split at h
      · omega
      · rename_i hs
        obtain rfl : e = d := by omega
        obtain ⟨_, y, hy, hn⟩ := fstI_some hf
        refine ⟨y, hy, hn, fun e0 => hs ?_⟩
        rw [hy]
        simp [e0]
  · omega
theorem eDof_ok {F : FS} {x : EN} {d : Nat} (h : eDof F x = (d : Int)) : ∃ y, F.decls[d]? = some y ∧ y.name = x.name ∧ y.sort = 0 := by
  unfold eDof at h
  split at h
  · cases hf : fstI F F.decls.length x.name with
    | none => rw [hf] at h; simp only at h; omega
    | some e =>
      rw [hf] at h
      simp only at h
      split at h
      · rename_i hs
        obtain rfl : e = d := by omega
        obtain ⟨_, y, hy, hn⟩ := fstI_some hf
        rw [hy] at hs
        exact ⟨y, hy, hn, by simpa using hs⟩
      · omega
  · omega
end Go.Proofs.Qxb6500883aGreatDoor
