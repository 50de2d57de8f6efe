/- How a type is written, plainly. No Go here. -/
import Derived.Test.Qxb6500883aGreatDoorScKg
namespace Go.Proofs.Qxb6500883aGreatDoor
open Go.RowKit
set_option linter.unusedSimpArgs false
set_option linter.unusedVariables false
/-- The built-in types' words. -/
def bwB (i : Nat) : ByteArray :=
  if i = 0 then ⟨#[78, 111, 110, 101]⟩ else if i = 1 then ⟨#[98, 111, 111, 108, 101, 97, 110]⟩ else if i = 2 then ⟨#[117, 105, 110, 116, 56]⟩ else if i = 3 then ⟨#[117, 105, 110, 116, 49, 54]⟩ else if i = 4 then ⟨#[117, 105, 110, 116, 51, 50]⟩ else if i = 5 then ⟨#[117, 105, 110, 116, 54, 52]⟩ else if i = 6 then ⟨#[117, 105, 110, 116, 49, 50, 56]⟩ else ⟨#[117, 105, 110, 116, 50, 53, 54]⟩
theorem bwB_size (i : Nat) : (bwB i).size ≤ 7 := by
  unfold bwB
  repeat (first | decide | split)
/-- Options with commas between them. -/
def jnL (r : Nat → List UInt8) (os : List Nat) : List UInt8 := os.zipIdx.flatMap fun p => (if p.2 = 0 then [] else [44, 32]) ++ r p.1
theorem jnL_snoc (r : Nat → List UInt8) (os : List Nat) (o : Nat) : jnL r (os ++ [o]) = jnL r os ++ ((if os.length = 0 then [] else [44, 32]) ++ r o) := by
  unfold jnL
  rw [List.zipIdx_append, List.flatMap_append]
  simp
theorem jnL_congr {r s : Nat → List UInt8} {os : List Nat} (h : ∀ o ∈ os, r o = s o) : jnL r os = jnL s os := by
  unfold jnL
  have : ∀ (l : List (Nat × Nat)), (∀ p ∈ l, r p.1 = s p.1) → (l.flatMap fun p => (if p.2 = 0 then [] else [44, 32]) ++ r p.1) = l.flatMap fun p => (if p.2 = 0 then [] else [44, 32]) ++ s p.1 := by
    intro l hl
    induction l with
    | nil => rfl
    | cons a b ih =>
      rw [List.flatMap_cons, List.flatMap_cons, hl a (by simp), ih (fun p hp => hl p (by simp [hp]))]
  refine this _ (fun p hp => h p.1 ?_)
  obtain ⟨_, _, h3⟩ := List.mem_zipIdx hp
  rw [h3]
  exact List.getElem_mem _
/-- A type written out, its parts by r. -/
def flW (T : TS) (r : Nat → List UInt8) (x : TR) : List UInt8 :=
  if x.kind = 3 ∨ x.kind = 4 then (if x.kind = 4 then [76, 105, 115, 116, 91] else [86, 101, 99, 116, 111, 114, 91]) ++ r x.elem.toNat ++ [44, 32] ++ dgL x.length ++ [93]
  else if x.kind = 5 ∨ x.kind = 6 then (if x.kind = 6 then [66, 105, 116, 108, 105, 115, 116, 91] else [66, 105, 116, 118, 101, 99, 116, 111, 114, 91]) ++ dgL x.length ++ [93]
  else if x.kind = 8 then [85, 110, 105, 111, 110, 91] ++ jnL r (opT T x) ++ [93] else []
def dnm (T : TS) (d : Nat) : List UInt8 := match T.decls[d]? with | some y => y.name.data.toList | none => []
/-- A type as a part of something, with so much fuel. -/
def rfF (T : TS) (al : Nat → Int) : Nat → Nat → List UInt8
  | 0, _ => []
  | f + 1, id => if id < 8 then (bwB id).data.toList else match T.types[id]? with
    | none => []
    | some x => if x.kind = 7 then x.name.data.toList else if 0 ≤ al id then dnm T (al id).toNat else flW T (rfF T al f) x
def rf (T : TS) (al : Nat → Int) (id : Nat) : List UInt8 := rfF T al (id + 1) id
def fl (T : TS) (al : Nat → Int) (x : TR) : List UInt8 := flW T (rf T al) x
theorem flW_congr {T : TS} {r s : Nat → List UInt8} {x : TR} (hk : x.kind ≠ 7) (h : ∀ t ∈ prtT T x, r t = s t) : flW T r x = flW T s x := by
  unfold flW
  unfold prtT at h
  by_cases h3 : x.kind = 3 ∨ x.kind = 4
  · rw [if_pos h3, if_pos h3]
    rw [if_pos h3] at h
    rw [h _ (by simp)]
  · rw [if_neg h3, if_neg h3]
    by_cases h5 : x.kind = 5 ∨ x.kind = 6
    · rw [if_pos h5, if_pos h5]
    · rw [if_neg h5, if_neg h5]
      by_cases h8 : x.kind = 8
      · rw [if_pos h8, if_pos h8]
        rw [if_neg h3, if_neg hk, if_pos h8] at h
        rw [jnL_congr h]
      · rw [if_neg h8, if_neg h8]
/-- Every type past the built-in ones is in order. -/
def TStr (T : TS) : Prop := ∀ i x, 8 ≤ i → T.types[i]? = some x → StrOk T i x
theorem rfF_big {T : TS} {al : Nat → Int} (hT : TStr T) : ∀ (n id f : Nat), id ≤ n → id < f → rfF T al f id = rf T al id := by
  intro n
  induction n with
  | zero =>
    intro id f h1 h2
    obtain ⟨f, rfl⟩ : ∃ g, f = g + 1 := ⟨f - 1, by omega⟩
    unfold rf
    rw [rfF, rfF, if_pos (by omega), if_pos (by omega)]
  | succ n ih =>
    intro id f h1 h2
    obtain ⟨f, rfl⟩ : ∃ g, f = g + 1 := ⟨f - 1, by omega⟩
    unfold rf
    rw [rfF, rfF]
    by_cases h8 : id < 8
    · rw [if_pos h8, if_pos h8]
    · rw [if_neg h8, if_neg h8]
      cases hx : T.types[id]? with
      | none => rfl
      | some x =>
        simp only
        by_cases h7 : x.kind = 7
        · rw [if_pos h7, if_pos h7]
        · rw [if_neg h7, if_neg h7]
          by_cases ha : 0 ≤ al id
          · rw [if_pos ha, if_pos ha]
          · rw [if_neg ha, if_neg ha]
            refine flW_congr h7 (fun t ht => ?_)
            have hlt := (hT id x (by omega) hx).prt t ht
            rw [ih t f (by omega) (by omega), ih t id (by omega) hlt]
/-- A type as a part: by its word, its name, its alias, or in full. -/
theorem rf_basic {T : TS} {al : Nat → Int} {id : Nat} (h : id < 8) : rf T al id = (bwB id).data.toList := by unfold rf; rw [rfF, if_pos h]
theorem rf_con {T : TS} {al : Nat → Int} {id : Nat} {x : TR} (h : ¬ id < 8) (hx : T.types[id]? = some x) (hk : x.kind = 7) : rf T al id = x.name.data.toList := by unfold rf; rw [rfF, if_neg h, hx]; simp only; rw [if_pos hk]
theorem rf_alias {T : TS} {al : Nat → Int} {id : Nat} {x : TR} (h : ¬ id < 8) (hx : T.types[id]? = some x) (hk : x.kind ≠ 7) (ha : 0 ≤ al id) : rf T al id = dnm T (al id).toNat := by unfold rf; rw [rfF, if_neg h, hx]; simp only; rw [if_neg hk, if_pos ha]
theorem rf_full {T : TS} {al : Nat → Int} (hT : TStr T) {id : Nat} {x : TR} (h : ¬ id < 8) (hx : T.types[id]? = some x) (hk : x.kind ≠ 7) (ha : ¬ 0 ≤ al id) : rf T al id = fl T al x := by
  unfold rf fl
  rw [rfF, if_neg h, hx]
  simp only
  rw [if_neg hk, if_neg ha]
  refine flW_congr hk (fun t ht => ?_)
  have hlt := (hT id x (by omega) hx).prt t ht
  exact rfF_big hT t t id (Nat.le_refl _) hlt
end Go.Proofs.Qxb6500883aGreatDoor
