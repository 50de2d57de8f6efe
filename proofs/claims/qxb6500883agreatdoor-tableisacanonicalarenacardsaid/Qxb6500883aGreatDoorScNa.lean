/- Sealing, plainly: the map from (type, name) to a field's place. -/
import Derived.Test.Qxb6500883aGreatDoorScMc
namespace Go.Proofs.Qxb6500883aGreatDoor
open Go.RowKit
set_option linter.unusedSimpArgs false
set_option linter.unusedVariables false
/-- The fields ds of type i, from place j on, put into the map. -/
def sealF (i : Nat) : Nat → List FD → (FK → Option Value) → FK → Option Value
  | _, [], f => f
  | j, d :: ds, f => sealF i (j + 1) ds (gup f ⟨i, d.name⟩ (some (.int .i32 (j : Int))))
theorem sealF_snoc (i : Nat) (d : FD) : ∀ (ds : List FD) (j : Nat) (f : FK → Option Value), sealF i j (ds ++ [d]) f = gup (sealF i j ds f) ⟨i, d.name⟩ (some (.int .i32 ((j + ds.length : Nat) : Int)))
  | [], j, f => rfl
  | e :: ds, j, f => by
    show sealF i (j + 1) (ds ++ [d]) _ = _
    rw [sealF_snoc i d ds (j + 1)]
    show gup (sealF i (j + 1) ds _) _ _ = gup (sealF i (j + 1) ds _) _ (some (.int .i32 ((j + (ds.length + 1) : Nat) : Int)))
    have : j + 1 + ds.length = j + (ds.length + 1) := by omega
    rw [this]
/-- A key of another type, or of a name not among the fields, keeps its value. -/
theorem sealF_other {i : Nat} {k : FK} : ∀ (ds : List FD) (j : Nat) (f : FK → Option Value), (∀ d ∈ ds, k ≠ ⟨i, d.name⟩) → sealF i j ds f k = f k
  | [], _, _, _ => rfl
  | d :: ds, j, f, h => by
    show sealF i (j + 1) ds _ k = f k
    rw [sealF_other ds (j + 1) _ (fun e he => h e (List.mem_cons_of_mem _ he))]
    exact gup_ne _ _ (h d List.mem_cons_self)
/-- With names that are all different, the field at place t is found at its place. -/
theorem sealF_at {i : Nat} : ∀ (ds : List FD) (j : Nat) (f : FK → Option Value) (t : Nat) (d : FD), (ds.map FD.name).Nodup → ds[t]? = some d → sealF i j ds f ⟨i, d.name⟩ = some (.int .i32 ((j + t : Nat) : Int))
  | [], _, _, t, d, _, h => by simp at h
  | e :: ds, j, f, 0, d, hn, h => by
    have : e = d := by simpa using h
    subst this
    rw [List.map_cons, List.nodup_cons] at hn
    show sealF i (j + 1) ds _ _ = _
    rw [sealF_other ds (j + 1) _ (fun a ha hc => hn.1 (by
      injection hc with _ h2
      rw [h2]
      exact List.mem_map_of_mem ha))]
    exact gup_self _ _ _
  | e :: ds, j, f, t + 1, d, hn, h => by
    rw [List.map_cons, List.nodup_cons] at hn
    show sealF i (j + 1) ds _ _ = _
    rw [sealF_at ds (j + 1) _ t d hn.2 (by simpa using h)]
    have : j + 1 + t = j + (t + 1) := by omega
    rw [this]
/-- The map when the types below n are done. -/
def sealT (T : TS) : Nat → FK → Option Value
  | 0 => fun _ => none
  | n + 1 => match T.types[n]? with
    | some x => if x.kind = 7 then sealF n 0 (flT T x) (sealT T n) else sealT T n
    | none => sealT T n
theorem sealT_con {T : TS} {n : Nat} {x : TR} (h : T.types[n]? = some x) (hk : x.kind = 7) : sealT T (n + 1) = sealF n 0 (flT T x) (sealT T n) := by
  show (match T.types[n]? with | some x => if x.kind = 7 then sealF n 0 (flT T x) (sealT T n) else sealT T n | none => sealT T n) = _
  rw [h]
  exact if_pos hk
theorem sealT_skip {T : TS} {n : Nat} {x : TR} (h : T.types[n]? = some x) (hk : x.kind ≠ 7) : sealT T (n + 1) = sealT T n := by
  show (match T.types[n]? with | some x => if x.kind = 7 then sealF n 0 (flT T x) (sealT T n) else sealT T n | none => sealT T n) = _
  rw [h]
  exact if_neg hk
/-- What is found at a key whose type is not below n, or whose name is no field of it. -/
theorem sealT_none {T : TS} {k : FK} : ∀ (n : Nat), n ≤ T.types.length → (∀ (i : Nat) (x : TR) (d : FD), i < n → T.types[i]? = some x → x.kind = 7 → d ∈ flT T x → k ≠ ⟨i, d.name⟩) → sealT T n k = none
  | 0, _, _ => rfl
  | n + 1, hn, h => by
    have hx : T.types[n]? = some (T.types[n]'(by omega)) := List.getElem?_eq_getElem (by omega)
    have ih := sealT_none n (by omega) (fun i x d hi => h i x d (by omega))
    generalize T.types[n]'(by omega) = x at hx
    by_cases hk : x.kind = 7
    · rw [sealT_con hx hk, sealF_other _ _ _ (fun d hd => h n x d (by omega) hx hk hd)]
      exact ih
    · rw [sealT_skip hx hk]
      exact ih
/-- A container's field is found at its place. -/
theorem sealT_at {T : TS} {i t : Nat} {x : TR} {d : FD} (hx : T.types[i]? = some x) (hk : x.kind = 7) (hnd : ((flT T x).map FD.name).Nodup) (hd : (flT T x)[t]? = some d) : ∀ (n : Nat), i < n → n ≤ T.types.length → sealT T n ⟨i, d.name⟩ = some (.int .i32 (t : Int))
  | 0, h, _ => by omega
  | n + 1, h, hn => by
    have hy : T.types[n]? = some (T.types[n]'(by omega)) := List.getElem?_eq_getElem (by omega)
    generalize T.types[n]'(by omega) = y at hy
    by_cases e : i = n
    · subst e
      obtain rfl : x = y := by rw [hx] at hy; exact Option.some.inj hy
      rw [sealT_con hx hk, sealF_at _ 0 _ t d hnd hd, Nat.zero_add]
    · have ih := sealT_at hx hk hnd hd n (by omega) (by omega)
      by_cases hk2 : y.kind = 7
      · rw [sealT_con hy hk2, sealF_other _ _ _ (fun d2 _ hc => by
          injection hc with h1 _
          omega)]
        exact ih
      · rw [sealT_skip hy hk2]
        exact ih
end Go.Proofs.Qxb6500883aGreatDoor
