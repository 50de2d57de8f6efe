/- RefinesModel: the model's step agrees with the real one, plainly. -/
import Derived.Test.Qxb6500884aClRmT
import Derived.Test.Qxb6500884aClRelW
namespace Go.Proofs.Qxb6500884a
open Go.RowKit
set_option linter.unusedSimpArgs false
set_option linter.unusedVariables false

/-- Sets beside classes. -/
structure Rel (fs : List (Nat → Bool)) (Ls : List (List (Int × Int))) : Prop where
  len : fs.length = Ls.length
  eq : ∀ (i : Nat) (f : Nat → Bool) (l : List (Int × Int)), fs[i]? = some f → Ls[i]? = some l → ∀ x : Nat, x < 196608 → f x = memB l (x : Int)
theorem Rel.nil : Rel [] [] := ⟨rfl, fun i f l h => by simp at h⟩
theorem Rel.one {f : Nat → Bool} {l : List (Int × Int)} (h : ∀ x : Nat, x < 196608 → f x = memB l (x : Int)) : Rel [f] [l] := ⟨rfl, fun i f' l' h1 h2 => by
  cases i with
  | zero => simp at h1 h2; subst h1; subst h2; exact h
  | succ i => simp at h1⟩
/-- What the model shows and pushes is what the real layer shows and pushes. -/
def MPost (o : COp) (Ls : List (List (Int × Int))) (fs : List (Nat → Bool)) (res : List Value) : Prop := ∀ new r, StepS o Ls new r → res = r ∧ Rel fs new
theorem kindF_lt {o : COp} {Ls : List (List (Int × Int))} {f : Int → Bool} (h : kindF o Ls = some f) : 0 ≤ o.kind ∧ o.kind ≤ 11 := by
  by_cases h0 : 0 ≤ o.kind ∧ o.kind ≤ 11
  · exact h0
  · exfalso
    unfold kindF at h
    rw [if_neg (by omega), if_neg (by omega), if_neg (by omega), if_neg (by omega), if_neg (by omega), if_neg (by omega), if_neg (by omega), if_neg (by omega), if_neg (by omega), if_neg (by omega), if_neg (by omega), if_neg (by omega)] at h
    cases h
theorem askR_rng {o : COp} {Ls : List (List (Int × Int))} {r : List Value} (h : askR o Ls = some r) : 13 ≤ o.kind ∧ o.kind ≤ 21 := by
  unfold askR at h
  repeat' split at h
  all_goals first | omega | cases h
theorem post_one {o : COp} {Ls : List (List (Int × Int))} {f : Int → Bool} {g : Nat → Bool} (hk : kindF o Ls = some f) (hne : needB o.kind = true → Ls ≠ []) (hg : ∀ x : Nat, x < 196608 → g x = f (x : Int)) : MPost o Ls [g] (resC 1 false 0) := by
  intro new r h
  have hr := kindF_lt hk
  cases h with
  | none hn he hw => exact absurd he (hne hn)
  | one f' hf hne' l hw hN hm =>
    rw [hk] at hf
    injection hf with hf
    subst hf
    subst hw
    exact ⟨rfl, Rel.one (fun x hx => by rw [hg x hx, hm x (by omega) (by omega)])⟩
  | many hk2 => omega
  | ask hne' r hq hw => have := askR_rng hq; omega
  | idx hk2 => omega
  | other hk2 => omega
theorem post_none {o : COp} {Ls : List (List (Int × Int))} (hn : needB o.kind = true) (he : Ls = []) : MPost o Ls [] (resC 0 false 0) := by
  intro new r h
  cases h with
  | none hn' he' hw => subst hw; exact ⟨rfl, Rel.nil⟩
  | one f' hf hne' l hw hN hm => exact absurd he (hne' hn)
  | many hk2 hne' => exact absurd he hne'
  | ask hne' r hq hw => exact absurd he hne'
  | idx hk2 hne' => exact absurd he hne'
  | other hk2 hne' => exact absurd he hne'
theorem post_ask {o : COp} {Ls : List (List (Int × Int))} {r0 : List Value} (hne : Ls ≠ []) (hq : askR o Ls = some r0) : MPost o Ls [] r0 := by
  intro new r h
  have hr := askR_rng hq
  cases h with
  | none hn' he' hw => exact absurd he' hne
  | one f' hf hne' l hw hN hm => have := kindF_lt hf; omega
  | many hk2 hne' => omega
  | ask hne' r hq' hw =>
    rw [hq] at hq'
    injection hq' with hq'
    subst hw
    exact ⟨hq', Rel.nil⟩
  | idx hk2 hne' => omega
  | other hk2 hne' => omega
theorem post_other {o : COp} {Ls : List (List (Int × Int))} (hne : Ls ≠ []) (hk : ¬ (0 ≤ o.kind ∧ o.kind ≤ 22)) : MPost o Ls [] (resC 0 false 0) := by
  intro new r h
  cases h with
  | none hn' he' hw => exact absurd he' hne
  | one f' hf hne' l hw hN hm => have := kindF_lt hf; omega
  | many hk2 hne' => omega
  | ask hne' r hq' hw => have := askR_rng hq'; omega
  | idx hk2 hne' => omega
  | other hk2 hne' hw => subst hw; exact ⟨rfl, Rel.nil⟩
/-- The family's patterns tell apart what its classes tell apart. -/
theorem patM_iff {G : List (Nat × (Nat → Bool))} {Ls : List (List (Int × Int))} (h : Rel (G.map (·.2)) Ls) {x y : Nat} (hx : x < 196608) (hy : y < 196608) : patM G x = patM G y ↔ ∀ l ∈ Ls, memB l (x : Int) = memB l (y : Int) := by
  have hl := h.len
  rw [List.length_map] at hl
  have key : ∀ (i : Nat) (l : List (Int × Int)), Ls[i]? = some l → ∃ p, G[i]? = some p ∧ p.2 x = memB l (x : Int) ∧ p.2 y = memB l (y : Int) := fun i l hi => by
    have hlt := (List.getElem?_eq_some_iff.1 hi).1
    have hg : G[i]? = some (G[i]'(by omega)) := List.getElem?_eq_getElem _
    have hf : (G.map (·.2))[i]? = some (G[i]'(by omega)).2 := by rw [List.getElem?_map, hg]; rfl
    exact ⟨_, hg, h.eq i _ l hf hi x hx, h.eq i _ l hf hi y hy⟩
  constructor
  · intro e l hl2
    obtain ⟨i, hi⟩ := List.mem_iff_getElem?.1 hl2
    obtain ⟨p, hp, h1, h2⟩ := key i l hi
    have e2 := congrArg (fun l => l[i]?) e
    unfold patM at e2
    simp only [List.getElem?_map, hp, Option.map_some] at e2
    injection e2 with e2
    rw [← h1, ← h2]
    cases h3 : p.2 x <;> cases h4 : p.2 y
    all_goals first | rfl | (rw [h3, h4] at e2; simp at e2)
  · intro e
    unfold patM
    apply List.map_congr_left
    intro p hp
    obtain ⟨i, hi⟩ := List.mem_iff_getElem?.1 hp
    have hlt := (List.getElem?_eq_some_iff.1 hi).1
    have hL : Ls[i]? = some (Ls[i]'(by omega)) := List.getElem?_eq_getElem _
    obtain ⟨p', hp', h1, h2⟩ := key i _ hL
    rw [hi] at hp'
    cases hp'
    rw [h1, h2, e _ (List.mem_of_getElem? hL)]
theorem post_many {o : COp} {Ls : List (List (Int × Int))} {G : List (Nat × (Nat → Bool))} (hk : o.kind = 12) (hne : Ls ≠ []) (hG : Rel (G.map (·.2)) (famLs Ls o.rg)) {n : Nat} (hn : (mpats (patM G) 196608).length = n) : MPost o Ls ((List.range n).map fun b => FM (patM G) 196608 b) (resC (n : Int) false 0) := by
  intro new r h
  cases h with
  | none hn' he' hw => exact absurd he' hne
  | one f' hf hne' l hw hN hm => have := kindF_lt hf; omega
  | many hk2 hne' P pt hp hw =>
    obtain ⟨h1, h2⟩ := hp
    obtain ⟨h3, h4⟩ := h1.FMown (pat := patM G) (fun x y hx hy => by rw [patM_iff hG hx hy]; exact h2 x y (by omega) (by omega) (by omega) (by omega))
    subst hw
    rw [hn] at h3
    refine ⟨by rw [h3], ⟨by rw [List.length_map, List.length_range, h3], fun i f l hi hl x hx => ?_⟩⟩
    have hlt := (List.getElem?_eq_some_iff.1 hl).1
    rw [List.getElem?_map, List.getElem?_range (by omega)] at hi
    simp at hi
    subst hi
    rw [h4 i x hlt hx, h1.memOwn hl hx]
  | ask hne' r hq' hw => have := askR_rng hq'; omega
  | idx hk2 hne' => omega
  | other hk2 hne' => omega
theorem post_idx {o : COp} {Ls : List (List (Int × Int))} {G : List (Nat × (Nat → Bool))} {r0 : List Value} (hk : o.kind = 22) (hne : Ls ≠ []) (hG : Rel (G.map (·.2)) (famLs Ls o.rg)) (hr : (∃ (b : Nat) (x : Nat), b < (mpats (patM G) 196608).length ∧ x < 196608 ∧ o.b = (x : Int) ∧ FM (patM G) 196608 b x = true ∧ r0 = resC 0 true (b : Int)) ∨ (r0 = resC 0 false 0 ∧ ∀ (b : Nat) (x : Nat), b < (mpats (patM G) 196608).length → x < 196608 → o.b = (x : Int) → FM (patM G) 196608 b x = false)) : MPost o Ls [] r0 := by
  intro new r h
  cases h with
  | none hn' he' hw => exact absurd he' hne
  | one f' hf hne' l hw hN hm => have := kindF_lt hf; omega
  | many hk2 => omega
  | ask hne' r hq' hw => have := askR_rng hq'; omega
  | idx hk2 hne' P pt hp v ok hi hw =>
    obtain ⟨h1, h2⟩ := hp
    obtain ⟨h3, h4⟩ := h1.FMown (pat := patM G) (fun x y hx hy => by rw [patM_iff hG hx hy]; exact h2 x y (by omega) (by omega) (by omega) (by omega))
    subst hw
    refine ⟨?_, Rel.nil⟩
    rcases hr with ⟨b, x, hb, hx, hob, hf, rfl⟩ | ⟨rfl, hf⟩
    · rw [h4 b x (by omega) hx] at hf
      have hob2 := of_decide_eq_true hf
      rcases hi with ⟨rfl, _, _, b', rfl, hb'⟩ | ⟨rfl, rfl, hn⟩
      · rw [hob] at hb'
        have := (h1.ownIff hx).1 hb'
        rw [← this, hob2]
        rfl
      · exact absurd ⟨by omega, by omega⟩ hn
    · rcases hi with ⟨rfl, hx0, hx1, b', rfl, hb'⟩ | ⟨rfl, rfl, hn⟩
      · exfalso
        obtain ⟨x, hx⟩ : ∃ x : Nat, o.b = (x : Int) := ⟨o.b.toNat, by omega⟩
        rw [hx] at hb'
        have hxl : x < 196608 := by omega
        have h5 := (h1.ownIff hxl).1 hb'
        have h6 := hf b' x (by rw [h3, ← h5]; exact h1.ownLt hxl) hxl hx
        rw [h4 b' x (by rw [← h5]; exact h1.ownLt hxl) hxl, decide_eq_true h5] at h6
        cases h6
      · rfl
  | other hk2 hne' => omega
/-- The register that a number names, in the model. -/
theorem Rel.reg {G : List (Nat × (Nat → Bool))} {Ls : List (List (Int × Int))} (h : Rel (G.map (·.2)) Ls) (h0 : 0 < G.length) (i : Int) : ∃ p, G[regIx G.length i]? = some p ∧ ∀ x : Nat, x < 196608 → p.2 x = memB (regL Ls i) (x : Int) := by
  have hl := h.len
  rw [List.length_map] at hl
  have hlt := regIx_lt h0 i
  have hg : G[regIx G.length i]? = some (G[regIx G.length i]) := List.getElem?_eq_getElem hlt
  have hf : (G.map (·.2))[regIx G.length i]? = some (G[regIx G.length i]).2 := by rw [List.getElem?_map, hg]; rfl
  have hL : Ls[regIx G.length i]? = some (regL Ls i) := by
    unfold regL
    rw [← hl, List.getD_eq_getElem?_getD, List.getElem?_eq_getElem (by omega)]
    rfl
  exact ⟨_, hg, fun x hx => h.eq _ _ _ hf hL x hx⟩
theorem memB_dup (ns : List Int) (x : Int) : memB (dupL ns) x = decide (x ∈ ns) := by
  unfold memB dupL
  rw [List.any_map, Bool.eq_iff_iff, List.any_eq_true, decide_eq_true_iff]
  constructor
  · rintro ⟨y, hy, h⟩
    simp at h
    have : x = y := by omega
    rw [this]
    exact hy
  · intro h
    exact ⟨x, h, by simp⟩
section
variable {l l2 : List (Int × Int)} {f f2 : Nat → Bool}
theorem cnt_of (hN : Nrm l) (h : ∀ x : Nat, x < 196608 → f x = memB l (x : Int)) : cntA f 196608 = countL l := by
  rw [← cnt_all l hN]
  exact cntA_ext 196608 h
theorem cnt_empty (hN : Nrm l) (h : ∀ x : Nat, x < 196608 → f x = memB l (x : Int)) : decide (cntA f 196608 = 0) = l.isEmpty := by rw [cnt_of hN h, empty_cnt hN]
theorem cnt_allB (hN : Nrm l) (h : ∀ x : Nat, x < 196608 → f x = memB l (x : Int)) : decide (cntA f 196608 = 196608) = allB l := by rw [cnt_of hN h, all_cnt hN]
theorem cnt_eq (hN : Nrm l) (hN2 : Nrm l2) (h : ∀ x : Nat, x < 196608 → f x = memB l (x : Int)) (h2 : ∀ x : Nat, x < 196608 → f2 x = memB l2 (x : Int)) : decide (cntA (fun x => f x != f2 x) 196608 = 0) = decide (l = l2) := by
  rw [decide_eq_decide, cntA_zero]
  constructor
  · intro h3
    refine nrm_ext2 hN hN2 (fun x h0 h1 => ?_)
    obtain ⟨i, rfl⟩ : ∃ i : Nat, x = (i : Int) := ⟨x.toNat, by omega⟩
    have h4 := h3 i (by omega)
    rw [← h i (by omega), ← h2 i (by omega)]
    simpa using h4
  · intro e i hi
    subst e
    rw [h i hi, h2 i hi]
    simp
theorem cnt_sub (hN : Nrm l) (hN2 : Nrm l2) (h : ∀ x : Nat, x < 196608 → f x = memB l (x : Int)) (h2 : ∀ x : Nat, x < 196608 → f2 x = memB l2 (x : Int)) : decide (cntA (fun x => f x && !f2 x) 196608 = 0) = subB l l2 := by
  rw [Bool.eq_iff_iff, decide_eq_true_iff, cntA_zero, sub_iff hN hN2]
  constructor
  · intro h3 x h0 h1 hm
    obtain ⟨i, rfl⟩ : ∃ i : Nat, x = (i : Int) := ⟨x.toNat, by omega⟩
    have h4 := h3 i (by omega)
    rw [h i (by omega), hm, Bool.true_and] at h4
    rw [← h2 i (by omega)]
    simpa using h4
  · intro h3 i hi
    rw [h i hi, h2 i hi]
    cases hm : memB l (i : Int) with
    | false => rfl
    | true => rw [h3 i (by omega) (by omega) hm]; rfl
theorem cnt_ov (hN : Nrm l) (hN2 : Nrm l2) (h : ∀ x : Nat, x < 196608 → f x = memB l (x : Int)) (h2 : ∀ x : Nat, x < 196608 → f2 x = memB l2 (x : Int)) : decide (0 < cntA (fun x => f x && f2 x) 196608) = ovB l l2 := by
  have hz := cntA_zero (fun x => f x && f2 x) 196608
  have hr := cntA_rng (fun x => f x && f2 x) 196608
  rw [Bool.eq_iff_iff, decide_eq_true_iff, ov_iff hN hN2]
  constructor
  · intro h3
    have h4 : ¬ ∀ i, i < 196608 → (f i && f2 i) = false := fun h5 => by
      have := hz.2 h5
      omega
    simp only [Classical.not_forall] at h4
    obtain ⟨i, hi, h5⟩ := h4
    rw [h i hi, h2 i hi] at h5
    simp at h5
    exact ⟨i, by omega, by omega, h5.1, h5.2⟩
  · rintro ⟨x, h0, h1, h3, h4⟩
    obtain ⟨i, rfl⟩ : ∃ i : Nat, x = (i : Int) := ⟨x.toNat, by omega⟩
    have h5 : ¬ cntA (fun x => f x && f2 x) 196608 = 0 := fun e => by
      have := hz.1 e i (by omega)
      rw [h i (by omega), h2 i (by omega), h3, h4] at this
      cases this
    omega
theorem min_of (hN : Nrm l) (h : ∀ x : Nat, x < 196608 → f x = memB l (x : Int)) {v : Int} {ok : Bool} (hv : (ok = false ∧ v = 0 ∧ ∀ i : Nat, i < 196608 → f i = false) ∨ ∃ i : Nat, i < 196608 ∧ ok = true ∧ v = (i : Int) ∧ f i = true ∧ ∀ j : Nat, j < i → f j = false) : numR v ok = numR (minL l) (!l.isEmpty) := by
  rcases hv with ⟨rfl, rfl, h3⟩ | ⟨i, hi, rfl, rfl, h3, h4⟩
  · have : cntA f 196608 = 0 := (cntA_zero f 196608).2 h3
    have he := cnt_empty hN h
    rw [decide_eq_true this] at he
    rw [← he]
    rfl
  · have hne : l ≠ [] := fun e => by
      have := h i hi
      rw [h3, e] at this
      cases this
    have he : l.isEmpty = false := by cases l with | nil => exact absurd rfl hne | cons => rfl
    have hm := least_eq hN hne
    rw [he, ← hm]
    rcases lstA_is (fun i => memB l (i : Int)) 196608 with ⟨_, h5⟩ | ⟨j, h5, h6, h7, h8⟩
    · have := h5 i hi
      rw [← h i hi, h3] at this
      cases this
    · rw [h6]
      have : i = j := by
        rcases Nat.lt_trichotomy i j with e | e | e
        · have := h8 i e
          rw [← h i hi, h3] at this
          cases this
        · exact e
        · have := h4 j e
          rw [h j h5, h7] at this
          cases this
      rw [this]
      rfl
theorem max_of (hN : Nrm l) (h : ∀ x : Nat, x < 196608 → f x = memB l (x : Int)) {v : Int} {ok : Bool} (hv : (ok = false ∧ v = 0 ∧ ∀ i : Nat, i < 196608 → f i = false) ∨ ∃ i : Nat, i < 196608 ∧ ok = true ∧ v = (i : Int) ∧ f i = true ∧ ∀ j : Nat, i < j → j < 196608 → f j = false) : numR v ok = numR (maxL l) (!l.isEmpty) := by
  rcases hv with ⟨rfl, rfl, h3⟩ | ⟨i, hi, rfl, rfl, h3, h4⟩
  · have : cntA f 196608 = 0 := (cntA_zero f 196608).2 h3
    have he := cnt_empty hN h
    rw [decide_eq_true this] at he
    rw [← he]
    rfl
  · have hne : l ≠ [] := fun e => by
      have := h i hi
      rw [h3, e] at this
      cases this
    have he : l.isEmpty = false := by cases l with | nil => exact absurd rfl hne | cons => rfl
    have hm := great_eq hN hne
    rw [he, ← hm]
    rcases grtA_is (fun i => memB l (i : Int)) 196608 with ⟨_, h5⟩ | ⟨j, h5, h6, h7, h8⟩
    · have := h5 i hi
      rw [← h i hi, h3] at this
      cases this
    · rw [h6]
      have : i = j := by
        rcases Nat.lt_trichotomy i j with e | e | e
        · have := h4 j e h5
          rw [h j h5, h7] at this
          cases this
        · exact e
        · have := h8 i e hi
          rw [← h i hi, h3] at this
          cases this
      rw [this]
      rfl
end
end Go.Proofs.Qxb6500884a
