/- The plain machine: a pause's lists and its trace; the moves of the other steps. -/
import Derived.Test.Qxb6500888aBaV2
namespace Go.Proofs.Qxb6500888a
open Go.RowKit
set_option linter.unusedSimpArgs false
set_option linter.unusedVariables false

theorem pause_hv {t : Nat} {G : GS} {B : BS} (h : InvM t G B) {i : Nat} (h4 : i ≠ 4) (h5 : i ≠ 5) (h6 : i ≠ 6) : (pauseP G B).2.2 i = hv3P G B i := by
  have hb := h.bo
  have hr0 : ∀ o ∈ hv3P G B 0, 65536 ≤ o ∧ o < 98304 := fun o ho => by rw [hv3_lo G B (by decide)] at ho; exact hvK_in0 h.ok.wd hb.lf 4 (Nat.le_refl _) o ho
  have hr2 : ∀ o ∈ hv3P G B 2, 65536 ≤ o ∧ o < 98304 := fun o ho => by
    rw [hv3_2] at ho
    obtain ⟨m, hm, hmo⟩ := rootsK_mem ho
    exact hb.ro m hm o hmo
  obtain ⟨⟨C4, ha4⟩, hp4⟩ := apply_ok (p := (G, hv3P G B)) (hv3_ap h.ok hb) (hv3_mid G B (by decide) (by decide)) hr0 hr2
  have hk4 := ha4.k
  have hok4 := ha4.ok
  have e1 : (pauseP G B).2.2 = (reapK B (applyP (G, hv3P G B)) 4).2 := rfl
  rw [e1]
  obtain ⟨p4, hp4e⟩ : ∃ p, applyP (G, hv3P G B) = p := ⟨_, rfl⟩
  rw [hp4e] at hk4 hok4 ⊢
  obtain ⟨D, hD, hrp, hph5⟩ := reapK_ok (G0 := p4.1) (hv0 := p4.2) hb.nf (p := p4) ⟨hok4, Nat.le_refl _, rfl, rfl, rfl, fun _ _ => rfl, Nat.le_refl _⟩ rfl 4
  rw [hrp.k i h6, hk4 i h4 h5]
theorem pause_tr (G : GS) (B : BS) : (pauseP G B).2.1.tr = if B.tr = 1 then 2 else B.tr := by
  show (clrF (seedB (drK B 4)) 4).tr = _
  show (seedB (drK B 4)).tr = _
  unfold seedB
  show (if B.tr = 1 then { drK B 4 with tr := 2 } else drK B 4 : BS).tr = _
  by_cases e : B.tr = 1
  · rw [if_pos e, if_pos e]
  · rw [if_neg e, if_neg e]
    rfl
/-- What a step of a mutator may do to ground and barrier. -/
inductive Mv (G : GS) (B : BS) : GS → BS → Prop
  | same : Mv G B G B
  | push (m ref : Nat) (hm : m < 4) (hl : (B.roots m).length < 64) (hh : (G.head ref).isSome = true)
      (src : (∃ m', m' < 4 ∧ ref ∈ B.roots m') ∨ (∃ m' o n q i, m' < 4 ∧ o ∈ B.roots m' ∧ G.head o = some (n, q) ∧ i < q ∧ ref = G.word (offA o + 1 + i) ∧ ref ≠ 0)) :
      Mv G B G { B with roots := fup B.roots m (B.roots m ++ [ref]) }
  | pop (m : Nat) (hm : m < 4) : Mv G B G { B with roots := fup B.roots m (B.roots m).dropLast }
  | write (m o n q i ref : Nat) (hm : m < 4) (hr : ∃ m', m' < 4 ∧ o ∈ B.roots m') (hh : G.head o = some (n, q)) (hi : i < q) (hf : ref = 0 ∨ (G.head ref).isSome = true)
      (src : ref = 0 ∨ ∃ m', m' < 4 ∧ ref ∈ B.roots m') : Mv G B (wrG G (offA o + 1 + i) ref) (wrB G B m (o + 1 + i) (offA o + 1 + i))
  | aloc (m n q s : Nat) (hm : m < 4) (hl : (B.roots m).length < 64) (hn : 1 ≤ n) (hn2 : n ≤ 8192) (hq : q ≤ n) (hp : placeA G.tk (1 + n) = some s) :
      Mv G B (newG G s n q) { newB B m (65536 + s) with roots := fup B.roots m (B.roots m ++ [65536 + s]) }
theorem pushS_mv {G : GS} {B : BS} (hr : ∀ m, (B.roots m).length ≤ 64) (x : Int) (ref : Nat) (src : (∃ m', m' < 4 ∧ ref ∈ B.roots m') ∨ (∃ m' o n q i, m' < 4 ∧ o ∈ B.roots m' ∧ G.head o = some (n, q) ∧ i < q ∧ ref = G.word (offA o + 1 + i) ∧ ref ≠ 0)) :
    Mv G B G (pushS G B x ref).2 := by
  unfold pushS
  split
  · exact .same
  · split
    · exact .same
    · split
      · exact .same
      · rename_i h1 h2 h3
        have hx : x.toNat < 4 := by unfold badM at h1; omega
        have hl := hr x.toNat
        exact .push x.toNat ref hx (by omega) (by cases e : (G.head ref).isSome with | true => rfl | false => exact absurd e h2) src
theorem rootS_in {B : BS} {x k : Int} (h : (rootS B x k).2 = 0) : ∃ m, m < 4 ∧ (rootS B x k).1 ∈ B.roots m := by
  unfold rootS at h ⊢
  split
  · rename_i h1
    rw [if_pos h1] at h
    cases h
  · rename_i h1
    rw [if_neg h1] at h
    split
    · rename_i h2
      rw [if_pos h2] at h
      cases h
    · rename_i h2
      have hx : x.toNat < 4 := by unfold badM at h1; omega
      refine ⟨x.toNat, hx, ?_⟩
      show (B.roots x.toNat).getD _ 0 ∈ _
      rw [List.getD_eq_getElem?_getD, List.getElem?_eq_getElem (show (B.roots x.toNat).length - 1 - k.toNat < (B.roots x.toNat).length by omega)]
      exact List.getElem_mem _
theorem writeS_mv {G : GS} {B : BS} (hok : GOk G) (x : Int) (obj : Nat) (i : Int) (ref : Nat) (hr : ∃ m', m' < 4 ∧ obj ∈ B.roots m') (src : ref = 0 ∨ ∃ m', m' < 4 ∧ ref ∈ B.roots m') :
    Mv G B (writeS G B x obj i ref).2.1 (writeS G B x obj i ref).2.2 := by
  unfold writeS
  split
  · exact .same
  · split
    · exact .same
    · split
      · exact .same
      · rename_i h1 h2 h3
        have hx : x.toNat < 4 := by unfold badM at h1; omega
        have hc : (fieldS G obj i).2 = 0 := Classical.byContradiction h2
        obtain ⟨n, q, k, hh, hik, hk, e1, e2, e3, e4⟩ := fieldS_ok hok hc
        have hf : ref = 0 ∨ (G.head ref).isSome = true := by
          by_cases e : ref = 0
          · exact .inl e
          · right
            cases e5 : (G.head ref).isSome with
            | true => rfl
            | false => exact absurd ⟨e5, e⟩ h3
        have := Mv.write (G := G) (B := B) x.toNat obj n q k ref hx hr hh hk hf src
        dsimp only
        rw [e4, e1]
        exact this
theorem alocS_mv {G : GS} {B : BS} (hok : GOk G) (m : Nat) (sz rf : Int) (hl : (B.roots m).length < 64) (hc : (alocS G B (m : Int) sz rf).1.2 = 0) :
    Mv G B (alocS G B (m : Int) sz rf).2.1 (pushS (alocS G B (m : Int) sz rf).2.1 (alocS G B (m : Int) sz rf).2.2 (m : Int) (alocS G B (m : Int) sz rf).1.1).2 := by
  unfold alocS at hc ⊢
  by_cases h1 : badM (m : Int)
  · rw [if_pos h1] at hc; cases hc
  · rw [if_neg h1] at hc ⊢
    by_cases h2 : sz < 1 ∨ 8192 < sz
    · rw [if_pos h2] at hc; cases hc
    · rw [if_neg h2] at hc ⊢
      by_cases h3 : rf < 0 ∨ sz < rf
      · rw [if_pos h3] at hc; cases hc
      · rw [if_neg h3] at hc ⊢
        cases hp : placeA G.tk (1 + sz.toNat) with
        | none => rw [hp] at hc; cases hc
        | some s =>
          dsimp only
          have hm : m < 4 := by unfold badM at h1; omega
          unfold pushS
          rw [if_neg h1, if_neg (by show ¬ (fup G.head (65536 + s) (some (sz.toNat, rf.toNat)) (65536 + s)).isSome = false; rw [fup_self]; simp), if_neg (by show ¬ (B.roots m).length = 64; omega)]
          exact Mv.aloc m sz.toNat rf.toNat s hm hl (by omega) (by omega) (by omega) hp
theorem alocS_same {G : GS} {B : BS} (m : Nat) (sz rf : Int) (hc : (alocS G B (m : Int) sz rf).1.2 ≠ 0) : (alocS G B (m : Int) sz rf).2 = (G, B) := by
  unfold alocS at hc ⊢
  split
  · rfl
  · split
    · rfl
    · split
      · rfl
      · rename_i h1 h2 h3
        rw [if_neg h1, if_neg h2, if_neg h3] at hc
        cases hp : placeA G.tk (1 + sz.toNat) with
        | none => rfl
        | some s => rw [hp] at hc; exact absurd rfl hc
theorem popS_mv (G : GS) (B : BS) (x : Int) : Mv G B G (popS B x).2 := by
  unfold popS
  split
  · exact .same
  · split
    · exact .same
    · rename_i h1 h2
      exact .pop x.toNat (by unfold badM at h1; omega)
theorem readS_src {G : GS} {B : BS} (hok : GOk G) {o : Nat} {i : Int} (hr : ∃ m', m' < 4 ∧ o ∈ B.roots m') (h : (readS G o i).2 = 0) (h0 : (readS G o i).1 ≠ 0) :
    ∃ m' o' n q k, m' < 4 ∧ o' ∈ B.roots m' ∧ G.head o' = some (n, q) ∧ k < q ∧ (readS G o i).1 = G.word (offA o' + 1 + k) ∧ (readS G o i).1 ≠ 0 := by
  unfold readS at h h0 ⊢
  by_cases hc : (fieldS G o i).2 = 0
  · rw [if_pos hc] at h0 ⊢
    obtain ⟨n, q, k, hh, hik, hk, e1, e2, e3, e4⟩ := fieldS_ok hok hc
    obtain ⟨m', hm, hmo⟩ := hr
    exact ⟨m', o, n, q, k, hm, hmo, hh, hk, by rw [e4], h0⟩
  · rw [if_neg hc] at h
    exact absurd h hc
/-- A wild write is refused. -/
theorem writeS_no {G : GS} {B : BS} {x : Int} {a : Nat} {i : Int} {r : Nat} (h : ¬ ((readS G a i).2 = 0 ∧ ((G.head r).isSome = true ∨ r = 0))) : (writeS G B x a i r).2 = (G, B) := by
  unfold writeS
  split
  · rfl
  · split
    · rfl
    · split
      · rfl
      · rename_i h1 h2 h3
        refine absurd ⟨?_, ?_⟩ h
        · have hc : (fieldS G a i).2 = 0 := Classical.byContradiction h2
          unfold readS
          rw [if_pos hc]
        · by_cases e : r = 0
          · exact .inr e
          · left
            cases e5 : (G.head r).isSome with
            | true => rfl
            | false => exact absurd ⟨e5, e⟩ h3
theorem ite_C {α : Type} {P : α → Prop} {c : Prop} [Decidable c] {a b : α} (h1 : c → P a) (h2 : ¬ c → P b) : P (if c then a else b) := by
  by_cases h : c
  · rw [if_pos h]; exact h1 h
  · rw [if_neg h]; exact h2 h
/-- What a step that names an object may come to, and when. -/
theorem namedS_C (G : GS) (B : BS) (o : OpP) {P : (Nat × Nat) × GS × BS → Prop} (h1 : ∀ c, P ((c, 0), G, B)) (h2 : ∀ x r p, (∃ m', m' < 4 ∧ r ∈ B.roots m') → P (p, G, (pushS G B x r).2))
    (h3 : ∀ x a i p, (∃ m', m' < 4 ∧ a ∈ B.roots m') → (readS G a i).2 = 0 → (readS G a i).1 ≠ 0 → P (p, G, (pushS G B x (readS G a i).1).2))
    (h4 : ∀ x a i r c, (∃ m', m' < 4 ∧ a ∈ B.roots m') → (r = 0 ∨ ∃ m', m' < 4 ∧ r ∈ B.roots m') → P ((c, 0), (writeS G B x a i r).2)) : P (namedS G B o) :=
  ite_C (fun _ => h1 _) (fun k1 => ite_C (fun _ => h2 _ _ _ (rootS_in (Classical.byContradiction k1))) (fun _ => ite_C (fun _ => h2 _ _ _ (rootS_in (Classical.byContradiction k1))) (fun _ =>
    ite_C (fun _ => ite_C (fun _ => h1 _) (fun k2 => h3 _ _ _ _ (rootS_in (Classical.byContradiction k1)) (Classical.byContradiction fun h => k2 (.inl h)) (fun h => k2 (.inr h))))
      (fun _ => ite_C (fun _ => h1 _) (fun k2 => h4 _ _ _ _ _ (rootS_in (Classical.byContradiction k1)) (by
        by_cases hc : o.c ≠ 0
        · rw [if_pos hc] at k2 ⊢
          exact .inr (rootS_in (Classical.byContradiction k2))
        · rw [if_neg hc]
          exact .inl rfl))))))
theorem namedS_mv {G : GS} {B : BS} (hok : GOk G) (hr : ∀ m, (B.roots m).length ≤ 64) (o : OpP) : Mv G B (namedS G B o).2.1 (namedS G B o).2.2 :=
  namedS_C G B o (P := fun r => Mv G B r.2.1 r.2.2) (fun _ => .same) (fun x r _ h => pushS_mv hr x r (.inl h)) (fun x a i _ h k1 k2 => pushS_mv hr x _ (.inr (readS_src hok h k1 k2))) (fun x a i r _ h k => writeS_mv hok x a i r h k)
/-- Every step that is no pause, no decrement and no trace is a move. -/
theorem playS_mv {G : GS} {B : BS} (hok : GOk G) (hr : ∀ m, (B.roots m).length ≤ 64) (o : OpP) (h7 : o.kind ≠ 7) (h8 : o.kind ≠ 8) (h9 : o.kind ≠ 9) : Mv G B (playS G B o).2.2.1 (playS G B o).2.2.2 :=
  ite_C (P := fun r : (Nat × Nat) × (Nat → List Nat) × GS × BS => Mv G B r.2.2.1 r.2.2.2) (fun h => absurd h h7) (fun _ => ite_C (P := fun r : (Nat × Nat) × (Nat → List Nat) × GS × BS => Mv G B r.2.2.1 r.2.2.2) (fun h => absurd h h8) (fun _ => ite_C (P := fun r : (Nat × Nat) × (Nat → List Nat) × GS × BS => Mv G B r.2.2.1 r.2.2.2) (fun h => absurd h h9) (fun _ =>
    ite_C (P := fun r : (Nat × Nat) × (Nat → List Nat) × GS × BS => Mv G B r.2.2.1 r.2.2.2)
      (fun _ => ite_C (P := fun r : (Nat × Nat) × (Nat → List Nat) × GS × BS => Mv G B r.2.2.1 r.2.2.2) (fun _ => .same) (fun _ => ite_C (P := fun r : (Nat × Nat) × (Nat → List Nat) × GS × BS => Mv G B r.2.2.1 r.2.2.2) (fun _ => .same) (fun hl =>
        ite_C (P := fun r : (Nat × Nat) × (Nat → List Nat) × GS × BS => Mv G B r.2.2.1 r.2.2.2) (fun hc => by
          have e := alocS_same o.m (numX o.a) (numX o.b) hc
          generalize alocS G B (o.m : Int) (numX o.a) (numX o.b) = r at e
          show Mv G B r.2.1 r.2.2
          rw [e]
          exact .same) (fun hc => alocS_mv hok o.m _ _ (by have := hr o.m; omega) (Classical.byContradiction hc)))))
      (fun _ => ite_C (P := fun r : (Nat × Nat) × (Nat → List Nat) × GS × BS => Mv G B r.2.2.1 r.2.2.2) (fun _ => popS_mv G B _) (fun _ =>
        ite_C (P := fun r : (Nat × Nat) × (Nat → List Nat) × GS × BS => Mv G B r.2.2.1 r.2.2.2)
          (fun _ => ite_C (P := fun r : (Nat × Nat) × (Nat → List Nat) × GS × BS => Mv G B r.2.2.1 r.2.2.2) (fun _ => .same) (fun _ => ite_C (P := fun r : (Nat × Nat) × (Nat → List Nat) × GS × BS => Mv G B r.2.2.1 r.2.2.2) (fun _ => .same) (fun hc => by
            have e := writeS_no (B := B) (x := (o.m : Int)) hc
            generalize writeS G B (o.m : Int) o.a (numX o.b) o.c = r at e
            show Mv G B r.2.1 r.2.2
            rw [e]
            exact .same)))
          (fun _ => ite_C (P := fun r : (Nat × Nat) × (Nat → List Nat) × GS × BS => Mv G B r.2.2.1 r.2.2.2) (fun _ => namedS_mv hok hr o) (fun _ => .same)))))))
theorem playS_7 {G : GS} {B : BS} {o : OpP} (h : o.kind = 7) : playS G B o = ((0, 0), (pauseP G B).2.2, (pauseP G B).1, (pauseP G B).2.1) := by unfold playS; rw [if_pos h]
theorem playS_8 {G : GS} {B : BS} {o : OpP} (h : o.kind = 8) : (playS G B o).2.2 = ((decN (1 + o.a % 8) G).2, B) := by unfold playS; rw [if_neg (by omega), if_pos h]
theorem playS_9 {G : GS} {B : BS} {o : OpP} (h : o.kind = 9) : (playS G B o).2.2 = (G, { B with tr := if o.a = 0 then 0 else if B.tr = 0 then 1 else B.tr }) := by unfold playS; rw [if_neg (by omega), if_neg (by omega), if_pos h]
theorem Mv.tr {G G' : GS} {B B' : BS} (h : Mv G B G' B') : B'.tr = B.tr := by
  cases h with
  | same => rfl
  | push => rfl
  | pop => rfl
  | write =>
    unfold wrB
    split <;> rfl
  | aloc => rfl
theorem play_tr {t : Nat} {G : GS} {B : BS} (h : InvM t G B) {o : OpP} (h7 : o.kind ≠ 7) (h9 : o.kind ≠ 9) : (playS G B o).2.2.2.tr = B.tr := by
  by_cases h8 : o.kind = 8
  · rw [playS_8 h8]
  · exact (playS_mv h.ok h.bo.nr o h7 h8 h9).tr
end Go.Proofs.Qxb6500888a
