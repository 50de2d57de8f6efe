/- The law's world: a step plainly. -/
import Derived.Test.Qxb6500888aBaW2
namespace Go.Proofs.Qxb6500888a
open Go.RowKit
set_option linter.unusedSimpArgs false
set_option linter.unusedVariables false

/-- One decrement, if one waits. -/
noncomputable def stepF (G : GS) : Option GS := by
  classical
  exact if ∃ a, G.pend a ≠ 0 then some (dropG G (leastN fun a => G.pend a ≠ 0)) else none
theorem stepF_none {G : GS} (h : ∀ a, G.pend a = 0) : stepF G = none := by
  unfold stepF
  rw [if_neg]
  rintro ⟨a, ha⟩
  exact ha (h a)
theorem stepF_some {G : GS} {o : Nat} (h : LeastP G.pend o) : stepF G = some (dropG G o) := by
  unfold stepF
  rw [if_pos ⟨o, h.at_⟩]
  have h1 := leastN_spec (p := fun a => G.pend a ≠ 0) ⟨o, h.at_⟩
  have h2 := leastN_le (p := fun a => G.pend a ≠ 0) h.at_
  have h3 := h.le _ h1
  rw [show leastN (fun a => G.pend a ≠ 0) = o by omega]
theorem stepF_inv {G G' : GS} (h : stepF G = some G') : ∃ o, LeastP G.pend o ∧ G' = dropG G o := by
  unfold stepF at h
  split at h
  · rename_i hex
    cases h
    exact ⟨_, ⟨leastN_spec (p := fun a => G.pend a ≠ 0) hex, fun a ha => leastN_le (p := fun a => G.pend a ≠ 0) ha⟩, rfl⟩
  · cases h
/-- At most n decrements: how many were applied, and the ground. -/
noncomputable def decN : Nat → GS → Nat × GS
  | 0, G => (0, G)
  | n + 1, G => match stepF G with
    | none => (0, G)
    | some G' => ((decN n G').1 + 1, (decN n G').2)
theorem GOk.drop {G : GS} (h : GOk G) {o : Nat} (ho : G.pend o ≠ 0) : GOk (dropG G o) := by
  have hin := h.pd o ho
  have hless : GOk (lessG G o) := ⟨h.hd, h.wd, fun a ha => by
    have ha' : fup G.pend o (G.pend o - 1) a ≠ 0 := ha
    by_cases e : a = o
    · subst e; exact hin
    · rw [fup_ne _ _ e] at ha'; exact h.pd a ha', h.ct⟩
  unfold dropG
  split
  · exact ⟨hless.hd, hless.wd, hless.pd, hless.ct⟩
  · split
    · exact hless
    · split
      · have hgo : GOk { lessG G o with pend := addP (lessG G o).pend (refL G o) } := ⟨hless.hd, hless.wd, fun a ha => ?_, hless.ct⟩
        exact hgo.free o
        have ha' : addP (lessG G o).pend (refL G o) a ≠ 0 := ha
        rw [addP_count] at ha'
        by_cases e : (lessG G o).pend a = 0
        · have : 0 < (refL G o).count a := by omega
          exact h.refs hin.1 hin.2 (List.count_pos_iff.1 this)
        · exact hless.pd a e
      · refine ⟨hless.hd, hless.wd, hless.pd, fun a => ?_⟩
        show fup G.cnt o (G.cnt o - 1) a ≤ 3
        by_cases e : a = o
        · subst e; rw [fup_self]; have := h.ct a; omega
        · rw [fup_ne _ _ e]; exact h.ct a
theorem GB.drop {G : GS} {N : Nat} (hb : GB G N) (h : GOk G) {o : Nat} (ho : G.pend o ≠ 0) : GB (dropG G o) (N + 8192) := by
  have hin := h.pd o ho
  have hl : ∀ a, (lessG G o).pend a ≤ N := fun a => by
    show fup G.pend o (G.pend o - 1) a ≤ N
    by_cases e : a = o
    · subst e; rw [fup_self]; have := hb.pend a; omega
    · rw [fup_ne _ _ e]; exact hb.pend a
  have h1 := hb.calls
  have h2 := hb.deaths
  have h3 := hb.errs
  unfold dropG
  split
  · exact ⟨by show G.calls.length ≤ _; omega, by show G.deaths.length ≤ _; omega, fun a => by have := hl a; show (lessG G o).pend a ≤ _; omega, by show G.errs + 1 ≤ _; omega⟩
  · split
    · exact ⟨by show G.calls.length ≤ _; omega, by show G.deaths.length ≤ _; omega, fun a => by have := hl a; omega, by show G.errs ≤ _; omega⟩
    · split
      · refine ⟨by show G.calls.length ≤ _; omega, by show (G.deaths ++ [o]).length ≤ _; simp; omega, fun a => ?_, by show G.errs ≤ _; omega⟩
        show addP (lessG G o).pend (refL G o) a ≤ _
        have h4 := addP_le (refL G o) (lessG G o).pend a
        have h5 := hl a
        have h6 := refP_len G o (rfOf G o)
        have h7 := h.sz hin.1 hin.2
        have h8 : (refL G o).length ≤ rfOf G o := h6
        omega
      · exact ⟨by show G.calls.length ≤ _; omega, by show G.deaths.length ≤ _; omega, fun a => by have := hl a; show (lessG G o).pend a ≤ _; omega, by show G.errs ≤ _; omega⟩
/-- What a step does: the answer's code and value, its harvest, the ground, the barrier. -/
noncomputable def playS (G : GS) (B : BS) (o : OpP) : (Nat × Nat) × (Nat → List Nat) × GS × BS :=
  if o.kind = 7 then ((0, 0), (pauseP G B).2.2, (pauseP G B).1, (pauseP G B).2.1)
  else if o.kind = 8 then ((0, (decN (1 + o.a % 8) G).1), hv00, (decN (1 + o.a % 8) G).2, B)
  else if o.kind = 9 then ((0, 0), hv00, G, { B with tr := if o.a = 0 then 0 else if B.tr = 0 then 1 else B.tr })
  else if o.kind = 0 then
    (if badM (o.m : Int) then ((1, 0), hv00, G, B) else if (B.roots o.m).length = 64 then ((8, 0), hv00, G, B)
     else let r := alocS G B (o.m : Int) (numX o.a) (numX o.b)
       if r.1.2 ≠ 0 then ((r.1.2, 0), hv00, r.2.1, r.2.2) else (giv r.1.1 (pushS r.2.1 r.2.2 (o.m : Int) r.1.1).1, hv00, r.2.1, (pushS r.2.1 r.2.2 (o.m : Int) r.1.1).2))
  else if o.kind = 4 then (giv (popS B (o.m : Int)).1.1 (popS B (o.m : Int)).1.2, hv00, G, (popS B (o.m : Int)).2)
  else if o.kind = 6 then
    (if badM (o.m : Int) then ((1, 0), hv00, G, B)
     else if (readS G o.a (numX o.b)).2 = 0 ∧ ((G.head o.c).isSome = true ∨ o.c = 0) then ((12, 0), hv00, G, B)
     else (((writeS G B (o.m : Int) o.a (numX o.b) o.c).1, 0), hv00, (writeS G B (o.m : Int) o.a (numX o.b) o.c).2))
  else if o.kind = 3 ∨ o.kind = 5 ∨ o.kind = 2 ∨ o.kind = 1 then ((namedS G B o).1, hv00, (namedS G B o).2)
  else ((11, 0), hv00, G, B)
def rzH (c v : Nat) (V : Nat → Value) : List Value := [.int .u8 (c : Int), .int .u64 (v : Int), V 0, V 1, V 2, V 3, V 4, V 5, V 6, V 7]
section
variable {X : Nat → Bool} {w w' w'' : World} {ρ ρ' : Rl} {L L' : GL} {T T' : BL} {G G' : GS} {B B' : BS}
/-- What a step leaves in memory. -/
structure PyM (w : World) (ρ : Rl) (L : GL) (T : BL) (r : (Nat × Nat) × (Nat → List Nat) × GS × BS) (V : Nat → Value) (L' : GL) (T' : BL) (ρ' : Rl) (w' : World) : Prop where
  sm : L.Same L'
  tb : T'.bB = T.bB
  bm : BM w' ρ' L' T' r.2.2.1 r.2.2.2
  rw : ∀ i, i < 8 → RowX rtA w' ρ' (41 + i) (V i) (r.2.1 i)
  fr : Fr pX ρ w ρ' w'
def PyP (w : World) (ρ : Rl) (L : GL) (T : BL) (r : (Nat × Nat) × (Nat → List Nat) × GS × BS) (e : Ending) (w' : World) : Prop := ∃ V L' T' ρ', e = .returned (.agg (rzH r.1.1 r.1.2 V).toArray) ∧ PyM w ρ L T r V L' T' ρ' w'
theorem PlP.py {r : (Nat × Nat) × GS × BS} {e : Ending} (h : PlP w ρ L T r e w') : PyP w ρ L T (r.1, hv00, r.2) e w' := by
  obtain ⟨he, L', T', ρ', h1, h2, h3, h4⟩ := h
  exact ⟨fun _ => .slice none 0 0, L', T', ρ', he, h1, h2, h3, fun i hi => RowX.nil _ _ _ _, h4.mono (fun c => pX_b)⟩
theorem StM.py {wB pO rB : Nat} {o : OpP} {wr w9 : World} {c v : Nat} (h : StM w ρ L T G B wB pO rB o L' T' ρ' wr) (hu : Upd rB wr w9) : PyP w ρ L T ((c, v), hv00, G, B) (.returned (.agg (rzC c v).toArray)) w9 := (h.fin (r := ((c, v), G, B)) rfl hu).py
/-- Step's answer as a function. -/
theorem StP.fn {e : Ending} (h : StP w ρ L G e w') : (stepF G = none ∧ e = .returned (.bool false) ∧ GP w ρ L G w') ∨ ∃ G', stepF G = some G' ∧ e = .returned (.bool true) ∧ GP w ρ L G' w' := by
  rcases h with ⟨h1, h2, h3⟩ | ⟨o, h1, h2, h3⟩
  · exact .inl ⟨stepF_none h1, h2, h3⟩
  · exact .inr ⟨_, stepF_some h1, h2, h3⟩
end
end Go.Proofs.Qxb6500888a
