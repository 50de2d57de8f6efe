/- Plain: a step keeps the invariant; what it does to the tables. -/
import Derived.Test.Qxb6500889aDoorMuP1
namespace Go.Proofs.Qxb6500889aDoor
open Go.RowKit
set_option linter.unusedSimpArgs false
set_option linter.unusedVariables false
section
variable {H H' : HS} {X X' : XS} {n m : Nat} {o : OpP} {z : Rz}
theorem full_len (hl : (X.tb m).ad.length ≤ 128) (hf : ¬ fullB (X.tb m) = true) : (X.tb m).ad.length < 128 ∧ (X.tb m).gen ≠ 1099511627775 := by
  unfold fullB at hf
  simp at hf
  omega
theorem hN_lt {g m s : Nat} (h1 : g ≤ 1099511627775) (h2 : m < 4) (h3 : s < 256) : hN g m s < 18446744073709551616 := by unfold hN; omega
theorem XN.note (h : XN X n) {v : Nat} (hv : v < 18446744073709551616) : XN (noteX X v) n := by
  refine ⟨Nat.mod_lt _ (by omega), ?_, h.gen, h.len, h.st, h.rf, h.al, h.sf, fun i hi => ?_⟩
  · show (if X.ct < 255 then X.ct + 1 else X.ct) ≤ 255
    have := h.ct
    split <;> omega
  · show fup X.ring X.nx v i < _
    unfold fup
    split
    · exact hv
    · exact h.ring i hi
theorem XN.iss (h : XN X n) (hl : (X.tb m).ad.length < 128) (x : Nat) : XN (issX X m x) n := by
  refine ⟨h.nx, h.ct, fun i => ?_, fun i => ?_, h.st, h.rf, h.al, h.sf, h.ring⟩
  · show (fup X.tb m _ i).gen ≤ n
    unfold fup
    split
    · exact h.gen m
    · exact h.gen i
  · show (fup X.tb m _ i).ad.length ≤ 128
    unfold fup
    split
    · simp; omega
    · exact h.len i
theorem XN.give (h : XN X n) (hn : n ≤ 100000000000) (hm : m < 4) (hl : (X.tb m).ad.length < 128) (x : Nat) : XN (givX X m x) n :=
  (h.iss hl x).note (hN_lt (by have := h.gen m; omega) hm (by omega))
theorem XN.alw (h : XN X n) {k : Nat} (hk : k ≤ n + 1) : XN { X with al := k } (n + 1) := by
  have := h.mono (k := n + 1) (by omega)
  exact ⟨this.nx, this.ct, this.gen, this.len, this.st, this.rf, hk, this.sf, this.ring⟩
theorem XN.safe (h : XN X n) (m : Nat) : XN (spX X m) (n + 1) := by
  have := h.mono (k := n + 1) (by omega)
  refine ⟨this.nx, this.ct, fun i => ?_, fun i => ?_, this.st, this.rf, this.al, ?_, this.ring⟩
  · rw [spX_tb]
    split
    · unfold retT
      have := h.gen m
      dsimp only
      split <;> omega
    · exact this.gen i
  · rw [spX_tb]
    split
    · simp [retT]
    · exact this.len i
  · show X.sf + 1 ≤ n + 1
    have := h.sf
    omega
/-- What a step does to the machine. -/
inductive TbS (H : HS) (X : XS) (o : OpP) (z : Rz) (H' : HS) : XS → Prop
  | keep : ¬ (o.ac < 4 ∧ o.k = 7) → (z.c = 0 → o.ac < 4 → (o.k = 0 ∨ o.k = 1 ∨ o.k = 6) → z.v = 0) → TbS H X o z H' X
  | give (x q : Nat) : o.ac < 4 → fullB (X.tb o.ac) = false → z.c = 0 → (o.k = 0 ∨ o.k = 1 ∨ o.k = 6) → z.v = hN (X.tb o.ac).gen o.ac (X.tb o.ac).ad.length → q ≤ X.al + 1 → TbS H X o z H' (givX { X with al := q } o.ac x)
  | safe : o.ac < 4 → o.k = 7 → z = rzR 0 → TbS H X o z H' (spX X o.ac)
theorem rzA_c (v c : Nat) : (rzA v c).c = c := by
  unfold rzA
  split
  · rename_i h; rw [h]
  · rfl
theorem rzA_v0 (v : Nat) : (rzA v 0).v = v := rfl
theorem DoS.tbs (hs : DoS H X o H' X' z) : TbS H X o z H' X' := by
  cases hs with
  | bad h => exact .keep (by omega) (fun _ _ => by omega)
  | coll H' h1 h2 h3 => exact .keep (by omega) (fun _ _ => by omega)
  | al h1 h2 =>
    generalize numX o.a = size
    generalize numX o.b = refs
    unfold alO
    split
    · exact .keep (by omega) (fun h _ _ => by rw [rzA_c] at h; cases h)
    split
    · exact .keep (by omega) (fun h _ _ => by rw [rzA_c] at h; cases h)
    split
    · exact .keep (by omega) (fun h _ _ => by rw [rzA_c] at h; cases h)
    rename_i hf
    cases placeP (baseH H (1 + size.toNat)).taken (1 + size.toNat) with
    | none => exact .keep (by omega) (fun h _ _ => by rw [rzA_c] at h; cases h)
    | some s => exact .give (65536 + s) (X.al + 1) h1 (by simpa using hf) rfl (.inl h2) rfl (Nat.le_refl _)
  | rf h1 h2 =>
    generalize numX o.b = i
    unfold rdF
    split
    · cases hx : H.objs (fldX H X o.ac (opX X o.a) i true).1 with
      | none => exact .keep (by omega) (fun _ _ _ => rfl)
      | some x =>
        dsimp only
        split
        · exact .keep (by omega) (fun _ _ _ => rfl)
        split
        · exact .keep (by omega) (fun h _ _ => by rw [rzA_c] at h; cases h)
        rename_i hf
        exact .give _ X.al h1 (by simpa using hf) rfl (.inr (.inl h2)) rfl (by omega)
    · rename_i hc
      exact .keep (by omega) (fun h _ _ => by rw [rzA_c] at h; exact absurd h hc)
  | wf h1 h2 => exact .keep (by omega) (fun _ _ _ => by omega)
  | rd h1 h2 => exact .keep (by omega) (fun _ _ _ => by omega)
  | wd h1 h2 => exact .keep (by omega) (fun _ _ _ => by omega)
  | pu h1 h2 => exact .keep (by omega) (fun _ _ _ => by omega)
  | po h1 h2 =>
    unfold ppR
    cases (H.roots o.ac).getLast? with
    | none => exact .keep (by omega) (fun h _ _ => by rw [rzA_c] at h; cases h)
    | some x =>
      dsimp only
      split
      · exact .keep (by omega) (fun h _ _ => by rw [rzA_c] at h; cases h)
      rename_i hf
      exact .give x X.al h1 (by simpa using hf) rfl (.inr (.inr h2)) rfl (by omega)
  | sf h1 h2 => exact .safe h1 h2 rfl
  | st h1 h2 => exact .keep (by omega) (fun _ _ _ => by omega)
  | kb h1 h2 => exact .keep (by omega) (fun _ _ _ => by omega)
/-- A refused step changes nothing. -/
theorem DoS.refused (hs : DoS H X o H' X' z) (hc : z.c ≠ 0) : X' = X ∧ (z.c ≠ 8 → H' = H) := by
  cases hs with
  | bad h => exact ⟨rfl, fun _ => rfl⟩
  | coll H' h1 h2 h3 => exact absurd rfl hc
  | al h1 h2 =>
    revert hc
    generalize numX o.a = size
    generalize numX o.b = refs
    unfold alO
    split
    · exact fun _ => ⟨rfl, fun _ => rfl⟩
    split
    · exact fun _ => ⟨rfl, fun _ => rfl⟩
    split
    · exact fun _ => ⟨rfl, fun _ => rfl⟩
    cases placeP (baseH H (1 + size.toNat)).taken (1 + size.toNat) with
    | none => exact fun _ => ⟨rfl, fun h => absurd rfl h⟩
    | some s => exact fun h => absurd rfl h
  | rf h1 h2 =>
    revert hc
    generalize numX o.b = i
    unfold rdF
    split
    · cases hx : H.objs (fldX H X o.ac (opX X o.a) i true).1 with
      | none => exact fun _ => ⟨rfl, fun _ => rfl⟩
      | some x =>
        dsimp only
        split
        · exact fun _ => ⟨rfl, fun _ => rfl⟩
        split
        · exact fun _ => ⟨rfl, fun _ => rfl⟩
        · exact fun h => absurd rfl h
    · exact fun _ => ⟨rfl, fun _ => rfl⟩
  | wf h1 h2 =>
    revert hc
    generalize numX o.b = i
    unfold wrF
    split
    · split
      · exact fun h => absurd rfl h
      · split
        · exact fun h => absurd rfl h
        · exact fun _ => ⟨rfl, fun _ => rfl⟩
    · exact fun _ => ⟨rfl, fun _ => rfl⟩
  | rd h1 h2 => exact ⟨rfl, fun _ => rfl⟩
  | wd h1 h2 =>
    revert hc
    generalize numX o.b = i
    unfold wrD
    split
    · exact fun h => absurd rfl h
    · exact fun _ => ⟨rfl, fun _ => rfl⟩
  | pu h1 h2 =>
    revert hc
    unfold psR
    split
    · split
      · exact fun _ => ⟨rfl, fun _ => rfl⟩
      · exact fun h => absurd rfl h
    · exact fun _ => ⟨rfl, fun _ => rfl⟩
  | po h1 h2 =>
    revert hc
    unfold ppR
    cases (H.roots o.ac).getLast? with
    | none => exact fun _ => ⟨rfl, fun _ => rfl⟩
    | some x =>
      dsimp only
      split
      · exact fun _ => ⟨rfl, fun _ => rfl⟩
      · exact fun h => absurd rfl h
  | sf h1 h2 => exact absurd rfl hc
  | st h1 h2 => exact ⟨rfl, fun _ => rfl⟩
  | kb h1 h2 => exact ⟨rfl, fun _ => rfl⟩
theorem XN.done (h : XN X n) (hs : X.st + 1 ≤ n) (hr : X.rf + 1 ≤ n) (z : Rz) : XN (doX X z) n := by
  refine ⟨h.nx, h.ct, h.gen, h.len, hs, ?_, h.al, h.sf, h.ring⟩
  show (if z.c = 0 then X.rf else X.rf + 1) ≤ n
  split <;> omega
theorem DoS.xn (hn : XN X n) (hb : n ≤ 100000000000) (hs : DoS H X o H' X' z) : XN (doX X' z) (n + 1) := by
  have h1 := hn.st
  have h2 := hn.rf
  cases hs.tbs with
  | keep _ _ => exact (hn.mono (by omega)).done (by omega) (by omega) z
  | give x q h3 h4 h5 h6 h7 h8 =>
    refine XN.done ?_ (by show X.st + 1 ≤ n + 1; omega) (by show X.rf + 1 ≤ n + 1; omega) z
    have h9 := hn.alw (k := q) (by have := hn.al; omega)
    have hl := full_len (hn.len o.ac) (by rw [h4]; simp)
    refine (h9.note (v := hN (X.tb o.ac).gen o.ac (X.tb o.ac).ad.length) ?_).iss hl.1 x
    exact hN_lt (by have := hn.gen o.ac; omega) h3 (by omega)
  | safe h3 h4 h5 => exact (hn.safe o.ac).done (by show X.st + 1 ≤ n + 1; omega) (by show X.rf + 1 ≤ n + 1; omega) z
theorem tgt_nm (h : HI H X) (hm : m < 4) {v : Nat} (hc : (tgtX X m v).2 = 0) : Nm H X (tgtX X m v).1 := by
  have h1 := tgtX_ok hc
  exact .hand m _ hm h1 (fun e => h.nz m hm (by rw [← e]; exact h1))
theorem getD_mem {l : List Nat} {i : Nat} (h : l.getD i 0 ≠ 0) : l.getD i 0 ∈ l := by
  rw [List.getD_eq_getElem?_getD] at h ⊢
  cases hx : l[i]? with
  | none => rw [hx] at h; exact absurd rfl h
  | some x => exact List.mem_of_getElem? (by simpa using hx)
theorem set_mem {l : List Nat} {i v b : Nat} (h : b ∈ l.set i v) : b ∈ l ∨ b = v := List.mem_or_eq_of_mem_set h
theorem HI.setR (h : HI H X) {a i v : Nat} (ha : Nm H X a) (hv : v = 0 ∨ Nm H X v) : HI (Go.Proofs.Qxb6500889aDoor.setR H a i v) X := by
  unfold Go.Proofs.Qxb6500889aDoor.setR
  cases hx : H.objs a with
  | none => exact h
  | some x =>
    refine h.setOb hx ⟨by simp, rfl⟩ (fun b hb h0 hna => ?_)
    rcases set_mem hb with h1 | h1
    · exact .ref a b x hna hx h1 h0
    · rcases hv with h2 | h2
      · exact absurd (h1.trans h2) h0
      · rw [h1]; exact h2
theorem HI.setD (h : HI H X) {a i v : Nat} : HI (Go.Proofs.Qxb6500889aDoor.setD H a i v) X := by
  unfold Go.Proofs.Qxb6500889aDoor.setD
  cases hx : H.objs a with
  | none => exact h
  | some x => exact h.setOb hx ⟨rfl, by simp⟩ (fun b hb h0 hna => .ref a b x hna hx hb h0)
theorem fld_nm (h : HI H X) (hm : m < 4) {v : Nat} {i : Int} {r : Bool} (hc : (fldX H X m v i r).2 = 0) : Nm H X (fldX H X m v i r).1 := by
  obtain ⟨x, h1, h2, h3, h4⟩ := fldX_ok hc
  exact .hand m _ hm h4 (fun e => h.nz m hm (by rw [← e]; exact h4))
theorem DoS.inv (h : HI H X) (hs : DoS H X o H' X' z) : HI H' (doX X' z) := by
  suffices HI H' X' from this.same rfl
  cases hs with
  | bad _ => exact h
  | coll H' h1 h2 h3 => exact h.step h3
  | al h1 h2 =>
    generalize numX o.a = size
    generalize numX o.b = refs
    unfold alO
    split
    · exact h
    split
    · exact h
    split
    · exact h
    cases hp : placeP (baseH H (1 + size.toNat)).taken (1 + size.toNat) with
    | none => exact h.base _
    | some s => exact (HI.same (X' := { X with al := X.al + 1 }) (h.base _) rfl).mkOb h1 (by omega) hp
  | rf h1 h2 =>
    generalize numX o.b = i
    unfold rdF
    split
    · rename_i hc
      cases hx : H.objs (fldX H X o.ac (opX X o.a) i true).1 with
      | none => exact h
      | some x =>
        dsimp only
        split
        · exact h
        split
        · exact h
        rename_i h3 h4
        have h5 := fld_nm h h1 hc
        refine h.give h1 (.ref _ _ x h5 hx (getD_mem h3) h3) (h.rn _ h1 (fun e => ?_))
        obtain ⟨_, _, _, _, h6⟩ := fldX_ok hc
        rw [e] at h6
        cases h6
    · exact h
  | wf h1 h2 =>
    generalize numX o.b = i
    unfold wrF
    split
    · rename_i hc
      have h5 := fld_nm h h1 hc
      split
      · exact h.setR h5 (.inl rfl)
      · split
        · rename_i h6
          exact h.setR h5 (.inr (tgt_nm h h1 h6))
        · exact h
    · exact h
  | rd h1 h2 => exact h
  | wd h1 h2 =>
    generalize numX o.b = i
    unfold wrD
    split
    · exact h.setD
    · exact h
  | pu h1 h2 =>
    unfold psR
    split
    · rename_i hc
      split
      · exact h
      · rename_i hl
        refine h.root h1 (fun a ha => ?_) (by have := h.rl o.ac h1; simp; omega)
        rcases List.mem_append.1 ha with h3 | h3
        · exact .root _ a h1 h3 (fun e => h.rz _ h1 (by rw [← e]; exact h3))
        · rw [List.mem_singleton.1 h3]; exact tgt_nm h h1 hc
    · exact h
  | po h1 h2 =>
    unfold ppR
    cases hg : (H.roots o.ac).getLast? with
    | none => exact h
    | some x =>
      dsimp only
      split
      · exact h
      have hmem := List.mem_of_getLast? hg
      have hxn : Nm H X x := .root _ x h1 hmem (fun e => h.rz _ h1 (by rw [← e]; exact hmem))
      have h3 := (h.runs o.ac).give h1 (x := x) (Nm.into (H := H) (P := Nm { H with run := fup H.run o.ac true } X) (fun m a h1 h2 h3 => .root m a h1 h2 h3) (fun m a h1 h2 h3 => .hand m a h1 h2 h3) (fun b x h1 h2 a h3 h4 => .ref b a x h1 h2 h3 h4) x hxn) (fup_self _ _ _)
      refine h3.root h1 (ys := (H.roots o.ac).dropLast) (fun a ha => ?_) (by have := h.rl o.ac h1; simp; omega)
      have ha' := List.dropLast_subset _ ha
      exact .root _ a h1 ha' (fun e => h.rz _ h1 (by rw [← e]; exact ha'))
  | sf h1 h2 => exact h.safe h1
  | st h1 h2 => exact h
  | kb h1 h2 => exact h
end
end Go.Proofs.Qxb6500889aDoor
