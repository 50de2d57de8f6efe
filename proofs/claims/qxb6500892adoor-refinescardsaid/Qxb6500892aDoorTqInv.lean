/- The engine's lists and chains, plainly. -/
import Derived.Test.Qxb6500892aDoorTqHash
namespace Go.Proofs.Qxb6500892aDoor
open Go.RowKit
set_option linter.unusedSimpArgs false
set_option linter.unusedVariables false

def headI : List Nat → Int
  | [] => -1
  | i :: _ => (i : Int)
def lastI (L : List Nat) : Int := match L.getLast? with
  | none => -1
  | some i => (i : Int)
theorem lastI_nil : lastI [] = -1 := rfl
theorem lastI_snoc (L : List Nat) (i : Nat) : lastI (L ++ [i]) = (i : Int) := by unfold lastI; rw [List.getLast?_append]; rfl
theorem lastI_cons (i j : Nat) (L : List Nat) : lastI (i :: j :: L) = lastI (j :: L) := by unfold lastI; rw [List.getLast?_cons_cons]
theorem lastI_one (i : Nat) : lastI [i] = (i : Int) := rfl
theorem lastI_cons' {i : Nat} {L : List Nat} (h : L ≠ []) : lastI (i :: L) = lastI L := by
  cases L with
  | nil => exact absurd rfl h
  | cons j L => exact lastI_cons i j L
theorem lastI_app {A B : List Nat} (h : B ≠ []) : lastI (A ++ B) = lastI B := by
  unfold lastI
  rw [List.getLast?_append]
  cases hb : B.getLast? with
  | none => exact absurd (List.getLast?_eq_none_iff.1 hb) h
  | some j => rfl
theorem headI_app {A B : List Nat} (h : A ≠ []) : headI (A ++ B) = headI A := by
  cases A with
  | nil => exact absurd rfl h
  | cons j A => rfl
theorem lastI_cases (L : List Nat) : (L = [] ∧ lastI L = -1) ∨ ∃ (A : List Nat) (j : Nat), L = A ++ [j] ∧ lastI L = (j : Int) := by
  rcases List.eq_nil_or_concat L with rfl | ⟨A, j, rfl⟩
  · exact .inl ⟨rfl, rfl⟩
  · rw [List.concat_eq_append]
    exact .inr ⟨A, j, rfl, lastI_snoc A j⟩
structure DL (s : ES) (q : Nat) (L : List Nat) : Prop where
  hd : s.hd q = headI L
  tl : s.tl q = lastI L
  sz : s.sz q = (L.length : Int)
  nd : L.Nodup
  lt : ∀ i ∈ L, i < s.n
  wh : ∀ i ∈ L, s.whr i = q
  pr : ∀ (A : List Nat) (i : Nat) (B : List Nat), L = A ++ i :: B → s.prv i = lastI A
  nx : ∀ (A : List Nat) (i : Nat) (B : List Nat), L = A ++ i :: B → s.nxt i = headI B
/-- A list that nothing touches. -/
theorem DL.keep {s s' : ES} {q : Nat} {L : List Nat} (h : DL s q L) (h1 : s'.hd q = s.hd q) (h2 : s'.tl q = s.tl q) (h3 : s'.sz q = s.sz q) (hn : s'.n = s.n) (h4 : ∀ i ∈ L, s'.whr i = s.whr i ∧ s'.prv i = s.prv i ∧ s'.nxt i = s.nxt i) : DL s' q L :=
  ⟨h1.trans h.hd, h2.trans h.tl, h3.trans h.sz, h.nd, fun i hi => by rw [hn]; exact h.lt i hi, fun i hi => (h4 i hi).1.trans (h.wh i hi), fun A i B e => ((h4 i (by rw [e]; simp)).2.1).trans (h.pr A i B e), fun A i B e => ((h4 i (by rw [e]; simp)).2.2).trans (h.nx A i B e)⟩
/-- The queues. -/
structure QI (s : ES) (L : Nat → List Nat) : Prop where
  nb : s.n ≤ 131072
  dl : ∀ q, q < 5 → DL s q (L q)
  l0 : L 0 = []
  w5 : ∀ i, i < s.n → s.whr i < 5
  mem : ∀ i, i < s.n → s.whr i ≠ 0 → i ∈ L (s.whr i)
  z : ∀ i, i < s.n → s.whr i = 0 → s.prv i = -1 ∧ s.nxt i = -1
theorem nodup_len : ∀ {n : Nat} {L : List Nat}, L.Nodup → (∀ i ∈ L, i < n) → L.length ≤ n
  | 0, L, h, hl => by
    cases L with
    | nil => exact Nat.le_refl _
    | cons a L => have := hl a (by simp); omega
  | n + 1, L, h, hl => by
    by_cases hm : n ∈ L
    · have h1 := nodup_len (n := n) (h.erase n) (fun i hi => by
        have h2 := (List.Nodup.mem_erase_iff h).1 hi
        have h3 := hl i h2.2
        have h4 := h2.1
        omega)
      rw [List.length_erase_of_mem hm] at h1
      omega
    · have h1 := nodup_len (n := n) h (fun i hi => by
        have h3 := hl i hi
        have h4 : i ≠ n := fun e => hm (e ▸ hi)
        omega)
      omega
theorem QI.len {s : ES} {L : Nat → List Nat} (h : QI s L) {q : Nat} (hq : q < 5) : (L q).length ≤ s.n := nodup_len (h.dl q hq).nd (h.dl q hq).lt
theorem QI.szb {s : ES} {L : Nat → List Nat} (h : QI s L) {q : Nat} (hq : q < 5) : 0 ≤ s.sz q ∧ s.sz q ≤ 1000000 := by
  have h1 := (h.dl q hq).sz
  have h2 := h.len hq
  have h3 := h.nb
  omega
theorem headI_ix {n : Nat} {L : List Nat} (h : ∀ i ∈ L, i < n) : Ix n (headI L) := by
  cases L with
  | nil => exact .inl rfl
  | cons i L => exact .inr ⟨i, h i (by simp), rfl⟩
theorem lastI_ix {n : Nat} {L : List Nat} (h : ∀ i ∈ L, i < n) : Ix n (lastI L) := by
  rcases lastI_cases L with ⟨_, e⟩ | ⟨A, j, rfl, e⟩
  · exact .inl e
  · exact .inr ⟨j, h j (by simp), e⟩
theorem QI.hdIx {s : ES} {L : Nat → List Nat} (h : QI s L) {q : Nat} (hq : q < 5) : Ix s.n (s.hd q) := by rw [(h.dl q hq).hd]; exact headI_ix (h.dl q hq).lt
theorem QI.tlIx {s : ES} {L : Nat → List Nat} (h : QI s L) {q : Nat} (hq : q < 5) : Ix s.n (s.tl q) := by rw [(h.dl q hq).tl]; exact lastI_ix (h.dl q hq).lt
section
variable {s : ES} {L : Nat → List Nat}
theorem ph_whr (s : ES) (q i : Nat) : (pushHeadS s q i).whr = upd s.whr i q := by unfold pushHeadS ph2; split <;> rfl
theorem ph_n (s : ES) (q i : Nat) : (pushHeadS s q i).n = s.n := by unfold pushHeadS ph2; split <;> rfl
theorem ph_nxt (s : ES) (q i : Nat) : (pushHeadS s q i).nxt = upd s.nxt i (s.hd q) := by unfold pushHeadS ph2; split <;> rfl
theorem ph_hd (s : ES) (q i : Nat) : (pushHeadS s q i).hd = upd s.hd q (i : Int) := rfl
theorem ph_sz (s : ES) (q i : Nat) : (pushHeadS s q i).sz = upd s.sz q (s.sz q + 1) := rfl
theorem ph_tl (s : ES) (q i : Nat) : (pushHeadS s q i).tl = if s.hd q = -1 then upd s.tl q (i : Int) else s.tl := by unfold pushHeadS ph2; split <;> rfl
theorem ph_prv (s : ES) (q i : Nat) : (pushHeadS s q i).prv = if s.hd q = -1 then upd s.prv i (-1) else upd (upd s.prv i (-1)) (s.hd q).toNat (i : Int) := by unfold pushHeadS ph2; split <;> rfl
theorem QI.push (h : QI s L) {q i : Nat} (hq : q < 5) (hq0 : q ≠ 0) (hi : i < s.n) (hw : s.whr i = 0) : QI (pushHeadS s q i) (upd L q (i :: L q)) := by
  have hnot : ∀ q', q' < 5 → i ∉ L q' := fun q' hq' hm => by
    have h1 := (h.dl q' hq').wh i hm
    rw [hw] at h1
    subst h1
    rw [h.l0] at hm
    cases hm
  have hD := h.dl q hq
  have hhm : s.hd q ≠ -1 → ∃ hN : Nat, s.hd q = (hN : Int) ∧ hN ∈ L q ∧ ∃ B, L q = hN :: B := fun hne => by
    rw [hD.hd] at hne ⊢
    cases hL : L q with
    | nil => rw [hL] at hne; exact absurd rfl hne
    | cons a B => exact ⟨a, rfl, by simp, B, rfl⟩
  have hprv : ∀ j, j ≠ i → (∀ hN : Nat, s.hd q = (hN : Int) → j ≠ hN) → (pushHeadS s q i).prv j = s.prv j := fun j h1 h2 => by
    rw [ph_prv]
    split
    · exact upd_ne _ _ h1
    · rename_i hne
      obtain ⟨hN, e, _⟩ := hhm hne
      rw [upd_ne _ _ (by rw [e, Int.toNat_natCast]; exact h2 hN e), upd_ne _ _ h1]
  refine ⟨by rw [ph_n]; exact h.nb, fun q' hq' => ?_, by rw [upd_ne _ _ (Ne.symm hq0)]; exact h.l0, fun j hj => ?_, fun j hj hne => ?_, fun j hj hz => ?_⟩
  · by_cases e : q' = q
    · subst e
      rw [upd_same]
      refine ⟨by rw [ph_hd, upd_same]; rfl, ?_, by rw [ph_sz, upd_same, hD.sz]; simp, List.nodup_cons.2 ⟨hnot q' hq, hD.nd⟩, fun j hj => ?_, fun j hj => ?_, fun A j B e1 => ?_, fun A j B e1 => ?_⟩
      · rw [ph_tl]
        split
        · rename_i hm
          rw [upd_same]
          rw [hD.hd] at hm
          cases hL : L q' with
          | nil => rfl
          | cons a B => rw [hL] at hm; simp [headI] at hm
        · rename_i hm
          rw [hD.tl, lastI_cons']
          intro e2
          rw [hD.hd, e2] at hm
          exact hm rfl
      · rw [ph_n]
        rcases List.mem_cons.1 hj with rfl | hj
        · exact hi
        · exact hD.lt j hj
      · rw [ph_whr]
        rcases List.mem_cons.1 hj with rfl | hj
        · exact upd_same _ _ _
        · have hji : j ≠ i := fun e3 => hnot q' hq (e3 ▸ hj)
          rw [upd_ne _ _ hji]
          exact hD.wh j hj
      · cases A with
        | nil =>
          simp at e1
          obtain ⟨rfl, rfl⟩ := e1
          rw [ph_prv]
          split
          · rw [upd_same]; rfl
          · rename_i hne
            obtain ⟨hN, e, hm, _⟩ := hhm hne
            rw [upd_ne _ _ (by rw [e, Int.toNat_natCast]; intro e4; subst e4; exact hnot q' hq hm), upd_same]
            rfl
        | cons a A =>
          simp at e1
          obtain ⟨rfl, e1⟩ := e1
          have hji : j ≠ i := fun e4 => by subst e4; exact hnot q' hq (by rw [e1]; simp)
          cases A with
          | nil =>
            have hhd : s.hd q' = (j : Int) := by rw [hD.hd, e1]; rfl
            rw [ph_prv, if_neg (by rw [hhd]; omega), hhd, Int.toNat_natCast, upd_same]
            rfl
          | cons a' A =>
            rw [hprv j hji (fun hN e5 e6 => by
              subst e6
              rw [hD.hd, e1] at e5
              have e5 : (a' : Int) = (j : Int) := e5
              have hnd := hD.nd
              rw [e1, List.nodup_append] at hnd
              exact hnd.2.2 a' (by simp) j (by simp) (by omega)), hD.pr _ _ _ e1, lastI_cons]
      · rw [ph_nxt]
        cases A with
        | nil =>
          simp at e1
          obtain ⟨rfl, rfl⟩ := e1
          rw [upd_same]
          exact hD.hd
        | cons a A =>
          simp at e1
          obtain ⟨rfl, e1⟩ := e1
          have hji : j ≠ i := fun e4 => by subst e4; exact hnot q' hq (by rw [e1]; simp)
          rw [upd_ne _ _ hji]
          exact hD.nx _ _ _ e1
    · rw [upd_ne _ _ e]
      have hD' := h.dl q' hq'
      refine hD'.keep (by rw [ph_hd, upd_ne _ _ e]) (by rw [ph_tl]; split; exact upd_ne _ _ e; rfl) (by rw [ph_sz, upd_ne _ _ e]) (ph_n s q i) (fun j hj => ?_)
      have hji : j ≠ i := fun e4 => by subst e4; exact hnot q' hq' hj
      refine ⟨by rw [ph_whr, upd_ne _ _ hji], hprv j hji (fun hN e5 e6 => ?_), by rw [ph_nxt, upd_ne _ _ hji]⟩
      subst e6
      obtain ⟨hM, e7, hm, _⟩ := hhm (by rw [e5]; omega)
      have : hM = j := by omega
      subst this
      exact e ((hD'.wh _ hj).symm.trans (hD.wh _ hm))
  · rw [ph_whr]
    unfold upd
    split
    · exact hq
    · exact h.w5 j (by rw [ph_n] at hj; exact hj)
  · rw [ph_whr] at hne ⊢
    rw [ph_n] at hj
    by_cases e : j = i
    · subst e
      rw [upd_same, upd_same]
      simp
    · rw [upd_ne _ _ e] at hne ⊢
      have hm := h.mem j hj hne
      by_cases e2 : s.whr j = q
      · rw [e2, upd_same]
        rw [e2] at hm
        simp [hm]
      · rw [upd_ne _ _ e2]
        exact hm
  · rw [ph_n] at hj
    rw [ph_whr] at hz
    have hji : j ≠ i := fun e4 => by
      subst e4
      rw [upd_same] at hz
      exact hq0 hz
    rw [upd_ne _ _ hji] at hz
    obtain ⟨z1, z2⟩ := h.z j hj hz
    refine ⟨?_, by rw [ph_nxt, upd_ne _ _ hji]; exact z2⟩
    rw [hprv j hji (fun hN e5 e6 => ?_)]
    · exact z1
    · subst e6
      obtain ⟨hM, e7, hm, _⟩ := hhm (by rw [e5]; omega)
      have : hM = j := by omega
      subst this
      exact hq0 ((hD.wh _ hm).symm.trans hz)
end
end Go.Proofs.Qxb6500892aDoor
