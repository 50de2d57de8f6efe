/- unlink's law; the chains. -/
import Derived.Test.Qxb6500892aDoorTqInv
namespace Go.Proofs.Qxb6500892aDoor
open Go.RowKit
set_option linter.unusedSimpArgs false
set_option linter.unusedVariables false

theorem split2 {A B A1 B1 : List Nat} {j : Nat} (h : A ++ B = A1 ++ j :: B1) : (∃ A2, A = A1 ++ j :: A2 ∧ B1 = A2 ++ B) ∨ ∃ A3, A1 = A ++ A3 ∧ B = A3 ++ j :: B1 := by
  rcases List.append_eq_append_iff.1 h with ⟨a, h1, h2⟩ | ⟨c, h1, h2⟩
  · exact .inr ⟨a, h1, h2⟩
  · cases c with
    | nil => exact .inr ⟨[], by simpa using h1.symm, by simpa using h2.symm⟩
    | cons x c =>
      simp at h2
      obtain ⟨rfl, h2⟩ := h2
      exact .inl ⟨c, h1, h2⟩
section
variable {s : ES} {L : Nat → List Nat}
/-- What unlink makes of a list. -/
structure UlS (s : ES) (q i : Nat) (A B : List Nat) (s' : ES) : Prop where
  n : s'.n = s.n
  whr : s'.whr = upd s.whr i 0
  hd : s'.hd = if A = [] then upd s.hd q (headI B) else s.hd
  tl : s'.tl = if B = [] then upd s.tl q (lastI A) else s.tl
  sz : s'.sz = upd s.sz q (s.sz q - 1)
  nxt : s'.nxt = upd (if A = [] then s.nxt else upd s.nxt (lastI A).toNat (headI B)) i (-1)
  prv : s'.prv = upd (if B = [] then s.prv else upd s.prv (headI B).toNat (lastI A)) i (-1)
theorem lastI_neg {A : List Nat} : lastI A = -1 ↔ A = [] := by
  rcases lastI_cases A with ⟨h, e⟩ | ⟨D, j, h, e⟩
  · exact ⟨fun _ => h, fun _ => e⟩
  · rw [e]
    exact ⟨fun h2 => by omega, fun h2 => by rw [h2] at h; simp at h⟩
theorem headI_neg {A : List Nat} : headI A = -1 ↔ A = [] := by
  cases A with
  | nil => exact ⟨fun _ => rfl, fun _ => rfl⟩
  | cons a A => exact ⟨fun h => by simp [headI] at h, fun h => by cases h⟩
theorem DL.ul1nxt {q i : Nat} {A B : List Nat} (h : DL s q (A ++ i :: B)) (hw : s.whr i = q) : (ul1 s i).nxt i = headI B := by
  have h1 := h.nx A i B rfl
  have h2 := h.pr A i B rfl
  unfold ul1
  rw [h2]
  split
  · exact h1
  · rename_i hne
    rcases lastI_cases A with ⟨_, e⟩ | ⟨D, j, rfl, e⟩
    · exact absurd e hne
    · show upd s.nxt _ _ i = _
      rw [e, Int.toNat_natCast, upd_ne _ _ (fun e2 => by
        have := h.nd
        rw [List.nodup_append] at this
        exact this.2.2 j (by simp) i (by simp) e2.symm)]
      exact h1
theorem DL.ul {q i : Nat} {A B : List Nat} (h : DL s q (A ++ i :: B)) (hw : s.whr i = q) : UlS s q i A B (unlinkS s i) := by
  have h0 := h.ul1nxt hw
  have h1 := h.nx A i B rfl
  have h2 := h.pr A i B rfl
  obtain ⟨k1, k2, k3, k4⟩ := ul1_keep s i
  have n1 : (ul1 s i).nxt = if A = [] then s.nxt else upd s.nxt (lastI A).toNat (headI B) := by
    unfold ul1
    rw [h2, h1]
    by_cases e : A = []
    · rw [if_pos (lastI_neg.2 e), if_pos e]
    · rw [if_neg (fun e2 => e (lastI_neg.1 e2)), if_neg e]
  have d1 : (ul1 s i).hd = if A = [] then upd s.hd q (headI B) else s.hd := by
    unfold ul1
    rw [h2, h1, hw]
    by_cases e : A = []
    · rw [if_pos (lastI_neg.2 e), if_pos e]
    · rw [if_neg (fun e2 => e (lastI_neg.1 e2)), if_neg e]
  have t1 : (ul1 s i).tl = s.tl := by unfold ul1; split <;> rfl
  have p2 : (ul1 s i).prv i = lastI A := by rw [k4, h2]
  unfold unlinkS
  rw [hw]
  have e2n : (ul2 (ul1 s i) q i).n = s.n ∧ (ul2 (ul1 s i) q i).sz = s.sz ∧ (ul2 (ul1 s i) q i).whr = s.whr := by
    obtain ⟨a, b, c⟩ := ul2_keep (ul1 s i) q i
    exact ⟨a.trans k1, b.trans k2, c.trans k3⟩
  have e2d : (ul2 (ul1 s i) q i).hd = (ul1 s i).hd ∧ (ul2 (ul1 s i) q i).nxt = (ul1 s i).nxt := by unfold ul2; split <;> exact ⟨rfl, rfl⟩
  have e2t : (ul2 (ul1 s i) q i).tl = if B = [] then upd s.tl q (lastI A) else s.tl := by
    unfold ul2
    rw [h0, p2]
    by_cases e : B = []
    · rw [if_pos (headI_neg.2 e), if_pos e, ← t1]
    · rw [if_neg (fun e2 => e (headI_neg.1 e2)), if_neg e]
      exact t1
  have e2p : (ul2 (ul1 s i) q i).prv = if B = [] then s.prv else upd s.prv (headI B).toNat (lastI A) := by
    unfold ul2
    rw [h0, p2]
    by_cases e : B = []
    · rw [if_pos (headI_neg.2 e), if_pos e]
      exact k4
    · rw [if_neg (fun e2 => e (headI_neg.1 e2)), if_neg e, k4]
  refine ⟨e2n.1, ?_, ?_, ?_, ?_, ?_, ?_⟩
  · show upd (ul2 (ul1 s i) q i).whr i 0 = _
    rw [e2n.2.2]
  · show (ul2 (ul1 s i) q i).hd = _
    rw [e2d.1, d1]
  · exact e2t
  · show upd (ul2 (ul1 s i) q i).sz q ((ul2 (ul1 s i) q i).sz q - 1) = _
    rw [e2n.2.1]
  · show upd (ul2 (ul1 s i) q i).nxt i (-1) = _
    rw [e2d.2, n1]
  · show upd (ul2 (ul1 s i) q i).prv i (-1) = _
    rw [e2p]
theorem QI.unlink (h : QI s L) {q i : Nat} {A B : List Nat} (hq : q < 5) (hi : i < s.n) (hw : s.whr i = q) (hL : L q = A ++ i :: B) : QI (unlinkS s i) (upd L q (A ++ B)) := by
  have hD := h.dl q hq
  rw [hL] at hD
  have hu := hD.ul hw
  have hnd := hD.nd
  rw [List.nodup_append] at hnd
  obtain ⟨ndA, ndB, dis⟩ := hnd
  rw [List.nodup_cons] at ndB
  have hiA : i ∉ A := fun hm => dis i hm i (by simp) rfl
  have hAB : ∀ j, j ∈ A → j ∉ B := fun j hj hj2 => dis j hj j (by simp [hj2]) rfl
  have hlastA : ∀ j : Nat, lastI A = (j : Int) → A ≠ [] → j ∈ A := fun j e hne => by
    rcases lastI_cases A with ⟨e2, _⟩ | ⟨D, k, e2, e3⟩
    · exact absurd e2 hne
    · rw [e3] at e
      have : k = j := by omega
      rw [e2, this]
      simp
  have hprv : ∀ j : Nat, j ≠ i → (∀ k : Nat, headI B = (k : Int) → j ≠ k) → (unlinkS s i).prv j = s.prv j := fun j h1 h2 => by
    rw [hu.prv, upd_ne _ _ h1]
    split
    · rfl
    · rename_i hne
      cases hB : B with
      | nil => exact absurd hB hne
      | cons k B' =>
        show upd s.prv (k : Int).toNat _ j = _
        rw [Int.toNat_natCast, upd_ne _ _ (h2 k (by rw [hB]; rfl))]
  have hnxt : ∀ j : Nat, j ≠ i → (∀ k : Nat, lastI A = (k : Int) → j ≠ k) → (unlinkS s i).nxt j = s.nxt j := fun j h1 h2 => by
    rw [hu.nxt, upd_ne _ _ h1]
    split
    · rfl
    · rename_i hne
      rcases lastI_cases A with ⟨e2, _⟩ | ⟨D, k, e2, e3⟩
      · exact absurd e2 hne
      · rw [e3, Int.toNat_natCast, upd_ne _ _ (h2 k e3)]
  refine ⟨by rw [hu.n]; exact h.nb, fun q' hq' => ?_, ?_, fun j hj => ?_, fun j hj hne => ?_, fun j hj hz => ?_⟩
  · by_cases e : q' = q
    · subst e
      rw [upd_same]
      refine ⟨?_, ?_, ?_, ?_, fun j hj => ?_, fun j hj => ?_, fun A1 j B1 e1 => ?_, fun A1 j B1 e1 => ?_⟩
      · rw [hu.hd]
        by_cases e : A = []
        · rw [if_pos e, upd_same, e]; rfl
        · rw [if_neg e, hD.hd, headI_app e, headI_app e]
      · rw [hu.tl]
        by_cases e : B = []
        · rw [if_pos e, upd_same, e, List.append_nil]
        · rw [if_neg e, hD.tl, lastI_app (by simp), lastI_cons' e, lastI_app e]
      · rw [hu.sz, upd_same, hD.sz]
        simp only [List.length_append, List.length_cons]
        omega
      · rw [List.nodup_append]
        exact ⟨ndA, ndB.2, fun a ha b hb => dis a ha b (by simp [hb])⟩
      · rw [hu.n]
        exact hD.lt j (by rcases List.mem_append.1 hj with h1 | h1 <;> simp [h1])
      · have hji : j ≠ i := fun e2 => by
          subst e2
          rcases List.mem_append.1 hj with h1 | h1
          · exact hiA h1
          · exact ndB.1 h1
        rw [hu.whr, upd_ne _ _ hji]
        exact hD.wh j (by rcases List.mem_append.1 hj with h1 | h1 <;> simp [h1])
      · rcases split2 e1 with ⟨A2, e2, e3⟩ | ⟨A3, e2, e3⟩
        · have hjA : j ∈ A := by rw [e2]; simp
          rw [hprv j (fun e4 => hiA (e4 ▸ hjA)) (fun k e4 e5 => by
            subst e5
            cases hB : B with
            | nil => rw [hB] at e4; simp [headI] at e4
            | cons k' B' =>
              rw [hB] at e4
              have : k' = j := by have e4 : (k' : Int) = (j : Int) := e4; omega
              exact hAB j hjA (by rw [hB, this]; simp))]
          exact hD.pr A1 j (A2 ++ i :: B) (by rw [e2]; simp)
        · have hjB : j ∈ B := by rw [e3]; simp
          have hji : j ≠ i := fun e4 => ndB.1 (e4 ▸ hjB)
          cases A3 with
          | nil =>
            rw [hu.prv, upd_ne _ _ hji, if_neg (by rw [e3]; simp)]
            have : headI B = (j : Int) := by rw [e3]; rfl
            rw [this, Int.toNat_natCast, upd_same, e2, List.append_nil]
          | cons k A3 =>
            rw [hprv j hji (fun k' e4 e5 => by
              subst e5
              have e6 : (k : Int) = (j : Int) := by rw [e3] at e4; exact e4
              have hnd2 := ndB.2
              rw [e3, List.nodup_append] at hnd2
              exact hnd2.2.2 k (by simp) j (by simp) (by omega)), hD.pr (A ++ i :: k :: A3) j B1 (by rw [e3]; simp), e2, lastI_app (by simp), lastI_app (by simp), lastI_cons]
      · rcases split2 e1 with ⟨A2, e2, e3⟩ | ⟨A3, e2, e3⟩
        · have hjA : j ∈ A := by rw [e2]; simp
          have hji : j ≠ i := fun e4 => hiA (e4 ▸ hjA)
          cases A2 with
          | nil =>
            have hl : lastI A = (j : Int) := by rw [e2]; exact lastI_snoc A1 j
            rw [hu.nxt, upd_ne _ _ hji, if_neg (by rw [e2]; simp), hl, Int.toNat_natCast, upd_same, e3]
            rfl
          | cons k A2 =>
            rw [hnxt j hji (fun k' e4 e5 => by
              subst e5
              rw [e2, lastI_app (by simp), lastI_cons] at e4
              have hnd2 := ndA
              rw [e2, List.nodup_append, List.nodup_cons] at hnd2
              rcases lastI_cases (k :: A2) with ⟨e6, _⟩ | ⟨D, k2, e6, e7⟩
              · cases e6
              · rw [e7] at e4
                have : k2 = j := by omega
                exact hnd2.2.1.1 (by rw [e6, this]; simp)), hD.nx A1 j (k :: A2 ++ i :: B) (by rw [e2]; simp), e3]
            rfl
        · have hjB : j ∈ B := by rw [e3]; simp
          have hji : j ≠ i := fun e4 => ndB.1 (e4 ▸ hjB)
          rw [hnxt j hji (fun k' e4 e5 => by
            subst e5
            by_cases eA : A = []
            · rw [eA, lastI_nil] at e4; omega
            · exact hAB j (hlastA j e4 eA) hjB)]
          exact hD.nx (A ++ i :: A3) j B1 (by rw [e3]; simp)
    · rw [upd_ne _ _ e]
      have hD' := h.dl q' hq'
      refine hD'.keep ?_ ?_ (by rw [hu.sz, upd_ne _ _ e]) hu.n (fun j hj => ?_)
      · rw [hu.hd]; split; exact upd_ne _ _ e; rfl
      · rw [hu.tl]; split; exact upd_ne _ _ e; rfl
      · have hnq : ∀ k, k ∈ A ++ i :: B → j ≠ k := fun k hk e2 => by
          subst e2
          exact e ((hD'.wh _ hj).symm.trans (hD.wh _ hk))
        have hji : j ≠ i := hnq i (by simp)
        refine ⟨by rw [hu.whr, upd_ne _ _ hji], hprv j hji (fun k e2 => ?_), hnxt j hji (fun k e2 => ?_)⟩
        · cases hB : B with
          | nil => rw [hB] at e2; simp [headI] at e2
          | cons k' B' =>
            rw [hB] at e2
            have : k' = k := by have e2 : (k' : Int) = (k : Int) := e2; omega
            exact hnq k (by rw [hB, this]; simp)
        · by_cases eA : A = []
          · rw [eA, lastI_nil] at e2; omega
          · exact hnq k (by simp [hlastA k e2 eA])
  · by_cases e : q = 0
    · subst e
      rw [h.l0] at hL
      simp at hL
    · rw [upd_ne _ _ (Ne.symm e)]
      exact h.l0
  · rw [hu.whr]
    unfold upd
    split
    · omega
    · exact h.w5 j (by rw [hu.n] at hj; exact hj)
  · rw [hu.n] at hj
    rw [hu.whr] at hne ⊢
    by_cases e : j = i
    · subst e
      rw [upd_same] at hne
      exact absurd rfl hne
    · rw [upd_ne _ _ e] at hne ⊢
      have hm := h.mem j hj hne
      by_cases e2 : s.whr j = q
      · rw [e2, upd_same]
        rw [e2, hL] at hm
        rcases List.mem_append.1 hm with h1 | h1
        · simp [h1]
        · rcases List.mem_cons.1 h1 with h2 | h2
          · exact absurd h2 e
          · simp [h2]
      · rw [upd_ne _ _ e2]
        exact hm
  · rw [hu.n] at hj
    rw [hu.whr] at hz
    have hq0 : q ≠ 0 := fun e => by
      subst e
      rw [h.l0] at hL
      simp at hL
    by_cases e : j = i
    · subst e
      exact ⟨by rw [hu.prv, upd_same], by rw [hu.nxt, upd_same]⟩
    · rw [upd_ne _ _ e] at hz
      obtain ⟨z1, z2⟩ := h.z j hj hz
      have hnq : ∀ k, k ∈ A ++ i :: B → j ≠ k := fun k hk e2 => by
        subst e2
        have := hD.wh _ hk
        omega
      refine ⟨?_, ?_⟩
      · rw [hprv j e (fun k e2 => ?_)]
        · exact z1
        · cases hB : B with
          | nil => rw [hB] at e2; simp [headI] at e2
          | cons k' B' =>
            rw [hB] at e2
            have : k' = k := by have e2 : (k' : Int) = (k : Int) := e2; omega
            exact hnq k (by rw [hB, this]; simp)
      · rw [hnxt j e (fun k e2 => ?_)]
        · exact z2
        · by_cases eA : A = []
          · rw [eA, lastI_nil] at e2; omega
          · exact hnq k (by simp [hlastA k e2 eA])
end
/-- The chains: P says which nodes are hashed. -/
structure CI (s : ES) (C : Nat → List Nat) (P : Nat → Prop) : Prop where
  bw : BW s
  ch : ∀ b, b < s.m → Chn s (s.bk b) (C b)
  nd : ∀ b, b < s.m → (C b).Nodup
  hs : ∀ b i, b < s.m → i ∈ C b → hsh s (s.key i) = b ∧ P i
  mem : ∀ i, i < s.n → P i → i ∈ C (hsh s (s.key i))
theorem Chn.keep {s s' : ES} (hn : s'.n = s.n) : ∀ {L : List Nat} {x : Int}, Chn s x L → (∀ i ∈ L, s'.chn i = s.chn i) → Chn s' x L
  | [], x, h, _ => h
  | i :: L, x, h, hk => ⟨h.1, by rw [hn]; exact h.2.1, by rw [hk i (by simp)]; exact h.2.2.keep hn (fun j hj => hk j (by simp [hj]))⟩
theorem CI.of {s s' : ES} {C : Nat → List Nat} {P : Nat → Prop} (h : CI s C P) (h1 : s'.n = s.n) (h2 : s'.m = s.m) (h3 : s'.shift = s.shift) (h4 : s'.bk = s.bk) (h5 : s'.chn = s.chn) (h6 : ∀ i, P i → s'.key i = s.key i) : CI s' C P := by
  have hh : ∀ k, hsh s' k = hsh s k := fun k => by unfold hsh; rw [h3]
  refine ⟨⟨by rw [h2, h3]; exact h.bw.pw, by rw [h3]; exact h.bw.sh, by rw [h2]; exact h.bw.mb⟩, fun b hb => ?_, fun b hb => h.nd b (by rw [← h2]; exact hb), fun b i hb hi => ?_, fun i hi hp => ?_⟩
  · rw [h4]
    exact (h.ch b (by rw [← h2]; exact hb)).keep h1 (fun i _ => by rw [h5])
  · have := h.hs b i (by rw [← h2]; exact hb) hi
    rw [hh, h6 i this.2]
    exact this
  · rw [hh, h6 i hp]
    exact h.mem i (by rw [← h1]; exact hi) hp
theorem CI.ins {s : ES} {C : Nat → List Nat} {P : Nat → Prop} (h : CI s C P) {i : Nat} (hi : i < s.n) (hp : ¬ P i) : CI (hashInS s i) (upd C (hsh s (s.key i)) (i :: C (hsh s (s.key i)))) (fun j => P j ∨ j = i) := by
  have hb := h.bw.lt (s.key i)
  have hni : ∀ b, b < s.m → i ∉ C b := fun b hb hm => hp (h.hs b i hb hm).2
  obtain ⟨b0, hb0⟩ : ∃ b0, hsh s (s.key i) = b0 := ⟨_, rfl⟩
  rw [hb0] at hb ⊢
  have hk : ∀ k, hsh (hashInS s i) k = hsh s k := fun k => rfl
  refine ⟨⟨h.bw.pw, h.bw.sh, h.bw.mb⟩, fun b hb => ?_, fun b hb => ?_, fun b j hb hj => ?_, fun j hj hpj => ?_⟩
  · show Chn (hashInS s i) (upd s.bk (hsh s (s.key i)) (i : Int) b) _
    rw [hb0]
    by_cases e : b = b0
    · subst e
      rw [upd_same, upd_same]
      refine ⟨rfl, hi, ?_⟩
      show Chn _ (upd s.chn i (s.bk (hsh s (s.key i))) i) _
      rw [upd_same, hb0]
      exact Chn.keep (s := s) (s' := hashInS s i) rfl (h.ch b hb) (fun j hj => upd_ne _ _ (fun e2 => hni b hb (by rw [← e2]; exact hj)))
    · rw [upd_ne _ _ e, upd_ne _ _ e]
      exact Chn.keep (s := s) (s' := hashInS s i) rfl (h.ch b hb) (fun j hj => upd_ne _ _ (fun e2 => hni b hb (by rw [← e2]; exact hj)))
  · by_cases e : b = b0
    · subst e
      rw [upd_same]
      exact List.nodup_cons.2 ⟨hni b hb, h.nd b hb⟩
    · rw [upd_ne _ _ e]
      exact h.nd b hb
  · rw [hk]
    by_cases e : b = b0
    · subst e
      rw [upd_same] at hj
      rcases List.mem_cons.1 hj with rfl | hj
      · exact ⟨hb0, .inr rfl⟩
      · exact ⟨(h.hs b j hb hj).1, .inl (h.hs b j hb hj).2⟩
    · rw [upd_ne _ _ e] at hj
      exact ⟨(h.hs b j hb hj).1, .inl (h.hs b j hb hj).2⟩
  · rw [hk]
    show j ∈ upd C b0 _ (hsh s (s.key j))
    rcases hpj with hpj | rfl
    · have hm := h.mem j hj hpj
      by_cases e : hsh s (s.key j) = b0
      · rw [e, upd_same]
        rw [e] at hm
        simp [hm]
      · rw [upd_ne _ _ e]
        exact hm
    · rw [hb0, upd_same]
      simp
theorem Chn.splice {s s' : ES} {j i : Nat} (hn : s'.n = s.n) (hj : s'.chn j = s.chn i) : ∀ {D C2 : List Nat} {x : Int}, Chn s x (D ++ j :: i :: C2) → (∀ k ∈ D ++ C2, s'.chn k = s.chn k) → Chn s' x (D ++ j :: C2)
  | [], C2, x, h, hk => by
    obtain ⟨h1, h2, h3, h4, h5⟩ := h
    exact ⟨h1, by rw [hn]; exact h2, by rw [hj]; exact h5.keep hn (fun k hk2 => hk k (by simpa using hk2))⟩
  | d :: D, C2, x, h, hk => ⟨h.1, by rw [hn]; exact h.2.1, by rw [hk d (by simp)]; exact Chn.splice hn hj h.2.2 (fun k hk2 => hk k (by simp at hk2 ⊢; exact .inr hk2))⟩
theorem CI.del {s : ES} {C : Nat → List Nat} {P : Nat → Prop} (h : CI s C P) {i : Nat} {C1 C2 : List Nat} (hC : C (hsh s (s.key i)) = C1 ++ i :: C2) : CI (hashOutS s i C1) (upd C (hsh s (s.key i)) (C1 ++ C2)) (fun j => P j ∧ j ≠ i) := by
  have hb := h.bw.lt (s.key i)
  obtain ⟨b0, hb0⟩ : ∃ b0, hsh s (s.key i) = b0 := ⟨_, rfl⟩
  rw [hb0] at hb hC ⊢
  have hch := h.ch b0 hb
  have hnd := h.nd b0 hb
  rw [hC] at hch hnd
  have hnd0 := hnd
  rw [List.nodup_append, List.nodup_cons] at hnd
  obtain ⟨nd1, ⟨ni2, nd2⟩, dis⟩ := hnd
  have hni1 : i ∉ C1 := fun hm => dis i hm i (by simp) rfl
  have hsm : (hashOutS s i C1).m = s.m ∧ (hashOutS s i C1).n = s.n ∧ (hashOutS s i C1).shift = s.shift ∧ (hashOutS s i C1).key = s.key := by
    unfold hashOutS hoS
    cases C1.getLast? <;> exact ⟨rfl, rfl, rfl, rfl⟩
  have hk : ∀ k, hsh (hashOutS s i C1) k = hsh s k := fun k => by unfold hsh; rw [hsm.2.2.1]
  have hchn : ∀ k, k ≠ i → (∀ j, C1.getLast? = some j → k ≠ j) → (hashOutS s i C1).chn k = s.chn k := fun k h1 h2 => by
    show upd (hoS s i C1).chn i (-1) k = _
    rw [upd_ne _ _ h1]
    unfold hoS
    cases hl : C1.getLast? with
    | none => rfl
    | some j => exact upd_ne _ _ (h2 j hl)
  have hbk : ∀ b, b ≠ b0 → (hashOutS s i C1).bk b = s.bk b := fun b hne => by
    show (hoS s i C1).bk b = _
    unfold hoS
    cases hl : C1.getLast? with
    | none => exact upd_ne _ _ (by rw [hb0]; exact hne)
    | some j => rfl
  have hoth : ∀ b, b < s.m → b ≠ b0 → ∀ k ∈ C b, k ≠ i ∧ ∀ j, C1.getLast? = some j → k ≠ j := fun b hb hne k hk2 => by
    have h1 := (h.hs b k hb hk2).1
    refine ⟨fun e => ?_, fun j hj e => ?_⟩
    · subst e
      exact hne (h1.symm.trans hb0)
    · subst e
      have := (h.hs b0 k (by assumption) (by rw [hC]; simp [List.mem_of_getLast? hj])).1
      exact hne (h1.symm.trans this)
  refine ⟨⟨by rw [hsm.1, hsm.2.2.1]; exact h.bw.pw, by rw [hsm.2.2.1]; exact h.bw.sh, by rw [hsm.1]; exact h.bw.mb⟩, fun b hb' => ?_, fun b hb' => ?_, fun b j hb' hj => ?_, fun j hj hpj => ?_⟩
  · rw [hsm.1] at hb'
    by_cases e : b = b0
    · subst e
      rw [upd_same]
      rcases List.eq_nil_or_concat C1 with e1 | ⟨D, j, e1⟩
      · subst e1
        have hbv : (hashOutS s i []).bk b = s.chn i := by
          show upd s.bk (hsh s (s.key i)) (s.chn i) b = _
          rw [hb0, upd_same]
        rw [hbv]
        exact hch.2.2.keep hsm.2.1 (fun k hk2 => hchn k (fun e2 => ni2 (e2 ▸ hk2)) (fun j hj => by cases hj))
      · rw [List.concat_eq_append] at e1
        subst e1
        have hl : (D ++ [j]).getLast? = some j := by rw [List.getLast?_append]; rfl
        have hji : j ≠ i := fun e2 => hni1 (by rw [← e2]; simp)
        have hbv : (hashOutS s i (D ++ [j])).bk b = s.bk b := by
          show (hoS s i (D ++ [j])).bk b = _
          unfold hoS
          rw [hl]
        rw [hbv]
        have hcj : (hashOutS s i (D ++ [j])).chn j = s.chn i := by
          show upd (hoS s i (D ++ [j])).chn i (-1) j = _
          rw [upd_ne _ _ hji]
          unfold hoS
          rw [hl]
          exact upd_same _ _ _
        have hch2 : Chn s (s.bk b) (D ++ j :: i :: C2) := by simpa using hch
        have := Chn.splice (s' := hashOutS s i (D ++ [j])) hsm.2.1 hcj hch2 (fun k hk2 => hchn k (fun e2 => by
          subst e2
          rcases List.mem_append.1 hk2 with h3 | h3
          · exact hni1 (by simp [h3])
          · exact ni2 h3) (fun j' hj' e2 => by
          rw [hl] at hj'
          cases hj'
          subst e2
          rcases List.mem_append.1 hk2 with h3 | h3
          · rw [List.nodup_append] at nd1
            exact nd1.2.2 k h3 k (by simp) rfl
          · exact dis k (by simp) k (by simp [h3]) rfl))
        simpa using this
    · rw [upd_ne _ _ e, hbk b e]
      exact (h.ch b hb').keep hsm.2.1 (fun k hk2 => hchn k (hoth b hb' e k hk2).1 (hoth b hb' e k hk2).2)
  · rw [hsm.1] at hb'
    by_cases e : b = b0
    · subst e
      rw [upd_same, List.nodup_append]
      exact ⟨nd1, nd2, fun a ha c hc => dis a ha c (by simp [hc])⟩
    · rw [upd_ne _ _ e]
      exact h.nd b hb'
  · rw [hsm.1] at hb'
    rw [hk, hsm.2.2.2]
    by_cases e : b = b0
    · subst e
      rw [upd_same] at hj
      have hm : j ∈ C b := by rw [hC]; rcases List.mem_append.1 hj with h1 | h1 <;> simp [h1]
      have := h.hs b j hb' hm
      exact ⟨this.1, this.2, fun e2 => by
        subst e2
        rcases List.mem_append.1 hj with h1 | h1
        · exact hni1 h1
        · exact ni2 h1⟩
    · rw [upd_ne _ _ e] at hj
      have := h.hs b j hb' hj
      exact ⟨this.1, this.2, (hoth b hb' e j hj).1⟩
  · rw [hsm.2.1] at hj
    rw [hk, hsm.2.2.2]
    have hm := h.mem j hj hpj.1
    by_cases e : hsh s (s.key j) = b0
    · rw [e, upd_same]
      rw [e, hC] at hm
      rcases List.mem_append.1 hm with h1 | h1
      · simp [h1]
      · rcases List.mem_cons.1 h1 with h2 | h2
        · exact absurd h2 hpj.2
        · simp [h2]
    · rw [upd_ne _ _ e]
      exact hm
end Go.Proofs.Qxb6500892aDoor
