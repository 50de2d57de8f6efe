/- A type's node and all below it: how many nodes they are. No Go here. -/
import Derived.Test.Qxb6500883aGreatDoorScBd
namespace Go.Proofs.Qxb6500883aGreatDoor
open Go.RowKit
set_option linter.unusedSimpArgs false
set_option linter.unusedVariables false
/-- The nodes right below a node. -/
def kids (F : FS) (x : TN) : List Nat := if x.form = 3 ∨ x.form = 4 then [x.elem.toNat] else if x.form = 7 then (F.opts.drop x.lo).take (x.hi - x.lo) else []
/-- The trees of a list of nodes, and how many nodes they hold. -/
inductive CstL (F : FS) : List Nat → Nat → Prop
  | nil : CstL F [] 0
  | cons {r : Nat} {x : TN} {rs : List Nat} {a b : Nat} : F.types[r]? = some x → (x.form = 7 → x.lo ≤ x.hi ∧ x.hi ≤ F.opts.length) → CstL F (kids F x) a → CstL F rs b → CstL F (r :: rs) (a + b + 1)
theorem kids_mono {F F' : FS} {x : TN} {lo : List Nat} (ho : F'.opts = F.opts ++ lo) (h : x.form = 7 → x.lo ≤ x.hi ∧ x.hi ≤ F.opts.length) : kids F' x = kids F x := by
  unfold kids
  by_cases h3 : x.form = 3 ∨ x.form = 4
  · rw [if_pos h3, if_pos h3]
  · rw [if_neg h3, if_neg h3]
    by_cases h7 : x.form = 7
    · rw [if_pos h7, if_pos h7, ho]
      have := h h7
      rw [List.drop_append_of_le_length (by omega), List.take_append_of_le_length (by rw [List.length_drop]; omega)]
    · rw [if_neg h7, if_neg h7]
theorem CstL.mono {F F' : FS} {rs : List Nat} {k : Nat} (h : CstL F rs k) {lt lo : List _} (ht : F'.types = F.types ++ lt) (ho : F'.opts = F.opts ++ lo) : CstL F' rs k := by
  induction h with
  | nil => exact .nil
  | @cons r x rs a b hx h7 _ _ iha ihb =>
    refine .cons (x := x) ?_ (fun e => ?_) ?_ ihb
    · rw [ht, List.getElem?_append_left (List.getElem?_eq_some_iff.1 hx).1]; exact hx
    · have := h7 e
      rw [ho, List.length_append]
      omega
    · rw [kids_mono ho h7]; exact iha
theorem CstL.append {F : FS} {rs qs : List Nat} {k j : Nat} (h : CstL F rs k) (h2 : CstL F qs j) : CstL F (rs ++ qs) (k + j) := by
  induction h with
  | nil => rw [Nat.zero_add]; exact h2
  | @cons r x rs a b hx h7 ha _ _ ihb =>
    have : a + b + 1 + j = a + (b + j) + 1 := by omega
    rw [this]
    exact .cons hx h7 ha ihb
theorem ExtF.cst {n bt be : Nat} {F F' : FS} (h : ExtF n bt be F F') {rs : List Nat} {k : Nat} (hc : CstL F rs k) : CstL F' rs k := by
  obtain ⟨l1, e1⟩ := h.t
  obtain ⟨l2, e2⟩ := h.o
  exact hc.mono e1 e2
/-- A node added. -/
theorem CstL.addT {F : FS} {x : TN} {k : Nat} (h7 : x.form = 7 → x.lo ≤ x.hi ∧ x.hi ≤ F.opts.length) (hc : CstL F (kids F x) k) : CstL (F.addT x) [F.types.length] (k + 1) := by
  have e : k + 1 = k + 0 + 1 := by omega
  rw [e]
  refine CstL.cons (F := F.addT x) (x := x) ?_ h7 ?_ .nil
  · show (F.types ++ [x])[F.types.length]? = some x; simp
  · show CstL (F.addT x) (kids F x) k
    exact hc.mono (lt := [x]) (lo := []) rfl (by show F.opts = F.opts ++ []; simp)
def OutC (S : PS) : Nt → Out → Prop
  | .typ, .ok S' r => ∃ k, CstL S'.fs [r] k ∧ S.fs.types.length + k ≤ S'.fs.types.length
  | .opts acc, .oks S' rs => ∀ ka, CstL S.fs acc ka → ∃ k, CstL S'.fs rs (ka + k) ∧ S.fs.types.length + k ≤ S'.fs.types.length
  | _, _ => True
section
variable {bs : List UInt8} {n : Nat}
theorem Prs.cst (hl : bs.length = n) {nt : Nt} {S : PS} {o : Out} (h : Prs bs n nt S o) : TOk n S → OutC S nt o := by
  induction h with
  | num _ => intro _; trivial
  | name _ => intro _; trivial
  | badnum _ => intro _; trivial
  | deep _ _ => intro _; trivial
  | paren _ _ _ _ => intro _; trivial
  | atomN _ _ _ _ => intro _; trivial
  | powB _ _ => intro _; trivial
  | pow1 _ _ _ => intro _; trivial
  | pow2 _ _ _ _ _ => intro _; trivial
  | pow2B _ _ _ _ _ => intro _; trivial
  | termB _ _ => intro _; trivial
  | term _ _ _ _ => intro _; trivial
  | tE _ _ => intro _; trivial
  | tB _ _ _ => intro _; trivial
  | tS _ _ _ _ _ => intro _; trivial
  | exprB _ _ => intro _; trivial
  | expr _ _ _ _ => intro _; trivial
  | eE _ _ => intro _; trivial
  | eB _ _ _ => intro _; trivial
  | eS _ _ _ _ _ => intro _; trivial
  | @basic S id hk =>
    intro _
    exact ⟨0 + 1, CstL.addT (x := tnL 0 id S.tok.pos ⟨#[]⟩) (fun h => absurd h (show ¬ ((0 : Nat) = 7) by decide)) .nil, by show S.fs.types.length + (0 + 1) ≤ (S.fs.types ++ [_]).length; simp⟩
  | @none S hk =>
    intro _
    exact ⟨0 + 1, CstL.addT (x := tnL 1 0 S.tok.pos ⟨#[]⟩) (fun h => absurd h (show ¬ ((1 : Nat) = 7) by decide)) .nil, by show S.fs.types.length + (0 + 1) ≤ (S.fs.types ++ [_]).length; simp⟩
  | @tname S hk =>
    intro _
    exact ⟨0 + 1, CstL.addT (x := tnL 2 0 S.tok.pos (S.word bs)) (fun h => absurd h (show ¬ ((2 : Nat) = 7) by decide)) .nil, by show S.fs.types.length + (0 + 1) ≤ (S.fs.types ++ [_]).length; simp⟩
  | brk _ _ _ => intro _; trivial
  | brkD _ _ _ _ => intro _; trivial
  | vecB _ _ _ _ _ => intro _; trivial
  | vecC _ _ _ _ _ _ => intro _; trivial
  | @vec S S1 r o _ _ _ hp1 _ hp ih1 ih2 =>
    intro hT
    have hT2 := TOk.opn hl (TOk.adv hl hT)
    obtain ⟨k, c1, c2⟩ := ih1 hT2
    obtain ⟨a1, a2, a3, a4⟩ := Prs.wf hl hp1 0 0 hT2 (Nat.zero_le _) (Nat.zero_le _) trivial
    have := Prs.wf hl hp 0 0 (TOk.adv hl a2) (Nat.zero_le _) (Nat.zero_le _) trivial
    cases o with
    | bad k => trivial
    | oks S2 rs => exact False.elim hp.mv
    | ok S2 r2 =>
      obtain ⟨b1, b2, b3, b4⟩ := this
      have hle2 : S1.fs.types.length ≤ S2.fs.types.length := b1.lenT.1
      have c2 : S.fs.types.length + k ≤ S1.fs.types.length := c2
      show OutC S .typ (Out.tyE _ _ _ (if S2.tok.kind = 11 then Out.ok (S2.sht bs n) r2 else Out.bad S2.unx))
      by_cases hq : S2.tok.kind = 11
      · rw [if_pos hq]
        refine ⟨k + 1, CstL.addT (F := S2.fs) (x := ⟨if S.tok.kind = 25 then 4 else 3, 0, S.tok.pos, ⟨#[]⟩, (r : Int), (r2 : Int), 0, 0⟩) (fun h => ?_) ?_, by show S.fs.types.length + (k + 1) ≤ (S2.fs.types ++ [_]).length; rw [List.length_append, List.length_singleton]; omega⟩
        · have h : (if S.tok.kind = 25 then 4 else 3) = 7 := h
          split at h <;> cases h
        · have e : kids S2.fs ⟨if S.tok.kind = 25 then 4 else 3, 0, S.tok.pos, ⟨#[]⟩, (r : Int), (r2 : Int), 0, 0⟩ = [r] := by
            unfold kids
            rw [if_pos (by show (if S.tok.kind = 25 then 4 else 3) = 3 ∨ (if S.tok.kind = 25 then 4 else 3) = 4; split <;> omega)]
            rfl
          rw [e]
          exact ExtF.cst (F := S1.fs) b1 c1
      · rw [if_neg hq]; trivial
  | @bits S o _ _ _ hp ih =>
    intro hT
    have hT2 := TOk.opn hl (TOk.adv hl hT)
    have := Prs.wf hl hp 0 0 hT2 (Nat.zero_le _) (Nat.zero_le _) trivial
    cases o with
    | bad k => trivial
    | oks S2 rs => exact False.elim hp.mv
    | ok S2 r2 =>
      obtain ⟨b1, b2, b3, b4⟩ := this
      have hle2 : S.fs.types.length ≤ S2.fs.types.length := b1.lenT.1
      show OutC S .typ (Out.tyE _ _ _ (if S2.tok.kind = 11 then Out.ok (S2.sht bs n) r2 else Out.bad S2.unx))
      by_cases hq : S2.tok.kind = 11
      · rw [if_pos hq]
        refine ⟨0 + 1, CstL.addT (F := S2.fs) (x := ⟨if S.tok.kind = 27 then 6 else 5, 0, S.tok.pos, ⟨#[]⟩, -1, (r2 : Int), 0, 0⟩) (fun h => ?_) ?_, by show S.fs.types.length + (0 + 1) ≤ (S2.fs.types ++ [_]).length; rw [List.length_append, List.length_singleton]; omega⟩
        · have h : (if S.tok.kind = 27 then 6 else 5) = 7 := h
          split at h <;> cases h
        · have e : kids S2.fs ⟨if S.tok.kind = 27 then 6 else 5, 0, S.tok.pos, ⟨#[]⟩, -1, (r2 : Int), 0, 0⟩ = [] := by
            unfold kids
            rw [if_neg (by show ¬ ((if S.tok.kind = 27 then 6 else 5) = 3 ∨ (if S.tok.kind = 27 then 6 else 5) = 4); split <;> omega), if_neg (by show ¬ ((if S.tok.kind = 27 then 6 else 5) = 7); split <;> omega)]
          rw [e]
          exact .nil
      · rw [if_neg hq]; trivial
  | @uniE S _ _ _ h =>
    intro hT
    unfold PS.uni
    rw [if_pos h]
    refine ⟨0 + 1, CstL.addT (F := (S.addO []).fs) (x := ⟨7, 0, S.tok.pos, ⟨#[]⟩, -1, -1, S.fs.opts.length, S.fs.opts.length + 0⟩) (fun _ => ⟨Nat.le_add_right _ _, ?_⟩) ?_, by show S.fs.types.length + (0 + 1) ≤ (S.fs.types ++ [_]).length; rw [List.length_append, List.length_singleton]; omega⟩
    · show S.fs.opts.length + 0 ≤ (S.fs.opts ++ []).length; simp
    · have e : kids (S.addO []).fs ⟨7, 0, S.tok.pos, ⟨#[]⟩, -1, -1, S.fs.opts.length, S.fs.opts.length + 0⟩ = [] := by
        unfold kids
        rw [if_neg (show ¬ ((7 : Nat) = 3 ∨ (7 : Nat) = 4) by decide), if_pos rfl]
        simp
      rw [e]
      exact .nil
  | @uni S o _ _ _ _ hp ih =>
    intro hT
    have hT2 := TOk.opn hl (TOk.adv hl hT)
    have := ih hT2
    cases o with
    | bad k => trivial
    | ok S2 r => exact False.elim hp.mv
    | oks S2 rs =>
      obtain ⟨k, c1, c2⟩ := this 0 .nil
      rw [Nat.zero_add] at c1
      have c2 : S.fs.types.length + k ≤ S2.fs.types.length := c2
      show OutC S .typ (S2.uni bs n S.tok.pos rs)
      unfold PS.uni
      by_cases hq : S2.tok.kind = 11
      · rw [if_pos hq]
        refine ⟨k + 1, CstL.addT (F := (S2.addO rs).fs) (x := ⟨7, 0, S.tok.pos, ⟨#[]⟩, -1, -1, S2.fs.opts.length, S2.fs.opts.length + rs.length⟩) (fun _ => ⟨Nat.le_add_right _ _, ?_⟩) ?_, by show S.fs.types.length + (k + 1) ≤ (S2.fs.types ++ [_]).length; rw [List.length_append, List.length_singleton]; omega⟩
        · show S2.fs.opts.length + rs.length ≤ (S2.fs.opts ++ rs).length; simp
        · have e : kids (S2.addO rs).fs ⟨7, 0, S.tok.pos, ⟨#[]⟩, -1, -1, S2.fs.opts.length, S2.fs.opts.length + rs.length⟩ = rs := by
            unfold kids
            rw [if_neg (show ¬ ((7 : Nat) = 3 ∨ (7 : Nat) = 4) by decide), if_pos rfl]
            show ((S2.fs.opts ++ rs).drop S2.fs.opts.length).take (S2.fs.opts.length + rs.length - S2.fs.opts.length) = rs
            rw [List.drop_left, Nat.add_sub_cancel_left, List.take_length]
          rw [e]
          exact c1.mono (F' := (S2.addO rs).fs) (lt := []) (lo := rs) (by show S2.fs.types = S2.fs.types ++ []; simp) rfl
      · rw [if_neg hq]; trivial
  | typN _ _ => intro _; trivial
  | oB _ _ => intro _; trivial
  | @oE S acc S1 r hp _ ih =>
    intro hT ka hka
    obtain ⟨k, c1, c2⟩ := ih hT
    obtain ⟨a1, a2, a3, a4⟩ := Prs.wf hl hp 0 0 hT (Nat.zero_le _) (Nat.zero_le _) trivial
    exact ⟨k, (a1.cst hka).append c1, c2⟩
  | @oS S acc S1 r o hp1 _ hp ih1 ih2 =>
    intro hT
    obtain ⟨k, c1, c2⟩ := ih1 hT
    obtain ⟨a1, a2, a3, a4⟩ := Prs.wf hl hp1 0 0 hT (Nat.zero_le _) (Nat.zero_le _) trivial
    have := ih2 (TOk.adv hl a2)
    cases o with
    | bad k => trivial
    | ok S2 r => exact False.elim hp.mv
    | oks S2 rs =>
      intro ka hka
      obtain ⟨k2, d1, d2⟩ := this (ka + k) ((a1.cst hka).append c1)
      have d2 : S1.fs.types.length + k2 ≤ S2.fs.types.length := d2
      exact ⟨k + k2, by rw [← Nat.add_assoc]; exact d1, by omega⟩
/-- The bodies of a file's declarations. -/
structure DCst (F : FS) (x : DN) : Prop where
  ali : x.sort = 1 → ∃ k, CstL F [x.typ.toNat] k ∧ k ≤ x.tHi - x.tLo
  cnt : x.sort = 2 → ∃ k, CstL F (((F.fields.drop x.fLo).take (x.fHi - x.fLo)).map (·.typ)) k ∧ k ≤ x.tHi - x.tLo
def FCst (F : FS) : Prop := ∀ x ∈ F.decls, DCst F x
theorem Flds.cst (hl : bs.length = n) {A B : PS} (h : Flds bs n A B) : TOk n A → ∃ l : List FN, B.fs.fields = A.fs.fields ++ l ∧ ∃ k, CstL B.fs (l.map (·.typ)) k ∧ A.fs.types.length + k ≤ B.fs.types.length := by
  induction h with
  | @nil S => intro _; exact ⟨[], by simp, 0, .nil, by omega⟩
  | @cons S S1 r S' hk h8 hp h7 hf ih =>
    intro hT
    have hT2 := TOk.adv hl (TOk.adv hl hT)
    obtain ⟨k, c1, c2⟩ := hp.cst hl hT2
    obtain ⟨a1, a2, a3, a4⟩ := (Prs.wf hl hp) 0 0 hT2 (Nat.zero_le _) (Nat.zero_le _) trivial
    have hT3 : TOk n ((S1.adv bs n).addF ⟨S.word bs, S.tok.pos, r⟩) := ⟨(TOk.adv hl a2).tk, (TOk.adv hl a2).hp⟩
    obtain ⟨l, e1, k2, d1, d2⟩ := ih hT3
    obtain ⟨_, _, _, b3, _⟩ := hf.wf hl 0 0 hT3 (Nat.zero_le _) (Nat.zero_le _)
    have a1f : S1.fs.fields = S.fs.fields := a1.fd
    have c2 : S.fs.types.length + k ≤ S1.fs.types.length := c2
    have d2 : S1.fs.types.length + k2 ≤ S'.fs.types.length := d2
    obtain ⟨l1, t1⟩ := b3.t
    obtain ⟨l2, t2⟩ := b3.o
    refine ⟨⟨S.word bs, S.tok.pos, r⟩ :: l, ?_, k + k2, ?_, by omega⟩
    · have e1 : S'.fs.fields = (S1.fs.fields ++ [⟨S.word bs, S.tok.pos, r⟩]) ++ l := e1
      rw [e1, a1f, List.append_assoc]
      rfl
    · exact (CstL.mono (F' := S'.fs) c1 (lt := l1) (lo := l2) t1 t2).append d1
theorem DCst.mono {F F' : FS} {x : DN} (h : DCst F x) {lt lo lf : List _} (ht : F'.types = F.types ++ lt) (ho : F'.opts = F.opts ++ lo) (hf : F'.fields = F.fields ++ lf) (hx : x.fLo ≤ x.fHi ∧ x.fHi ≤ F.fields.length) : DCst F' x := by
  refine ⟨fun e => ?_, fun e => ?_⟩
  · obtain ⟨k, h1, h2⟩ := h.ali e
    exact ⟨k, h1.mono ht ho, h2⟩
  · obtain ⟨k, h1, h2⟩ := h.cnt e
    refine ⟨k, ?_, h2⟩
    rw [hf, List.drop_append_of_le_length (by omega), List.take_append_of_le_length (by rw [List.length_drop]; omega)]
    exact h1.mono ht ho
theorem DclOk.cst (hl : bs.length = n) {S S1 : PS} {x : DN} (h : DclOk bs n S S1 x) (hT : TOk n S) (hF : FWf n S.fs) (hC : FCst S.fs) : FCst (S1.addD x).fs := by
  have hb : TOk n (S.bod bs n) := TOk.adv hl (TOk.adv hl (TOk.adv hl hT))
  have key : ∀ (S4 : PS) (lf : List FN) (x : DN), ExtF n 0 0 S.fs { S4.fs with fields := S.fs.fields } → S4.fs.fields = S.fs.fields ++ lf → S4.fs.decls = S.fs.decls → DCst S4.fs x → FCst ((S4.adv bs n).addD x).fs := by
    intro S4 lf x hE hfl hdc hx y hy
    have hy : y ∈ S4.fs.decls ++ [x] := hy
    obtain ⟨lt, et⟩ := hE.t
    obtain ⟨lo, eo⟩ := hE.o
    rcases List.mem_append.1 hy with h | h
    · rw [hdc] at h
      exact (hC y h).mono (F' := ((S4.adv bs n).addD x).fs) et eo hfl (hF.d y h).f
    · simp at h
      subst h
      exact ⟨fun e => by obtain ⟨k, h1, h2⟩ := hx.ali e; exact ⟨k, h1.mono (F' := ((S4.adv bs n).addD y).fs) (lt := []) (lo := []) (by show S4.fs.types = S4.fs.types ++ []; simp) (by show S4.fs.opts = S4.fs.opts ++ []; simp), h2⟩, fun e => by obtain ⟨k, h1, h2⟩ := hx.cnt e; exact ⟨k, h1.mono (F' := ((S4.adv bs n).addD y).fs) (lt := []) (lo := []) (by show S4.fs.types = S4.fs.types ++ []; simp) (by show S4.fs.opts = S4.fs.opts ++ []; simp), h2⟩⟩
  cases h with
  | @con S4 r h1 h2 h3 hp h4 =>
    obtain ⟨a1, a2, a3, a4⟩ := (Prs.wf hl hp) 0 0 hb (Nat.zero_le _) (Nat.zero_le _) trivial
    have a1 : ExtF n 0 0 S.fs S4.fs := a1
    exact key S4 [] _ ⟨a1.t, a1.e, a1.o, a1.tw, a1.ew, rfl, a1.dc⟩ (by rw [a1.fd]; simp) a1.dc ⟨fun h => by simp at h, fun h => by simp at h⟩
  | @ali S4 r h1 h2 h3 hp h4 =>
    obtain ⟨a1, a2, a3, a4⟩ := (Prs.wf hl hp) 0 0 hb (Nat.zero_le _) (Nat.zero_le _) trivial
    have a1 : ExtF n 0 0 S.fs S4.fs := a1
    obtain ⟨k, c1, c2⟩ := hp.cst hl hb
    have c2 : S.fs.types.length + k ≤ S4.fs.types.length := c2
    exact key S4 [] _ ⟨a1.t, a1.e, a1.o, a1.tw, a1.ew, rfl, a1.dc⟩ (by rw [a1.fd]; simp) a1.dc ⟨fun _ => ⟨k, c1, by show k ≤ S4.fs.types.length - S.fs.types.length; omega⟩, fun h => by simp at h⟩
  | @cnt S4 h1 h2 h3 hp h4 =>
    obtain ⟨l, a1, a2, a3, a4⟩ := Flds.wf hl hp 0 0 hb (Nat.zero_le _) (Nat.zero_le _)
    obtain ⟨l', e1, k, c1, c2⟩ := hp.cst hl hb
    have a1 : S4.fs.fields = S.fs.fields ++ l := a1
    have e1 : S4.fs.fields = S.fs.fields ++ l' := e1
    have c2 : S.fs.types.length + k ≤ S4.fs.types.length := c2
    refine key S4 l _ a3 a1 a3.dc ⟨fun h => by simp at h, fun _ => ⟨k, ?_, by show k ≤ S4.fs.types.length - S.fs.types.length; omega⟩⟩
    show CstL S4.fs (((S4.fs.fields.drop S.fs.fields.length).take (S4.fs.fields.length - S.fs.fields.length)).map (·.typ)) k
    rw [e1, List.drop_left, List.length_append, Nat.add_sub_cancel_left, List.take_length]
    exact c1
theorem FileOk.cst (hl : bs.length = n) {S S' : PS} (h : FileOk bs n S S') : TOk n S → FWf n S.fs → FCst S.fs → FCst S'.fs := by
  induction h with
  | nil => intro _ _ h3; exact h3
  | cons _ hd _ ih =>
    intro h1 h2 h3
    obtain ⟨a, b⟩ := hd.wf hl h1 h2
    exact ih b a (hd.cst hl h1 h2 h3)
theorem first_cst (hl : bs.length = n) {S : PS} (h : FileOk bs n (PS.first bs n) S) : FCst S.fs := by
  have h0 := nextT_ok hl (Nat.zero_le n) (k := 0)
  exact h.cst hl ⟨h0, h0.en⟩ ⟨fun x hx => (by cases hx), fun i hi => absurd hi (Nat.not_lt_zero _), fun i hi => absurd hi (Nat.not_lt_zero _), fun y hy => (by cases hy)⟩ (fun x hx => by cases hx)
end
end Go.Proofs.Qxb6500883aGreatDoor
