/- The table stays in order while shapes are added. -/
import Derived.Test.Qxb6500883aGreatDoorScPa
namespace Go.Proofs.Qxb6500883aGreatDoor
open Go.RowKit
set_option linter.unusedSimpArgs false
set_option linter.unusedVariables false
theorem snoc_get {α : Type} {l : List α} {a x : α} {i : Nat} (h : (l ++ [a])[i]? = some x) : (i < l.length ∧ l[i]? = some x) ∨ (i = l.length ∧ x = a) := by
  have hlt := (List.getElem?_eq_some_iff.1 h).1
  rw [List.length_append, List.length_singleton] at hlt
  by_cases e : i < l.length
  · rw [List.getElem?_append_left e] at h; exact .inl ⟨e, h⟩
  · have : i = l.length := by omega
    subst this
    rw [List.getElem?_append_right (Nat.le_refl _), Nat.sub_self] at h
    exact .inr ⟨rfl, (Option.some.inj h).symm⟩
theorem TI.shp {B : BS} (h : TI B) (k : SK) (hk : k.kind = 3 ∨ k.kind = 4 ∨ k.kind = 5 ∨ k.kind = 6) (hr : RecOk B.T B.T.types.length (shR k)) : TI (B.shp k) := by
  have hok := (h.ok.shp k).1
  unfold BS.shp at hok ⊢
  cases e : B.sh k with
  | some i => exact h
  | none =>
    rw [e] at hok
    have he : Ext B.T { B.T with types := B.T.types ++ [shR k] } := ⟨⟨_, rfl⟩, ⟨[], by simp⟩, ⟨[], by simp⟩, rfl⟩
    have hl : (B.T.types ++ [shR k])[B.T.types.length]? = some (shR k) := by simp
    refine ⟨hok, fun i hi => he.typ (h.hd i hi), fun i x h8 hx => ?_, fun q i hq => ?_, fun q i h3 h8 hx => ?_, fun ids i hb hi => ?_, fun ids i lo h8 hx ho => ?_⟩
    · rcases snoc_get hx with ⟨_, h1⟩ | ⟨rfl, rfl⟩
      · exact (h.ty i x h8 h1).ext he
      · exact hr.ext he
    · by_cases hqk : q = k
      · subst hqk
        have hq : gup B.sh q (some B.T.types.length) q = some i := hq
        rw [gup_self] at hq
        obtain rfl := Option.some.inj hq
        exact ⟨h.ok.t, hl⟩
      · have hq : gup B.sh k (some B.T.types.length) q = some i := hq
        rw [gup_ne _ _ hqk] at hq
        exact ⟨(h.sh q i hq).1, he.typ (h.sh q i hq).2⟩
    · show gup B.sh k (some B.T.types.length) q = some i
      rcases snoc_get hx with ⟨_, h1⟩ | ⟨rfl, h1⟩
      · have h2 := h.hs q i h3 h8 h1
        rw [gup_ne _ _ (fun hc => by rw [hc, e] at h2; cases h2)]
        exact h2
      · rw [shR_inj h1, gup_self]
    · obtain ⟨h1, lo, h2, h4, h5⟩ := h.un ids i hb hi
      exact ⟨h1, lo, he.typ h2, h4, h5⟩
    · rcases snoc_get hx with ⟨_, h1⟩ | ⟨rfl, h1⟩
      · exact h.nu ids i lo h8 h1 ho
      · have : (8 : Nat) = k.kind := congrArg TR.kind h1
        omega
theorem TI.set {B : BS} (h : TI B) (d : Nat) (i : Int) (hok : BOk (B.set d i)) : TI (B.set d i) := ⟨hok, h.hd, h.ty, h.sh, h.hs, h.un, h.nu⟩
theorem TI.con {B : BS} (h : TI B) (nm : ByteArray) (fs : List FD) (hf : ∀ f ∈ fs, f.typ < B.T.types.length) (hok : BOk (B.con nm fs)) : TI (B.con nm fs) := by
  have he : Ext B.T (B.con nm fs).T := ⟨⟨_, rfl⟩, ⟨_, rfl⟩, ⟨[], by simp [BS.con]⟩, rfl⟩
  refine ⟨hok, fun i hi => he.typ (h.hd i hi), fun i x h8 hx => ?_, fun q i hq => ⟨(h.sh q i hq).1, he.typ (h.sh q i hq).2⟩, fun q i h3 h8 hx => ?_, fun ids i hb hi => ?_, fun ids i lo h8 hx ho => ?_⟩
  · rcases snoc_get hx with ⟨_, h1⟩ | ⟨rfl, rfl⟩
    · exact (h.ty i x h8 h1).ext he
    · refine .con (Nat.le_add_right _ _) (by show _ ≤ (B.T.flds ++ fs).length; rw [List.length_append]; exact Nat.le_refl _) (fun j f h1 h2 h3 => ?_)
      have h3 : (B.T.flds ++ fs)[j]? = some f := h3
      rw [List.getElem?_append_right h1] at h3
      exact hf f (List.mem_of_getElem? h3)
  · rcases snoc_get hx with ⟨_, h1⟩ | ⟨rfl, h1⟩
    · exact h.hs q i h3 h8 h1
    · have : q.kind = (7 : Nat) := congrArg TR.kind h1
      omega
  · obtain ⟨h1, lo, h2, h4, h5⟩ := h.un ids i hb hi
    exact ⟨h1, lo, he.typ h2, h4, h5⟩
  · rcases snoc_get hx with ⟨_, h1⟩ | ⟨rfl, h1⟩
    · exact h.nu ids i lo h8 h1 ho
    · have : (8 : Nat) = (7 : Nat) := congrArg TR.kind h1
      omega
theorem RecOk.optHi {T : TS} {i : Nat} {x : TR} (h : RecOk T i x) (hk : x.kind = 8) : x.hi ≤ T.opts.length := by
  cases h with
  | @ser k e h1 h2 h3 h4 => have : k.kind = 8 := hk; omega
  | @bit k h1 h2 h3 => have : k.kind = 8 := hk; omega
  | con h1 h2 h3 => have : (7 : Nat) = 8 := hk; omega
  | uni h1 h2 h3 => exact h1
theorem TI.uni {B : BS} (h : TI B) (ids : List Nat) (hb : ∀ o ∈ ids, o < B.T.types.length) (hlt : B.T.types.length ≤ 200000) (hok : BOk (B.uni ids)) : TI (B.uni ids) := by
  unfold BS.uni at hok ⊢
  cases e : B.un (ukB ids) with
  | some i => exact h
  | none =>
    rw [e] at hok
    have he : Ext B.T { B.T with types := B.T.types ++ [unR B.T.opts.length (B.T.opts.length + ids.length)], opts := B.T.opts ++ ids } := ⟨⟨_, rfl⟩, ⟨[], by simp⟩, ⟨_, rfl⟩, rfl⟩
    have hl : (B.T.types ++ [unR B.T.opts.length (B.T.opts.length + ids.length)])[B.T.types.length]? = some (unR B.T.opts.length (B.T.opts.length + ids.length)) := by simp
    have hd : ((B.T.opts ++ ids).drop B.T.opts.length).take ids.length = ids := by rw [List.drop_left, List.take_length]
    have hbb : ∀ o ∈ ids, o < 4294967296 := fun o ho => by have := hb o ho; omega
    have hle : B.T.opts.length + ids.length ≤ (B.T.opts ++ ids).length := by rw [List.length_append]; exact Nat.le_refl _
    refine ⟨hok, fun i hi => he.typ (h.hd i hi), fun i x h8 hx => ?_, fun q i hq => ⟨(h.sh q i hq).1, he.typ (h.sh q i hq).2⟩, fun q i h3 h8 hx => ?_, fun js i hj hi => ?_, fun js i lo h8 hx ho => ?_⟩
    · rcases snoc_get hx with ⟨_, h1⟩ | ⟨rfl, rfl⟩
      · exact (h.ty i x h8 h1).ext he
      · exact .uni hle hd hb
    · rcases snoc_get hx with ⟨_, h1⟩ | ⟨rfl, h1⟩
      · exact h.hs q i h3 h8 h1
      · have : q.kind = (8 : Nat) := congrArg TR.kind h1
        omega
    · have hi : gup B.un (ukB ids) (some B.T.types.length) (ukB js) = some i := hi
      by_cases hu : ukB js = ukB ids
      · obtain rfl := ukB_inj hj hbb hu
        rw [gup_self] at hi
        obtain rfl := Option.some.inj hi
        exact ⟨h.ok.t, _, hl, hle, hd⟩
      · rw [gup_ne _ _ hu] at hi
        obtain ⟨h1, lo, h2, h4, h5⟩ := h.un js i hj hi
        exact ⟨h1, lo, he.typ h2, Nat.le_trans h4 he.len.2.2, by rw [he.optR h4]; exact h5⟩
    · show gup B.un (ukB ids) (some B.T.types.length) (ukB js) = some i
      rcases snoc_get hx with ⟨_, h1⟩ | ⟨rfl, h1⟩
      · have h2 : lo + js.length ≤ B.T.opts.length := (h.ty i _ h8 h1).optHi rfl
        rw [he.optR h2] at ho
        have h4 := h.nu js i lo h8 h1 ho
        rw [gup_ne _ _ (fun hc => by rw [hc, e] at h4; cases h4)]
        exact h4
      · have e1 : lo = B.T.opts.length := congrArg TR.lo h1
        have e2 : lo + js.length = B.T.opts.length + ids.length := congrArg TR.hi h1
        have e3 : js.length = ids.length := by omega
        have ho : ((B.T.opts ++ ids).drop lo).take js.length = js := ho
        rw [e1, e3, hd] at ho
        rw [← ho, gup_self]
end Go.Proofs.Qxb6500883aGreatDoor
