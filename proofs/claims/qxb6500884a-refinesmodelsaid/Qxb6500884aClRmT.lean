/- The model's Minterms: plain laws, and what is in memory. -/
import Derived.Test.Qxb6500884aClRmM
import Derived.Test.Qxb6500884aClRmF
import Derived.Test.Qxb6500884aClMpA
import Derived.Test.Qxb6500884aClCls2
namespace Go.Proofs.Qxb6500884a
open Go.RowKit Go.Maps Go.WideMaps
set_option linter.unusedSimpArgs false
set_option linter.unusedVariables false

def patM (G : List (Nat × (Nat → Bool))) (x : Nat) : List UInt8 := G.map fun p => if p.2 x = true then 1 else 0
def mpats (pat : Nat → List UInt8) : Nat → List (List UInt8)
  | 0 => []
  | c + 1 => if pat c ∈ mpats pat c then mpats pat c else mpats pat c ++ [pat c]
theorem mpats_mem (pat : Nat → List UInt8) : ∀ (c x : Nat), x < c → pat x ∈ mpats pat c
  | 0, x, h => by omega
  | c + 1, x, h => by
    unfold mpats
    by_cases e : x = c
    · subst e
      split
      · assumption
      · simp
    · have ih := mpats_mem pat c x (by omega)
      split
      · exact ih
      · simp [ih]
theorem mpats_nodup (pat : Nat → List UInt8) : ∀ c, (mpats pat c).Nodup
  | 0 => List.nodup_nil
  | c + 1 => by
    have ih := mpats_nodup pat c
    unfold mpats
    split
    · exact ih
    · rename_i h
      rw [List.nodup_append]
      exact ⟨ih, by simp, fun a ha b hb e => by simp at hb; subst hb; subst e; exact h ha⟩
theorem mpats_len (pat : Nat → List UInt8) : ∀ c, (mpats pat c).length ≤ c
  | 0 => Nat.le_refl _
  | c + 1 => by
    have ih := mpats_len pat c
    unfold mpats
    split
    · omega
    · rw [List.length_append]
      simp
      omega
theorem mpats_seen {pat : Nat → List UInt8} {c : Nat} (h : pat c ∈ mpats pat c) : mpats pat (c + 1) = mpats pat c := by rw [mpats, if_pos h]
theorem mpats_new {pat : Nat → List UInt8} {c : Nat} (h : pat c ∉ mpats pat c) : mpats pat (c + 1) = mpats pat c ++ [pat c] := by rw [mpats, if_neg h]
theorem mpats_zero (pat : Nat → List UInt8) : mpats pat 0 = [] := rfl
attribute [irreducible] mpats
def FM (pat : Nat → List UInt8) (c b x : Nat) : Bool := decide (x < c) && decide ((mpats pat c)[b]? = some (pat x))
theorem FM_seen {pat : Nat → List UInt8} {c p : Nat} (hp : (mpats pat c)[p]? = some (pat c)) (j i : Nat) : (if j = p ∧ i = c then true else FM pat c j i) = FM pat (c + 1) j i := by
  unfold FM
  rw [mpats_seen (List.mem_of_getElem? hp)]
  by_cases e : i = c
  · subst e
    rw [decide_eq_true (show i < i + 1 by omega), Bool.true_and, decide_eq_false (show ¬ i < i by omega), Bool.false_and]
    by_cases e2 : j = p
    · rw [if_pos ⟨e2, rfl⟩, e2, decide_eq_true hp]
    · rw [if_neg (fun h => e2 h.1), decide_eq_false (fun h => e2 (nodup_at (mpats_nodup pat i) h hp))]
  · rw [if_neg (fun h => e h.2)]
    congr 1
    rw [decide_eq_decide]
    omega
theorem FM_new {pat : Nat → List UInt8} {c : Nat} (hn : pat c ∉ mpats pat c) {j : Nat} (hj : j ≤ (mpats pat c).length) (i : Nat) : (if j = (mpats pat c).length ∧ i = c then true else if j < (mpats pat c).length then FM pat c j i else false) = FM pat (c + 1) j i := by
  unfold FM
  rw [mpats_new hn]
  by_cases e2 : j < (mpats pat c).length
  · rw [if_neg (by omega), if_pos e2, List.getElem?_append_left e2]
    by_cases e : i = c
    · subst e
      rw [decide_eq_false (show ¬ i < i by omega), Bool.false_and, decide_eq_false (fun h => hn (List.mem_of_getElem? h)), Bool.and_false]
    · congr 1
      rw [decide_eq_decide]
      omega
  · have e3 : j = (mpats pat c).length := by omega
    subst e3
    rw [List.getElem?_append_right (Nat.le_refl _), Nat.sub_self, List.getElem?_cons_zero]
    by_cases e : i = c
    · subst e
      rw [if_pos ⟨rfl, rfl⟩, decide_eq_true (show i < i + 1 by omega), decide_eq_true rfl]
      rfl
    · rw [if_neg (fun h => e h.2), if_neg e2]
      by_cases e4 : i < c
      · have h5 : ¬ some (pat c) = some (pat i) := fun h => by
          injection h with h
          exact hn (by rw [h]; exact mpats_mem pat c i e4)
        rw [decide_eq_false h5, Bool.and_false]
      · rw [decide_eq_false (show ¬ i < c + 1 by omega), Bool.false_and]
/-- The patterns' order is that of the partition. -/
theorem PI.mpOwn {pt : Int → List UInt8} {P : PSt} {pat : Nat → List UInt8} (h : PI pt P 196608) (hp : ∀ x y : Nat, x < 196608 → y < 196608 → (pt (x : Int) = pt (y : Int) ↔ pat x = pat y)) : ∀ c, c ≤ 196608 → (∀ x, x < c → (mpats pat c)[ownN P pt x]? = some (pat x)) ∧ ∀ b, b < (mpats pat c).length → ∃ x, x < c ∧ ownN P pt x = b
  | 0, _ => ⟨fun x hx => by omega, fun b hb => by rw [mpats_zero] at hb; simp at hb⟩
  | c + 1, hc => by
    obtain ⟨ih1, ih2⟩ := PI.mpOwn h hp c (by omega)
    have own_eq : ∀ x, x < c → pat x = pat c → ownN P pt x = ownN P pt c := fun x hx e => by
      have := (hp x c (by omega) (by omega)).2 e
      unfold ownN
      rw [this]
    by_cases hm : pat c ∈ mpats pat c
    · rw [mpats_seen hm]
      refine ⟨fun x hx => ?_, fun b hb => ?_⟩
      · by_cases e : x = c
        · subst e
          obtain ⟨b, hb⟩ := List.mem_iff_getElem?.1 hm
          obtain ⟨y, hy, hyb⟩ := ih2 b (List.getElem?_eq_some_iff.1 hb).1
          have h1 := ih1 y hy
          rw [hyb, hb] at h1
          injection h1 with h1
          rw [← own_eq y hy h1.symm, hyb, hb]
        · exact ih1 x (by omega)
      · obtain ⟨x, hx, hxb⟩ := ih2 b hb
        exact ⟨x, by omega, hxb⟩
    · rw [mpats_new hm]
      have hne : ∀ x, x < c → ownN P pt x ≠ ownN P pt c := fun x hx e => by
        have h1 := h.ownGet (show x < 196608 by omega)
        have h2 := h.ownGet (show c < 196608 by omega)
        rw [e, h2] at h1
        injection h1 with h1
        have := (hp c x (by omega) (by omega)).1 h1
        exact hm (by rw [this]; exact mpats_mem pat c x hx)
      have hbl := h.ownLt (show c < 196608 by omega)
      have hlen : ownN P pt c = (mpats pat c).length := by
        rcases Nat.lt_trichotomy (ownN P pt c) (mpats pat c).length with e | e | e
        · obtain ⟨x, hx, hxb⟩ := ih2 _ e
          exact absurd hxb (hne x hx)
        · exact e
        · exfalso
          have hasc := h.leaAsc e hbl
          obtain ⟨y, hy1, hy2, hy3, hy4⟩ := h.leaOwn (show (mpats pat c).length < P.lists.length by omega)
          obtain ⟨z, hz1, hz2, hz3, hz4⟩ := h.leaOwn hbl
          have hzc : ¬ c < z := fun hcz => hz4 c hcz rfl
          have hyc : y < c := by omega
          have h1 := ih1 y hyc
          rw [hy3] at h1
          have := (List.getElem?_eq_some_iff.1 h1).1
          omega
      refine ⟨fun x hx => ?_, fun b hb => ?_⟩
      · by_cases e : x = c
        · subst e
          rw [hlen, List.getElem?_append_right (Nat.le_refl _), Nat.sub_self]
          rfl
        · have h1 := ih1 x (by omega)
          rw [List.getElem?_append_left (List.getElem?_eq_some_iff.1 h1).1]
          exact h1
      · rw [List.length_append] at hb
        simp at hb
        by_cases e : b = (mpats pat c).length
        · exact ⟨c, by omega, by rw [hlen, e]⟩
        · obtain ⟨x, hx, hxb⟩ := ih2 b (by omega)
          exact ⟨x, by omega, hxb⟩
theorem PI.FMown {pt : Int → List UInt8} {P : PSt} {pat : Nat → List UInt8} (h : PI pt P 196608) (hp : ∀ x y : Nat, x < 196608 → y < 196608 → (pt (x : Int) = pt (y : Int) ↔ pat x = pat y)) : (mpats pat 196608).length = P.lists.length ∧ ∀ b x, b < P.lists.length → x < 196608 → FM pat 196608 b x = decide (ownN P pt x = b) := by
  obtain ⟨h1, h2⟩ := h.mpOwn hp 196608 (Nat.le_refl _)
  have hlen : (mpats pat 196608).length = P.lists.length := by
    rcases Nat.lt_trichotomy (mpats pat 196608).length P.lists.length with e | e | e
    · obtain ⟨y, hy1, hy2, hy3, hy4⟩ := h.leaOwn e
      have h3 := h1 y hy1
      rw [hy3] at h3
      have := (List.getElem?_eq_some_iff.1 h3).1
      omega
    · exact e
    · obtain ⟨x, hx, hxb⟩ := h2 _ e
      have := h.ownLt hx
      omega
  refine ⟨hlen, fun b x hb hx => ?_⟩
  unfold FM
  rw [decide_eq_true hx, Bool.true_and, decide_eq_decide]
  constructor
  · intro h3
    obtain ⟨y, hy, hyb⟩ := h2 b (by omega)
    have h4 := h1 y hy
    rw [hyb, h3] at h4
    injection h4 with h4
    have := (hp x y hx hy).2 h4
    rw [← hyb]
    unfold ownN
    rw [this]
  · intro e
    rw [← e]
    exact h1 x hx
structure MTs (w0 : World) (km : Nat) (pa : Option Addr) (pc : Nat) (pats : List (List UInt8)) (Q : List Nat) (F : Nat → Nat → Bool) (D : DataW Unit) (w : World) : Prop where
  bel : Below w0.heap.size w0 w
  kmp : w.ownsMap Try.prog 9 (plainElem Try.prog 3) km pats.length D
  mok : MapOk D pats
  fl : Fl w 35 pa Q.length pc (Q.map (slV 196608))
  tabs : ∀ (b q : Nat), Q[b]? = some q → Blk w q 4 (tabL (F b))
  nd : Q.Nodup
  lk : w0.heap.size ≤ km
  lo : ∀ g, blkO pa = some g → w0.heap.size ≤ g
  lq : ∀ q ∈ Q, w0.heap.size ≤ q
section
variable {w0 : World} {km : Nat} {pa : Option Addr} {pc : Nat} {pats : List (List UInt8)} {Q : List Nat} {F : Nat → Nat → Bool} {D : DataW Unit} {w w' : World}
theorem MTs.below (h : MTs w0 km pa pc pats Q F D w) (hb : Below w.heap.size w w') : MTs w0 km pa pc pats Q F D w' :=
  have hu : UT (fun _ => False) w w' := UT.below hb
  ⟨h.bel.trans (hb.mono h.bel.size), map_ut h.kmp hu (fun _ _ h => h), h.mok, h.fl.below hb, fun b q hq => (h.tabs b q hq).below hb, h.nd, h.lk, h.lo, h.lq⟩
theorem MTs.ext (h : MTs w0 km pa pc pats Q F D w) {F' : Nat → Nat → Bool} (he : ∀ j i, j < Q.length → i < 196608 → F j i = F' j i) : MTs w0 km pa pc pats Q F' D w :=
  ⟨h.bel, h.kmp, h.mok, h.fl, fun b q hq => by
    rw [← tabL_ext (fun i hi => he b i (List.getElem?_eq_some_iff.1 hq).1 hi)]
    exact h.tabs b q hq, h.nd, h.lk, h.lo, h.lq⟩
theorem MTs.putMap (h : MTs w0 km pa pc pats Q F D w) {t : List UInt8} (hs : t ∉ pats) (hg : w.grownBy w' (some km)) (hm : w'.ownsMap Try.prog 9 (plainElem Try.prog 3) km (pats.length + 1) (D.put (.string t) (.lit (.int .i64 (pats.length : Int))))) :
    MTs w0 km pa pc (pats ++ [t]) Q F (D.put (.string t) (.lit (.int .i64 (pats.length : Int)))) w' :=
  have hu : UT ofM w w' := UT.grown hg (map_at h.kmp)
  ⟨h.bel.trans ⟨hg.os, hg.tape, hg.output, hg.size, fun k hk => hg.block k (by have := h.bel.size; omega) (fun e => by cases e; have := h.lk; omega)⟩, by rw [List.length_append]; exact hm, h.mok.put hs, h.fl.ut hu (fun _ => notM), fun b q hq => (h.tabs b q hq).ut hu notM, h.nd, h.lk, h.lo, h.lq⟩
/-- A table more. -/
theorem MTs.app (h : MTs w0 km pa pc pats Q F D w) {g : Nat} (hg : Blk w g 4 (tabL fun _ => false)) (hgw : w0.heap.size ≤ g) (hgq : g ∉ Q) {pa' : Option Addr} {pc' : Nat} (hf : Fl w' 35 pa' (Q.length + 1) pc' (Q.map (slV 196608) ++ [.slice (some ⟨g, 0, none⟩) 196608 196608])) (hu0 : UpdO (blkO pa) w w') (hb : blkO pa' = blkO pa ∨ blkO pa' = some w.heap.size) :
    MTs w0 km pa' pc' pats (Q ++ [g]) (fun j i => if j < Q.length then F j i else false) D w' := by
  have hu : UT (ofT 35) w w' := UT.updO hu0 h.fl.ty
  refine ⟨h.bel.trans (hu0.below h.bel.size h.lo), map_ut h.kmp hu notTM, h.mok, by rw [List.length_append, List.map_append]; exact hf, fun b q hq => ?_, ?_, h.lk, fun k hk => ?_, fun q hq => ?_⟩
  · rw [List.getElem?_append] at hq
    split at hq
    · rename_i hlt
      rw [tabL_ext (g := F b) (fun i hi => by rw [if_pos hlt])]
      exact (h.tabs b q hq).ut hu (notT (by decide))
    · rename_i hlt
      have hbb := (List.getElem?_eq_some_iff.1 hq).1
      simp at hbb
      have e : b - Q.length = 0 := by omega
      rw [e] at hq
      simp at hq
      subst hq
      rw [tabL_ext (g := fun _ => false) (fun i hi => by rw [if_neg hlt])]
      exact hg.ut hu (notT (by decide))
  · rw [List.nodup_append]
    exact ⟨h.nd, by simp, fun a ha b hb e => by simp at hb; subst hb; subst e; exact hgq ha⟩
  · rcases hb with h1 | h1
    · exact h.lo k (by rw [← h1]; exact hk)
    · rw [h1] at hk
      cases hk
      exact h.bel.size
  · rcases List.mem_append.1 hq with h1 | h1
    · exact h.lq q h1
    · simp at h1
      omega
theorem MTs.set (h : MTs w0 km pa pc pats Q F D w) {p q : Nat} (hq : Q[p]? = some q) {c : Nat} (hc : c < 196608) : MTs w0 km pa pc pats Q (fun j i => if j = p ∧ i = c then true else F j i) D (w.setCell ⟨q, c, none⟩ (.bool true)) := by
  have hqb := h.tabs p q hq
  have hu0 : Upd q w (w.setCell ⟨q, c, none⟩ (.bool true)) := (Upd.refl q w).setCell rfl _
  have hu : UT (ofT 4) w (w.setCell ⟨q, c, none⟩ (.bool true)) := UT.upd hu0 hqb
  refine ⟨h.bel.trans (hu0.below (h.lq q (List.mem_of_getElem? hq)) h.bel.size), map_ut h.kmp hu notTM, h.mok, h.fl.ut hu (fun _ => notT (by decide)), fun b q' hq' => ?_, h.nd, h.lk, h.lo, h.lq⟩
  by_cases e : b = p
  · subst e
    rw [hq] at hq'
    cases hq'
    rw [tabL_ext (g := fun i => if i = c then true else F b i) (fun i hi => by
      by_cases e2 : i = c
      · rw [if_pos ⟨rfl, e2⟩, if_pos e2]
      · rw [if_neg (fun h => e2 h.2), if_neg e2]), ← tabL_set (F b) hc]
    exact hqb.set c _
  · rw [tabL_ext (g := F b) (fun i hi => by rw [if_neg (fun h => e h.1)])]
    exact (h.tabs b q' hq').upd hu0 (fun e2 => by subst e2; exact e (nodup_at h.nd hq' hq))
end
theorem MTs.start (w0 : World) {km : Nat} (F : Nat → Nat → Bool) (hk : w0.heap.size = km) : MTs w0 km none 0 [] [] F (.map []) (w0.alloc (.map #[] 0)) := by
  have m6 := World.ownsMap_made w0 Try.prog 9 (plainElem (H := Unit) Try.prog 3)
  rw [hk] at m6
  exact ⟨nbel w0 _, m6, MapOk.nil, Fl.nil _ _, (fun b q hq => by simp at hq), List.nodup_nil, (by omega), (fun g hg => by cases hg), (fun q hq => by cases hq)⟩
end Go.Proofs.Qxb6500884a
