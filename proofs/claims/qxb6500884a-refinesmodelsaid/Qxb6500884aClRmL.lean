/- RefinesModel: both machines. -/
import Derived.Test.Qxb6500884aClRmS
import Derived.Test.Qxb6500884aClMild
namespace Go.Proofs.Qxb6500884a
open Go.RowKit
set_option linter.unusedSimpArgs false
set_option linter.unusedVariables false

theorem MMach.keepT {mb : Nat} {a : Option Addr} {G : List (Nat × (Nat → Bool))} {w w' : World} (h : MMach mb a G w) (hu : UpdM mb (blkO a) w w') : KeepT w w' := fun k cs t fz ht hk => by
  obtain ⟨c, h1, h2⟩ := h.out
  have hne1 : k ≠ mb := fun e => by
    subst e
    unfold Blk at h1
    rw [h1] at hk
    injection hk with h3
    injection h3 with _ h4
    subst h4
    rcases ht with h | h | h <;> exact absurd h (by decide)
  have hne2 : blkO a ≠ some k := fun e => by
    obtain ⟨ds, hd⟩ := h2.ty k e
    unfold Blk at hd
    rw [hd] at hk
    injection hk with h3
    injection h3 with _ h4
    subst h4
    rcases ht with h | h | h <;> exact absurd h (by decide)
  rw [hu.block k (Array.getElem?_eq_some_iff.1 hk).1 hne1 hne2]
  exact hk
def pushL {α : Type} (S : List α) (x : α) : List α := if S.length = 12 then (S ++ [x]).drop 1 else S ++ [x]
theorem push12_map (S : List (Nat × List (Int × Int))) (x : Nat × List (Int × Int)) : (push12 S x).map (·.2) = pushL (S.map (·.2)) x.2 := by
  unfold push12 pushL
  rw [List.length_map]
  split
  · rw [List.map_drop, List.map_append]; rfl
  · rw [List.map_append]; rfl
theorem pushG_map (S : List (Nat × (Nat → Bool))) (x : Nat × (Nat → Bool)) : (pushG S x).map (·.2) = pushL (S.map (·.2)) x.2 := by
  unfold pushG pushL
  rw [List.length_map]
  split
  · rw [List.map_drop, List.map_append]; rfl
  · rw [List.map_append]; rfl
theorem Rel.drop1 {fs : List (Nat → Bool)} {Ls : List (List (Int × Int))} (h : Rel fs Ls) : Rel (fs.drop 1) (Ls.drop 1) :=
  ⟨by rw [List.length_drop, List.length_drop, h.len], fun i f l h1 h2 => by
    rw [List.getElem?_drop] at h1 h2
    exact h.eq _ f l h1 h2⟩
theorem Rel.snoc {fs : List (Nat → Bool)} {Ls : List (List (Int × Int))} (h : Rel fs Ls) {f : Nat → Bool} {l : List (Int × Int)} (he : ∀ x : Nat, x < 196608 → f x = memB l (x : Int)) : Rel (fs ++ [f]) (Ls ++ [l]) :=
  ⟨by rw [List.length_append, List.length_append, h.len]; rfl, fun i f' l' h1 h2 => by
    by_cases e : i < fs.length
    · rw [List.getElem?_append_left e] at h1
      rw [List.getElem?_append_left (by rw [← h.len]; exact e)] at h2
      exact h.eq i f' l' h1 h2
    · have hi := (List.getElem?_eq_some_iff.1 h1).1
      rw [List.length_append] at hi
      simp at hi
      have : i = fs.length := by omega
      subst this
      rw [List.getElem?_append_right (Nat.le_refl _), Nat.sub_self] at h1
      rw [List.getElem?_append_right (by rw [h.len]; exact Nat.le_refl _), h.len, Nat.sub_self] at h2
      simp at h1 h2
      subst h1
      subst h2
      exact he⟩
theorem Rel.push {fs : List (Nat → Bool)} {Ls : List (List (Int × Int))} (h : Rel fs Ls) {f : Nat → Bool} {l : List (Int × Int)} (he : ∀ x : Nat, x < 196608 → f x = memB l (x : Int)) : Rel (pushL fs f) (pushL Ls l) := by
  unfold pushL
  rw [← h.len]
  split
  · exact (h.snoc he).drop1
  · exact h.snoc he
theorem Rel.tail {f : Nat → Bool} {fs : List (Nat → Bool)} {l : List (Int × Int)} {Ls : List (List (Int × Int))} (h : Rel (f :: fs) (l :: Ls)) : (∀ x : Nat, x < 196608 → f x = memB l (x : Int)) ∧ Rel fs Ls :=
  ⟨h.eq 0 f l rfl rfl, by have := h.len; simpa using this, fun i f' l' h1 h2 => h.eq (i + 1) f' l' (by simpa using h1) (by simpa using h2)⟩
theorem Rel.fold : ∀ (fs : List (Nat × (Nat → Bool))) (ps : List (Nat × List (Int × Int))) (G : List (Nat × (Nat → Bool))) (S : List (Nat × List (Int × Int))), Rel (fs.map (·.2)) (ps.map (·.2)) → Rel (G.map (·.2)) (S.map (·.2)) → Rel ((fs.foldl pushG G).map (·.2)) ((ps.foldl push12 S).map (·.2))
  | [], [], G, S, _, h => h
  | [], p :: ps, G, S, h, _ => by have := h.len; simp at this
  | f :: fs, [], G, S, h, _ => by have := h.len; simp at this
  | f :: fs, p :: ps, G, S, h, h2 => by
    rw [List.map_cons, List.map_cons] at h
    obtain ⟨h3, h4⟩ := h.tail
    rw [List.foldl_cons, List.foldl_cons]
    refine Rel.fold fs ps _ _ h4 ?_
    rw [pushG_map, push12_map]
    exact h2.push h3
/-- Both machines, side by side. -/
structure RM (w0 : World) (mb : Nat) (a : Option Addr) (S : List (Nat × List (Int × Int))) (m : Nat) (am : Option Addr) (G : List (Nat × (Nat → Bool))) (w : World) : Prop where
  mw : MW w0 mb a S w
  mm : MMach m am G w
  rel : Rel (G.map (·.2)) (S.map (·.2))
  mlow : w0.heap.size ≤ m
  mab : ∀ k, blkO am = some k → w0.heap.size ≤ k
section
variable {w0 : World} {mb : Nat} {a : Option Addr} {S : List (Nat × List (Int × Int))} {m : Nat} {am : Option Addr} {G : List (Nat × (Nat → Bool))} {w w' : World}
theorem RM.below (h : RM w0 mb a S m am G w) (hb : Below w.heap.size w w') : RM w0 mb a S m am G w' := ⟨h.mw.below hb, h.mm.below hb, h.rel, h.mlow, h.mab⟩
theorem RM.start (w : World) {mb m : Nat} (hm : w.heap.size = mb) (hm2 : mb + 1 = m) : RM w mb none [] m none [] ((w.alloc (.cells #[.slice none 0 0] 46)).alloc (.cells #[.slice none 0 0] 59)) := by
  have hb := Blk.new (w.alloc (.cells #[.slice none 0 0] 46)) [.slice none 0 0] 59
  rw [show (w.alloc (.cells #[.slice none 0 0] 46)).heap.size = m by rw [← hm2, ← hm]; simp] at hb
  exact ⟨(MW.start w hm).below (nbel _ _), ⟨by simp, ⟨0, hb, Fl.nil _ _⟩, (fun p hp => by simp at hp)⟩, Rel.nil, by omega, (fun k hk => by cases hk)⟩
/-- The real step. -/
theorem RM.real (h : RM w0 mb a S m am G w) {o : COp} {res : List Value} {pa : Option Addr} {pn pc : Nat} {ps : List (Nat × List (Int × Int))} {a' : Option Addr} (hs : MWs w0 mb a S o w res pa pn pc ps a' w') : MMach m am G w' := h.mm.of fun g t cs ht hb => h.mw.mach.blkT hs.upd hb (by rcases ht with rfl | rfl | rfl <;> decide) (by rcases ht with rfl | rfl | rfl <;> decide)
/-- The model's step keeps the real machine. -/
theorem MMach.keepMW {S' : List (Nat × List (Int × Int))} {a' : Option Addr} (hm : MMach m am G w) (hl : w0.heap.size ≤ m) (hab : ∀ k, blkO am = some k → w0.heap.size ≤ k) (h : MW w0 mb a' S' w) (hu : UpdM m (blkO am) w w') : MW w0 mb a' S' w' := by
  obtain ⟨c, h1, h2⟩ := h.mach.out
  refine ⟨h.bel.trans ⟨hu.os, hu.tape, hu.output, hu.size, fun k hk => hu.block k (by have := h.bel.size; omega) (by omega) (fun e => by have := hab k e; omega)⟩, ⟨h.mach.len, ⟨c, hm.blkT hu h1 (by decide) (by decide), h2.of fun k cs _ hc => hm.blkT hu hc (by decide) (by decide)⟩, fun p hp => (h.mach.regs p hp).keep (hm.keepT hu)⟩, h.mbw, h.ab, h.rw⟩
/-- A register's table is made. -/
theorem RM.memb (h : RM w0 mb a S m am G w) {r : Nat} {l : List (Int × Int)} (hr : RegOk w r l) (hr' : RegOk w' r l) (hu : Upd r w w') (hw : w0.heap.size ≤ r) : RM w0 mb a S m am G w' := by
  obtain ⟨_, _, _, _, b1, _⟩ := hr.out
  exact ⟨h.mw.memb hr hr' hu hw, h.mm.of fun g t cs ht hb => hb.updT b1 (by rcases ht with rfl | rfl | rfl <;> decide) hu, h.rel, h.mlow, h.mab⟩
end
theorem StepS.pushed {o : COp} {Ls new : List (List (Int × Int))} {r : List Value} (h : StepS o Ls new r) : ∃ ok v, r = resC (new.length : Int) ok v := by
  have hnum : ∀ v ok, ∃ ok' v', numR v ok = resC 0 ok' v' := fun v ok => by cases ok <;> exact ⟨_, _, rfl⟩
  cases h with
  | none hn he hw => subst hw; exact ⟨_, _, rfl⟩
  | one f hf hne l hw => subst hw; exact ⟨_, _, rfl⟩
  | many hk hne P pt hp hw => subst hw; exact ⟨_, _, rfl⟩
  | ask hne r hq hw =>
    subst hw
    unfold askR at hq
    repeat' split at hq
    all_goals first | (cases hq; exact ⟨_, _, rfl⟩) | (cases hq; exact hnum _ _) | cases hq
  | idx hk hne P pt hp v ok hi hw => subst hw; exact hnum _ _
  | other hk hne hw => subst hw; exact ⟨_, _, rfl⟩
theorem neq_res (p : Int) (ok : Bool) (v : Int) (w : World) : (binOp .neq 51 (.agg #[.int .i64 p, .bool ok, .int .i64 v]) (.agg #[.int .i64 p, .bool ok, .int .i64 v])).run Try.prog w = .ok (.bool false) w := by
  rw [run_neq_struct]
  simp [go_sem, part]
end Go.Proofs.Qxb6500884a
