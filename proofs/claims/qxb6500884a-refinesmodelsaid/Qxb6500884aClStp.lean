/- (*machine).step: what it does, and its second half: the pushes. -/
import Derived.Test.Qxb6500884aClIdx
import Derived.Test.Qxb6500884aClXor
import Derived.Test.Qxb6500884aClSub
import Derived.Test.Qxb6500884aClOvl
import Derived.Test.Qxb6500884aClOrd
import Derived.Test.Qxb6500884aClTriv
import Derived.Test.Qxb6500884aClUall
namespace Go.Proofs.Qxb6500884a
open Go.RowKit
set_option linter.unusedSimpArgs false
set_option linter.unusedVariables false

def regL (Ls : List (List (Int × Int))) (i : Int) : List (Int × Int) := Ls.getD (regIx Ls.length i) []
def famLs (Ls : List (List (Int × Int))) (ns : List Int) : List (List (Int × Int)) := ns.map (regL Ls)
/-- The members of the one class that a step pushes. -/
def kindF (o : COp) (Ls : List (List (Int × Int))) : Option (Int → Bool) :=
  if o.kind = 0 then some (memB o.iv) else if o.kind = 1 then some (fun x => decide (o.a ≤ x) && decide (x ≤ o.b)) else if o.kind = 2 then some (fun x => decide (o.a ≤ x) && decide (x ≤ o.a))
  else if o.kind = 3 then some (fun _ => false) else if o.kind = 4 then some (fun _ => true)
  else if o.kind = 5 then some (fun x => memB (regL Ls o.a) x || memB (regL Ls o.b) x) else if o.kind = 6 then some (fun x => memB (regL Ls o.a) x && memB (regL Ls o.b) x) else if o.kind = 7 then some (fun x => memB (regL Ls o.a) x && !memB (regL Ls o.b) x) else if o.kind = 8 then some (fun x => memB (regL Ls o.a) x != memB (regL Ls o.b) x)
  else if o.kind = 9 then some (fun x => !memB (regL Ls o.a) x) else if o.kind = 10 then some (fun x => (famLs Ls o.rg).any fun l => memB l x) else if o.kind = 11 then some (memB (dupL o.rg)) else none
/-- The answers of the questions. -/
def askR (o : COp) (Ls : List (List (Int × Int))) : Option (List Value) :=
  if o.kind = 13 then some (resC 0 true (bitI (memB (regL Ls o.a) o.b))) else if o.kind = 14 then some (resC 0 true (bitI (regL Ls o.a).isEmpty)) else if o.kind = 15 then some (resC 0 true (bitI (allB (regL Ls o.a))))
  else if o.kind = 16 then some (numR (minL (regL Ls o.a)) (!(regL Ls o.a).isEmpty)) else if o.kind = 17 then some (numR (maxL (regL Ls o.a)) (!(regL Ls o.a).isEmpty)) else if o.kind = 18 then some (resC 0 true (countL (regL Ls o.a)))
  else if o.kind = 19 then some (resC 0 true (bitI (decide (regL Ls o.a = regL Ls o.b)))) else if o.kind = 20 then some (resC 0 true (bitI (subB (regL Ls o.a) (regL Ls o.b)))) else if o.kind = 21 then some (resC 0 true (bitI (ovB (regL Ls o.a) (regL Ls o.b)))) else none
def SemP (fam : List (List (Int × Int))) (P : PSt) (pt : Int → List UInt8) : Prop := PI pt P 196608 ∧ ∀ x y, 0 ≤ x → x ≤ 196607 → 0 ≤ y → y ≤ 196607 → (pt x = pt y ↔ ∀ l ∈ fam, memB l x = memB l y)
/-- What a step shows, the registers' classes being Ls, the pushed ones new. -/
inductive StepS (o : COp) (Ls new : List (List (Int × Int))) : List Value → Prop
  | none (hn : needB o.kind = true) (he : Ls = []) (hw : new = []) : StepS o Ls new (resC 0 false 0)
  | one (f : Int → Bool) (hf : kindF o Ls = some f) (hne : needB o.kind = true → Ls ≠ []) (l : List (Int × Int)) (hw : new = [l]) (hN : Nrm l) (hm : ∀ x, 0 ≤ x → x ≤ 196607 → memB l x = f x) : StepS o Ls new (resC 1 false 0)
  | many (hk : o.kind = 12) (hne : Ls ≠ []) (P : PSt) (pt : Int → List UInt8) (hp : SemP (famLs Ls o.rg) P pt) (hw : new = P.lists) : StepS o Ls new (resC (P.lists.length : Int) false 0)
  | ask (hne : Ls ≠ []) (r : List Value) (hq : askR o Ls = some r) (hw : new = []) : StepS o Ls new r
  | idx (hk : o.kind = 22) (hne : Ls ≠ []) (P : PSt) (pt : Int → List UInt8) (hp : SemP (famLs Ls o.rg) P pt) (v : Int) (ok : Bool) (hi : IdxR P pt o.b v ok) (hw : new = []) : StepS o Ls new (numR v ok)
  | other (hk : ¬ (0 ≤ o.kind ∧ o.kind ≤ 22)) (hne : Ls ≠ []) (hw : new = []) : StepS o Ls new (resC 0 false 0)
structure StepP (mb : Nat) (a : Option Addr) (S : List (Nat × List (Int × Int))) (o : COp) (w : World) (e : Ending) (w' : World) : Prop where
  out : ∃ (res : List Value) (pa : Option Addr) (pn pc : Nat) (ps : List (Nat × List (Int × Int))) (a' : Option Addr), e = .returned (.tuple #[.agg res.toArray, .slice pa pn pc]) ∧ Fl w' 38 pa pn pc (ps.map ptV) ∧ (∀ p ∈ ps, RegOk w' p.1 p.2) ∧ Mach mb a' (ps.foldl push12 S) w' ∧ StepS o (S.map (·.2)) (ps.map (·.2)) res ∧
    (∀ p ∈ ps, w.heap.size ≤ p.1) ∧ ps.Pairwise (fun p q => p.1 < q.1) ∧ (blkO a' = blkO a ∨ ∃ g, blkO a' = some g ∧ w.heap.size ≤ g) ∧ (∀ g, blkO pa = some g → w.heap.size ≤ g) ∧ ps.length ≤ 196608
  upd : UpdM mb (blkO a) w w'
theorem Mach.blkT {mb : Nat} {a : Option Addr} {S : List (Nat × List (Int × Int))} {w w' : World} (h : Mach mb a S w) (hu : UpdM mb (blkO a) w w') {g : Nat} {t : TypeId} {cs : List Value} (hb : Blk w g t cs) (h1 : t ≠ 46) (h2 : t ≠ 38) : Blk w' g t cs := by
  obtain ⟨c, m1, m2⟩ := h.out
  unfold Blk
  rw [hu.block g hb.lt (fun e => ?_) (m2.ne hb (fun e => h2 e.symm))]
  · exact hb
  · subst e
    unfold Blk at hb m1
    rw [hb] at m1
    injection m1 with m1
    injection m1 with _ m1
    exact h1 m1
/-- Everything as it was before the pushes but for new memory. -/
theorem regL_map (S : List (Nat × List (Int × Int))) (i : Int) : regL (S.map (·.2)) i = (S.getD (regIx S.length i) (0, [])).2 := by
  unfold regL
  rw [List.length_map, List.getD_eq_getElem?_getD, List.getD_eq_getElem?_getD, List.getElem?_map]
  cases S[regIx S.length i]? <;> rfl
theorem famLs_map (S : List (Nat × List (Int × Int))) (ns : List Int) : famLs (S.map (·.2)) ns = (famL S ns).map (·.2) := by
  unfold famLs famL
  rw [List.map_map]
  apply List.map_congr_left
  intro i _
  rw [regL_map]
  rfl
/-- The pushes under way: k classes are pushed. -/
structure PL (mb : Nat) (a0 : Option Addr) (S : List (Nat × List (Int × Int))) (w0 : World) (r : Nat) (oa : Option Addr) (on oc : Nat) (T : List (Option Addr × Nat × Nat)) (Ls : List (List (Int × Int))) (k : Nat) (ps : List (Nat × List (Int × Int))) (a' : Option Addr) (pa : Option Addr) (pc : Nat) (w : World) : Prop where
  done : ps.map (·.2) = Ls.take k
  len : ps.length = k
  upd : UpdM mb (blkO a0) w0 w
  mach : Mach mb a' (ps.foldl push12 S) w
  reg : ∀ p ∈ ps, RegOk w p.1 p.2
  fr : ∀ p ∈ ps, w0.heap.size ≤ p.1
  pw : ps.Pairwise (fun p q => p.1 < q.1)
  top : ∀ p ∈ ps, p.1 < w.heap.size
  fl : Fl w 38 pa k pc (ps.map ptV)
  sep : ∀ g, blkO pa = some g → blkO a' ≠ some g ∧ w0.heap.size ≤ g
  ab : blkO a' = blkO a0 ∨ ∃ g, blkO a' = some g ∧ w0.heap.size ≤ g
  out : Fl w 30 oa on oc (T.map clV)
  cls : ClsOk w T Ls
  res : Blk w r 51 (resC 0 false 0)
theorem PL.below {mb : Nat} {a0 : Option Addr} {S : List (Nat × List (Int × Int))} {w0 : World} {r : Nat} {oa : Option Addr} {on oc : Nat} {T : List (Option Addr × Nat × Nat)} {Ls : List (List (Int × Int))} {k : Nat} {ps : List (Nat × List (Int × Int))} {a' : Option Addr} {pa : Option Addr} {pc : Nat} {w w' : World}
    (h : PL mb a0 S w0 r oa on oc T Ls k ps a' pa pc w) (hb : Below w.heap.size w w') : PL mb a0 S w0 r oa on oc T Ls k ps a' pa pc w' :=
  { done := h.done, len := h.len, upd := h.upd.trans (UpdM.ofBelow (o := none) hb) (fun x hx => by cases hx), mach := h.mach.below hb, reg := fun p hp => (h.reg p hp).below hb, fr := h.fr, pw := h.pw, top := fun p hp => Nat.lt_of_lt_of_le (h.top p hp) hb.size, fl := h.fl.below hb, sep := h.sep, ab := h.ab, out := h.out.below hb, cls := h.cls.below hb, res := h.res.below hb }
theorem push12_last (S : List (Nat × List (Int × Int))) (x : Nat × List (Int × Int)) (h : S.length ≤ 12) : 0 < (push12 S x).length ∧ (push12 S x)[(push12 S x).length - 1]? = some x := by
  unfold push12
  split
  · rename_i h12
    rw [List.drop_append_of_le_length (by omega)]
    simp
  · simp
theorem foldl_snoc (ps : List (Nat × List (Int × Int))) (x : Nat × List (Int × Int)) (S : List (Nat × List (Int × Int))) : (ps ++ [x]).foldl push12 S = push12 (ps.foldl push12 S) x := by rw [List.foldl_append]; rfl
/-- One class pushed. -/
theorem PL.push {mb : Nat} {a0 : Option Addr} {S : List (Nat × List (Int × Int))} {w0 : World} {r : Nat} {oa : Option Addr} {on oc : Nat} {T : List (Option Addr × Nat × Nat)} {Ls : List (List (Int × Int))} {k : Nat} {ps : List (Nat × List (Int × Int))} {a' : Option Addr} {pa : Option Addr} {pc : Nat} {w w' : World} {l : List (Int × Int)} {e : Ending}
    (h : PL mb a0 S w0 r oa on oc T Ls k ps a' pa pc w) (hl : Ls[k]? = some l) (hp : PushP mb a' (ps.foldl push12 S) l w e w') :
    ∃ a2 rg, Mach mb a2 (push12 (ps.foldl push12 S) (rg, l)) w' ∧ w.heap.size ≤ rg ∧ (∀ w2 pa2 pc2, UpdO (blkO pa) w' w2 → Fl w2 38 pa2 (k + 1) pc2 ((ps ++ [(rg, l)]).map ptV) → (blkO pa2 = blkO pa ∨ ∃ g, blkO pa2 = some g ∧ w'.heap.size ≤ g) → PL mb a0 S w0 r oa on oc T Ls (k + 1) (ps ++ [(rg, l)]) a2 pa2 pc2 w2) ∧ Fl w' 38 pa k pc (ps.map ptV) ∧ (∀ g, blkO pa = some g → blkO a2 ≠ some g ∧ mb ≠ g) := by
  obtain ⟨a2, rg, hrg, hm, hab⟩ := hp.out
  have hu := hp.upd
  have hkp : KeepT w w' := hu.keep h.mach
  have hfl : Fl w' 38 pa k pc (ps.map ptV) := h.fl.of (fun g cs hg hb => by
    unfold Blk
    rw [hu.block g hb.lt (fun e => ?_) (h.sep g hg).1]
    · exact hb
    · subst e
      obtain ⟨c, m1, _⟩ := h.mach.out
      unfold Blk at hb m1
      rw [hb] at m1
      injection m1 with m1
      injection m1 with _ m1
      exact absurd m1 (by decide))
  have hs2 : ∀ g, blkO pa = some g → blkO a2 ≠ some g ∧ mb ≠ g := fun g hg => by
    obtain ⟨cs, hb⟩ := h.fl.ty g hg
    refine ⟨fun e2 => ?_, fun e2 => ?_⟩
    · rcases hab with h1 | ⟨g', h1, h2⟩
      · rw [h1] at e2
        exact (h.sep g hg).1 e2
      · rw [h1] at e2
        cases e2
        have := hb.lt
        omega
    · subst e2
      obtain ⟨c, m1, _⟩ := h.mach.out
      unfold Blk at hb m1
      rw [hb] at m1
      injection m1 with m1
      injection m1 with _ m1
      exact absurd m1 (by decide)
  refine ⟨a2, rg, hm, hrg, fun w2 pa2 pc2 hu2 hf2 hb2 => ?_, hfl, hs2⟩
  have hty2 : ∀ k, blkO pa = some k → ∃ cs, Blk w' k 38 cs := hfl.ty
  have hut : UT (ofT 38) w' w2 := UT.updO hu2 hty2
  have hk2 : KeepT w' w2 := fun i cs t fz ht hk => hut.block i _ hk (notT (by rcases ht with h | h | h <;> rw [h] <;> decide))
  have hlt : k < Ls.length := (List.getElem?_eq_some_iff.1 hl).1
  obtain ⟨c2, mm1, mm2⟩ := hm.out
  have hmach2 : Mach mb a2 (push12 (ps.foldl push12 S) (rg, l)) w2 := ⟨hm.len, ⟨c2, mm1.ut hut (notT (by decide)), mm2.updO hu2 (fun g hg e => (hs2 g e).1 hg)⟩, fun p hp => (hm.regs p hp).keep hk2⟩
  have hrgok : RegOk w2 rg l := hmach2.regs (rg, l) (by
    obtain ⟨h1, h2⟩ := push12_last (ps.foldl push12 S) (rg, l) h.mach.len
    exact List.mem_of_getElem? h2)
  have hrlt : rg < w2.heap.size := by
    obtain ⟨a, n, c, tb, hb, _⟩ := hrgok.out
    exact hb.lt
  exact { done := by rw [List.map_append, h.done, List.take_add_one, hl]; rfl
          len := by rw [List.length_append, h.len]; rfl
          upd := by
            have h1 := h.upd.trans hu (fun x hx => by
              rcases h.ab with h2 | ⟨g, h2, h3⟩
              · rw [h2] at hx; exact .inl hx
              · rw [h2] at hx; cases hx; exact .inr h3)
            exact h1.trans (o' := blkO pa) hu2.updM (fun x hx => .inr (h.sep x hx).2)
          mach := by rw [foldl_snoc]; exact hmach2
          reg := fun p hp => by
            rcases List.mem_append.1 hp with h1 | h1
            · exact ((h.reg p h1).keep hkp).keep hk2
            · simp at h1
              subst h1
              exact hrgok
          fr := fun p hp => by
            rcases List.mem_append.1 hp with h1 | h1
            · exact h.fr p h1
            · simp at h1
              subst h1
              exact Nat.le_trans h.upd.size hrg
          pw := by
            rw [List.pairwise_append]
            refine ⟨h.pw, by simp, fun p hp q hq => ?_⟩
            simp at hq
            subst hq
            exact Nat.lt_of_lt_of_le (h.top p hp) hrg
          top := fun p hp => by
            rcases List.mem_append.1 hp with h1 | h1
            · exact Nat.lt_of_lt_of_le (h.top p h1) (Nat.le_trans hu.size hu2.size)
            · simp at h1
              subst h1
              exact hrlt
          fl := hf2
          sep := fun g hg => by
            rcases hb2 with h1 | ⟨g', h1, h2⟩
            · rw [h1] at hg
              exact ⟨(hs2 g hg).1, (h.sep g hg).2⟩
            · rw [h1] at hg
              cases hg
              refine ⟨fun e => ?_, Nat.le_trans (Nat.le_trans h.upd.size hu.size) h2⟩
              obtain ⟨cs, hb⟩ := mm2.ty g e
              have := hb.lt
              omega
          ab := by
            rcases hab with h1 | ⟨g, h1, h2⟩
            · rw [h1]; exact h.ab
            · exact .inr ⟨g, h1, Nat.le_trans h.upd.size h2⟩
          out := (h.out.of fun g cs _ hb => h.mach.blkT hu hb (by decide) (by decide)).ut hut (fun _ => notT (by decide))
          cls := (h.cls.keep hkp).keep hk2
          res := (h.mach.blkT hu h.res (by decide) (by decide)).ut hut (notT (by decide)) }
end Go.Proofs.Qxb6500884a
