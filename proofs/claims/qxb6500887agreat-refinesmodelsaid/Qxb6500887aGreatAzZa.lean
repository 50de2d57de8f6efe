/- What a step does, plainly; inside the steps. -/
import Derived.Test.Qxb6500887aGreatAzYh
namespace Go.Proofs.Qxb6500887aGreat
open Go.RowKit
set_option linter.unusedSimpArgs false
set_option linter.unusedVariables false

/-- A number out of a word. -/
def nbI (x : Int) : Int := wrap64 x
def rsG (c v u : Int) : List Value := if c = 0 then rsC 0 v u else rsC c 0 0
theorem rsG_len (c v u : Int) : (rsG c v u).length = 35 := by unfold rsG; split <;> rfl
theorem rsG_one (c v u : Int) : ∀ x ∈ rsG c v u, x.oneCell' = true := by
  unfold rsG
  split
  · exact rsC_one _ _ _
  · exact rsC_one _ _ _
theorem giveZ (v u c : Int) (w : World) : Calls Tryz.prog 56 #[.int .u64 v, .int .u64 u, .int .u8 c] w fun e w' => e = .returned (.agg (rsG c v u).toArray) ∧ Below w.heap.size w w' := give_walk v u c w
theorem flagZ (b : Bool) (w : World) : Calls Tryz.prog 61 #[.bool b] w fun e w' => e = .returned (.int .u64 ((bitN b : Nat) : Int)) ∧ w' = w := flag_walk b w
/-- An answer in memory. -/
structure RsOk (rs : List Value) : Prop where
  len : rs.length = 35
  one : ∀ x ∈ rs, x.oneCell' = true
  code : ∃ c : Int, rs.head? = some (.int .u8 c)
theorem RsOk.c (c v u : Int) : RsOk (rsC c v u) := ⟨rfl, rsC_one _ _ _, c, rfl⟩
theorem RsOk.g (c v u : Int) : RsOk (rsG c v u) := ⟨rsG_len _ _ _, rsG_one _ _ _, by unfold rsG; split; exact ⟨_, rfl⟩; exact ⟨_, rfl⟩⟩
theorem rsG_bad {c v u : Int} (h : c ≠ 0) : rsG c v u = rsC c 0 0 := if_neg h
/-- What a writing step does: the code, the answer, the arena. -/
noncomputable def plW (S : AS) (k : Nat) (a b c : Int) : Option (Int × Int × AS) := match k with
  | 1 => some ((storeA S a b).1, 0, (storeA S a b).2)
  | 2 => some ((zeroA S a (nbI b)).1, 0, (zeroA S a (nbI b)).2)
  | 6 => some ((formatA S a (nbI b) (nbI c)).1, 0, (formatA S a (nbI b) (nbI c)).2)
  | 8 => some ((eraseA S a).1, 0, (eraseA S a).2)
  | 12 => some ((arStoreRefA S a (nbI b) c).1, 0, (arStoreRefA S a (nbI b) c).2)
  | 14 => some ((arStoreDataA S a (nbI b) c).1, 0, (arStoreDataA S a (nbI b) c).2)
  | 17 => some ((setCountA S a (smallV b)).1, 0, (setCountA S a (smallV b)).2)
  | 19 => some ((setLoggedA S a (b != 0)).1, 0, (setLoggedA S a (b != 0)).2)
  | 20 => some (wantW a, ((bitN (if wantW a = 0 then !(((eN 1 64 S.L (wIx a) : Nat) : Int) == 0) else false) : Nat) : Int), tasLoggedA S a)
  | 21 => some ((fillLoggedA S a (nbI b) (c != 0)).1, 0, (fillLoggedA S a (nbI b) (c != 0)).2)
  | 22 => some (0, 0, clearLoggedA S)
  | 24 => some ((setMarkedA S a (b != 0)).1, 0, (setMarkedA S a (b != 0)).2)
  | 25 => some (wantO a, ((bitN (if wantO a = 0 then !(((eN 1 64 S.M (gIx a) : Nat) : Int) == 0) else false) : Nat) : Int), tasMarkedA S a)
  | 26 => some (0, 0, clearMarkedA S)
  | 27 => some ((cmBlockA S (nbI a)).1, 0, (cmBlockA S (nbI a)).2)
  | 29 => some ((occA S a (nbI b)).1, 0, (occA S a (nbI b)).2)
  | 30 => some ((vacA S a (nbI b)).1, 0, (vacA S a (nbI b)).2)
  | 35 => some ((scrubA S (nbI a) (nbI b)).1, 0, (scrubA S (nbI a) (nbI b)).2)
  | 43 => some ((setRefAtA S a b).1, 0, (setRefAtA S a b).2)
  | 54 => some (0, 0, resetA S)
  | _ => none
/-- What is told of a reading step's answer: a bad address is refused. -/
def Rd (k : Nat) (a : Int) (rs : List Value) : Prop := (k ∈ [0, 3, 42, 18, 46, 62] → ¬ InH a → rs = rsC 1 0 0) ∧ (k ∈ [7, 9, 10, 11, 13, 15, 44, 45, 47, 16, 23] → wantO a ≠ 0 → rs = rsC (wantO a) 0 0)
theorem Rd.free {k : Nat} {a : Int} {rs : List Value} (h1 : k ∉ [0, 3, 42, 18, 46, 62]) (h2 : k ∉ [7, 9, 10, 11, 13, 15, 44, 45, 47, 16, 23]) : Rd k a rs := ⟨fun h => absurd h h1, fun h => absurd h h2⟩
theorem Rd.word {k : Nat} {a : Int} {rs : List Value} (h : ¬ InH a → rs = rsC 1 0 0) (h2 : k ∉ [7, 9, 10, 11, 13, 15, 44, 45, 47, 16, 23]) : Rd k a rs := ⟨fun _ => h, fun h => absurd h h2⟩
theorem Rd.obj {k : Nat} {a : Int} {rs : List Value} (h : wantO a ≠ 0 → rs = rsC (wantO a) 0 0) (h2 : k ∉ [0, 3, 42, 18, 46, 62]) : Rd k a rs := ⟨fun h => absurd h h2, fun _ => h⟩
/-- A step: its answer and what becomes of the arena. -/
def PlR (S : AS) (k : Nat) (a b c : Int) (rs : List Value) (S' : AS) : Prop := (∀ r, plW S k a b c = some r → rs = rsG r.1 r.2.1 0 ∧ S' = r.2.2) ∧ (plW S k a b c = none → S' = S ∧ Rd k a rs)
theorem PlR.rd {S : AS} {k : Nat} {a b c : Int} {rs : List Value} (h : plW S k a b c = none) (hr : Rd k a rs) : PlR S k a b c rs S := ⟨fun r hr => (by rw [h] at hr; cases hr), fun _ => ⟨rfl, hr⟩⟩
theorem PlR.wr {S S' : AS} {k : Nat} {a b c cd v : Int} (h : plW S k a b c = some (cd, v, S')) : PlR S k a b c (rsG cd v 0) S' := ⟨fun r hr => (by rw [h] at hr; cases hr; exact ⟨rfl, rfl⟩), fun hn => (by rw [h] at hn; cases hn)⟩
theorem rsG_r (c : Int) : rsG c 0 0 = rsC c 0 0 := by
  unfold rsG
  split
  · rename_i h; rw [h]
  · rfl
def PyP (l : AL) (S : AS) (w : World) (k : Nat) (a b c : Int) (e : Ending) (w' : World) : Prop := ∃ rs S', e = .returned (.agg rs.toArray) ∧ Hid (RsOk rs ∧ AU l w S' w' ∧ PlR S k a b c rs S')
theorem PyP.mk {l : AL} {S S' : AS} {w w' : World} {k : Nat} {a b c : Int} {e : Ending} {rs : List Value} (he : e = .returned (.agg rs.toArray)) (h1 : RsOk rs) (h2 : AU l w S' w') (h3 : PlR S k a b c rs S') : PyP l S w k a b c e w' := ⟨rs, S', he, hid ⟨h1, h2, h3⟩⟩
/-- The blocks of an arena. -/
def AL.all (l : AL) : List Nat := [l.a, l.tc, l.tm, l.tl, l.tt, l.w, l.bc, l.bm, l.bl, l.bt]
theorem AM.lts {l : AL} {S : AS} {w : World} (h : AM l S w) : ∀ g ∈ l.all, g < w.heap.size := by
  have h1 := h.a.lt
  have h2 := h.ws.lt
  obtain ⟨h3, h4⟩ := h.tc.dom
  obtain ⟨h5, h6⟩ := h.tm.dom
  obtain ⟨h7, h8⟩ := h.tl.dom
  obtain ⟨h9, h0⟩ := h.tt.dom
  intro g hg
  simp only [AL.all, List.mem_cons, List.not_mem_nil, or_false] at hg
  rcases hg with rfl | rfl | rfl | rfl | rfl | rfl | rfl | rfl | rfl | rfl <;> assumption
theorem AL.wr_all {l : AL} {g : Nat} (h : g ∈ l.wr) : g ∈ l.all := by
  simp only [AL.wr, AL.all, List.mem_cons, List.not_mem_nil, or_false] at h ⊢
  rcases h with rfl | rfl | rfl | rfl | rfl | rfl <;> simp
/-- Inside a step: the operation in p, the answer's place in r. -/
structure PX (l : AL) (S : AS) (w0 : World) (p r : Nat) (oc : List Value) (w : World) : Prop where
  au : AU l w0 S w
  op : Blk w p 31 oc
  rb : Blk w r 46 (rsC 0 0 0)
  lp : w0.heap.size ≤ p
  lr : w0.heap.size ≤ r
  al : ∀ g ∈ l.all, g < w0.heap.size
section
variable {l : AL} {S S' : AS} {w w' w0 : World} {p r : Nat} {oc : List Value}
theorem PX.am (h : PX l S w0 p r oc w) : AM l S w := h.au.m
theorem PX.below (h : PX l S w0 p r oc w) (hb : Below w.heap.size w w') : PX l S w0 p r oc w' := ⟨h.au.below hb, h.op.below hb, h.rb.below hb, h.lp, h.lr, h.al⟩
theorem PX.step (h : PX l S w0 p r oc w) (hu : AU l w S' w') : PX l S' w0 p r oc w' := ⟨h.au.trans hu, hu.u.blk h.op (fun hm => by have := h.al _ (AL.wr_all hm); have := h.lp; omega), hu.u.blk h.rb (fun hm => by have := h.al _ (AL.wr_all hm); have := h.lr; omega), h.lp, h.lr, h.al⟩
theorem PX.done (h : PX l S w0 p r oc w) (hu : Upd r w w') : AU l w0 S w' := by
  refine ⟨h.au.m.upd hu (fun k hk => by have := h.al k hk; have := h.lr; omega), ⟨hu.os.trans h.au.u.os, hu.tape.trans h.au.u.tape, hu.output.trans h.au.u.output, Nat.le_trans h.au.u.size hu.size, fun k hk hn => ?_⟩⟩
  have := h.lr
  rw [hu.block k (Nat.lt_of_lt_of_le hk h.au.u.size) (by omega)]
  exact h.au.u.block k hk hn
theorem PX.start (h : AM l S w) (hp : w.heap.size = p) (hr : p + 1 = r) : PX l S w p r oc ((w.alloc (.cells oc.toArray 31)).alloc (.cells (rsC 0 0 0).toArray 46)) := by
  have k1 := Blk.new w oc 31
  rw [hp] at k1
  have k2 := Blk.new (w.alloc (.cells oc.toArray 31)) (rsC 0 0 0) 46
  rw [World.size_alloc, hp, hr] at k2
  exact ⟨((AU.start h).below (nbel w _)).below (nbel _ _), k1.below (nbel _ _), k2, by omega, by omega, h.lts⟩
theorem PX.cells {k a b c : Int} (h : PX l S w0 p r [.int .u8 k, .int .u64 a, .int .u64 b, .int .u64 c] w) : w.cell? ⟨p, 0, none⟩ = some (.int .u8 k) ∧ w.cell? ⟨p, 1, none⟩ = some (.int .u64 a) ∧ w.cell? ⟨p, 2, none⟩ = some (.int .u64 b) ∧ w.cell? ⟨p, 3, none⟩ = some (.int .u64 c) := ⟨h.op.cell 0, h.op.cell 1, h.op.cell 2, h.op.cell 3⟩
/-- Callees, told inside a step. -/
theorem PX.pure {f : FuncId} {args : Array Value} {v : Value} (h : PX l S w0 p r oc w) (hc : Calls Tryz.prog f args w fun e w' => e = .returned v ∧ w' = w) : Calls Tryz.prog f args w fun e w' => e = .returned v ∧ Hid (PX l S w0 p r oc w') := hc.mono (by rintro e w1 ⟨rfl, rfl⟩; exact ⟨rfl, hid h⟩)
theorem PX.bel {f : FuncId} {args : Array Value} {v : Value} (h : PX l S w0 p r oc w) (hc : Calls Tryz.prog f args w fun e w' => e = .returned v ∧ Below w.heap.size w w') : Calls Tryz.prog f args w fun e w' => e = .returned v ∧ Hid (PX l S w0 p r oc w') := hc.mono (by rintro e w1 ⟨rfl, hb⟩; exact ⟨rfl, hid (h.below hb)⟩)
theorem PX.drw {f : FuncId} {args : Array Value} {v : Value} (h : PX l S w0 p r oc w) (hc : Calls Tryz.prog f args w fun e w' => e = .returned v ∧ Drew w w') : Calls Tryz.prog f args w fun e w' => e = .returned v ∧ Hid (PX l S w0 p r oc w') := hc.mono (by rintro e w1 ⟨rfl, hb⟩; exact ⟨rfl, hid (h.below (hb.below _))⟩)
theorem PX.upd {f : FuncId} {args : Array Value} {v : Value} (h : PX l S w0 p r oc w) (hc : Calls Tryz.prog f args w fun e w' => e = .returned v ∧ Hid (AU l w S' w')) : Calls Tryz.prog f args w fun e w' => e = .returned v ∧ Hid (PX l S' w0 p r oc w') := hc.mono (by rintro e w1 ⟨rfl, hb⟩; exact ⟨rfl, hid (h.step hb.out)⟩)
end
end Go.Proofs.Qxb6500887aGreat
