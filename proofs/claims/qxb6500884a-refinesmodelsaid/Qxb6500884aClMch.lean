/- The machine: its registers; reg, push. -/
import Derived.Test.Qxb6500884aClMem
import Derived.Test.Qxb6500884aFile
import Derived.Test.Qxb6500884aHeavy
import Derived.Test.Qxb6500884aPut
namespace Go.Proofs.Qxb6500884a
open Go.RowKit
set_option linter.unusedSimpArgs false
set_option linter.unusedVariables false

theorem IvRow.inj {w : World} {a : Option Addr} {n c : Nat} {l l' : List (Int × Int)} (h : IvRow w a n c l) (h' : IvRow w a n c l') : l = l' := by
  apply List.ext_getElem?
  intro i
  by_cases hi : i < n
  · obtain ⟨p, hp, _, _, b, off, ha, _, e1, e2⟩ := h.get hi
    obtain ⟨p', hp', _, _, b', off', ha', _, e1', e2'⟩ := h'.get hi
    rw [ha] at ha'
    cases ha'
    rw [e1] at e1'
    rw [e2] at e2'
    simp at e1' e2'
    rw [hp, hp']
    congr 1
    exact Prod.ext e1' e2'
  · have h1 := h.len
    have h2 := h'.len
    rw [List.getElem?_eq_none (by omega), List.getElem?_eq_none (by omega)]
/-- The blocks of registers, intervals and tables are as they were. -/
def KeepT (w w' : World) : Prop := ∀ (k : Nat) (cs : Array Value) (t : TypeId) (fz : Nat × Nat), (t = 40 ∨ t = 67 ∨ t = 4) → w.heap[k]? = some (Obj.cells cs t fz) → w'.heap[k]? = some (Obj.cells cs t fz)
theorem KeepT.trans {a b c : World} (h : KeepT a b) (k : KeepT b c) : KeepT a c := fun i cs t fz ht hb => k i cs t fz ht (h i cs t fz ht hb)
theorem KeepT.refl (w : World) : KeepT w w := fun _ _ _ _ _ h => h
theorem KeepT.below {w w' : World} (h : Below w.heap.size w w') : KeepT w w' := fun k cs t fz _ hb => by rw [h.block k (Array.getElem?_eq_some_iff.1 hb).1]; exact hb
theorem KeepT.upd {w w' : World} {g : Nat} {t : TypeId} {ds : List Value} (hb : Blk w g t ds) (ht : t ≠ 40 ∧ t ≠ 67 ∧ t ≠ 4) (hu : Upd g w w') : KeepT w w' := fun k cs t' fz ht' hk => by
  have hne : k ≠ g := fun e => by
    subst e
    unfold Blk at hb
    rw [hb] at hk
    injection hk with h1
    injection h1 with _ h2
    subst h2
    rcases ht' with h | h | h
    · exact ht.1 h
    · exact ht.2.1 h
    · exact ht.2.2 h
  rw [hu.block k (Array.getElem?_eq_some_iff.1 hk).1 hne]
  exact hk
theorem Ty67.keep {w w' : World} {a : Option Addr} {n : Nat} (h : Ty67 w a n) (hk : KeepT w w') : Ty67 w' a n := fun hn b off e => by
  obtain ⟨cs, fz, h1⟩ := h hn b off e
  exact ⟨cs, fz, hk b cs _ fz (.inr (.inl rfl)) h1⟩
theorem IvRow.keep {w w' : World} {a : Option Addr} {n c : Nat} {l : List (Int × Int)} (h : IvRow w a n c l) (ht : Ty67 w a n) (hk : KeepT w w') : IvRow w' a n c l := by
  refine ⟨⟨h.1.1, h.1.2.1, h.1.2.2.1, fun i hi => ?_⟩, h.2⟩
  obtain ⟨b, off, ha, hlt, hc⟩ := h.1.2.2.2 i hi
  obtain ⟨cs, fz, h1⟩ := ht (by have := h.len; omega) b off ha
  have h2 := hk b cs _ fz (.inr (.inl rfl)) h1
  refine ⟨b, off, ha, (Array.getElem?_eq_some_iff.1 h2).1, fun j hj => ?_⟩
  rw [← hc j hj]
  simp only [World.cell?, h1, h2]
theorem Blk.keep {w w' : World} {g : Nat} {t : TypeId} {cs : List Value} (h : Blk w g t cs) (ht : t = 40 ∨ t = 67 ∨ t = 4) (hk : KeepT w w') : Blk w' g t cs := hk g _ t _ ht h
/-- A register: a class in normal form; its table, once it is asked for. -/
structure RegOk (w : World) (r : Nat) (l : List (Int × Int)) : Prop where
  nrm : Nrm l
  out : ∃ a n c tb, Blk w r 40 [.slice a n c, tb] ∧ IvRow w a n c l ∧ Ty67 w a n ∧ (tb = .slice none 0 0 ∨ ∃ g, tb = .slice (some ⟨g, 0, none⟩) 196608 196608 ∧ Blk w g 4 (tabL fun i => memB l (i : Int)))
theorem RegOk.keep {w w' : World} {r : Nat} {l : List (Int × Int)} (h : RegOk w r l) (hk : KeepT w w') : RegOk w' r l := by
  obtain ⟨a, n, c, tb, h1, h2, h3, h4⟩ := h.out
  refine ⟨h.nrm, a, n, c, tb, h1.keep (.inl rfl) hk, h2.keep h3 hk, h3.keep hk, ?_⟩
  rcases h4 with h4 | ⟨g, h4, h5⟩
  · exact .inl h4
  · exact .inr ⟨g, h4, h5.keep (.inr (.inr rfl)) hk⟩
theorem RegOk.below {w w' : World} {r : Nat} {l : List (Int × Int)} (h : RegOk w r l) (hb : Below w.heap.size w w') : RegOk w' r l := h.keep (KeepT.below hb)
/-- The file of registers. -/
structure Mach (mb : Nat) (a : Option Addr) (S : List (Nat × List (Int × Int))) (w : World) : Prop where
  len : S.length ≤ 12
  out : ∃ c, Blk w mb 46 [.slice a S.length c] ∧ Fl w 38 a S.length c (S.map fun p => .pointer (some ⟨p.1, 0, none⟩))
  regs : ∀ p ∈ S, RegOk w p.1 p.2
theorem Mach.below {mb : Nat} {a : Option Addr} {S : List (Nat × List (Int × Int))} {w w' : World} (h : Mach mb a S w) (hb : Below w.heap.size w w') : Mach mb a S w' := by
  obtain ⟨c, h1, h2⟩ := h.out
  exact ⟨h.len, ⟨c, h1.below hb, h2.below hb⟩, fun p hp => (h.regs p hp).below hb⟩
/-- All blocks that stood are as they were, but for the machine's own and its file's. -/
structure UpdM (mb : Nat) (o : Option Nat) (w w' : World) : Prop where
  os : w'.os = w.os
  tape : w'.tape = w.tape
  output : w'.output = w.output
  size : w.heap.size ≤ w'.heap.size
  block : ∀ k, k < w.heap.size → k ≠ mb → o ≠ some k → w'.heap[k]? = w.heap[k]?
theorem UpdM.ofBelow {mb : Nat} {o : Option Nat} {w w' : World} (h : Below w.heap.size w w') : UpdM mb o w w' := ⟨h.os, h.tape, h.output, h.size, fun k hk _ _ => h.block k hk⟩
theorem UpdM.trans {mb : Nat} {o o' : Option Nat} {a b c : World} (h : UpdM mb o a b) (k : UpdM mb o' b c) (ho : ∀ x, o' = some x → o = some x ∨ a.heap.size ≤ x) : UpdM mb o a c :=
  ⟨k.os.trans h.os, k.tape.trans h.tape, k.output.trans h.output, Nat.le_trans h.size k.size, fun i hi h1 h2 => (k.block i (Nat.lt_of_lt_of_le hi h.size) h1 (fun e => by rcases ho i e with h3 | h3; exact h2 h3; omega)).trans (h.block i hi h1 h2)⟩
theorem UpdM.ofUpd {mb : Nat} {o : Option Nat} {a b c : World} (h : UpdM mb o a b) (k : Upd mb b c) : UpdM mb o a c :=
  ⟨k.os.trans h.os, k.tape.trans h.tape, k.output.trans h.output, Nat.le_trans h.size k.size, fun i hi h1 h2 => (k.block i (Nat.lt_of_lt_of_le hi h.size) h1).trans (h.block i hi h1 h2)⟩
theorem UpdM.keep {mb : Nat} {a : Option Addr} {S : List (Nat × List (Int × Int))} {w w' : World} (h : Mach mb a S w) (hu : UpdM mb (blkO a) w w') : KeepT w w' := fun k cs t fz ht hk => by
  obtain ⟨c, h1, h2⟩ := h.out
  have hne1 : k ≠ mb := fun e => by
    subst e
    unfold Blk at h1
    rw [h1] at hk
    injection hk with h3
    injection h3 with _ h4
    subst h4
    rcases ht with h | h | h <;> exact absurd h (by decide)
  have hne2 : blkO a ≠ some k := fun e => by
    obtain ⟨ds, hd⟩ := h2.ty k e
    unfold Blk at hd
    rw [hd] at hk
    injection hk with h3
    injection h3 with _ h4
    subst h4
    rcases ht with h | h | h <;> exact absurd h (by decide)
  rw [hu.block k (Array.getElem?_eq_some_iff.1 hk).1 hne1 hne2]
  exact hk
def regIx (n : Nat) (i : Int) : Nat := (i % (n : Int)).toNat
theorem regIx_lt {n : Nat} (h : 0 < n) (i : Int) : regIx n i < n := by
  have h1 := Int.emod_nonneg i (show (n : Int) ≠ 0 by omega)
  have h2 := Int.emod_lt_of_pos i (show (0 : Int) < (n : Int) by omega)
  unfold regIx
  omega
theorem regIx_tmod {n : Nat} (h : 0 < n) (i : Int) : (regIx n i : Int) = if i.tmod (n : Int) < 0 then i.tmod (n : Int) + (n : Int) else i.tmod (n : Int) := by
  have h1 := Int.emod_nonneg i (show (n : Int) ≠ 0 by omega)
  have h2 := Int.emod_lt_of_pos i (show (0 : Int) < (n : Int) by omega)
  have h3 := @Int.tmod_eq_emod i (n : Int)
  unfold regIx
  have h4 : ((n : Int).natAbs : Int) = (n : Int) := by omega
  split at h3
  · rw [if_neg (by omega)]
    omega
  · rw [if_pos (by omega)]
    omega
theorem Mach.at {mb : Nat} {a : Option Addr} {S : List (Nat × List (Int × Int))} {w : World} (h : Mach mb a S w) {k : Nat} (hk : k < S.length) : ∃ p c g off, S[k]? = some p ∧ RegOk w p.1 p.2 ∧ a = some ⟨g, off, none⟩ ∧ w.cell? ⟨mb, 0, none⟩ = some (.slice a S.length c) ∧ w.cell? ⟨g, off + k, none⟩ = some (.pointer (some ⟨p.1, 0, none⟩)) := by
  obtain ⟨c, h1, h2⟩ := h.out
  obtain ⟨g, off, ha, hc⟩ := h2.cell hk
  have hp : S[k]? = some S[k] := List.getElem?_eq_getElem hk
  refine ⟨S[k], c, g, off, hp, h.regs _ (List.getElem_mem _), ha, h1.cell 0, ?_⟩
  rw [hc, List.getElem?_map, hp]
  rfl
set_option maxRecDepth 100000 in
set_option maxHeartbeats 1000000 in
theorem reg_walk (mb : Nat) (a : Option Addr) (S : List (Nat × List (Int × Int))) (i : Int) (p : Nat × List (Int × Int)) (w : World) (h : Mach mb a S w) (hf : Fit i) (h0 : 0 < S.length) (hp : S[regIx S.length i]? = some p) :
    Calls Try.prog 20 #[.pointer (some ⟨mb, 0, none⟩), .int .i64 i] w fun e w' => e = .returned (.pointer (some ⟨p.1, 0, none⟩)) ∧ w' = w := by
  obtain ⟨p', c, g, off, hp', hok, rfl, c0, c1⟩ := h.at (regIx_lt h0 i)
  rw [hp] at hp'
  cases hp'
  have ht := regIx_tmod h0 i
  have hlt := regIx_lt h0 i
  have hlen := h.len
  obtain ⟨n, hn⟩ : ∃ n, S.length = n := ⟨_, rfl⟩
  rw [hn] at ht hlt hlen c0 c1 h0
  obtain ⟨k, hk⟩ : ∃ k, regIx n i = k := ⟨_, rfl⟩
  rw [hk] at ht hlt c1
  obtain ⟨z, hz⟩ : ∃ z, i.tmod (n : Int) = z := ⟨_, rfl⟩
  rw [hz] at ht
  have hz1 : -12 ≤ z ∧ z ≤ 12 := by split at ht <;> omega
  have hn0 : ((n : Int) == 0) = false := by simp; omega
  have hn1 : ¬ (n : Int) = 0 := by omega
  obtain ⟨hf1, hf2⟩ := hf
  clear h hp hok hn hk
  by_cases hneg : z < 0
  · have dz : decide (z < 0) = true := decide_eq_true hneg
    rw [if_pos hneg] at ht
    have hk2 : z + (n : Int) = (k : Int) := by omega
    have i1 : (k : Int) < (n : Int) := by omega
    clear ht
    go_enter Try.func20, Try.ntmps20
    go_wp2
    go_ret
    exact ⟨rfl, rfl⟩
  · have dz : decide (z < 0) = false := decide_eq_false hneg
    rw [if_neg hneg] at ht
    subst ht
    have i1 : (k : Int) < (n : Int) := by omega
    go_enter Try.func20, Try.ntmps20
    go_wp2
    go_ret
    exact ⟨rfl, rfl⟩
end Go.Proofs.Qxb6500884a
