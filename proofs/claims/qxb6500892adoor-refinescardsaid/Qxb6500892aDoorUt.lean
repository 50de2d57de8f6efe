/- Updates told by the kind of the blocks that they touch. Nothing here speaks of one program. -/
import Derived.Test.Qxb6500892aDoorFile
import Derived.Maps.OwnSet
namespace Go.Proofs.Qxb6500892aDoor
open Go.RowKit
set_option linter.unusedSimpArgs false
set_option linter.unusedVariables false

/-- All blocks that stood and do not answer to p are as they were. -/
structure UT (p : Obj → Prop) (w w' : World) : Prop where
  os : w'.os = w.os
  tape : w'.tape = w.tape
  output : w'.output = w.output
  size : w.heap.size ≤ w'.heap.size
  block : ∀ (k : Nat) (o : Obj), w.heap[k]? = some o → ¬ p o → w'.heap[k]? = some o
def ofT (t : TypeId) (o : Obj) : Prop := ∃ cs fz, o = .cells cs t fz
def ofM (o : Obj) : Prop := ∃ es c, o = .map es c
theorem UT.refl (p : Obj → Prop) (w : World) : UT p w w := ⟨rfl, rfl, rfl, Nat.le_refl _, fun _ _ h _ => h⟩
theorem UT.trans {p : Obj → Prop} {a b c : World} (h : UT p a b) (k : UT p b c) : UT p a c :=
  ⟨k.os.trans h.os, k.tape.trans h.tape, k.output.trans h.output, Nat.le_trans h.size k.size, fun i o hi hp => k.block i o (h.block i o hi hp) hp⟩
theorem UT.below {p : Obj → Prop} {w w' : World} (h : Below w.heap.size w w') : UT p w w' :=
  ⟨h.os, h.tape, h.output, h.size, fun k o hk _ => by rw [h.block k (Array.getElem?_eq_some_iff.1 hk).1]; exact hk⟩
theorem UT.updO {t : TypeId} {o : Option Nat} {w w' : World} (h : UpdO o w w') (ht : ∀ k, o = some k → ∃ cs, Blk w k t cs) : UT (ofT t) w w' :=
  ⟨h.os, h.tape, h.output, h.size, fun k ob hk hp => by
    rw [h.block k (Array.getElem?_eq_some_iff.1 hk).1 (fun e => ?_)]
    · exact hk
    · obtain ⟨cs, hc⟩ := ht k e
      unfold Blk at hc
      rw [hc] at hk
      exact hp ⟨_, _, (Option.some.inj hk).symm⟩⟩
theorem UT.upd {t : TypeId} {g : Nat} {w w' : World} {cs : List Value} (h : Upd g w w') (hb : Blk w g t cs) : UT (ofT t) w w' :=
  ⟨h.os, h.tape, h.output, h.size, fun k ob hk hp => by
    rw [h.block k (Array.getElem?_eq_some_iff.1 hk).1 (fun e => ?_)]
    · exact hk
    · subst e
      unfold Blk at hb
      rw [hb] at hk
      exact hp ⟨_, _, (Option.some.inj hk).symm⟩⟩
theorem UT.grown {w w' : World} {b : Nat} (h : w.grownBy w' (some b)) (hb : ∃ es c, w.heap[b]? = some (.map es c)) : UT ofM w w' :=
  ⟨h.os, h.tape, h.output, h.size, fun k ob hk hp => by
    rw [h.block k (Array.getElem?_eq_some_iff.1 hk).1 (fun e => ?_)]
    · exact hk
    · obtain ⟨es, c, hm⟩ := hb
      cases e
      rw [hm] at hk
      exact hp ⟨_, _, (Option.some.inj hk).symm⟩⟩
theorem notT {t t' : TypeId} {cs : Array Value} {fz : Nat × Nat} (h : t' ≠ t) : ¬ ofT t (.cells cs t' fz) := fun ⟨_, _, e⟩ => h (by injection e)
theorem notM {t' : TypeId} {cs : Array Value} {fz : Nat × Nat} : ¬ ofM (.cells cs t' fz) := fun ⟨_, _, e⟩ => by cases e
theorem Blk.ut {p : Obj → Prop} {w w' : World} {g : Nat} {t' : TypeId} {cs : List Value} (h : Blk w g t' cs) (hu : UT p w w') (hne : ¬ p (.cells cs.toArray t' (0, 0))) : Blk w' g t' cs := hu.block g _ h hne
theorem Fl.ut {p : Obj → Prop} {w w' : World} {e : TypeId} {a : Option Addr} {n c : Nat} {xs : List Value} (h : Fl w e a n c xs) (hu : UT p w w') (hne : ∀ cs, ¬ p (.cells cs e (0, 0))) : Fl w' e a n c xs := h.of fun k cs _ hc => hc.ut hu (hne _)
theorem owns_ut {p : Obj → Prop} {w w' : World} {base : Nat} {e : TypeId} {sz : Nat} {v : Value} {n : Nat} {xs : List Value} (h : w.ownsRow base e sz v n xs) (hu : UT p w w') (hne : ∀ cs, ¬ p (.cells cs e (0, 0))) : w'.ownsRow base e sz v n xs := by
  refine ⟨h.1, ?_⟩
  rcases h.2 with h2 | ⟨g, cap, cur, h1, h2, hg, h3⟩
  · exact .inl h2
  · exact .inr ⟨g, cap, cur, h1, h2, hu.block g _ hg (hne _), h3⟩
theorem map_ut {H : Type} {P : Program} {k : TypeId} {R : Value → Option (DataW H × List MemPlace)} {p : Obj → Prop} {w w' : World} {b n : Nat} {D : DataW H} (h : w.ownsMap P k R b n D) (hu : UT p w w') (hne : ∀ es c, ¬ p (.map es c)) : w'.ownsMap P k R b n D := by
  obtain ⟨es, clock, hb, F, hs, hD⟩ := h
  exact ⟨es, clock, hu.block b _ hb (hne _ _), F, hs, hD⟩
theorem map_at {H : Type} {P : Program} {k : TypeId} {R : Value → Option (DataW H × List MemPlace)} {w : World} {b n : Nat} {D : DataW H} (h : w.ownsMap P k R b n D) : ∃ es c, w.heap[b]? = some (.map es c) := by
  obtain ⟨es, clock, hb, _⟩ := h
  exact ⟨es, clock, hb⟩
theorem UT.lt {p : Obj → Prop} {w w' : World} (hu : UT p w w') {B : Nat} (hB : B ≤ w.heap.size) (hp : ∀ k, k < B → ∀ o, w.heap[k]? = some o → ¬ p o) : Below B w w' :=
  ⟨hu.os, hu.tape, hu.output, hu.size, fun k hk => by
    have : w.heap[k]? = some w.heap[k] := Array.getElem?_eq_getElem (by omega)
    rw [this]
    exact hu.block k _ this (hp k hk _ this)⟩
end Go.Proofs.Qxb6500892aDoor
