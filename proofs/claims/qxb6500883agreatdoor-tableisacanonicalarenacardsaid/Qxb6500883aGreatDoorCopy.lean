/- The builtin copy into a block of the call's own, whatever the element's size: as a run, as a step of a walk, as a step of a region that draws. -/
import Derived.Test.Qxb6500883aGreatDoorBlk
import Derived.Laws.CopyRow
import Derived.Laws.IdiomCopy
import Derived.Deep.RegionLaw
namespace Go.Proofs.Qxb6500883aGreatDoor
open Go.RowKit
set_option linter.unusedSimpArgs false
set_option linter.unusedVariables false

def splice (cs : List Value) (o : Nat) (ns : List Value) : List Value := cs.take o ++ ns ++ cs.drop (o + ns.length)

theorem Upd.setRow {g : Nat} {w : World} (cs : Array Value) : Upd g w (w.setRow g cs) :=
  ⟨rfl, rfl, rfl, by simp [World.setRow], fun k _ hk => setRow_other w g k _ hk⟩

section
variable {P : Program} (w : World)
theorem run_copy_blk (dT sT ty elem : TypeId) (i : TypeInfo) (size : Nat) (hu : P.underlying dT = some (.slice elem)) (hi : P.info? elem = some i) (hsz : i.size = size)
    (dp sp : Option Addr) (dLen dCap sLen sCap : Nat) (g o : Nat) (t : TypeId) (cs ns : List Value) (hb : Blk w g t cs) (hn : ns.length = Nat.min sLen dLen * size)
    (hpos : 0 < Nat.min sLen dLen → dp = some ⟨g, o, none⟩ ∧ ∃ ad, sp = some ad ∧ ∀ j v, ns[j]? = some v → w.cell? (ad.add j) = some v) (hfit : o + ns.length ≤ cs.length) (h1 : ∀ v ∈ ns, v.oneCell' = true) :
    ∃ w', (Builtin.copy_ #[dT, sT] ty #[.slice dp dLen dCap, .slice sp sLen sCap]).run P w = .ok (goInt (Nat.min sLen dLen)) w' ∧ Blk w' g t (splice cs o ns) ∧ Upd g w w' := by
  subst hsz
  by_cases h0 : Nat.min sLen dLen = 0
  · have hn0 : ns = [] := List.eq_nil_of_length_eq_zero (by rw [hn, h0, Nat.zero_mul])
    subst hn0
    refine ⟨w, ?_, by simpa [splice] using hb, Upd.refl _ _⟩
    have hl : ∀ (x : Addr), (loadCells x 0).run P w = .ok #[] w := fun x => by simpa using run_loadCells_list (P := P) w x [] (by simp)
    cases dp <;> cases sp <;> simp [Builtin.copy_, run_underlying hu, Builtin.lenOf, Builtin.firstCells, sizeOf, typeInfo, hi, h0, storeCells, hl]
  · obtain ⟨rfl, ad, rfl, hsrc⟩ := hpos (by omega)
    have hl := run_loadCells_list (P := P) w ad ns hsrc
    have hst := run_storeCells_at P g o t ns 0 cs.toArray w hb (by simpa using hfit) h1
    rw [hn] at hl
    refine ⟨_, ?_, setRow_heap w g _ _ t _ hb, Upd.setRow _⟩
    · simp [Builtin.copy_, run_underlying hu, Builtin.lenOf, Builtin.firstCells, sizeOf, typeInfo, hi, hl, hst, splice]

theorem wpList_copy_blk {ops : Array Oper} {rest : List Oper} {oo : Oper} {a : Act} {Q : Exit → Act → World → Prop} (hgd : oo.guard = none) (d s : Operand) (dT sT : TypeId)
    (ho : oo.op = .call { callee := .builtin .copy, args := #[d, s], argTypes := #[dT, sT] }) (elem : TypeId) (i : TypeInfo) (size : Nat) (hu : P.underlying dT = some (.slice elem)) (hi : P.info? elem = some i) (hsz : i.size = size)
    (dp sp : Option Addr) (dLen dCap sLen sCap : Nat) (hd : a.eval d = .slice dp dLen dCap) (hs : a.eval s = .slice sp sLen sCap) (g o : Nat) (t : TypeId) (cs ns : List Value) (m : Nat) (hm : Nat.min sLen dLen = m) (hb : Blk w g t cs) (hn : ns.length = m * size)
    (hpos : 0 < m → dp = some ⟨g, o, none⟩ ∧ ∃ ad, sp = some ad ∧ ∀ j v, ns[j]? = some v → w.cell? (ad.add j) = some v) (hfit : o + ns.length ≤ cs.length) (h1 : ∀ v ∈ ns, v.oneCell' = true)
    (h : ∀ w', Hid (Blk w' g t (splice cs o ns)) → Hid (Upd g w w') → wpList P ops Q rest (a.put oo.dst (goInt m)) w') : wpList P ops Q (oo :: rest) a w := by
  subst hm
  refine wpList_plain hgd fun _ hK => ?_
  obtain ⟨w', hr, h2, h3⟩ := run_copy_blk (P := P) w dT sT oo.type elem i size hu hi hsz dp sp dLen dCap sLen sCap g o t cs ns hb hn hpos hfit h1
  unfold Oper.wp execOp
  simp only [ho, resolve, invoke, builtin, Sem.run_bind, Sem.run_pure, Result.andThen_ok, List.map_toArray, List.map_cons, List.map_nil, hd, hs, hr]
  exact hK _ _ (h w' h2 h3)

theorem step_copy_blk {ops : Array Oper} {oo : Oper} {a : Act} {K : Act → World → Prop} {Q : Exit → Act → World → Prop} {E : Prop} (hgd : oo.guard = none) (d s : Operand) (dT sT : TypeId)
    (ho : oo.op = .call { callee := .builtin .copy, args := #[d, s], argTypes := #[dT, sT] }) (elem : TypeId) (i : TypeInfo) (size : Nat) (hu : P.underlying dT = some (.slice elem)) (hi : P.info? elem = some i) (hsz : i.size = size)
    (dp sp : Option Addr) (dLen dCap sLen sCap : Nat) (hd : a.eval d = .slice dp dLen dCap) (hs : a.eval s = .slice sp sLen sCap) (g o : Nat) (t : TypeId) (cs ns : List Value) (m : Nat) (hm : Nat.min sLen dLen = m) (hb : Blk w g t cs) (hn : ns.length = m * size)
    (hpos : 0 < m → dp = some ⟨g, o, none⟩ ∧ ∃ ad, sp = some ad ∧ ∀ j v, ns[j]? = some v → w.cell? (ad.add j) = some v) (hfit : o + ns.length ≤ cs.length) (h1 : ∀ v ∈ ns, v.oneCell' = true)
    (h : ∀ w', Hid (Blk w' g t (splice cs o ns)) → Hid (Upd g w w') → K (a.put oo.dst (goInt m)) w') :
    if Region.wanted oo (yielded ops a.tmps) = true then Oper.wp P oo a w K Q else E := by
  subst hm
  have hw : Region.wanted oo (yielded ops a.tmps) = true := by simp [Region.wanted, hgd]
  rw [if_pos hw]
  obtain ⟨w', hr, h2, h3⟩ := run_copy_blk (P := P) w dT sT oo.type elem i size hu hi hsz dp sp dLen dCap sLen sCap g o t cs ns hb hn hpos hfit h1
  unfold Oper.wp execOp
  simp only [ho, resolve, invoke, builtin, Sem.run_bind, Sem.run_pure, Result.andThen_ok, List.map_toArray, List.map_cons, List.map_nil, hd, hs, hr]
  exact h w' h2 h3
end
end Go.Proofs.Qxb6500883aGreatDoor
