/- The law TableIsACanonicalArena: the memory of its second half. -/
import Derived.Test.Qxb6500883aGreatDoorScUg
import Derived.Test.Qxb6500883aGreatDoorScRb
namespace Go.Proofs.Qxb6500883aGreatDoor
open Go.RowKit
set_option linter.unusedSimpArgs false
set_option linter.unusedVariables false
theorem slice_dk {a : Option Addr} {n k : Nat} (hs : ∀ ad, a = some ad → ad.spot = none) (h3 : k ≤ n) (w : World) : (Instr.sliceAt 71 (.slice a n n) none (some (.int .i64 (k : Int))) none).run Tryz.prog w = .ok (.slice a k n) w := by
  have e5 : (k : Int) ≤ (n : Int) := by omega
  have e7 : ¬ (n < k) := by omega
  cases a with
  | none => simp [Instr.sliceAt, go_sem, Instr.sliceBounds, e5, e7, Addr.add, h3]
  | some ad =>
    obtain ⟨b, o, sp⟩ := ad
    have : sp = none := hs _ rfl
    subst this
    simp [Instr.sliceAt, go_sem, Instr.sliceBounds, e5, e7, Addr.add, h3]
theorem RwBo.rdg {w : World} {g n : Nat} {f : Nat → Bool} (h : RwBo w g n f) : Rdg w (some ⟨g, 0, none⟩) n (((List.range n).map f).map fun (x : Bool) => Value.bool x) :=
  ⟨by simp, fun i v hv => by
    refine ⟨g, 0, rfl, ?_⟩
    have hi : i < n := by have := (List.getElem?_eq_some_iff.1 hv).1; simpa using this
    rw [List.getElem?_map, List.getElem?_map, List.getElem?_range hi] at hv
    rw [Nat.zero_add, h.get hi]
    exact hv⟩
theorem RwBo.below {w w' : World} {g n : Nat} {f : Nat → Bool} (h : RwBo w g n f) (hb : Below w.heap.size w w') : RwBo w' g n f := Blk.below h hb
theorem sameMarks {w w1 : World} {g g' n c d : Nat} {f f' : Nat → Bool} {P : Nat → Prop} (h : RwBo w g n f) (hf : ∀ j, f j = true ↔ P j) (hb : Below w.heap.size w w1) (k : RwBo w1 g' n f') (hk : ∀ j, f' j = true ↔ P j) (hn : n ≤ 200000) : Calls Tryz.prog 40 #[.slice (some ⟨g, 0, none⟩) n c, .slice (some ⟨g', 0, none⟩) n d] w1 fun e w' => e = .returned (.bool true) ∧ Hid (Below w1.heap.size w1 w') := by
  have hff : f = f' := by
    funext j
    rw [Bool.eq_iff_iff]
    exact (hf j).trans (hk j).symm
  subst hff
  exact sameBoolW (h.below hb).rdg k.rdg (by omega)
/-- With the map 'firstAlias'. -/
structure LwA (w3 : World) (tB pt gu nt ma : Nat) (fu : Nat → Bool) (fa : Int → Option Value) (w : World) : Prop where
  b : Below w3.heap.size w3 w
  p : Blk w pt 24 [.pointer (some ⟨tB, 0, none⟩)]
  us : RwBo w gu nt fu
  fm : MG (fun z : Int => Value.int .i32 z) w ma fa
  lp : w3.heap.size ≤ pt
  lu : w3.heap.size ≤ gu
  la : w3.heap.size ≤ ma
  ne : pt ≠ gu
section
variable {w3 w w' : World} {tB pt gu nt ma q : Nat} {fu : Nat → Bool} {fa : Int → Option Value} {cs : List Value}
theorem LwA.below (h : LwA w3 tB pt gu nt ma fu fa w) (hb : Below w.heap.size w w') : LwA w3 tB pt gu nt ma fu fa w' :=
  ⟨h.b.trans (hb.mono h.b.size), h.p.below hb, Blk.below h.us hb, h.fm.below hb, h.lp, h.lu, h.la, h.ne⟩
theorem blk_ne {t : TypeId} {ds : List Value} (h : RwBo w gu nt fu) (k : Blk w q t ds) (ht : t ≠ 4) : q ≠ gu := fun e => by
  subst e
  unfold RwBo at h
  unfold Blk at h k
  rw [k] at h
  injection h with h
  injection h with _ h3
  exact ht h3
theorem LwA.setU (h : LwA w3 tB pt gu nt ma fu fa w) {j : Nat} (hj : j < nt) (x : Bool) : LwA w3 tB pt gu nt ma (fup fu j x) fa (w.setCell ⟨gu, j, none⟩ (.bool x)) :=
  have hu : Upd gu w (w.setCell ⟨gu, j, none⟩ (.bool x)) := (Upd.refl gu w).setCell rfl _
  ⟨Below.updN h.b hu h.lu h.b.size, h.p.of (hu.block pt h.p.lt h.ne), h.us.set hj x, h.fm.upd hu (h.fm.ne h.us), h.lp, h.lu, h.la, h.ne⟩
theorem LwA.keepU (h : LwA w3 tB pt gu nt ma fu fa w) {j : Nat} (x : Bool) (hq : Blk w q 75 cs) : Blk (w.setCell ⟨gu, j, none⟩ (.bool x)) q 75 cs :=
  have hu : Upd gu w (w.setCell ⟨gu, j, none⟩ (.bool x)) := (Upd.refl gu w).setCell rfl _
  hq.of (hu.block q hq.lt (blk_ne h.us hq (by decide)))
theorem LwA.putA (h : LwA w3 tB pt gu nt ma fu fa w) (z : Int) (v : Value) (hq : Blk w q 75 cs) : ∃ w', (Instr.mapUpdate 70 (.map (some ma)) (.int .i32 z) v).run Tryz.prog w = .ok () w' ∧ LwA w3 tB pt gu nt ma fu (gup fa z (some v)) w' ∧ Blk w' q 75 cs := by
  obtain ⟨w', h1, h2, h3⟩ := h.fm.put (P := Tryz.prog) Tryz.underlying70 (keyInt Tryz.underlying47) z v
  exact ⟨w', h1, ⟨Below.updN h.b h3 h.la h.b.size, h.p.of (h3.block pt h.p.lt (fun e => (h.fm.ne h.p) e.symm)), Blk.of h.us (h3.block gu (Blk.lt h.us) (fun e => (h.fm.ne h.us) e.symm)), h2, h.lp, h.lu, h.la, h.ne⟩, hq.of (h3.block q hq.lt (fun e => (h.fm.ne hq) e.symm))⟩
theorem LwA.lookA (h : LwA w3 tB pt gu nt ma fu fa w) (z : Int) : (Instr.lookup 70 (.map (some ma)) (.int .i32 z) false).run Tryz.prog w = .ok ((fa z).getD (.string ⟨#[]⟩)) w :=
  h.fm.look (P := Tryz.prog) Tryz.underlying70 (keyInt Tryz.underlying47) z (z := .string ⟨#[]⟩) (fun w => by kernel_rfl)
theorem LwA.cell (h : LwA w3 tB pt gu nt ma fu fa w) : w.cell? ⟨pt, 0, none⟩ = some (.pointer (some ⟨tB, 0, none⟩)) := h.p.cell 0
end
def dnB (T : TS) (d : Nat) : ByteArray := match T.decls[d]? with | some y => y.name | none => ⟨#[]⟩
theorem dnB_list (T : TS) (d : Nat) : (dnB T d).data.toList = dnm T d := by
  unfold dnB dnm
  cases T.decls[d]? <;> rfl
/-- What 'firstAlias' holds behind k declarations. -/
def FaI (T : TS) (k : Nat) (fa : Int → Option Value) : Prop := ∀ z : Nat, fa (z : Int) = if 0 ≤ alK T k z then some (.string (dnB T (alK T k z).toNat)) else none
/-- What 'used' holds behind k declarations. -/
def UdI (T : TS) (k : Nat) (fu : Nat → Bool) : Prop := ∀ (j t : Nat) (d : DC), j < k → T.decls[j]? = some d → d.sort ≠ 0 → d.typ = (t : Int) → fu t = true
theorem FaI.skip {T : TS} {k : Nat} {fa : Int → Option Value} {d : DC} (h : FaI T k fa) (hd : T.decls[k]? = some d) (hn : ¬ (d.sort = 1 ∧ alK T k d.typ.toNat < 0 ∧ brk (knd T d.typ.toNat) = true)) : FaI T (k + 1) fa := fun z => by
  rw [alK_succ hd, if_neg hn]
  exact h z
theorem FaI.put {T : TS} {k t : Nat} {fa : Int → Option Value} {d : DC} (h : FaI T k fa) (hd : T.decls[k]? = some d) (ht : d.typ = (t : Int)) (hn : d.sort = 1 ∧ alK T k d.typ.toNat < 0 ∧ brk (knd T d.typ.toNat) = true) : FaI T (k + 1) (gup fa (t : Int) (some (.string d.name))) := fun z => by
  rw [alK_succ hd, if_pos hn]
  have e0 : d.typ.toNat = t := by rw [ht]; rfl
  rw [e0]
  by_cases e : z = t
  · subst e
    rw [gup_self, fup_self, if_pos (by omega)]
    have : dnB T ((k : Int)).toNat = d.name := by unfold dnB; rw [Int.toNat_natCast, hd]
    rw [this]
  · rw [gup_ne _ _ (by omega), fup_ne _ _ e]
    exact h z
theorem UdI.skip {T : TS} {k : Nat} {fu : Nat → Bool} {d : DC} (h : UdI T k fu) (hd : T.decls[k]? = some d) (h0 : d.sort = 0) : UdI T (k + 1) fu := fun j t y hj hy hs ht => by
  by_cases e : j = k
  · subst e; rw [hd] at hy; cases hy; exact absurd h0 hs
  · exact h j t y (by omega) hy hs ht
theorem UdI.step {T : TS} {k t : Nat} {fu : Nat → Bool} {d : DC} (h : UdI T k fu) (hd : T.decls[k]? = some d) (ht : d.typ = (t : Int)) : UdI T (k + 1) (fup fu t true) := fun j s y hj hy hs hts => by
  by_cases e : s = t
  · subst e; exact fup_self _ _ _
  · rw [fup_ne _ _ e]
    by_cases e2 : j = k
    · subst e2; rw [hd] at hy; cases hy; omega
    · exact h j s y (by omega) hy hs hts
theorem UsI.mono {T : TS} {i t : Nat} {fu : Nat → Bool} (h : UsI T i fu) : UsI T i (fup fu t true) := fun a j ha hj => by
  by_cases e : j = t
  · subst e; exact fup_self _ _ _
  · rw [fup_ne _ _ e]; exact h a j ha hj
/-- All types are used. -/
theorem ArP.all {T : TS} {al : Nat → Int} {bn : ByteArray → Option Nat} (hA : ArP T al bn) {fu : Nat → Bool} (h : UsI T T.types.length fu) (k : UdI T T.decls.length fu) : ∀ j, 8 ≤ j → j < T.types.length → fu j = true := fun j h8 hj => by
  rcases hA.us j h8 hj with ⟨i, d, h1, h2, h3⟩ | ⟨i, h1, h2⟩
  · exact k i j d (List.getElem?_eq_some_iff.1 h1).1 h1 h2 h3
  · exact h i j h1 h2
/-- The first alias of a type, told early, is the alias of the table. -/
theorem ArP.first {T : TS} {al : Nat → Int} {bn : ByteArray → Option Nat} (hA : ArP T al bn) {k t : Nat} {x : TR} (hk : k ≤ T.decls.length) (ht8 : 8 ≤ t) (hx : T.types[t]? = some x) (h7 : x.kind ≠ 7) (ha : 0 ≤ alK T k t) : rf T al t = (dnB T (alK T k t).toNat).data.toList := by
  obtain ⟨d, hd⟩ : ∃ d : Nat, alK T k t = (d : Int) := ⟨(alK T k t).toNat, by omega⟩
  have h1 := alK_keep (T.decls.length - k) k hd
  have e : k + (T.decls.length - k) = T.decls.length := by omega
  rw [e] at h1
  have h2 : al t = (d : Int) := by rw [hA.ae]; exact h1
  rw [rf_alias (by omega) hx h7 (by omega), h2, hd, dnB_list]
end Go.Proofs.Qxb6500883aGreatDoor
