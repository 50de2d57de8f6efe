/- Immutable: what is kept. -/
import Derived.Test.Qxb6500884aClIvs
import Derived.Test.Qxb6500884aClLst
namespace Go.Proofs.Qxb6500884a
open Go.RowKit
set_option linter.unusedSimpArgs false
set_option linter.unusedVariables false

def KeepC (w w' : World) : Prop := ∀ (k : Nat) (cs : Array Value) (t : TypeId) (fz : Nat × Nat), w.heap[k]? = some (Obj.cells cs t fz) → w'.heap[k]? = some (Obj.cells cs t fz)
theorem KeepC.keepT {w w' : World} (h : KeepC w w') : KeepT w w' := fun k cs t fz _ hb => h k cs t fz hb
theorem KeepC.refl (w : World) : KeepC w w := fun _ _ _ _ h => h
theorem KeepC.trans {a b c : World} (h : KeepC a b) (k : KeepC b c) : KeepC a c := fun i cs t fz hb => k i cs t fz (h i cs t fz hb)
theorem KeepC.below {w w' : World} (h : Below w.heap.size w w') : KeepC w w' := fun k cs t fz hb => by rw [h.block k (Array.getElem?_eq_some_iff.1 hb).1]; exact hb
theorem KeepC.updm {w w' : World} {m : Nat} {L : List (Nat × Value)} (hm : PMp w m L) (hu : Upd m w w') : KeepC w w' := fun k cs t fz hb => by
  rw [hu.block k (Array.getElem?_eq_some_iff.1 hb).1 (fun e => ?_)]
  · exact hb
  · subst e
    obtain ⟨es, clock, h1, _⟩ := hm
    rw [hb] at h1
    cases h1
theorem Blk.keepC {w w' : World} {g : Nat} {t : TypeId} {cs : List Value} (h : Blk w g t cs) (hk : KeepC w w') : Blk w' g t cs := hk g _ t _ h
theorem Mach.keepC {w w' : World} {mb : Nat} {a : Option Addr} {S : List (Nat × List (Int × Int))} (h : Mach mb a S w) (hk : KeepC w w') : Mach mb a S w' := by
  obtain ⟨c, h1, h2⟩ := h.out
  exact ⟨h.len, ⟨c, h1.keepC hk, h2.of fun k cs _ hc => hc.keepC hk⟩, fun p hp => (h.regs p hp).keep hk.keepT⟩
theorem MW.keepC {w0 w w' : World} {mb : Nat} {a : Option Addr} {S : List (Nat × List (Int × Int))} (h : MW w0 mb a S w) (hk : KeepC w w') (hb : Below w0.heap.size w0 w') : MW w0 mb a S w' := ⟨hb, h.mach.keepC hk, h.mbw, h.ab, h.rw⟩
/-- The map's entries: each key a register, its value a list of that register's class. -/
def Ent (w : World) (L : List (Nat × Value)) : Prop := ∀ p ∈ L, ∃ xa xn xc l, p.2 = .slice xa xn xc ∧ IvRow w xa xn xc l ∧ Ty67 w xa xn ∧ RegOk w p.1 l
theorem Ent.keep {w w' : World} {L : List (Nat × Value)} (h : Ent w L) (hk : KeepT w w') : Ent w' L := fun p hp => by
  obtain ⟨xa, xn, xc, l, h1, h2, h3, h4⟩ := h p hp
  exact ⟨xa, xn, xc, l, h1, h2.keep h3 hk, h3.keep hk, h4.keep hk⟩
theorem RegOk.isReg {w : World} {r : Nat} {l : List (Int × Int)} (h : RegOk w r l) : IsReg w r := by
  obtain ⟨_, _, _, _, h1, _⟩ := h.out
  exact ⟨_, h1⟩
theorem Ent.isReg {w : World} {L : List (Nat × Value)} (h : Ent w L) : ∀ p ∈ L, IsReg w p.1 := fun p hp => by
  obtain ⟨_, _, _, _, _, _, _, h4⟩ := h p hp
  exact h4.isReg
theorem RegOk.inj {w : World} {r : Nat} {l l' : List (Int × Int)} (h : RegOk w r l) (h' : RegOk w r l') : l = l' := by
  obtain ⟨a, n, c, tb, h1, h2, h3, h4⟩ := h.out
  obtain ⟨a', n', c', tb', p1, p2, p3, p4⟩ := h'.out
  obtain ⟨_, e2⟩ := h1.inj2 p1
  injection e2 with e2 e3
  injection e2 with e2 e4 e5
  subst e2 e4 e5
  exact h2.inj p2
theorem findK_mem {r : Nat} : ∀ {L : List (Nat × Value)}, r ∈ L.map (·.1) → ∃ v, findK r L = some v ∧ (r, v) ∈ L
  | [], h => by simp at h
  | p :: L, h => by
    unfold findK
    by_cases e : r = p.1
    · rw [if_pos e]
      exact ⟨p.2, rfl, by rw [e]; simp⟩
    · rw [if_neg e]
      have : r ∈ L.map (·.1) := by simpa [e] using h
      obtain ⟨v, h1, h2⟩ := findK_mem this
      exact ⟨v, h1, by simp [h2]⟩
theorem findK_none {r : Nat} : ∀ {L : List (Nat × Value)}, r ∉ L.map (·.1) → findK r L = none
  | [], _ => rfl
  | p :: L, h => by
    unfold findK
    simp at h
    rw [if_neg h.1]
    exact findK_none (by simpa using h.2)
structure Im (w0 : World) (mb : Nat) (a : Option Addr) (S : List (Nat × List (Int × Int))) (m : Nat) (L : List (Nat × Value)) (w : World) : Prop where
  mw : MW w0 mb a S w
  pm : PMp w m L
  low : w0.heap.size ≤ m
  ent : Ent w L
  hit : ∀ p ∈ S, p.1 ∈ L.map (·.1)
theorem Im.below {w0 w w' : World} {mb m : Nat} {a : Option Addr} {S : List (Nat × List (Int × Int))} {L : List (Nat × Value)} (h : Im w0 mb a S m L w) (hb : Below w.heap.size w w') : Im w0 mb a S m L w' := ⟨h.mw.below hb, h.pm.below hb, h.low, h.ent.keep (KeepT.below hb), h.hit⟩
theorem Im.start (w : World) {mb m : Nat} (hm : w.heap.size = mb) (hm2 : mb + 1 = m) : Im w mb none [] m [] ((w.alloc (.cells #[.slice none 0 0] 46)).alloc (.map #[] 0)) :=
  ⟨(MW.start w hm).below (nbel _ _), PMp.new _ (by rw [World.size_alloc, hm, hm2]), by omega, (fun p hp => by cases hp), (fun p hp => by cases hp)⟩
/-- What a register in the file finds. -/
theorem Im.look {w0 w : World} {mb m : Nat} {a : Option Addr} {S : List (Nat × List (Int × Int))} {L : List (Nat × Value)} (h : Im w0 mb a S m L w) {p : Nat × List (Int × Int)} (hp : p ∈ S) : ∃ xa xn xc, (Instr.lookup 64 (.map (some m)) (ptK p.1) false).run Try.prog w = .ok (.slice xa xn xc) w ∧ IvRow w xa xn xc p.2 := by
  obtain ⟨v, h1, h2⟩ := findK_mem (h.hit p hp)
  obtain ⟨xa, xn, xc, l, h3, h4, h5, h6⟩ := h.ent _ h2
  have hr := h.mw.mach.regs p hp
  have h7 := h.pm.look p.1 hr.isReg h.ent.isReg
  rw [h1] at h7
  dsimp only at h3
  subst h3
  exact ⟨xa, xn, xc, h7, by rw [hr.inj h6]; exact h4⟩
theorem Im.lookB {w0 w : World} {mb m : Nat} {a : Option Addr} {S : List (Nat × List (Int × Int))} {L : List (Nat × Value)} (h : Im w0 mb a S m L w) {p : Nat × List (Int × Int)} (hp : p ∈ S) : ∃ xa xn xc, IvRow w xa xn xc p.2 ∧ ∀ w3 : World, Below w.heap.size w w3 → (Instr.lookup 64 (.map (some m)) (.pointer (some ⟨p.1, 0, none⟩)) false).run Try.prog w3 = .ok (.slice xa xn xc) w3 := by
  obtain ⟨v, h1, h2⟩ := findK_mem (h.hit p hp)
  obtain ⟨xa, xn, xc, l, h3, h4, h5, h6⟩ := h.ent _ h2
  have hr := h.mw.mach.regs p hp
  dsimp only at h3
  subst h3
  refine ⟨xa, xn, xc, by rw [hr.inj h6]; exact h4, fun w3 hb => ?_⟩
  have h7 := (h.pm.below hb).look p.1 (hr.below hb).isReg (h.ent.keep (KeepT.below hb)).isReg
  rw [h1] at h7
  exact h7
/-- The machine, what a step has pushed, the map. -/
structure QB (w0 : World) (mb : Nat) (a : Option Addr) (S : List (Nat × List (Int × Int))) (pa : Option Addr) (pn pc : Nat) (ps : List (Nat × List (Int × Int))) (m : Nat) (L : List (Nat × Value)) (w : World) : Prop where
  lp : LP w0 mb a S pa pn pc ps w
  pm : PMp w m L
  ent : Ent w L
  low : w0.heap.size ≤ m
theorem QB.below {w0 w w' : World} {mb m : Nat} {a : Option Addr} {S : List (Nat × List (Int × Int))} {pa : Option Addr} {pn pc : Nat} {ps : List (Nat × List (Int × Int))} {L : List (Nat × Value)} (h : QB w0 mb a S pa pn pc ps m L w) (hb : Below w.heap.size w w') : QB w0 mb a S pa pn pc ps m L w' := ⟨h.lp.below hb, h.pm.below hb, h.ent.keep (KeepT.below hb), h.low⟩
theorem LP.keepC {w0 w w' : World} {mb : Nat} {a : Option Addr} {S : List (Nat × List (Int × Int))} {pa : Option Addr} {pn pc : Nat} {ps : List (Nat × List (Int × Int))} (h : LP w0 mb a S pa pn pc ps w) (hk : KeepC w w') (hb : Below w0.heap.size w0 w') : LP w0 mb a S pa pn pc ps w' :=
  ⟨h.mw.keepC hk hb, h.fl.of fun k cs _ hc => hc.keepC hk, fun p hp => (h.reg p hp).keep hk.keepT, h.fr⟩
theorem QB.put {w0 w : World} {mb m : Nat} {a : Option Addr} {S : List (Nat × List (Int × Int))} {pa : Option Addr} {pn pc : Nat} {ps : List (Nat × List (Int × Int))} {L : List (Nat × Value)} (h : QB w0 mb a S pa pn pc ps m L w) {r : Nat} {l : List (Int × Int)} (hr : RegOk w r l) (xa : Option Addr) (xn xc : Nat) (hv : IvRow w xa xn xc l) (ht : Ty67 w xa xn) (hn : findK r L = none) :
    ∃ w8, (Instr.mapUpdate 64 (.map (some m)) (.pointer (some ⟨r, 0, none⟩)) (.slice xa xn xc)).run Try.prog w = .ok () w8 ∧ QB w0 mb a S pa pn pc ps m (L ++ [(r, .slice xa xn xc)]) w8 ∧ KeepC w w8 := by
  obtain ⟨o, h1, h2⟩ := h.pm.put r (.slice xa xn xc) hr.isReg h.ent.isReg hn
  have hu : Upd m w { w with heap := w.heap.setIfInBounds m o } := ⟨rfl, rfl, rfl, by simp, fun k hk hne => by simp [Array.getElem?_setIfInBounds, Ne.symm hne]⟩
  have hk := KeepC.updm h.pm hu
  refine ⟨_, h1, ⟨h.lp.keepC hk (h.lp.mw.bel.trans (hu.below h.low h.lp.mw.bel.size)), h2, ?_, h.low⟩, hk⟩
  intro p hp
  rcases List.mem_append.1 hp with hp | hp
  · exact h.ent.keep hk.keepT p hp
  · simp at hp
    subst hp
    exact ⟨xa, xn, xc, l, rfl, hv.keep ht hk.keepT, ht.keep hk.keepT, hr.keep hk.keepT⟩
theorem splice_len {cs ds : List Value} {o : Nat} (h : o + ds.length ≤ cs.length) : (splice cs o ds).length = cs.length := by
  unfold splice
  simp
  omega
/-- A fresh list of ints. -/
structure InOwn (w : World) (a : Option Addr) (n c : Nat) (l : List Int) : Prop where
  row : InRow w a n c l
  blk : 0 < n → ∃ g cs, a = some ⟨g, 0, none⟩ ∧ Blk w g 3 cs
theorem InOwn.of {w w' : World} {a : Option Addr} {n c : Nat} {l : List Int} (h : InOwn w a n c l) (hk : ∀ g cs, Blk w g 3 cs → Blk w' g 3 cs) : InOwn w' a n c l := by
  refine ⟨⟨⟨h.row.1.1, h.row.1.2.1, h.row.1.2.2.1, fun i hi => ?_⟩, h.row.2⟩, fun hn => ?_⟩
  · obtain ⟨b, off, ha, hlt, hc⟩ := h.row.1.2.2.2 i hi
    obtain ⟨g, cs, h1, h2⟩ := h.blk (by have := h.row.len; omega)
    rw [ha] at h1
    cases h1
    have h3 := hk _ _ h2
    refine ⟨b, 0, ha, h3.lt, fun j hj => ?_⟩
    rw [← hc j hj, h3.cell, h2.cell]
  · obtain ⟨g, cs, h1, h2⟩ := h.blk hn
    exact ⟨g, cs, h1, hk _ _ h2⟩
theorem InOwn.below {w w' : World} {a : Option Addr} {n c : Nat} {l : List Int} (h : InOwn w a n c l) (hb : Below w.heap.size w w') : InOwn w' a n c l := h.of fun g cs hg => hg.below hb
theorem InOwn.mk' {w : World} {base : Nat} {v : Value} {l : List Int} (h : w.ownsRow base 3 1 v l.length (l.flatMap inC)) (hl : l.length ≤ 1000000) (hf : ∀ x ∈ l, Fit x) : ∃ a n c, v = .slice a n c ∧ InOwn w a n c l := by
  obtain ⟨a, n, c, hv, hrow⟩ := ownsRow_row (f := inC) (l := l) (sz := 1) (by decide) (fun _ => rfl) (by omega) h
  refine ⟨a, n, c, hv, ⟨hrow, hf⟩, fun hn => ?_⟩
  rcases h.2 with ⟨h1, _⟩ | ⟨g, cap, cur, h1, hb, hg, _⟩
  · rw [hv] at h1; cases h1; omega
  · rw [hv] at h1; cases h1; exact ⟨g, cur.toList, rfl, hg⟩
theorem in_one (l : List Int) : ∀ u ∈ l.flatMap inC, u.oneCell' = true := by
  intro u hu
  obtain ⟨p, _, hp⟩ := List.mem_flatMap.1 hu
  simp [inC] at hp
  subst hp
  rfl
end Go.Proofs.Qxb6500884a
