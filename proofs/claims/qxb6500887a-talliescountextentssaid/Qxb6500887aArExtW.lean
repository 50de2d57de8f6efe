/- ExtentsAreRuns: the worlds on the road, and the plain law. -/
import Derived.Test.Qxb6500887aArExt3
import Derived.Test.Qxb6500887aMapSet
namespace Go.Proofs.Qxb6500887a
open Go.RowKit
open Go.ChangeMaps Go.MapKept
open Go.Maps (Keyed)
set_option linter.unusedSimpArgs false
set_option linter.unusedVariables false

theorem keyedI : Keyed Try.prog 3 := Maps.int_keyed Try.underlying3
theorem zeroB (w : World) : (zeroValue 4).run Try.prog w = .ok (.bool false) w := by kernel_rfl
abbrev Own (w : World) (m j : Nat) (D : DataW Unit) : Prop := w.ownsMap Try.prog 3 (plainElem Try.prog 4) m j D
theorem wf_small (z : Int) (h0 : 0 ≤ z) (h1 : z < 65536) : (Lit.int .i64 z).wf = true := WalkArith.wf_i64 (by omega)
theorem key_small (z : Int) (h0 : 0 ≤ z) (h1 : z < 65536) : keyOf Try.prog 3 (.int .i64 z) = some (.int .i64 z) := Maps.keyOf_int_mk Try.underlying3 (wf_small z h0 h1)
theorem own_below {w w' : World} {m j : Nat} {D : DataW Unit} (h : Own w m j D) (hb : Below w.heap.size w w') : Own w' m j D :=
  h.kept (row := none) ⟨hb.os, hb.tape, hb.output, hb.size, fun k hk _ => hb.block k hk⟩ (by simp)
theorem own_apart {w : World} {m j g : Nat} {D : DataW Unit} {t : TypeId} {cs : List Value} (h : Own w m j D) (hb : Blk w g t cs) : g ≠ m := by
  rintro rfl
  obtain ⟨es, clock, hh, _⟩ := h
  unfold Blk at hb
  rw [hb] at hh
  simp at hh
theorem grown_upd {w w' : World} {g : Nat} (h : w.grownBy w' (some g)) : Upd g w w' :=
  ⟨h.os, h.tape, h.output, h.size, fun i hi hg => h.block i hi (by simpa using hg)⟩
theorem own_look {w : World} {m j : Nat} {D : DataW Unit} {f c : Int} (h : Own w m j D) (K : Keys D f c) (z : Int) (h0 : 0 ≤ z) (h1 : z < 65536) :
    (Instr.lookup 70 (.map (some m)) (.int .i64 z) false).run Try.prog w = .ok (.bool (decide (f ≤ z ∧ z < c))) w := by
  obtain ⟨b, hr, hat⟩ := lookup_bool h keyedI Try.underlying70 Try.underlying4 (zeroB w) (key_small z h0 h1)
  rw [K.val] at hat
  simp only [DataW.lit.injEq, Lit.bool.injEq] at hat
  rw [hr, ← hat]

structure Er (w0 : World) (p : Nat) (kd x b c : Int) (w : World) : Prop where
  bel : Below w0.heap.size w0 w
  lo : w0.heap.size ≤ p
  b4 : Blk w p 34 [.int .u8 kd, .int .u64 x, .int .u64 b, .int .u64 c]
theorem Er.below {w0 : World} {p : Nat} {kd x b c : Int} {w w' : World} (f : Er w0 p kd x b c w) (hb : Below w.heap.size w w') : Er w0 p kd x b c w' :=
  ⟨f.bel.trans (hb.mono f.bel.size), f.lo, f.b4.below hb⟩
theorem Er.start {w0 : World} {w : World} (hb : Below w0.heap.size w0 w) (kd x b c : Int) : Er w0 w.heap.size kd x b c (w.alloc (.cells #[.int .u8 kd, .int .u64 x, .int .u64 b, .int .u64 c] 34)) :=
  ⟨hb.alloc hb.size _, hb.size, Blk.new w [.int .u8 kd, .int .u64 x, .int .u64 b, .int .u64 c] _⟩

structure Ee (w0 : World) (p q : Nat) (kd x b c k n : Int) (w : World) : Prop where
  er : Er w0 p kd x b c w
  lo : w0.heap.size ≤ q
  ne : p < q
  b5 : Blk w q 64 [.int .i64 k, .int .i64 n]
theorem Ee.below {w0 : World} {p q : Nat} {kd x b c k n : Int} {w w' : World} (f : Ee w0 p q kd x b c k n w) (hb : Below w.heap.size w w') : Ee w0 p q kd x b c k n w' :=
  ⟨f.er.below hb, f.lo, f.ne, f.b5.below hb⟩
theorem Ee.upd {w0 : World} {p q g : Nat} {kd x b c k n : Int} {w w' : World} (f : Ee w0 p q kd x b c k n w) (hu : Upd g w w') (hg : w0.heap.size ≤ g) (hp : p ≠ g) (hq : q ≠ g) : Ee w0 p q kd x b c k n w' :=
  ⟨⟨f.er.bel.trans (hu.below hg f.er.bel.size), f.er.lo, f.er.b4.upd hu hp⟩, f.lo, f.ne, f.b5.upd hu hq⟩

structure Em (w0 : World) (p q m1 m2 : Nat) (kd x b c k n : Int) (j1 j2 : Nat) (D1 D2 : DataW Unit) (w : World) : Prop where
  ee : Ee w0 p q kd x b c k n w
  l1 : w0.heap.size ≤ m1
  l2 : w0.heap.size ≤ m2
  ne : m1 ≠ m2
  o1 : Own w m1 j1 D1
  o2 : Own w m2 j2 D2
theorem Em.below {w0 : World} {p q m1 m2 : Nat} {kd x b c k n : Int} {j1 j2 : Nat} {D1 D2 : DataW Unit} {w w' : World} (f : Em w0 p q m1 m2 kd x b c k n j1 j2 D1 D2 w) (hb : Below w.heap.size w w') : Em w0 p q m1 m2 kd x b c k n j1 j2 D1 D2 w' :=
  ⟨f.ee.below hb, f.l1, f.l2, f.ne, own_below f.o1 hb, own_below f.o2 hb⟩
theorem Em.put1 {w0 : World} {p q m1 m2 : Nat} {kd x b c k n : Int} {j1 j2 j : Nat} {D1 D2 D : DataW Unit} {w w' : World} (f : Em w0 p q m1 m2 kd x b c k n j1 j2 D1 D2 w) (ho : Own w' m1 j D) (hg : w.grownBy w' (some m1)) :
    Em w0 p q m1 m2 kd x b c k n j j2 D D2 w' :=
  ⟨f.ee.upd (grown_upd hg) f.l1 (own_apart f.o1 f.ee.er.b4) (own_apart f.o1 f.ee.b5), f.l1, f.l2, f.ne, ho, f.o2.kept hg (by simpa using f.ne.symm)⟩
theorem Em.put2 {w0 : World} {p q m1 m2 : Nat} {kd x b c k n : Int} {j1 j2 j : Nat} {D1 D2 D : DataW Unit} {w w' : World} (f : Em w0 p q m1 m2 kd x b c k n j1 j2 D1 D2 w) (ho : Own w' m2 j D) (hg : w.grownBy w' (some m2)) :
    Em w0 p q m1 m2 kd x b c k n j1 j D1 D w' :=
  ⟨f.ee.upd (grown_upd hg) f.l2 (own_apart f.o2 f.ee.er.b4) (own_apart f.o2 f.ee.b5), f.l1, f.l2, f.ne, f.o1.kept hg (by simpa using f.ne), ho⟩
theorem Em.start {w0 : World} {p q : Nat} {kd x b c k n : Int} {w : World} (f : Ee w0 p q kd x b c k n w) :
    Em w0 p q w.heap.size (w.heap.size + 1) kd x b c k n 0 0 (.map []) (.map []) ((w.alloc (.map #[] 0)).alloc (.map #[] 0)) := by
  have b1 : Below w.heap.size w (w.alloc (.map #[] 0)) := Below.alloc (Below.refl _ _) (Nat.le_refl _) _
  have s1 : (w.alloc (.map #[] 0)).heap.size = w.heap.size + 1 := by simp
  have b2 : Below (w.heap.size + 1) (w.alloc (.map #[] 0)) ((w.alloc (.map #[] 0)).alloc (.map #[] 0)) := Below.alloc (Below.refl _ _) (by omega) _
  have b2' : Below (w.alloc (.map #[] 0)).heap.size (w.alloc (.map #[] 0)) ((w.alloc (.map #[] 0)).alloc (.map #[] 0)) := by rw [s1]; exact b2
  have hs := f.er.bel.size
  refine ⟨(f.below b1).below b2', hs, by omega, by omega, own_below (World.ownsMap_made w _ _ _) b2', ?_⟩
  have := World.ownsMap_made (H := Unit) (w.alloc (.map #[] 0)) Try.prog 3 (plainElem Try.prog 4)
  rw [s1] at this
  exact this

structure Eo (w0 : World) (p q r : Nat) (kd x b c k n k2 n2 : Int) (w : World) : Prop where
  ee : Ee w0 p q kd x b c k n w
  b6 : Blk w r 64 [.int .i64 k2, .int .i64 n2]
theorem Eo.below {w0 : World} {p q r : Nat} {kd x b c k n k2 n2 : Int} {w w' : World} (f : Eo w0 p q r kd x b c k n k2 n2 w) (hb : Below w.heap.size w w') : Eo w0 p q r kd x b c k n k2 n2 w' :=
  ⟨f.ee.below hb, f.b6.below hb⟩

/-- The keys after the words k .. y - 1, by s words a key. -/
def cut (s k y : Int) : Int := if y = k then k / s else (y - 1) / s + 1
theorem keys_step16 {D : DataW Unit} {k y : Int} (hk : 0 ≤ k) (hy : k ≤ y) (h : Keys D (k / 16) (cut 16 k y)) :
    Keys (D.put (.int .i64 (y / 16)) (.lit (.bool true))) (k / 16) (cut 16 k (y + 1)) := by
  have e : cut 16 k (y + 1) = y / 16 + 1 := by unfold cut; rw [if_neg (by omega)]; omega
  rw [e]
  unfold cut at h
  by_cases c : y = k
  · rw [if_pos c] at h
    subst c
    exact h.next
  · rw [if_neg c] at h
    by_cases d : y / 16 = (y - 1) / 16
    · rw [d]
      exact h.again (by omega) (by omega)
    · have : y / 16 = (y - 1) / 16 + 1 := by omega
      rw [this]
      exact h.next
theorem keys_step512 {D : DataW Unit} {k y : Int} (hk : 0 ≤ k) (hy : k ≤ y) (h : Keys D (k / 512) (cut 512 k y)) :
    Keys (D.put (.int .i64 (y / 512)) (.lit (.bool true))) (k / 512) (cut 512 k (y + 1)) := by
  have e : cut 512 k (y + 1) = y / 512 + 1 := by unfold cut; rw [if_neg (by omega)]; omega
  rw [e]
  unfold cut at h
  by_cases c : y = k
  · rw [if_pos c] at h
    subst c
    exact h.next
  · rw [if_neg c] at h
    by_cases d : y / 512 = (y - 1) / 512
    · rw [d]
      exact h.again (by omega) (by omega)
    · have : y / 512 = (y - 1) / 512 + 1 := by omega
      rw [this]
      exact h.next
theorem keys_start (s k : Int) : Keys (.map []) (k / s) (cut s k k) := by
  unfold cut
  rw [if_pos rfl]
  exact Keys.empty _

/-- After the words k .. y - 1. -/
def Lp2 (w0 : World) (p q m1 m2 : Nat) (kd x b c k n y : Int) (w : World) : Prop :=
  ∃ (j : Nat) (D1 D2 : DataW Unit), (j : Int) = y - k ∧ Keys D1 (k / 16) (cut 16 k y) ∧ Keys D2 (k / 512) (cut 512 k y) ∧ Em w0 p q m1 m2 kd x b c k n j j D1 D2 w
theorem Lp2.next {w0 : World} {p q m1 m2 : Nat} {kd x b c k n y : Int} {j : Nat} {D1 D2 : DataW Unit} {w w1 w2 : World} (hk : 0 ≤ k) (hy : k ≤ y) (hj : (j : Int) = y - k) (K1 : Keys D1 (k / 16) (cut 16 k y)) (K2 : Keys D2 (k / 512) (cut 512 k y))
    (f : Em w0 p q m1 m2 kd x b c k n j j D1 D2 w) (ho1 : Own w1 m1 (j + 1) (D1.put (.int .i64 (y / 16)) (.lit (.bool true)))) (hg1 : w.grownBy w1 (some m1))
    (ho2 : Own w2 m2 (j + 1) (D2.put (.int .i64 (y / 512)) (.lit (.bool true)))) (hg2 : w1.grownBy w2 (some m2)) : Lp2 w0 p q m1 m2 kd x b c k n (y + 1) w2 :=
  ⟨j + 1, _, _, by omega, keys_step16 hk hy K1, keys_step512 hk hy K2, (f.put1 ho1 hg1).put2 ho2 hg2⟩
theorem cut_end (s k n : Int) (h : 1 ≤ n) : cut s k (k + n) = (k + n - 1) / s + 1 := by
  unfold cut
  rw [if_neg (by omega)]

theorem Em.look1 {w0 : World} {p q m1 m2 : Nat} {kd x b c k n : Int} {j1 j2 : Nat} {D1 D2 : DataW Unit} {w : World} (f : Em w0 p q m1 m2 kd x b c k n j1 j2 D1 D2 w) {F C : Int} (K : Keys D1 F C) (z : Int) (h0 : 0 ≤ z) (h1 : z < 65536) (h2 : F ≤ z) (h3 : z < C) :
    (Instr.lookup 70 (.map (some m1)) (.int .i64 z) false).run Try.prog w = .ok (.bool true) w := by
  have := own_look f.o1 K z h0 h1
  rw [decide_eq_true ⟨h2, h3⟩] at this
  exact this
theorem Em.look2 {w0 : World} {p q m1 m2 : Nat} {kd x b c k n : Int} {j1 j2 : Nat} {D1 D2 : DataW Unit} {w : World} (f : Em w0 p q m1 m2 kd x b c k n j1 j2 D1 D2 w) {F C : Int} (K : Keys D2 F C) (z : Int) (h0 : 0 ≤ z) (h1 : z < 65536) (h2 : F ≤ z) (h3 : z < C) :
    (Instr.lookup 70 (.map (some m2)) (.int .i64 z) false).run Try.prog w = .ok (.bool true) w := by
  have := own_look f.o2 K z h0 h1
  rw [decide_eq_true ⟨h2, h3⟩] at this
  exact this
theorem Em.len1 {w0 : World} {p q m1 m2 : Nat} {kd x b c k n : Int} {j1 j2 : Nat} {D1 D2 : DataW Unit} {w : World} (f : Em w0 p q m1 m2 kd x b c k n j1 j2 D1 D2 w) {F C : Int} (K : Keys D1 F C) {z : Int} (hz : z = C - F) (ty : TypeId) :
    (Builtin.len_ #[70] ty #[.map (some m1)]).run Try.prog w = .ok (.int .i64 z) w := by
  have := f.o1.len Try.underlying70 ty
  rw [K.size, ← hz] at this
  exact this
theorem Em.len2 {w0 : World} {p q m1 m2 : Nat} {kd x b c k n : Int} {j1 j2 : Nat} {D1 D2 : DataW Unit} {w : World} (f : Em w0 p q m1 m2 kd x b c k n j1 j2 D1 D2 w) {F C : Int} (K : Keys D2 F C) {z : Int} (hz : z = C - F) (ty : TypeId) :
    (Builtin.len_ #[70] ty #[.map (some m2)]).run Try.prog w = .ok (.int .i64 z) w := by
  have := f.o2.len Try.underlying70 ty
  rw [K.size, ← hz] at this
  exact this

/-- Do the words k2 .. y - 1 meet the extent? -/
def shareB (k n k2 y : Int) : Bool := decide (k2 < y ∧ k < y ∧ k2 < k + n)
theorem share_start (k n k2 : Int) : shareB k n k2 k2 = false := by unfold shareB; exact decide_eq_false (by omega)
theorem share_next {k n k2 y : Int} (h1 : 1 ≤ n) (hy : k2 ≤ y) : shareB k n k2 (y + 1) = (shareB k n k2 y || decide (k ≤ y ∧ y < k + n)) := by
  unfold shareB
  rw [Bool.eq_iff_iff]
  simp
  omega
theorem share_end {k n k2 n2 : Int} (h2 : 1 ≤ n2) : shareB k n k2 (k2 + n2) = decide (k < k2 + n2 ∧ k2 < k + n) := by
  unfold shareB
  rw [Bool.eq_iff_iff]
  simp
  omega
end Go.Proofs.Qxb6500887a
