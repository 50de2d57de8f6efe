/- byteStrings. -/
import Derived.Test.Qxb6500891aPtOps
import Derived.Test.Qxb6500891aOwn
namespace Go.Proofs.Qxb6500891a
open Go.RowKit
set_option linter.unusedSimpArgs false
set_option linter.unusedVariables false

/-- A byte slice with its bytes. -/
structure BRow where
  a : Option Addr
  n : Nat
  c : Nat
  l : List Nat
def browCell (r : BRow) : List Value := [.slice r.a r.n r.c]
def opRows (o : POp) : List BRow := [⟨o.aa, o.an, o.ac, o.a⟩, ⟨o.ba, o.bn, o.bc, o.b⟩]
def rowsOf (l : List POp) : List BRow := l.flatMap opRows
theorem rows_len (l : List POp) : (rowsOf l).length = 2 * l.length := by
  induction l with
  | nil => rfl
  | cons o l ih =>
    unfold rowsOf at ih ⊢
    rw [List.flatMap_cons, List.length_append, ih, List.length_cons]
    simp [opRows]
    omega
theorem rows_succ (l : List POp) (k : Nat) (o : POp) (h : l[k]? = some o) : rowsOf (l.take (k + 1)) = rowsOf (l.take k) ++ opRows o := by
  simp [rowsOf, List.take_add_one, h]
theorem brow_flat (l : List BRow) : l.flatMap browCell = l.map fun r => .slice r.a r.n r.c := by
  induction l with
  | nil => rfl
  | cons x l ih => simp [browCell, ih]
theorem rows_ok {w : World} {l : List POp} (h : ∀ o ∈ l, OpOk w o) : ∀ r ∈ rowsOf l, ByteRow w r.a r.n r.c r.l := by
  intro r hr
  obtain ⟨o, ho, hr⟩ := List.mem_flatMap.1 hr
  simp [opRows] at hr
  rcases hr with rfl | rfl
  · exact (h o ho).ra
  · exact (h o ho).rb

set_option maxRecDepth 100000 in
set_option maxHeartbeats 1000000 in
theorem byteStrings_walk (a : Option Addr) (n c : Nat) (l : List POp) (w : World) (hs : Script w a n c l) (hsm : n ≤ 65536) :
    Calls Try.prog 9 #[.slice a n c] w fun e w' => ∃ a' n' c', e = .returned (.slice a' n' c') ∧ Below w.heap.size w w' ∧ RowOf w' 1 browCell a' n' c' (rowsOf l) := by
  obtain ⟨i0, hi, hz0, hz1, hz2⟩ : ∃ i0, Try.prog.info? 26 = some i0 ∧ i0.zero = some (.slice none 0 0) ∧ i0.size = 1 ∧ i0.bytes = 24 := by
    have h : (Try.prog.info? 26).map (fun i => (i.zero, i.size, i.bytes)) = some (some (.slice none 0 0), 1, 24) := by kernel_rfl
    obtain ⟨i, hi, he⟩ := Option.map_eq_some_iff.1 h
    simp only [Prod.mk.injEq] at he
    exact ⟨i, hi, he.1, he.2.1, he.2.2⟩
  have HI := hid (And.intro hi (And.intro hz0 (And.intro hz1 hz2)))
  have HS := hid hs
  have hl := hs.1.1
  clear hs hi hz0 hz1 hz2
  go_enter Try.func9, Try.ntmps9
  go_wp2
  go_loopw [3, 8] (fun v i wr => ∃ k : Nat, k ≤ n ∧ i = .int .i64 k ∧ Hid (wr.ownsRow w.heap.size 26 1 v (rowsOf (l.take k)).length ((rowsOf (l.take k)).flatMap browCell)) ∧ Hid (Below w.heap.size w wr)) (fun _ i _ => n - (intOf i).toNat)
  case atStart => exact ⟨0, Nat.zero_le _, rfl, hid (World.ownsRow_nil _ _ _ _), hid (Below.refl _ _)⟩
  case round =>
    obtain ⟨k, hk, rfl, HO, HB⟩ := hrel
    have hsz : w.heap.size ≤ wr.heap.size := HB.out.size
    by_cases hlt : k < n
    · obtain ⟨o, ho, hok, b, off, rfl, hb, c0, c1, c2⟩ := (HS.out.below HB.out).at hlt
      have HL := hid ho
      obtain ⟨L, hL⟩ : ∃ L, (rowsOf (l.take k)).length = L := ⟨_, rfl⟩
      obtain ⟨X, hX⟩ : ∃ X, (rowsOf (l.take k)).flatMap browCell = X := ⟨_, rfl⟩
      rw [hL, hX] at HO
      have hLb : L ≤ 131072 := by rw [← hL, rows_len]; simp; omega
      have HX := hid (And.intro hX hL)
      obtain ⟨kind, aa, an, ac, la, ba, bn, bc, lb⟩ := o
      dsimp only at c0 c1 c2
      clear ho hok hX hL
      go_wp2_with (at_builtin; refine wpList_append_row _ rfl (.tmp 12) (.tmp 17) 24 rfl w.heap.size 26 i0 (.slice none 0 0) 1 24 Try.underlying24 HI.out.1 HI.out.2.1 HI.out.2.2.1 HI.out.2.2.2 rfl (by decide) _ _ _ rfl ((HO.out.alloc _).alloc _) (some ⟨wr.heap.size + 1, 0, none⟩) 2 2 [.slice aa an ac, .slice ba bn bc] rfl rfl (fun h => by cases h) (newRow _ [.slice aa an ac, .slice ba bn bc] _ _ (by simp)) (fun u hu => by simp at hu; rcases hu with rfl | rfl <;> rfl) (by omega) (by decide) (by simp; omega) ?_; intro v1 w1 hown1 hb1 hk1 hg1; have HB1 : Hid (Below w.heap.size w w1) := ((HB.out.alloc hsz _).alloc (by simp; omega) _).trans hb1; have HO1 := hid hown1; clear hb1 hk1 hown1 hg1)
      refine ⟨⟨k + 1, by omega, by go_num, hid ?_, HB1⟩, by simp [intOf]; omega⟩
      have e := rows_succ l k _ HL.out
      rw [e, List.length_append, List.flatMap_append, HX.out.1, HX.out.2]
      exact HO1.out
    · have hkn : k = n := by omega
      subst hkn
      rw [List.take_of_length_le (by omega)] at HO
      obtain ⟨a', n', c', hv, hrow⟩ := ownsRow_row (f := browCell) (l := rowsOf l) (sz := 1) (by decide) (fun _ => rfl) (by rw [rows_len]; omega) HO.out
      subst hv
      have HRw := hid hrow
      clear hrow
      go_wp2
      go_ret
      exact ⟨a', n', c', rfl, HB.out, HRw.out⟩
end Go.Proofs.Qxb6500891a
