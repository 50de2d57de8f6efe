/- The walk of textlaw.ints: every integer that the script mentions. -/
import Derived.Test.Qxb6500890aTextStrs
namespace Go.Proofs.Qxb6500890a
open Go.RowKit
set_option linter.unusedSimpArgs false
set_option linter.unusedVariables false

def opInts (o : TOp) : List Int := o.a :: o.b :: o.c :: o.recs.map (·.2)
def intsOf (l : List TOp) : List Int := l.flatMap opInts
def intCell (x : Int) : List Value := [.int .i64 x]

theorem info_i64 : (Try.prog.info? 2).map (fun i => (i.zero, i.size, i.bytes)) = some (some (.int .i64 0), 1, 8) := by kernel_rfl

def IntsPost (l : List TOp) (w : World) (e : Ending) (w' : World) : Prop := ∃ a n c, e = .returned (.slice a n c) ∧ RowOf w' 1 intCell a n c (intsOf l) ∧ Below w.heap.size w w'

theorem ints_take_len (l : List TOp) (k : Nat) (h : ∀ o ∈ l, o.recs.length = o.rn) : (intsOf (l.take k)).length ≤ 3 * l.length + opsW l := by
  induction l generalizing k with
  | nil => simp [intsOf]
  | cons o l ih =>
    cases k with
    | zero => simp [intsOf]
    | succ k =>
      have h1 := ih k (fun x hx => h x (by simp [hx]))
      have e2 := h o (by simp)
      simp only [intsOf, List.take_succ_cons, List.flatMap_cons, List.length_append, opsW, List.map_cons, List.sum_cons, List.length_cons] at h1 ⊢
      have : (opInts o).length ≤ 3 + opW o := by simp [opInts, opW, e2]; omega
      omega

theorem ints_succ (l : List TOp) (k : Nat) (o : TOp) (h : l[k]? = some o) : intsOf (l.take (k + 1)) = intsOf (l.take k) ++ opInts o := by
  simp [intsOf, List.take_add_one, h]

theorem intCell_flat (l : List Int) : l.flatMap intCell = l.map (.int .i64) := by
  induction l with
  | nil => rfl
  | cons x l ih => simp [intCell, ih]

theorem ints_ok (w : World) (l : List TOp) (h : ∀ o ∈ l, OpOk w o) : ∀ x ∈ intsOf l, Fit x := by
  intro x hx
  simp only [intsOf, List.mem_flatMap] at hx
  obtain ⟨o, ho, hx⟩ := hx
  have hk := h o ho
  simp only [opInts, List.mem_cons, List.mem_map] at hx
  rcases hx with rfl | rfl | rfl | ⟨r, hr, rfl⟩
  · exact hk.fa
  · exact hk.fb
  · exact hk.fc
  · exact (hk.fr r hr).2

set_option maxRecDepth 100000 in
set_option maxHeartbeats 1000000 in
theorem ints_walk (a : Option Addr) (n c : Nat) (l : List TOp) (w : World) (hs : Script w a n c l) (hsm : n + opsW l ≤ 65536) :
    Calls Try.prog 12 #[.slice a n c] w (IntsPost l w) := by
  obtain ⟨i0, hi, hz0, hz1, hz2⟩ := info_parts info_i64
  have HI : Hid (Try.prog.info? 2 = some i0 ∧ i0.zero = some (.int .i64 0) ∧ i0.size = 1 ∧ i0.bytes = 8) := ⟨hi, hz0, hz1, hz2⟩
  have HS : Hid (Script w a n c l) := hs
  have hlen0 : ∀ k, (intsOf (l.take k)).length ≤ 262144 := fun k => by
    have := ints_take_len l k (fun o ho => (HS.out.2 o ho).recs.len)
    have := HS.out.1.len
    omega
  have HN : Hid (∀ k, (intsOf (l.take k)).length ≤ 262144) := hlen0
  have hn : n ≤ 65536 := by omega
  clear hs hi hz0 hz1 hz2 hlen0
  go_enter Try.func12, Try.ntmps12
  go_wp2
  go_loopw [3, 10] (fun v i wr => ∃ k : Nat, k ≤ n ∧ i = .int .i64 k ∧ wr.ownsRow w.heap.size 2 1 v (intsOf (l.take k)).length ((intsOf (l.take k)).map (.int .i64)) ∧ Below w.heap.size w wr) (fun _ i _ => n - (intOf i).toNat)
  case atStart => exact ⟨0, Nat.zero_le _, rfl, World.ownsRow_nil _ _ _ _, Below.refl _ _⟩
  case round =>
    obtain ⟨k, hk, rfl, hown, hbel⟩ := hrel
    have HB : Hid (Below w.heap.size w wr) := hbel
    have HO : Hid (wr.ownsRow w.heap.size 2 1 u3 (intsOf (l.take k)).length ((intsOf (l.take k)).map (.int .i64))) := hown
    have hsz : w.heap.size ≤ wr.heap.size := hbel.size
    clear hown hbel
    by_cases hlt : k < n
    · obtain ⟨o, ho, hok, b, off, rfl, hb, c0, c1, c2, c3, c4, c5, c6, c7⟩ := (HS.out.below HB.out).at hlt
      have hok2 := HS.out.2 o (List.mem_of_getElem? ho)
      have HOk : Hid (OpOk w o) := hok2
      have HL : Hid (l[k]? = some o) := ho
      have hlen := HN.out (k + 1)
      rw [ints_succ l k o ho] at hlen
      clear ho hok hok2
      obtain ⟨kind, oa, ob, oc, s, t, la, ln, lc, list, ra, rn, rc, recs⟩ := o
      dsimp only at c0 c1 c2 c3 c4 c5 c6 c7
      simp only [opInts, List.length_append, List.length_cons, List.length_map] at hlen
      have e1 : list.length = ln := HOk.out.list.len
      have e2 : recs.length = rn := HOk.out.recs.len
      rw [e2] at hlen
      have HE : Hid (list.length = ln ∧ recs.length = rn) := ⟨e1, e2⟩
      clear e1 e2
      generalize hX : (intsOf (l.take k)).map (Value.int .i64) = X at *
      generalize hL : (intsOf (l.take k)).length = L at *
      have HX : Hid ((intsOf (l.take k)).map (Value.int .i64) = X ∧ (intsOf (l.take k)).length = L) := ⟨hX, hL⟩
      clear hX hL
      go_wp2_with ((at_builtin; refine wpList_append_row _ rfl (.tmp 14) (.tmp 21) 24 rfl w.heap.size 2 i0 (.int .i64 0) 1 8 Try.underlying24 HI.out.1 HI.out.2.1 HI.out.2.2.1 HI.out.2.2.2 rfl (by decide) _ _ _ rfl ((HO.out.alloc _).alloc _) (some ⟨wr.heap.size + 1, 0, none⟩) 3 3 [.int .i64 oa, .int .i64 ob, .int .i64 oc] rfl rfl (fun h => by cases h) (newRow _ [.int .i64 oa, .int .i64 ob, .int .i64 oc] _ _ (by simp)) (fun u hu => by simp at hu; rcases hu with rfl | rfl | rfl <;> rfl) (by omega) (by decide) (by simp; omega) ?_; intro v1 w1 hown1 hb1 hk1 hg1; have d7 : w1.cell? ⟨wr.heap.size, 7, none⟩ = some (.slice ra rn rc) := (keepCell 7 (hk1 _ (by simp; omega) (fun g hg => by have := (HO.out.lt g hg).2; omega))).trans (by simp [go_sem]); have HB1 : Hid (Below w.heap.size w w1) := ((HB.out.alloc hsz _).alloc (by simp; omega) _).trans hb1; have hs1 : wr.heap.size + 2 ≤ w1.heap.size := (by have := hb1.size; simp at this; omega); have HO1 := hid hown1; have HG1 : Hid (∀ g, v1.ownBlock = some g → g ≠ wr.heap.size) := (fun g hg => (hg1 g hg).elim (fun h => by have := (HO.out.lt g h).2; omega) (fun h => by simp at h; omega)); clear hb1 hk1 hown1 hg1))
      go_loopw [3, 26] (fun v i wx => ∃ m : Nat, m ≤ rn ∧ i = .int .i64 m ∧ wx.ownsRow w.heap.size 2 1 v (L + 3 + m) (X ++ [.int .i64 oa, .int .i64 ob, .int .i64 oc] ++ (recs.take m).map (fun r => .int .i64 r.2)) ∧ Below w.heap.size w wx) (fun _ i _ => rn - (intOf i).toNat)
      case atStart => exact ⟨0, Nat.zero_le _, rfl, by simpa using HO1.out, HB1.out⟩
      case round =>
        rename_i wx
        obtain ⟨m, hm, rfl, hown3, hb3⟩ := hrel
        clear c0 c1 c2 c3 c4 c5 c6 c7 d7
        have HB3 : Hid (Below w.heap.size w wr) := hb3
        have HO3 := hid hown3
        have hsz3 := hb3.size
        clear hown3 hb3
        by_cases hlt2 : m < rn
        · obtain ⟨x, hx, b', off', rfl, hb', hc'⟩ := (HOk.out.recs.below HB3.out).cell hlt2
          have e0 : wr.cell? ⟨b', off' + m * 2, none⟩ = some (.string x.1) := hc' 0 (by omega)
          have e1 : wr.cell? ⟨b', off' + m * 2 + 1, none⟩ = some (.int .i64 x.2) := hc' 1 (by omega)
          have HM : Hid (recs[m]? = some x) := hx
          clear hx hc'
          go_wp2_with (at_builtin; refine wpList_append_row _ rfl (.tmp 30) (.tmp 33) 24 rfl w.heap.size 2 i0 (.int .i64 0) 1 8 Try.underlying24 HI.out.1 HI.out.2.1 HI.out.2.2.1 HI.out.2.2.2 rfl (by decide) _ _ _ rfl ((HO3.out.alloc _).alloc _) (some ⟨wr.heap.size + 1, 0, none⟩) 1 1 [.int .i64 x.2] rfl rfl (fun h => by cases h) (newRow _ [.int .i64 x.2] _ _ (by simp)) (fun u hu => by simp at hu; subst hu; rfl) (by omega) (by decide) (by simp; omega) ?_; intro v4 w4 hown4 hb4 hk4 hg4; have HB4 : Hid (Below w.heap.size w w4) := ((HB3.out.alloc hsz3 _).alloc (by simp; omega) _).trans hb4; have HO4 := hid hown4; clear hb4 hk4 hown4 hg4)
          refine ⟨⟨m + 1, by omega, by go_num, ?_, HB4.out⟩, by simp [intOf]; omega⟩
          have := HO4.out
          rw [List.take_add_one, HM.out]
          simpa [Nat.add_assoc] using this
        · go_wp2
          refine ⟨⟨k + 1, by omega, by go_num, ?_, HB3.out⟩, by simp [intOf]; omega⟩
          have h5 := HO3.out
          have em : m = rn := by omega
          rw [List.take_of_length_le (by rw [HE.out.2]; omega)] at h5
          rw [ints_succ l k _ HL.out, List.map_append, HX.out.1, List.length_append, HX.out.2]
          have e5 : (opInts ⟨kind, oa, ob, oc, s, t, la, ln, lc, list, ra, rn, rc, recs⟩).length = 3 + rn := by
            simp [opInts, HE.out.2]; omega
          rw [e5, show L + (3 + rn) = L + 3 + m by omega]
          simpa [opInts, Function.comp_def] using h5
    · go_wp2
      go_ret
      have h5 := HO.out
      rw [List.take_of_length_le (by rw [HS.out.1.len]; omega), ← intCell_flat] at h5
      have h6 := HN.out n
      rw [List.take_of_length_le (by rw [HS.out.1.len]; omega)] at h6
      obtain ⟨a', n', c', rfl, hr⟩ := ownsRow_row (sz := 1) (f := intCell) (l := intsOf l) (by decide) (fun _ => rfl) (by omega) h5
      exact ⟨a', n', c', rfl, hr, HB.out⟩
end Go.Proofs.Qxb6500890a
