/- Fresh lists of intervals. -/
import Derived.Test.Qxb6500884aClMapP
import Derived.Test.Qxb6500884aClSame
namespace Go.Proofs.Qxb6500884a
open Go.RowKit
set_option linter.unusedSimpArgs false
set_option linter.unusedVariables false

def OwnIv (w : World) (base : Nat) (v : Value) (l : List (Int × Int)) : Prop := w.ownsRow base 67 2 v l.length (l.flatMap ivC)
/-- The copy of a class's list. -/
theorem intervals_own (a : Option Addr) (n c : Nat) (l : List (Int × Int)) (w : World) (hr : IvRow w a n c l) (hn : n ≤ 1000000) :
    Calls Try.prog 14 #[.agg #[.slice a n c]] w fun e w' => ∃ v, e = .returned v ∧ Below w.heap.size w w' ∧ OwnIv w' w.heap.size v l := by
  obtain ⟨i0, hi, hz0, hz1, hz2⟩ := info_ivz
  have HI := hid (And.intro hi (And.intro hz0 (And.intro hz1 hz2)))
  have hl := hr.len
  have HR := hid hr
  obtain ⟨q, hq⟩ : ∃ q, w.heap.size = q := ⟨_, rfl⟩
  have hb1 := Blk.new w [.slice a n c] 30
  rw [hq] at hb1
  obtain ⟨w1, hw1⟩ : ∃ w1, w.alloc (.cells #[.slice a n c] 30) = w1 := ⟨_, rfl⟩
  have HB1 : Hid (Below w.heap.size w w1) := hid (by rw [← hw1]; exact nbel w _)
  have hw1' : w.alloc (.cells [Value.slice a n c].toArray 30) = w1 := hw1
  rw [hw1'] at hb1
  have HR1 : Hid (IvRow w1 a n c l) := hid (hr.below HB1.out)
  have c0 : w1.cell? ⟨q, 0, none⟩ = some (.slice a n c) := hb1.cell 0
  have HO : Hid (w1.ownsRow w.heap.size 67 2 (.slice none 0 0) 0 []) := hid (World.ownsRow_nil _ _ _ _)
  have hlen : (l.flatMap ivC).length = n * 2 := by rw [length_flatMap_const (f := ivC) (sz := 2) l (fun x _ => rfl), hl]
  have hb : (0 + n) * 16 ≤ 140737488355328 := by omega
  have hsz : w.heap.size ≤ w1.heap.size := HB1.out.size
  have HCe := hid (HR1.out.1.cells (by omega) (fun _ => rfl))
  have HNil := hid (fun (h : a = none) => HR1.out.1.nil h)
  clear hr hi hz0 hz1 hz2 hb1 hw1'
  go_enter Try.func14, Try.ntmps14
  go_upto_region 1 with fail
  try simp only [hw1]
  clear hw1
  go_wp2_with (at_builtin; refine wpList_append_row _ rfl (.const (.slice none 0 0)) (.tmp 4) 25 rfl w.heap.size 67 i0 (.agg #[.int .i64 0, .int .i64 0]) 2 16 Try.underlying25 HI.out.1 HI.out.2.1 HI.out.2.2.1 HI.out.2.2.2 rfl (by decide) _ _ _ rfl HO.out a n c (l.flatMap ivC) rfl hlen HNil.out HCe.out (iv_one l) hb (by decide) hsz ?_; intro v8 w8 hown8 hb8 hk8 hg8; have HOw8 := hid hown8; have HB8 := hid hb8; clear hown8 hb8 hk8 hg8)
  go_ret
  have ho := HOw8.out
  rw [Nat.zero_add, List.nil_append, ← hl] at ho
  exact ⟨_, rfl, HB1.out.trans HB8.out, ho⟩
theorem OwnIv.row {w : World} {base : Nat} {v : Value} {l : List (Int × Int)} (h : OwnIv w base v l) (hl : l.length ≤ 1000000) (hf : ∀ p ∈ l, Fit p.1 ∧ Fit p.2) : ∃ a n c, v = .slice a n c ∧ IvRow w a n c l ∧ Ty67 w a n ∧ (0 < n → ∃ g cs, a = some ⟨g, 0, none⟩ ∧ base ≤ g ∧ Blk w g 67 cs) := by
  obtain ⟨a, n, c, hv, hrow⟩ := ownsRow_row (f := ivC) (l := l) (sz := 2) (by decide) (fun _ => rfl) (by omega) h
  refine ⟨a, n, c, hv, ⟨hrow, hf⟩, fun _ b off e => ?_, fun hn => ?_⟩
  · rcases h.2 with ⟨h1, _⟩ | ⟨g, cap, cur, h1, _, hg, _⟩
    · rw [hv, e] at h1; cases h1
    · rw [hv, e] at h1; cases h1; exact ⟨_, _, hg⟩
  · rcases h.2 with ⟨h1, _⟩ | ⟨g, cap, cur, h1, hb, hg, _⟩
    · rw [hv] at h1; cases h1; omega
    · rw [hv] at h1; cases h1; exact ⟨g, cur.toList, rfl, hb, hg⟩
end Go.Proofs.Qxb6500884a
