/- Raw. -/
import Derived.Test.Qxb6500892aDoorTqRawM
namespace Go.Proofs.Qxb6500892aDoor
open Go.RowKit
set_option linter.unusedSimpArgs false
set_option linter.unusedVariables false

theorem info_raw : AggOf Tryd.prog 56 29 := AggOf.struct Tryd.underlying56 (by kernel_rfl)
theorem size_raw : (Tryd.prog.info? 56).map (·.size) = some 29 := by kernel_rfl
def zRaw : List Value := fnL 29 fun c => if c < 19 then .int .i64 0 else if c < 27 then .slice none 0 0 else .int .i64 0
theorem zRaw_len : zRaw.length = 29 := fnL_len _ _
theorem idx_q0 (x0 x1 x2 x3 x4 x5 x6 x7 x8 x9 x10 x11 x12 x13 x14 : Int) (w : World) : (Instr.index 80 (.agg #[.int .i32 x0, .int .i32 x1, .int .i64 x2, .int .i32 x3, .int .i32 x4, .int .i64 x5, .int .i32 x6, .int .i32 x7, .int .i64 x8, .int .i32 x9, .int .i32 x10, .int .i64 x11, .int .i32 x12, .int .i32 x13, .int .i64 x14]) (.int .i64 0)).run Tryd.prog w = .ok (.agg #[.int .i32 x0, .int .i32 x1, .int .i64 x2]) w := by kernel_rfl
theorem idx_q1 (x0 x1 x2 x3 x4 x5 x6 x7 x8 x9 x10 x11 x12 x13 x14 : Int) (w : World) : (Instr.index 80 (.agg #[.int .i32 x0, .int .i32 x1, .int .i64 x2, .int .i32 x3, .int .i32 x4, .int .i64 x5, .int .i32 x6, .int .i32 x7, .int .i64 x8, .int .i32 x9, .int .i32 x10, .int .i64 x11, .int .i32 x12, .int .i32 x13, .int .i64 x14]) (.int .i64 1)).run Tryd.prog w = .ok (.agg #[.int .i32 x3, .int .i32 x4, .int .i64 x5]) w := by kernel_rfl
theorem idx_q2 (x0 x1 x2 x3 x4 x5 x6 x7 x8 x9 x10 x11 x12 x13 x14 : Int) (w : World) : (Instr.index 80 (.agg #[.int .i32 x0, .int .i32 x1, .int .i64 x2, .int .i32 x3, .int .i32 x4, .int .i64 x5, .int .i32 x6, .int .i32 x7, .int .i64 x8, .int .i32 x9, .int .i32 x10, .int .i64 x11, .int .i32 x12, .int .i32 x13, .int .i64 x14]) (.int .i64 2)).run Tryd.prog w = .ok (.agg #[.int .i32 x6, .int .i32 x7, .int .i64 x8]) w := by kernel_rfl
theorem idx_q3 (x0 x1 x2 x3 x4 x5 x6 x7 x8 x9 x10 x11 x12 x13 x14 : Int) (w : World) : (Instr.index 80 (.agg #[.int .i32 x0, .int .i32 x1, .int .i64 x2, .int .i32 x3, .int .i32 x4, .int .i64 x5, .int .i32 x6, .int .i32 x7, .int .i64 x8, .int .i32 x9, .int .i32 x10, .int .i64 x11, .int .i32 x12, .int .i32 x13, .int .i64 x14]) (.int .i64 3)).run Tryd.prog w = .ok (.agg #[.int .i32 x9, .int .i32 x10, .int .i64 x11]) w := by kernel_rfl
theorem idx_q4 (x0 x1 x2 x3 x4 x5 x6 x7 x8 x9 x10 x11 x12 x13 x14 : Int) (w : World) : (Instr.index 80 (.agg #[.int .i32 x0, .int .i32 x1, .int .i64 x2, .int .i32 x3, .int .i32 x4, .int .i64 x5, .int .i32 x6, .int .i32 x7, .int .i64 x8, .int .i32 x9, .int .i32 x10, .int .i64 x11, .int .i32 x12, .int .i32 x13, .int .i64 x14]) (.int .i64 4)).run Tryd.prog w = .ok (.agg #[.int .i32 x12, .int .i32 x13, .int .i64 x14]) w := by kernel_rfl
set_option maxRecDepth 100000 in
set_option maxHeartbeats 4000000 in
theorem raw_walk {e gn gb : Nat} {s : ES} {L C : Nat → List Nat} {w : World} (hE : EM e gn gb s w) (hI : EI s L C) :
    Calls Tryd.prog 16 #[.pointer (some ⟨e, 0, none⟩)] w fun y w' => RawP s w y w' := by
  have HE := hid hE
  have HI := hid hI
  clear hE hI
  obtain ⟨p2, hp2⟩ : ∃ p, w.heap.size = p := ⟨_, rfl⟩
  go_enter Tryd.func16, Tryd.ntmps16
  go_upto_region 1 with fail
  obtain ⟨w1, hw1⟩ : ∃ w1, w.alloc (.cells #[.int .i64 0, .int .i64 0, .int .i64 0, .int .i64 0, .int .i64 0, .int .i64 0, .int .i64 0, .int .i64 0, .int .i64 0, .int .i64 0, .int .i64 0, .int .i64 0, .int .i64 0, .int .i64 0, .int .i64 0, .int .i64 0, .int .i64 0, .int .i64 0, .int .i64 0, .slice none 0 0, .slice none 0 0, .slice none 0 0, .slice none 0 0, .slice none 0 0, .slice none 0 0, .slice none 0 0, .slice none 0 0, .int .i64 0, .int .i64 0] 56) = w1 := ⟨_, rfl⟩
  have HW1 : Hid (EM e gn gb s w1 ∧ Blk w1 p2 56 [.int .i64 0, .int .i64 0, .int .i64 0, .int .i64 0, .int .i64 0, .int .i64 0, .int .i64 0, .int .i64 0, .int .i64 0, .int .i64 0, .int .i64 0, .int .i64 0, .int .i64 0, .int .i64 0, .int .i64 0, .int .i64 0, .int .i64 0, .int .i64 0, .int .i64 0, .slice none 0 0, .slice none 0 0, .slice none 0 0, .slice none 0 0, .slice none 0 0, .slice none 0 0, .slice none 0 0, .slice none 0 0, .int .i64 0, .int .i64 0] ∧ Below w.heap.size w w1) := hid (by
    have hb : Below w.heap.size w w1 := by rw [← hw1]; exact nbel w _
    have k1 := Blk.new w [.int .i64 0, .int .i64 0, .int .i64 0, .int .i64 0, .int .i64 0, .int .i64 0, .int .i64 0, .int .i64 0, .int .i64 0, .int .i64 0, .int .i64 0, .int .i64 0, .int .i64 0, .int .i64 0, .int .i64 0, .int .i64 0, .int .i64 0, .int .i64 0, .int .i64 0, .slice none 0 0, .slice none 0 0, .slice none 0 0, .slice none 0 0, .slice none 0 0, .slice none 0 0, .slice none 0 0, .slice none 0 0, .int .i64 0, .int .i64 0] 56
    rw [hp2] at k1
    have k2 : Blk w1 p2 56 [.int .i64 0, .int .i64 0, .int .i64 0, .int .i64 0, .int .i64 0, .int .i64 0, .int .i64 0, .int .i64 0, .int .i64 0, .int .i64 0, .int .i64 0, .int .i64 0, .int .i64 0, .int .i64 0, .int .i64 0, .int .i64 0, .int .i64 0, .int .i64 0, .int .i64 0, .slice none 0 0, .slice none 0 0, .slice none 0 0, .slice none 0 0, .slice none 0 0, .slice none 0 0, .slice none 0 0, .slice none 0 0, .int .i64 0, .int .i64 0] := by rw [← hw1]; exact k1
    exact ⟨HE.out.below hb, k2, hb⟩)
  have hlp : w.heap.size ≤ p2 := by omega
  try simp only [hw1]
  clear hw1 hp2 HE
  have HW1d : Hid (EM e gn gb s w1.drew ∧ Blk w1.drew p2 56 [.int .i64 0, .int .i64 0, .int .i64 0, .int .i64 0, .int .i64 0, .int .i64 0, .int .i64 0, .int .i64 0, .int .i64 0, .int .i64 0, .int .i64 0, .int .i64 0, .int .i64 0, .int .i64 0, .int .i64 0, .int .i64 0, .int .i64 0, .int .i64 0, .int .i64 0, .slice none 0 0, .slice none 0 0, .slice none 0 0, .slice none 0 0, .slice none 0 0, .slice none 0 0, .slice none 0 0, .slice none 0 0, .int .i64 0, .int .i64 0] ∧ Below w.heap.size w w1.drew) := hid ⟨HW1.out.1.drew 1, HW1.out.2.1.drewN 1, HW1.out.2.2.trans ((Drew.below ⟨1, rfl⟩ _ : Below w1.heap.size w1 _).mono HW1.out.2.2.size)⟩
  obtain ⟨sl, hsl⟩ : ∃ x : Int, (s.slots : Int) = x := ⟨_, rfl⟩
  obtain ⟨ki, hki⟩ : ∃ x : Int, (s.kin : Int) = x := ⟨_, rfl⟩
  obtain ⟨ko, hko⟩ : ∃ x : Int, (s.kout : Int) = x := ⟨_, rfl⟩
  obtain ⟨kn, hkn⟩ : ∃ x : Int, (s.kneg : Int) = x := ⟨_, rfl⟩
  obtain ⟨ng, hng⟩ : ∃ x : Int, s.negs = x := ⟨_, rfl⟩
  obtain ⟨pn, hpn⟩ : ∃ x : Int, s.pinned = x := ⟨_, rfl⟩
  have HV := hid (And.intro hsl (And.intro hki (And.intro hko (And.intro hkn (And.intro hng hpn)))))
  clear hsl hki hko hkn hng hpn
  have HSt : Hid (∀ w' : World, EM e gn gb s w' → w'.cell? ⟨e, 0, none⟩ = some (.int .i64 sl) ∧ w'.cell? ⟨e, 1, none⟩ = some (.int .i64 ki) ∧ w'.cell? ⟨e, 2, none⟩ = some (.int .i64 ko) ∧ w'.cell? ⟨e, 3, none⟩ = some (.int .i64 kn) ∧ w'.cell? ⟨e, 22, none⟩ = some (.int .i64 ng) ∧ w'.cell? ⟨e, 23, none⟩ = some (.int .i64 pn)) := hid (fun w' h => by
    obtain ⟨h1, h2, h3, h4, h5, h6⟩ := HV.out
    rw [← h1, ← h2, ← h3, ← h4, ← h5, ← h6]
    exact ⟨h.slots, h.kin, h.kout, h.kneg, h.negs, h.pinned⟩)
  refine wp_region_heavy (fun w' => w'.cell? ⟨e, 0, none⟩ = some (.int .i64 sl) ∧ w'.cell? ⟨e, 1, none⟩ = some (.int .i64 ki) ∧ w'.cell? ⟨e, 2, none⟩ = some (.int .i64 ko) ∧ w'.cell? ⟨e, 3, none⟩ = some (.int .i64 kn) ∧ w'.cell? ⟨e, 22, none⟩ = some (.int .i64 ng) ∧ w'.cell? ⟨e, 23, none⟩ = some (.int .i64 pn)) 14 [0, 1, 2, 3, 4, 5, 6, 7, 8, 9, 10, 11, 12] [13] rfl (by kernel_rfl) (by kernel_rfl) (fun d _ _ _ _ h => by cases d <;> exact h) (HSt.out _ HW1d.out.1) ?_
  apply Exists.intro
  refine ⟨?_, ?_⟩
  · intro W hW
    have d0 : ∀ x, (W x).cell? ⟨e, 0, none⟩ = some (.int .i64 sl) := fun x => (hW x).1
    have d1 : ∀ x, (W x).cell? ⟨e, 1, none⟩ = some (.int .i64 ki) := fun x => (hW x).2.1
    have d2 : ∀ x, (W x).cell? ⟨e, 2, none⟩ = some (.int .i64 ko) := fun x => (hW x).2.2.1
    have d3 : ∀ x, (W x).cell? ⟨e, 3, none⟩ = some (.int .i64 kn) := fun x => (hW x).2.2.2.1
    have d4 : ∀ x, (W x).cell? ⟨e, 22, none⟩ = some (.int .i64 ng) := fun x => (hW x).2.2.2.2.1
    have d5 : ∀ x, (W x).cell? ⟨e, 23, none⟩ = some (.int .i64 pn) := fun x => (hW x).2.2.2.2.2
    clear hW
    simp only [List.take, opsAt, List.drop, List.cons_append, List.nil_append]
    repeat (go_big_quiet_step (fail))
    exact rfl
  simp only [List.take, List.drop, opsAt, List.cons_append, List.nil_append, wpHv]
  generalize w1.drew = wd at HW1d ⊢
  obtain ⟨p3, hp3⟩ : ∃ p, wd.heap.size = p := ⟨_, rfl⟩
  go_wp2_with fail
  obtain ⟨w2, hw2⟩ : ∃ w1, wd.alloc (.cells #[.int .i64 0, .int .i64 0, .int .i64 0, .int .i64 0, .int .i64 0, .int .i64 0, .int .i64 0, .int .i64 0, .int .i64 0, .int .i64 0, .int .i64 0, .int .i64 0, .int .i64 0, .int .i64 0, .int .i64 0, .int .i64 0, .int .i64 0, .int .i64 0, .int .i64 0, .slice none 0 0, .slice none 0 0, .slice none 0 0, .slice none 0 0, .slice none 0 0, .slice none 0 0, .slice none 0 0, .slice none 0 0, .int .i64 0, .int .i64 0] 56) = w1 := ⟨_, rfl⟩
  have HW2 : Hid (EM e gn gb s w2 ∧ Blk w2 p2 56 [.int .i64 0, .int .i64 0, .int .i64 0, .int .i64 0, .int .i64 0, .int .i64 0, .int .i64 0, .int .i64 0, .int .i64 0, .int .i64 0, .int .i64 0, .int .i64 0, .int .i64 0, .int .i64 0, .int .i64 0, .int .i64 0, .int .i64 0, .int .i64 0, .int .i64 0, .slice none 0 0, .slice none 0 0, .slice none 0 0, .slice none 0 0, .slice none 0 0, .slice none 0 0, .slice none 0 0, .slice none 0 0, .int .i64 0, .int .i64 0] ∧ Blk w2 p3 56 [.int .i64 0, .int .i64 0, .int .i64 0, .int .i64 0, .int .i64 0, .int .i64 0, .int .i64 0, .int .i64 0, .int .i64 0, .int .i64 0, .int .i64 0, .int .i64 0, .int .i64 0, .int .i64 0, .int .i64 0, .int .i64 0, .int .i64 0, .int .i64 0, .int .i64 0, .slice none 0 0, .slice none 0 0, .slice none 0 0, .slice none 0 0, .slice none 0 0, .slice none 0 0, .slice none 0 0, .slice none 0 0, .int .i64 0, .int .i64 0] ∧ Below w.heap.size w w2) := hid (by
    have hb : Below wd.heap.size wd w2 := by rw [← hw2]; exact nbel wd _
    have k1 := Blk.new wd [.int .i64 0, .int .i64 0, .int .i64 0, .int .i64 0, .int .i64 0, .int .i64 0, .int .i64 0, .int .i64 0, .int .i64 0, .int .i64 0, .int .i64 0, .int .i64 0, .int .i64 0, .int .i64 0, .int .i64 0, .int .i64 0, .int .i64 0, .int .i64 0, .int .i64 0, .slice none 0 0, .slice none 0 0, .slice none 0 0, .slice none 0 0, .slice none 0 0, .slice none 0 0, .slice none 0 0, .slice none 0 0, .int .i64 0, .int .i64 0] 56
    rw [hp3] at k1
    have k2 : Blk w2 p3 56 [.int .i64 0, .int .i64 0, .int .i64 0, .int .i64 0, .int .i64 0, .int .i64 0, .int .i64 0, .int .i64 0, .int .i64 0, .int .i64 0, .int .i64 0, .int .i64 0, .int .i64 0, .int .i64 0, .int .i64 0, .int .i64 0, .int .i64 0, .int .i64 0, .int .i64 0, .slice none 0 0, .slice none 0 0, .slice none 0 0, .slice none 0 0, .slice none 0 0, .slice none 0 0, .slice none 0 0, .slice none 0 0, .int .i64 0, .int .i64 0] := by rw [← hw2]; exact k1
    exact ⟨HW1d.out.1.below hb, HW1d.out.2.1.below hb, k2, HW1d.out.2.2.trans (hb.mono HW1d.out.2.2.size)⟩)
  have hne : p2 ≠ p3 := by have := HW1d.out.2.1.lt; omega
  have hlp3 : w.heap.size ≤ p3 := by have := HW1d.out.2.2.size; omega
  try simp only [hw2]
  refine ⟨HSt.out _ HW2.out.1, ?_⟩
  clear hw2 hp3 HW1 HW1d
  simp only [QN]
  refine wpList_store_blk rfl 56 (.tmp 3) (.tmp 22) rfl p3 (by simp [Act.eval, Act.put]; done) [.int .i64 sl, .int .i64 ki, .int .i64 ko, .int .i64 kn, .int .i64 0, .int .i64 0, .int .i64 0, .int .i64 0, .int .i64 0, .int .i64 0, .int .i64 0, .int .i64 0, .int .i64 0, .int .i64 0, .int .i64 0, .int .i64 0, .int .i64 0, .int .i64 0, .int .i64 0, .slice none 0 0, .slice none 0 0, .slice none 0 0, .slice none 0 0, .slice none 0 0, .slice none 0 0, .slice none 0 0, .slice none 0 0, .int .i64 ng, .int .i64 pn] (by simp [Act.eval, Act.put]; done) HW2.out.2.2.1 rfl size_raw (fun v hv => by simp at hv; rcases hv with rfl | rfl | rfl | rfl | rfl | rfl | rfl | rfl <;> rfl) ?_
  intro w3 HB3 HU3
  have HM0 : Hid (RwM e gn gb s w p2 p3 0 (fun _ => nilS) (fun _ => []) w3) := hid (by
    obtain ⟨h1, h2, h3, h4⟩ := HW2.out
    obtain ⟨v1, v2, v3, v4, v5, v6⟩ := HV.out
    have hu := HU3.out
    have e1 : rwC s 0 (fun _ => nilS) = [.int .i64 sl, .int .i64 ki, .int .i64 ko, .int .i64 kn, .int .i64 0, .int .i64 0, .int .i64 0, .int .i64 0, .int .i64 0, .int .i64 0, .int .i64 0, .int .i64 0, .int .i64 0, .int .i64 0, .int .i64 0, .int .i64 0, .int .i64 0, .int .i64 0, .int .i64 0, .slice none 0 0, .slice none 0 0, .slice none 0 0, .slice none 0 0, .slice none 0 0, .slice none 0 0, .slice none 0 0, .slice none 0 0, .int .i64 ng, .int .i64 pn] := by
      rw [← v1, ← v2, ← v3, ← v4, ← v5, ← v6]
      kernel_rfl
    exact ⟨⟨h1.eb.upd hu (h1.eb.tne h3 (by decide)), h1.nb.upd hu (h1.nb.tne h3 (by decide)), h1.bb.upd hu (h1.bb.tne h3 (by decide))⟩, h4.trans (hu.below hlp3 h4.size), ⟨_, rfl, h2.upd hu hne⟩, by rw [e1]; exact HB3.out, fun j _ => OR.nil _ _ _ _ _, fun i j _ _ _ g hg => (by cases hg), hlp, hlp3, hne⟩)
  clear HW2 HB3 HU3 HSt HV
  obtain ⟨x0, hx0⟩ : ∃ x, s.hd 0 = x := ⟨_, rfl⟩
  obtain ⟨x1, hx1⟩ : ∃ x, s.tl 0 = x := ⟨_, rfl⟩
  obtain ⟨x2, hx2⟩ : ∃ x, s.sz 0 = x := ⟨_, rfl⟩
  obtain ⟨x3, hx3⟩ : ∃ x, s.hd 1 = x := ⟨_, rfl⟩
  obtain ⟨x4, hx4⟩ : ∃ x, s.tl 1 = x := ⟨_, rfl⟩
  obtain ⟨x5, hx5⟩ : ∃ x, s.sz 1 = x := ⟨_, rfl⟩
  obtain ⟨x6, hx6⟩ : ∃ x, s.hd 2 = x := ⟨_, rfl⟩
  obtain ⟨x7, hx7⟩ : ∃ x, s.tl 2 = x := ⟨_, rfl⟩
  obtain ⟨x8, hx8⟩ : ∃ x, s.sz 2 = x := ⟨_, rfl⟩
  obtain ⟨x9, hx9⟩ : ∃ x, s.hd 3 = x := ⟨_, rfl⟩
  obtain ⟨x10, hx10⟩ : ∃ x, s.tl 3 = x := ⟨_, rfl⟩
  obtain ⟨x11, hx11⟩ : ∃ x, s.sz 3 = x := ⟨_, rfl⟩
  obtain ⟨x12, hx12⟩ : ∃ x, s.hd 4 = x := ⟨_, rfl⟩
  obtain ⟨x13, hx13⟩ : ∃ x, s.tl 4 = x := ⟨_, rfl⟩
  obtain ⟨x14, hx14⟩ : ∃ x, s.sz 4 = x := ⟨_, rfl⟩
  have HX : Hid (s.hd 0 = x0 ∧ s.tl 0 = x1 ∧ s.sz 0 = x2 ∧ s.hd 1 = x3 ∧ s.tl 1 = x4 ∧ s.sz 1 = x5 ∧ s.hd 2 = x6 ∧ s.tl 2 = x7 ∧ s.sz 2 = x8 ∧ s.hd 3 = x9 ∧ s.tl 3 = x10 ∧ s.sz 3 = x11 ∧ s.hd 4 = x12 ∧ s.tl 4 = x13 ∧ s.sz 4 = x14) := hid ⟨hx0, hx1, hx2, hx3, hx4, hx5, hx6, hx7, hx8, hx9, hx10, hx11, hx12, hx13, hx14⟩
  have HSc : Hid (∀ w' : World, EM e gn gb s w' → w'.cell? ⟨e, 5, none⟩ = some (.int .i32 x0) ∧ w'.cell? ⟨e, 6, none⟩ = some (.int .i32 x1) ∧ w'.cell? ⟨e, 7, none⟩ = some (.int .i64 x2) ∧ w'.cell? ⟨e, 8, none⟩ = some (.int .i32 x3) ∧ w'.cell? ⟨e, 9, none⟩ = some (.int .i32 x4) ∧ w'.cell? ⟨e, 10, none⟩ = some (.int .i64 x5) ∧ w'.cell? ⟨e, 11, none⟩ = some (.int .i32 x6) ∧ w'.cell? ⟨e, 12, none⟩ = some (.int .i32 x7) ∧ w'.cell? ⟨e, 13, none⟩ = some (.int .i64 x8) ∧ w'.cell? ⟨e, 14, none⟩ = some (.int .i32 x9) ∧ w'.cell? ⟨e, 15, none⟩ = some (.int .i32 x10) ∧ w'.cell? ⟨e, 16, none⟩ = some (.int .i64 x11) ∧ w'.cell? ⟨e, 17, none⟩ = some (.int .i32 x12) ∧ w'.cell? ⟨e, 18, none⟩ = some (.int .i32 x13) ∧ w'.cell? ⟨e, 19, none⟩ = some (.int .i64 x14)) := hid (fun w' h => by
    obtain ⟨g0, g1, g2, g3, g4, g5, g6, g7, g8, g9, g10, g11, g12, g13, g14⟩ := HX.out
    rw [← g0, ← g1, ← g2, ← g3, ← g4, ← g5, ← g6, ← g7, ← g8, ← g9, ← g10, ← g11, ← g12, ← g13, ← g14]
    exact ⟨h.hd (q := 0) (by omega), h.tl (q := 0) (by omega), h.sz (q := 0) (by omega), h.hd (q := 1) (by omega), h.tl (q := 1) (by omega), h.sz (q := 1) (by omega), h.hd (q := 2) (by omega), h.tl (q := 2) (by omega), h.sz (q := 2) (by omega), h.hd (q := 3) (by omega), h.tl (q := 3) (by omega), h.sz (q := 3) (by omega), h.hd (q := 4) (by omega), h.tl (q := 4) (by omega), h.sz (q := 4) (by omega)⟩)
  clear hx0 hx1 hx2 hx3 hx4 hx5 hx6 hx7 hx8 hx9 hx10 hx11 hx12 hx13 hx14
  obtain ⟨c5, c6, c7, c8, c9, c10, c11, c12, c13, c14, c15, c16, c17, c18, c19⟩ := HSc.out w3 HM0.out.em
  go_upto_region 3 with fail
  clear c5 c6 c7 c8 c9 c10 c11 c12 c13 c14 c15 c16 c17 c18 c19 HSc
  go_loopw [27] (fun v wr => ∃ i : Nat, i ≤ 5 ∧ v = .int .i64 (i : Int) ∧ Hid (RwM e gn gb s w p2 p3 i (fun _ => nilS) (fun _ => []) wr)) (fun v _ => 5 - (intOf v).toNat)
  case atStart => exact ⟨0, by omega, rfl, HM0⟩
  case round =>
  clear HM0
  obtain ⟨q, hq, rfl, HM⟩ := hrel
  by_cases hq5 : q < 5
  · as_aux_lemma =>
    rcases (by omega : q = 0 ∨ q = 1 ∨ q = 2 ∨ q = 3 ∨ q = 4) with rfl | rfl | rfl | rfl | rfl
    · as_aux_lemma =>
      have hix := fun w => idx_q0 x0 x1 x2 x3 x4 x5 x6 x7 x8 x9 x10 x11 x12 x13 x14 w
      obtain ⟨p5, hp5⟩ : ∃ p, wr.heap.size = p := ⟨_, rfl⟩
      go_upto_region 5 with fail
      obtain ⟨w4, hw4⟩ : ∃ w4, wr.alloc (.cells #[.int .i32 x0, .int .i32 x1, .int .i64 x2] 78) = w4 := ⟨_, rfl⟩
      have HM4 : Hid (RwM e gn gb s w p2 p3 0 (fun _ => nilS) (fun _ => []) w4.drew ∧ Blk w4.drew p5 78 [.int .i32 x0, .int .i32 x1, .int .i64 x2]) := hid (by
        have hb : Below wr.heap.size wr w4 := by rw [← hw4]; exact nbel wr _
        have k1 := Blk.new wr [.int .i32 x0, .int .i32 x1, .int .i64 x2] 78
        rw [hp5] at k1
        have k2 : Blk w4 p5 78 [.int .i32 x0, .int .i32 x1, .int .i64 x2] := by rw [← hw4]; exact k1
        exact ⟨(HM.out.below hb).below (Drew.below ⟨1, rfl⟩ _), k2.drewN 1⟩)
      try simp only [hw4]
      clear hw4 hp5 hix HM
      refine wp_region_heavy (fun w' => w'.cell? ⟨p5, 0, none⟩ = some (.int .i32 x0) ∧ w'.cell? ⟨p5, 1, none⟩ = some (.int .i32 x1) ∧ w'.cell? ⟨p5, 2, none⟩ = some (.int .i64 x2)) 18 [0, 1, 2, 3, 4, 5, 6, 7, 8, 9, 10, 11, 12, 14, 17] [13, 15, 16] rfl (by kernel_rfl) (by kernel_rfl) (fun d _ _ _ _ h => by cases d <;> exact h) ⟨HM4.out.2.cell 0, HM4.out.2.cell 1, HM4.out.2.cell 2⟩ ?_
      apply Exists.intro
      refine ⟨?_, ?_⟩
      · intro W hW
        have d0 : ∀ u, (W u).cell? ⟨p5, 0, none⟩ = some (.int .i32 x0) := fun u => (hW u).1
        have d1 : ∀ u, (W u).cell? ⟨p5, 1, none⟩ = some (.int .i32 x1) := fun u => (hW u).2.1
        have d2 : ∀ u, (W u).cell? ⟨p5, 2, none⟩ = some (.int .i64 x2) := fun u => (hW u).2.2
        clear hW
        simp only [List.take, opsAt, List.drop, List.cons_append, List.nil_append]
        repeat (go_big_quiet_step (fail))
        exact rfl
      simp only [List.take, List.drop, opsAt, List.cons_append, List.nil_append, wpHv]
      generalize w4.drew = wd at HM4 ⊢
      have b0 := HM4.out.1.b3
      have b1 := b0.set 4 (.int .i64 (wrap64 x0))
      have b2 := b1.set 9 (.int .i64 (wrap64 x1))
      have z0 : wd.cell? ⟨p3, 4, none⟩ = some (.int .i64 0) := by rw [b0.cell, rwC_get _ _ _ (by omega)]; rfl
      have f0 := b0.frozen 4
      have z1 : (wd.setCell ⟨p3, 4, none⟩ (.int .i64 (wrap64 x0))).cell? ⟨p3, 9, none⟩ = some (.int .i64 0) := by rw [b1.cell, List.getElem?_set_ne (by omega), rwC_get _ _ _ (by omega)]; rfl
      have f1 := b1.frozen 9
      have z2 : ((wd.setCell ⟨p3, 4, none⟩ (.int .i64 (wrap64 x0))).setCell ⟨p3, 9, none⟩ (.int .i64 (wrap64 x1))).cell? ⟨p3, 14, none⟩ = some (.int .i64 0) := by rw [b2.cell, List.getElem?_set_ne (by omega), List.getElem?_set_ne (by omega), rwC_get _ _ _ (by omega)]; rfl
      have f2 := b2.frozen 14
      have hn5 := HM4.out.2.tne b0 (by decide)
      have u1 : Upd p3 wd (wd.setCell ⟨p3, 4, none⟩ (.int .i64 (wrap64 x0))) := (Upd.refl p3 wd).setCell rfl _
      have HS1 := hid (HM4.out.2.upd u1 hn5)
      have HS2 := hid (HM4.out.2.upd (u1.setCell (p := ⟨p3, 9, none⟩) rfl (.int .i64 (wrap64 x1))) hn5)
      have HF : Hid (RwM e gn gb s w p2 p3 (0 + 1) (fun _ => nilS) (fun _ => []) (((wd.setCell ⟨p3, 4, none⟩ (.int .i64 (wrap64 x0))).setCell ⟨p3, 9, none⟩ (.int .i64 (wrap64 x1))).setCell ⟨p3, 14, none⟩ (.int .i64 x2))) := hid (by
        have := HM4.out.1.queue (by omega)
        obtain ⟨g0, g1, g2, g3, g4, g5, g6, g7, g8, g9, g10, g11, g12, g13, g14⟩ := HX.out
        rw [g0, g1, g2] at this
        exact this)
      clear b0 b1 b2 u1 hn5 HM4
      go_wp2_with fail
      refine ⟨⟨HS1.out.cell 0, HS1.out.cell 1, HS1.out.cell 2⟩, ?_⟩
      go_wp2_with fail
      refine ⟨⟨HS1.out.cell 0, HS1.out.cell 1, HS1.out.cell 2⟩, ?_⟩
      go_wp2_with fail
      refine ⟨⟨HS2.out.cell 0, HS2.out.cell 1, HS2.out.cell 2⟩, ?_⟩
      simp only [QN]
      clear HS1 HS2
      go_wp2
      exact ⟨⟨0 + 1, by omega, by go_num, HF⟩, by simp [intOf]⟩
    · as_aux_lemma =>
      have hix := fun w => idx_q1 x0 x1 x2 x3 x4 x5 x6 x7 x8 x9 x10 x11 x12 x13 x14 w
      obtain ⟨p5, hp5⟩ : ∃ p, wr.heap.size = p := ⟨_, rfl⟩
      go_upto_region 5 with fail
      obtain ⟨w4, hw4⟩ : ∃ w4, wr.alloc (.cells #[.int .i32 x3, .int .i32 x4, .int .i64 x5] 78) = w4 := ⟨_, rfl⟩
      have HM4 : Hid (RwM e gn gb s w p2 p3 1 (fun _ => nilS) (fun _ => []) w4.drew ∧ Blk w4.drew p5 78 [.int .i32 x3, .int .i32 x4, .int .i64 x5]) := hid (by
        have hb : Below wr.heap.size wr w4 := by rw [← hw4]; exact nbel wr _
        have k1 := Blk.new wr [.int .i32 x3, .int .i32 x4, .int .i64 x5] 78
        rw [hp5] at k1
        have k2 : Blk w4 p5 78 [.int .i32 x3, .int .i32 x4, .int .i64 x5] := by rw [← hw4]; exact k1
        exact ⟨(HM.out.below hb).below (Drew.below ⟨1, rfl⟩ _), k2.drewN 1⟩)
      try simp only [hw4]
      clear hw4 hp5 hix HM
      refine wp_region_heavy (fun w' => w'.cell? ⟨p5, 0, none⟩ = some (.int .i32 x3) ∧ w'.cell? ⟨p5, 1, none⟩ = some (.int .i32 x4) ∧ w'.cell? ⟨p5, 2, none⟩ = some (.int .i64 x5)) 18 [0, 1, 2, 3, 4, 5, 6, 7, 8, 9, 10, 11, 12, 14, 17] [13, 15, 16] rfl (by kernel_rfl) (by kernel_rfl) (fun d _ _ _ _ h => by cases d <;> exact h) ⟨HM4.out.2.cell 0, HM4.out.2.cell 1, HM4.out.2.cell 2⟩ ?_
      apply Exists.intro
      refine ⟨?_, ?_⟩
      · intro W hW
        have d0 : ∀ u, (W u).cell? ⟨p5, 0, none⟩ = some (.int .i32 x3) := fun u => (hW u).1
        have d1 : ∀ u, (W u).cell? ⟨p5, 1, none⟩ = some (.int .i32 x4) := fun u => (hW u).2.1
        have d2 : ∀ u, (W u).cell? ⟨p5, 2, none⟩ = some (.int .i64 x5) := fun u => (hW u).2.2
        clear hW
        simp only [List.take, opsAt, List.drop, List.cons_append, List.nil_append]
        repeat (go_big_quiet_step (fail))
        exact rfl
      simp only [List.take, List.drop, opsAt, List.cons_append, List.nil_append, wpHv]
      generalize w4.drew = wd at HM4 ⊢
      have b0 := HM4.out.1.b3
      have b1 := b0.set 5 (.int .i64 (wrap64 x3))
      have b2 := b1.set 10 (.int .i64 (wrap64 x4))
      have z0 : wd.cell? ⟨p3, 5, none⟩ = some (.int .i64 0) := by rw [b0.cell, rwC_get _ _ _ (by omega)]; rfl
      have f0 := b0.frozen 5
      have z1 : (wd.setCell ⟨p3, 5, none⟩ (.int .i64 (wrap64 x3))).cell? ⟨p3, 10, none⟩ = some (.int .i64 0) := by rw [b1.cell, List.getElem?_set_ne (by omega), rwC_get _ _ _ (by omega)]; rfl
      have f1 := b1.frozen 10
      have z2 : ((wd.setCell ⟨p3, 5, none⟩ (.int .i64 (wrap64 x3))).setCell ⟨p3, 10, none⟩ (.int .i64 (wrap64 x4))).cell? ⟨p3, 15, none⟩ = some (.int .i64 0) := by rw [b2.cell, List.getElem?_set_ne (by omega), List.getElem?_set_ne (by omega), rwC_get _ _ _ (by omega)]; rfl
      have f2 := b2.frozen 15
      have hn5 := HM4.out.2.tne b0 (by decide)
      have u1 : Upd p3 wd (wd.setCell ⟨p3, 5, none⟩ (.int .i64 (wrap64 x3))) := (Upd.refl p3 wd).setCell rfl _
      have HS1 := hid (HM4.out.2.upd u1 hn5)
      have HS2 := hid (HM4.out.2.upd (u1.setCell (p := ⟨p3, 10, none⟩) rfl (.int .i64 (wrap64 x4))) hn5)
      have HF : Hid (RwM e gn gb s w p2 p3 (1 + 1) (fun _ => nilS) (fun _ => []) (((wd.setCell ⟨p3, 5, none⟩ (.int .i64 (wrap64 x3))).setCell ⟨p3, 10, none⟩ (.int .i64 (wrap64 x4))).setCell ⟨p3, 15, none⟩ (.int .i64 x5))) := hid (by
        have := HM4.out.1.queue (by omega)
        obtain ⟨g0, g1, g2, g3, g4, g5, g6, g7, g8, g9, g10, g11, g12, g13, g14⟩ := HX.out
        rw [g3, g4, g5] at this
        exact this)
      clear b0 b1 b2 u1 hn5 HM4
      go_wp2_with fail
      refine ⟨⟨HS1.out.cell 0, HS1.out.cell 1, HS1.out.cell 2⟩, ?_⟩
      go_wp2_with fail
      refine ⟨⟨HS1.out.cell 0, HS1.out.cell 1, HS1.out.cell 2⟩, ?_⟩
      go_wp2_with fail
      refine ⟨⟨HS2.out.cell 0, HS2.out.cell 1, HS2.out.cell 2⟩, ?_⟩
      simp only [QN]
      clear HS1 HS2
      go_wp2
      exact ⟨⟨1 + 1, by omega, by go_num, HF⟩, by simp [intOf]⟩
    · as_aux_lemma =>
      have hix := fun w => idx_q2 x0 x1 x2 x3 x4 x5 x6 x7 x8 x9 x10 x11 x12 x13 x14 w
      obtain ⟨p5, hp5⟩ : ∃ p, wr.heap.size = p := ⟨_, rfl⟩
      go_upto_region 5 with fail
      obtain ⟨w4, hw4⟩ : ∃ w4, wr.alloc (.cells #[.int .i32 x6, .int .i32 x7, .int .i64 x8] 78) = w4 := ⟨_, rfl⟩
      have HM4 : Hid (RwM e gn gb s w p2 p3 2 (fun _ => nilS) (fun _ => []) w4.drew ∧ Blk w4.drew p5 78 [.int .i32 x6, .int .i32 x7, .int .i64 x8]) := hid (by
        have hb : Below wr.heap.size wr w4 := by rw [← hw4]; exact nbel wr _
        have k1 := Blk.new wr [.int .i32 x6, .int .i32 x7, .int .i64 x8] 78
        rw [hp5] at k1
        have k2 : Blk w4 p5 78 [.int .i32 x6, .int .i32 x7, .int .i64 x8] := by rw [← hw4]; exact k1
        exact ⟨(HM.out.below hb).below (Drew.below ⟨1, rfl⟩ _), k2.drewN 1⟩)
      try simp only [hw4]
      clear hw4 hp5 hix HM
      refine wp_region_heavy (fun w' => w'.cell? ⟨p5, 0, none⟩ = some (.int .i32 x6) ∧ w'.cell? ⟨p5, 1, none⟩ = some (.int .i32 x7) ∧ w'.cell? ⟨p5, 2, none⟩ = some (.int .i64 x8)) 18 [0, 1, 2, 3, 4, 5, 6, 7, 8, 9, 10, 11, 12, 14, 17] [13, 15, 16] rfl (by kernel_rfl) (by kernel_rfl) (fun d _ _ _ _ h => by cases d <;> exact h) ⟨HM4.out.2.cell 0, HM4.out.2.cell 1, HM4.out.2.cell 2⟩ ?_
      apply Exists.intro
      refine ⟨?_, ?_⟩
      · intro W hW
        have d0 : ∀ u, (W u).cell? ⟨p5, 0, none⟩ = some (.int .i32 x6) := fun u => (hW u).1
        have d1 : ∀ u, (W u).cell? ⟨p5, 1, none⟩ = some (.int .i32 x7) := fun u => (hW u).2.1
        have d2 : ∀ u, (W u).cell? ⟨p5, 2, none⟩ = some (.int .i64 x8) := fun u => (hW u).2.2
        clear hW
        simp only [List.take, opsAt, List.drop, List.cons_append, List.nil_append]
        repeat (go_big_quiet_step (fail))
        exact rfl
      simp only [List.take, List.drop, opsAt, List.cons_append, List.nil_append, wpHv]
      generalize w4.drew = wd at HM4 ⊢
      have b0 := HM4.out.1.b3
      have b1 := b0.set 6 (.int .i64 (wrap64 x6))
      have b2 := b1.set 11 (.int .i64 (wrap64 x7))
      have z0 : wd.cell? ⟨p3, 6, none⟩ = some (.int .i64 0) := by rw [b0.cell, rwC_get _ _ _ (by omega)]; rfl
      have f0 := b0.frozen 6
      have z1 : (wd.setCell ⟨p3, 6, none⟩ (.int .i64 (wrap64 x6))).cell? ⟨p3, 11, none⟩ = some (.int .i64 0) := by rw [b1.cell, List.getElem?_set_ne (by omega), rwC_get _ _ _ (by omega)]; rfl
      have f1 := b1.frozen 11
      have z2 : ((wd.setCell ⟨p3, 6, none⟩ (.int .i64 (wrap64 x6))).setCell ⟨p3, 11, none⟩ (.int .i64 (wrap64 x7))).cell? ⟨p3, 16, none⟩ = some (.int .i64 0) := by rw [b2.cell, List.getElem?_set_ne (by omega), List.getElem?_set_ne (by omega), rwC_get _ _ _ (by omega)]; rfl
      have f2 := b2.frozen 16
      have hn5 := HM4.out.2.tne b0 (by decide)
      have u1 : Upd p3 wd (wd.setCell ⟨p3, 6, none⟩ (.int .i64 (wrap64 x6))) := (Upd.refl p3 wd).setCell rfl _
      have HS1 := hid (HM4.out.2.upd u1 hn5)
      have HS2 := hid (HM4.out.2.upd (u1.setCell (p := ⟨p3, 11, none⟩) rfl (.int .i64 (wrap64 x7))) hn5)
      have HF : Hid (RwM e gn gb s w p2 p3 (2 + 1) (fun _ => nilS) (fun _ => []) (((wd.setCell ⟨p3, 6, none⟩ (.int .i64 (wrap64 x6))).setCell ⟨p3, 11, none⟩ (.int .i64 (wrap64 x7))).setCell ⟨p3, 16, none⟩ (.int .i64 x8))) := hid (by
        have := HM4.out.1.queue (by omega)
        obtain ⟨g0, g1, g2, g3, g4, g5, g6, g7, g8, g9, g10, g11, g12, g13, g14⟩ := HX.out
        rw [g6, g7, g8] at this
        exact this)
      clear b0 b1 b2 u1 hn5 HM4
      go_wp2_with fail
      refine ⟨⟨HS1.out.cell 0, HS1.out.cell 1, HS1.out.cell 2⟩, ?_⟩
      go_wp2_with fail
      refine ⟨⟨HS1.out.cell 0, HS1.out.cell 1, HS1.out.cell 2⟩, ?_⟩
      go_wp2_with fail
      refine ⟨⟨HS2.out.cell 0, HS2.out.cell 1, HS2.out.cell 2⟩, ?_⟩
      simp only [QN]
      clear HS1 HS2
      go_wp2
      exact ⟨⟨2 + 1, by omega, by go_num, HF⟩, by simp [intOf]⟩
    · as_aux_lemma =>
      have hix := fun w => idx_q3 x0 x1 x2 x3 x4 x5 x6 x7 x8 x9 x10 x11 x12 x13 x14 w
      obtain ⟨p5, hp5⟩ : ∃ p, wr.heap.size = p := ⟨_, rfl⟩
      go_upto_region 5 with fail
      obtain ⟨w4, hw4⟩ : ∃ w4, wr.alloc (.cells #[.int .i32 x9, .int .i32 x10, .int .i64 x11] 78) = w4 := ⟨_, rfl⟩
      have HM4 : Hid (RwM e gn gb s w p2 p3 3 (fun _ => nilS) (fun _ => []) w4.drew ∧ Blk w4.drew p5 78 [.int .i32 x9, .int .i32 x10, .int .i64 x11]) := hid (by
        have hb : Below wr.heap.size wr w4 := by rw [← hw4]; exact nbel wr _
        have k1 := Blk.new wr [.int .i32 x9, .int .i32 x10, .int .i64 x11] 78
        rw [hp5] at k1
        have k2 : Blk w4 p5 78 [.int .i32 x9, .int .i32 x10, .int .i64 x11] := by rw [← hw4]; exact k1
        exact ⟨(HM.out.below hb).below (Drew.below ⟨1, rfl⟩ _), k2.drewN 1⟩)
      try simp only [hw4]
      clear hw4 hp5 hix HM
      refine wp_region_heavy (fun w' => w'.cell? ⟨p5, 0, none⟩ = some (.int .i32 x9) ∧ w'.cell? ⟨p5, 1, none⟩ = some (.int .i32 x10) ∧ w'.cell? ⟨p5, 2, none⟩ = some (.int .i64 x11)) 18 [0, 1, 2, 3, 4, 5, 6, 7, 8, 9, 10, 11, 12, 14, 17] [13, 15, 16] rfl (by kernel_rfl) (by kernel_rfl) (fun d _ _ _ _ h => by cases d <;> exact h) ⟨HM4.out.2.cell 0, HM4.out.2.cell 1, HM4.out.2.cell 2⟩ ?_
      apply Exists.intro
      refine ⟨?_, ?_⟩
      · intro W hW
        have d0 : ∀ u, (W u).cell? ⟨p5, 0, none⟩ = some (.int .i32 x9) := fun u => (hW u).1
        have d1 : ∀ u, (W u).cell? ⟨p5, 1, none⟩ = some (.int .i32 x10) := fun u => (hW u).2.1
        have d2 : ∀ u, (W u).cell? ⟨p5, 2, none⟩ = some (.int .i64 x11) := fun u => (hW u).2.2
        clear hW
        simp only [List.take, opsAt, List.drop, List.cons_append, List.nil_append]
        repeat (go_big_quiet_step (fail))
        exact rfl
      simp only [List.take, List.drop, opsAt, List.cons_append, List.nil_append, wpHv]
      generalize w4.drew = wd at HM4 ⊢
      have b0 := HM4.out.1.b3
      have b1 := b0.set 7 (.int .i64 (wrap64 x9))
      have b2 := b1.set 12 (.int .i64 (wrap64 x10))
      have z0 : wd.cell? ⟨p3, 7, none⟩ = some (.int .i64 0) := by rw [b0.cell, rwC_get _ _ _ (by omega)]; rfl
      have f0 := b0.frozen 7
      have z1 : (wd.setCell ⟨p3, 7, none⟩ (.int .i64 (wrap64 x9))).cell? ⟨p3, 12, none⟩ = some (.int .i64 0) := by rw [b1.cell, List.getElem?_set_ne (by omega), rwC_get _ _ _ (by omega)]; rfl
      have f1 := b1.frozen 12
      have z2 : ((wd.setCell ⟨p3, 7, none⟩ (.int .i64 (wrap64 x9))).setCell ⟨p3, 12, none⟩ (.int .i64 (wrap64 x10))).cell? ⟨p3, 17, none⟩ = some (.int .i64 0) := by rw [b2.cell, List.getElem?_set_ne (by omega), List.getElem?_set_ne (by omega), rwC_get _ _ _ (by omega)]; rfl
      have f2 := b2.frozen 17
      have hn5 := HM4.out.2.tne b0 (by decide)
      have u1 : Upd p3 wd (wd.setCell ⟨p3, 7, none⟩ (.int .i64 (wrap64 x9))) := (Upd.refl p3 wd).setCell rfl _
      have HS1 := hid (HM4.out.2.upd u1 hn5)
      have HS2 := hid (HM4.out.2.upd (u1.setCell (p := ⟨p3, 12, none⟩) rfl (.int .i64 (wrap64 x10))) hn5)
      have HF : Hid (RwM e gn gb s w p2 p3 (3 + 1) (fun _ => nilS) (fun _ => []) (((wd.setCell ⟨p3, 7, none⟩ (.int .i64 (wrap64 x9))).setCell ⟨p3, 12, none⟩ (.int .i64 (wrap64 x10))).setCell ⟨p3, 17, none⟩ (.int .i64 x11))) := hid (by
        have := HM4.out.1.queue (by omega)
        obtain ⟨g0, g1, g2, g3, g4, g5, g6, g7, g8, g9, g10, g11, g12, g13, g14⟩ := HX.out
        rw [g9, g10, g11] at this
        exact this)
      clear b0 b1 b2 u1 hn5 HM4
      go_wp2_with fail
      refine ⟨⟨HS1.out.cell 0, HS1.out.cell 1, HS1.out.cell 2⟩, ?_⟩
      go_wp2_with fail
      refine ⟨⟨HS1.out.cell 0, HS1.out.cell 1, HS1.out.cell 2⟩, ?_⟩
      go_wp2_with fail
      refine ⟨⟨HS2.out.cell 0, HS2.out.cell 1, HS2.out.cell 2⟩, ?_⟩
      simp only [QN]
      clear HS1 HS2
      go_wp2
      exact ⟨⟨3 + 1, by omega, by go_num, HF⟩, by simp [intOf]⟩
    · as_aux_lemma =>
      have hix := fun w => idx_q4 x0 x1 x2 x3 x4 x5 x6 x7 x8 x9 x10 x11 x12 x13 x14 w
      obtain ⟨p5, hp5⟩ : ∃ p, wr.heap.size = p := ⟨_, rfl⟩
      go_upto_region 5 with fail
      obtain ⟨w4, hw4⟩ : ∃ w4, wr.alloc (.cells #[.int .i32 x12, .int .i32 x13, .int .i64 x14] 78) = w4 := ⟨_, rfl⟩
      have HM4 : Hid (RwM e gn gb s w p2 p3 4 (fun _ => nilS) (fun _ => []) w4.drew ∧ Blk w4.drew p5 78 [.int .i32 x12, .int .i32 x13, .int .i64 x14]) := hid (by
        have hb : Below wr.heap.size wr w4 := by rw [← hw4]; exact nbel wr _
        have k1 := Blk.new wr [.int .i32 x12, .int .i32 x13, .int .i64 x14] 78
        rw [hp5] at k1
        have k2 : Blk w4 p5 78 [.int .i32 x12, .int .i32 x13, .int .i64 x14] := by rw [← hw4]; exact k1
        exact ⟨(HM.out.below hb).below (Drew.below ⟨1, rfl⟩ _), k2.drewN 1⟩)
      try simp only [hw4]
      clear hw4 hp5 hix HM
      refine wp_region_heavy (fun w' => w'.cell? ⟨p5, 0, none⟩ = some (.int .i32 x12) ∧ w'.cell? ⟨p5, 1, none⟩ = some (.int .i32 x13) ∧ w'.cell? ⟨p5, 2, none⟩ = some (.int .i64 x14)) 18 [0, 1, 2, 3, 4, 5, 6, 7, 8, 9, 10, 11, 12, 14, 17] [13, 15, 16] rfl (by kernel_rfl) (by kernel_rfl) (fun d _ _ _ _ h => by cases d <;> exact h) ⟨HM4.out.2.cell 0, HM4.out.2.cell 1, HM4.out.2.cell 2⟩ ?_
      apply Exists.intro
      refine ⟨?_, ?_⟩
      · intro W hW
        have d0 : ∀ u, (W u).cell? ⟨p5, 0, none⟩ = some (.int .i32 x12) := fun u => (hW u).1
        have d1 : ∀ u, (W u).cell? ⟨p5, 1, none⟩ = some (.int .i32 x13) := fun u => (hW u).2.1
        have d2 : ∀ u, (W u).cell? ⟨p5, 2, none⟩ = some (.int .i64 x14) := fun u => (hW u).2.2
        clear hW
        simp only [List.take, opsAt, List.drop, List.cons_append, List.nil_append]
        repeat (go_big_quiet_step (fail))
        exact rfl
      simp only [List.take, List.drop, opsAt, List.cons_append, List.nil_append, wpHv]
      generalize w4.drew = wd at HM4 ⊢
      have b0 := HM4.out.1.b3
      have b1 := b0.set 8 (.int .i64 (wrap64 x12))
      have b2 := b1.set 13 (.int .i64 (wrap64 x13))
      have z0 : wd.cell? ⟨p3, 8, none⟩ = some (.int .i64 0) := by rw [b0.cell, rwC_get _ _ _ (by omega)]; rfl
      have f0 := b0.frozen 8
      have z1 : (wd.setCell ⟨p3, 8, none⟩ (.int .i64 (wrap64 x12))).cell? ⟨p3, 13, none⟩ = some (.int .i64 0) := by rw [b1.cell, List.getElem?_set_ne (by omega), rwC_get _ _ _ (by omega)]; rfl
      have f1 := b1.frozen 13
      have z2 : ((wd.setCell ⟨p3, 8, none⟩ (.int .i64 (wrap64 x12))).setCell ⟨p3, 13, none⟩ (.int .i64 (wrap64 x13))).cell? ⟨p3, 18, none⟩ = some (.int .i64 0) := by rw [b2.cell, List.getElem?_set_ne (by omega), List.getElem?_set_ne (by omega), rwC_get _ _ _ (by omega)]; rfl
      have f2 := b2.frozen 18
      have hn5 := HM4.out.2.tne b0 (by decide)
      have u1 : Upd p3 wd (wd.setCell ⟨p3, 8, none⟩ (.int .i64 (wrap64 x12))) := (Upd.refl p3 wd).setCell rfl _
      have HS1 := hid (HM4.out.2.upd u1 hn5)
      have HS2 := hid (HM4.out.2.upd (u1.setCell (p := ⟨p3, 13, none⟩) rfl (.int .i64 (wrap64 x13))) hn5)
      have HF : Hid (RwM e gn gb s w p2 p3 (4 + 1) (fun _ => nilS) (fun _ => []) (((wd.setCell ⟨p3, 8, none⟩ (.int .i64 (wrap64 x12))).setCell ⟨p3, 13, none⟩ (.int .i64 (wrap64 x13))).setCell ⟨p3, 18, none⟩ (.int .i64 x14))) := hid (by
        have := HM4.out.1.queue (by omega)
        obtain ⟨g0, g1, g2, g3, g4, g5, g6, g7, g8, g9, g10, g11, g12, g13, g14⟩ := HX.out
        rw [g12, g13, g14] at this
        exact this)
      clear b0 b1 b2 u1 hn5 HM4
      go_wp2_with fail
      refine ⟨⟨HS1.out.cell 0, HS1.out.cell 1, HS1.out.cell 2⟩, ?_⟩
      go_wp2_with fail
      refine ⟨⟨HS1.out.cell 0, HS1.out.cell 1, HS1.out.cell 2⟩, ?_⟩
      go_wp2_with fail
      refine ⟨⟨HS2.out.cell 0, HS2.out.cell 1, HS2.out.cell 2⟩, ?_⟩
      simp only [QN]
      clear HS1 HS2
      go_wp2
      exact ⟨⟨4 + 1, by omega, by go_num, HF⟩, by simp [intOf]⟩

  have dq : decide ((q : Int) < 5) = false := decide_eq_false (by omega)
  have HMq : Hid (RwM e gn gb s w p2 p3 5 (fun _ => nilS) (XN s 0) wr) := hid (by
    have h1 : q = 5 := by omega
    rw [XN_zero, ← h1]
    exact HM.out)
  clear HM HX
  obtain ⟨wa, hwa⟩ : ∃ wa, wa = wr := ⟨_, rfl⟩
  subst hwa
  obtain ⟨N, hN⟩ : ∃ N, s.n = N := ⟨_, rfl⟩
  have c4 : wa.cell? ⟨e, 4, none⟩ = some (.slice (some ⟨gn, 0, none⟩) N N) := by rw [← hN]; exact HMq.out.em.nds
  have hNb : N ≤ 131072 := by rw [← hN]; exact HI.out.q.nb
  have HN := hid hN
  clear hN
  obtain ⟨ii, hii, hiz, hisz, hiby⟩ := info_intz
  have IT := hid (And.intro hii (And.intro hiz (And.intro hisz hiby)))
  obtain ⟨iq, hiq, hqz, hqsz, hqby⟩ := info_quez
  have IQ := hid (And.intro hiq (And.intro hqz (And.intro hqsz hqby)))
  obtain ⟨iu, hiu, huz, husz, huby⟩ := info_u64z
  have IU := hid (And.intro hiu (And.intro huz (And.intro husz huby)))
  obtain ⟨ib, hib, hbz, hbsz, hbby⟩ := info_boolz
  have IB := hid (And.intro hib (And.intro hbz (And.intro hbsz hbby)))
  clear hii hiz hisz hiby hiq hqz hqsz hqby hiu huz husz huby hib hbz hbsz hbby
  go_upto_region 8 with fail
  clear c4 dq hq hq5
  go_loopw [54] (fun v wr => ∃ i : Nat, i ≤ N ∧ v = .int .i64 (i : Int) ∧ Hid (∃ V, RwM e gn gb s w p2 p3 5 V (XN s i) wr)) (fun v _ => N - (intOf v).toNat)
  case atStart => exact ⟨0, by omega, rfl, hid ⟨_, HMq.out⟩⟩
  case round =>
  clear HMq
  obtain ⟨i, hi, rfl, HK⟩ := hrel
  obtain ⟨V, hvm⟩ := HK.out
  have HM := hid hvm
  clear hvm HK
  by_cases hin : i < N
  · as_aux_lemma =>
    have hisn : i < s.n := by rw [HN.out]; exact hin
    have di : decide ((i : Int) < (N : Int)) = true := decide_eq_true (by omega)
    have hii : (i : Int) < (N : Int) := by omega
    obtain ⟨y0, h0⟩ : ∃ y, s.prv i = y := ⟨_, rfl⟩
    obtain ⟨y1, h1⟩ : ∃ y, s.nxt i = y := ⟨_, rfl⟩
    obtain ⟨y2, h2⟩ : ∃ y, s.chn i = y := ⟨_, rfl⟩
    obtain ⟨y3, h3⟩ : ∃ y, s.pin i = y := ⟨_, rfl⟩
    obtain ⟨y4, h4⟩ : ∃ y : Int, (s.key i : Int) = y := ⟨_, rfl⟩
    obtain ⟨y5, h5⟩ : ∃ y : Int, (s.whr i : Int) = y := ⟨_, rfl⟩
    obtain ⟨y6, h6⟩ : ∃ y, s.neg i = y := ⟨_, rfl⟩
    have g0 : wr.cell? ⟨gn, i * 7, none⟩ = some (.int .i32 y0) := by rw [← h0]; exact HM.out.em.prv hisn
    have g1 : wr.cell? ⟨gn, i * 7 + 1, none⟩ = some (.int .i32 y1) := by rw [← h1]; exact HM.out.em.nxt hisn
    have g2 : wr.cell? ⟨gn, i * 7 + 2, none⟩ = some (.int .i32 y2) := by rw [← h2]; exact HM.out.em.chn hisn
    have g3 : wr.cell? ⟨gn, i * 7 + 3, none⟩ = some (.int .i32 y3) := by rw [← h3]; exact HM.out.em.pin hisn
    have g4 : wr.cell? ⟨gn, i * 7 + 4, none⟩ = some (.int .u64 y4) := by rw [← h4]; exact HM.out.em.key hisn
    have g5 : wr.cell? ⟨gn, i * 7 + 5, none⟩ = some (.int .u8 y5) := by rw [← h5]; exact HM.out.em.whr hisn
    have g6 : wr.cell? ⟨gn, i * 7 + 6, none⟩ = some (.bool y6) := by rw [← h6]; exact HM.out.em.neg hisn
    have HY := hid (And.intro h0 (And.intro h1 (And.intro h2 (And.intro h3 (And.intro h4 (And.intro h5 h6))))))
    clear h0 h1 h2 h3 h4 h5 h6
    obtain ⟨p7, hp7⟩ : ∃ p, wr.heap.size = p := ⟨_, rfl⟩
    go_upto_region 10 with fail
    obtain ⟨wn0, hwn⟩ : ∃ w4, wr.alloc (.cells #[.int .i32 y0, .int .i32 y1, .int .i32 y2, .int .i32 y3, .int .u64 y4, .int .u8 y5, .bool y6] 86) = w4 := ⟨_, rfl⟩
    have HM0 : Hid (RwM e gn gb s w p2 p3 5 V (XN s i) wn0 ∧ Blk wn0 p7 86 [.int .i32 y0, .int .i32 y1, .int .i32 y2, .int .i32 y3, .int .u64 y4, .int .u8 y5, .bool y6]) := hid (by
      have k1 := Blk.new wr [.int .i32 y0, .int .i32 y1, .int .i32 y2, .int .i32 y3, .int .u64 y4, .int .u8 y5, .bool y6] 86
      rw [hp7] at k1
      rw [← hwn]
      exact ⟨HM.out.below (nbel wr _), k1⟩)
    try simp only [hwn]
    clear hwn hp7 HM g0 g1 g2 g3 g4 g5 g6 di hii
    obtain ⟨X0, hX0⟩ : ∃ X, XN s i = X := ⟨_, rfl⟩
    rw [hX0] at HM0
    have HX0 := hid hX0
    have hlx : ∀ j, j < 7 → (X0 j).length = i := fun j hj => by rw [← hX0]; exact XN_len s i hj
    have Hlx := hid hlx
    clear hX0 hlx
    obtain ⟨V0, hV0⟩ : ∃ V', V' = V := ⟨_, rfl⟩
    subst hV0
    have Hl0 : Hid ((X0 0).length = i) := hid (by exact Hlx.out 0 (by omega))
    obtain ⟨av, nv, ac, hav⟩ := (HM0.out.1.ow 0 (by omega)).shape
    have zc : wn0.cell? ⟨p3, 19, none⟩ = some (.slice av nv ac) := by
      rw [← hav]
      exact (HM0.out.1.b3.cell _).trans (rwC_row s 5 _ (j := 0) (by omega))
    have zn : wn0.cell? ⟨p7, 0, none⟩ = some (.int .i32 y0) := HM0.out.2.cell 0
    have Hav := hid hav
    clear hav
    obtain ⟨w6, hw6⟩ : ∃ w6, wn0.alloc (.cells #[.int .i64 (wrap64 y0)] 3) = w6 := ⟨_, rfl⟩
    have HN6 : Hid (RwM e gn gb s w p2 p3 5 V0 X0 w6 ∧ Blk w6 p7 86 [.int .i32 y0, .int .i32 y1, .int .i32 y2, .int .i32 y3, .int .u64 y4, .int .u8 y5, .bool y6]) := hid (by rw [← hw6]; exact ⟨HM0.out.1.below (nbel wn0 _), HM0.out.2.below (nbel wn0 _)⟩)
    have HNw := hid (newRow wn0 [.int .i64 (wrap64 y0)] 3 wn0.heap.size rfl)
    rw [show (wn0.alloc (.cells [.int .i64 (wrap64 y0)].toArray 3)) = w6 from hw6] at HNw
    obtain ⟨p6, hp6⟩ : ∃ p, wn0.heap.size = p := ⟨_, rfl⟩
    rw [hp6] at HNw
    have hbs : w.heap.size ≤ w6.heap.size := HN6.out.1.bel.size
    have HOw : Hid (OR w6 w.heap.size (rT 0) 1 one (.slice av nv ac) (X0 0)) := hid (by rw [← Hav.out]; exact HN6.out.1.ow 0 (by omega))
    go_wp2_with (at_builtin; refine stopHere ?_)
    intro _
    (try simp only [hw6])
    refine wpList_append_row _ rfl (.tmp 59) (.tmp 63) 52 rfl w.heap.size 3 ii (.int .i64 0) 1 8 Tryd.underlying52 IT.out.1 IT.out.2.1 IT.out.2.2.1 IT.out.2.2.2 rfl (by decide) (.slice av nv ac) _ _ (by simp [Act.eval, Act.put]; done) HOw.out (some ⟨p6, 0, none⟩) 1 1 (one (.int .i64 (wrap64 y0))) (by simp [Act.eval, Act.put]; done) rfl (fun h => by cases h) HNw.out (fun u hu => by simp only [one, List.mem_cons, List.not_mem_nil, or_false] at hu; rw [hu]; rfl) (by have := Hl0.out; omega) (by decide) hbs ?_
    intro v7 w7 hown7 hb7 hk7 hg7
    have HA7 := hid (⟨by have := hown7; rw [flatMap_snoc] at this; unfold OR; rw [List.length_append]; exact this, hb7, hk7, hg7⟩ : App w.heap.size (rT 0) 1 one (.slice av nv ac) (X0 0 ++ [.int .i64 (wrap64 y0)]) w6 v7 w7)
    clear hown7 hb7 hk7 hg7
    obtain ⟨a7, n7, c7, h7⟩ := HA7.out.ow.shape
    subst h7
    rw [← Hav.out] at HA7
    have HB7 : Hid (Blk w7 p3 56 (rwC s 5 V0) ∧ Blk w7 p7 86 [.int .i32 y0, .int .i32 y1, .int .i32 y2, .int .i32 y3, .int .u64 y4, .int .u8 y5, .bool y6]) := hid (by
      have kt : ∀ k t cs, Blk w6 k t cs → t ≠ rT 0 → Blk w7 k t cs := fun k t cs hb ht => hb.same (HA7.out.keep k hb.lt fun g hg e => by subst e; obtain ⟨_, c2, b2⟩ := (HN6.out.1.ow 0 (by omega)).blk hg; exact hb.tne b2 ht rfl)
      exact ⟨kt _ _ _ HN6.out.1.b3 (by decide), kt _ _ _ HN6.out.2 (by decide)⟩)
    have zd : w7.cell? ⟨p3, 19, none⟩ = some (.slice av nv ac) := by
      rw [← Hav.out]
      exact (HB7.out.1.cell _).trans (rwC_row s 5 _ (j := 0) (by omega))
    have zf : w7.frozen? ⟨p3, 19, none⟩ = false := HB7.out.1.frozen 19
    have HM1 : Hid (RwM e gn gb s w p2 p3 5 (upd V0 0 (.slice a7 n7 c7)) (upd X0 0 (X0 0 ++ [.int .i64 (wrap64 y0)])) (w7.setCell ⟨p3, 19, none⟩ (.slice a7 n7 c7)) ∧ Blk (w7.setCell ⟨p3, 19, none⟩ (.slice a7 n7 c7)) p7 86 [.int .i32 y0, .int .i32 y1, .int .i32 y2, .int .i32 y3, .int .u64 y4, .int .u8 y5, .bool y6]) := hid ⟨HN6.out.1.app (j := 0) (by omega) HA7.out, HB7.out.2.upd ((Upd.refl p3 w7).setCell rfl _) (HB7.out.2.tne HB7.out.1 (by decide))⟩
    clear HA7 HB7 HN6 HNw HOw Hav hw6 hp6 hbs zc zn HM0
    go_upto_region 11 with fail
    clear zd zf
    generalize w7.setCell ⟨p3, 19, none⟩ (.slice a7 n7 c7) = wn1 at HM1 ⊢
    obtain ⟨V1, hVn⟩ : ∃ V', upd V0 0 (.slice a7 n7 c7) = V' := ⟨_, rfl⟩
    rw [hVn] at HM1
    clear hVn
    obtain ⟨X1, hXn⟩ : ∃ X', upd X0 0 (X0 0 ++ [.int .i64 (wrap64 y0)]) = X' := ⟨_, rfl⟩
    rw [hXn] at HM1
    have HX1 := hid hXn
    clear hXn
    have Hl1 : Hid ((X1 1).length = i) := hid (by rw [← HX1.out, upd_ne _ _ (by omega)]; exact Hlx.out 1 (by omega))
    obtain ⟨av, nv, ac, hav⟩ := (HM1.out.1.ow 1 (by omega)).shape
    have zc : wn1.cell? ⟨p3, 20, none⟩ = some (.slice av nv ac) := by
      rw [← hav]
      exact (HM1.out.1.b3.cell _).trans (rwC_row s 5 _ (j := 1) (by omega))
    have zn : wn1.cell? ⟨p7, 1, none⟩ = some (.int .i32 y1) := HM1.out.2.cell 1
    have Hav := hid hav
    clear hav
    obtain ⟨w6, hw6⟩ : ∃ w6, wn1.alloc (.cells #[.int .i64 (wrap64 y1)] 3) = w6 := ⟨_, rfl⟩
    have HN6 : Hid (RwM e gn gb s w p2 p3 5 V1 X1 w6 ∧ Blk w6 p7 86 [.int .i32 y0, .int .i32 y1, .int .i32 y2, .int .i32 y3, .int .u64 y4, .int .u8 y5, .bool y6]) := hid (by rw [← hw6]; exact ⟨HM1.out.1.below (nbel wn1 _), HM1.out.2.below (nbel wn1 _)⟩)
    have HNw := hid (newRow wn1 [.int .i64 (wrap64 y1)] 3 wn1.heap.size rfl)
    rw [show (wn1.alloc (.cells [.int .i64 (wrap64 y1)].toArray 3)) = w6 from hw6] at HNw
    obtain ⟨p6, hp6⟩ : ∃ p, wn1.heap.size = p := ⟨_, rfl⟩
    rw [hp6] at HNw
    have hbs : w.heap.size ≤ w6.heap.size := HN6.out.1.bel.size
    have HOw : Hid (OR w6 w.heap.size (rT 1) 1 one (.slice av nv ac) (X1 1)) := hid (by rw [← Hav.out]; exact HN6.out.1.ow 1 (by omega))
    go_wp2_with (at_builtin; refine stopHere ?_)
    intro _
    (try simp only [hw6])
    refine wpList_append_row _ rfl (.tmp 67) (.tmp 71) 52 rfl w.heap.size 3 ii (.int .i64 0) 1 8 Tryd.underlying52 IT.out.1 IT.out.2.1 IT.out.2.2.1 IT.out.2.2.2 rfl (by decide) (.slice av nv ac) _ _ (by simp [Act.eval, Act.put]; done) HOw.out (some ⟨p6, 0, none⟩) 1 1 (one (.int .i64 (wrap64 y1))) (by simp [Act.eval, Act.put]; done) rfl (fun h => by cases h) HNw.out (fun u hu => by simp only [one, List.mem_cons, List.not_mem_nil, or_false] at hu; rw [hu]; rfl) (by have := Hl1.out; omega) (by decide) hbs ?_
    intro v7 w7 hown7 hb7 hk7 hg7
    have HA7 := hid (⟨by have := hown7; rw [flatMap_snoc] at this; unfold OR; rw [List.length_append]; exact this, hb7, hk7, hg7⟩ : App w.heap.size (rT 1) 1 one (.slice av nv ac) (X1 1 ++ [.int .i64 (wrap64 y1)]) w6 v7 w7)
    clear hown7 hb7 hk7 hg7
    obtain ⟨a7, n7, c7, h7⟩ := HA7.out.ow.shape
    subst h7
    rw [← Hav.out] at HA7
    have HB7 : Hid (Blk w7 p3 56 (rwC s 5 V1) ∧ Blk w7 p7 86 [.int .i32 y0, .int .i32 y1, .int .i32 y2, .int .i32 y3, .int .u64 y4, .int .u8 y5, .bool y6]) := hid (by
      have kt : ∀ k t cs, Blk w6 k t cs → t ≠ rT 1 → Blk w7 k t cs := fun k t cs hb ht => hb.same (HA7.out.keep k hb.lt fun g hg e => by subst e; obtain ⟨_, c2, b2⟩ := (HN6.out.1.ow 1 (by omega)).blk hg; exact hb.tne b2 ht rfl)
      exact ⟨kt _ _ _ HN6.out.1.b3 (by decide), kt _ _ _ HN6.out.2 (by decide)⟩)
    have zd : w7.cell? ⟨p3, 20, none⟩ = some (.slice av nv ac) := by
      rw [← Hav.out]
      exact (HB7.out.1.cell _).trans (rwC_row s 5 _ (j := 1) (by omega))
    have zf : w7.frozen? ⟨p3, 20, none⟩ = false := HB7.out.1.frozen 20
    have HM2 : Hid (RwM e gn gb s w p2 p3 5 (upd V1 1 (.slice a7 n7 c7)) (upd X1 1 (X1 1 ++ [.int .i64 (wrap64 y1)])) (w7.setCell ⟨p3, 20, none⟩ (.slice a7 n7 c7)) ∧ Blk (w7.setCell ⟨p3, 20, none⟩ (.slice a7 n7 c7)) p7 86 [.int .i32 y0, .int .i32 y1, .int .i32 y2, .int .i32 y3, .int .u64 y4, .int .u8 y5, .bool y6]) := hid ⟨HN6.out.1.app (j := 1) (by omega) HA7.out, HB7.out.2.upd ((Upd.refl p3 w7).setCell rfl _) (HB7.out.2.tne HB7.out.1 (by decide))⟩
    clear HA7 HB7 HN6 HNw HOw Hav hw6 hp6 hbs zc zn HM1
    go_upto_region 12 with fail
    clear zd zf
    generalize w7.setCell ⟨p3, 20, none⟩ (.slice a7 n7 c7) = wn2 at HM2 ⊢
    obtain ⟨V2, hVn⟩ : ∃ V', upd V1 1 (.slice a7 n7 c7) = V' := ⟨_, rfl⟩
    rw [hVn] at HM2
    clear hVn
    obtain ⟨X2, hXn⟩ : ∃ X', upd X1 1 (X1 1 ++ [.int .i64 (wrap64 y1)]) = X' := ⟨_, rfl⟩
    rw [hXn] at HM2
    have HX2 := hid hXn
    clear hXn
    have Hl2 : Hid ((X2 2).length = i) := hid (by rw [← HX2.out, upd_ne _ _ (by omega), ← HX1.out, upd_ne _ _ (by omega)]; exact Hlx.out 2 (by omega))
    obtain ⟨av, nv, ac, hav⟩ := (HM2.out.1.ow 2 (by omega)).shape
    have zc : wn2.cell? ⟨p3, 21, none⟩ = some (.slice av nv ac) := by
      rw [← hav]
      exact (HM2.out.1.b3.cell _).trans (rwC_row s 5 _ (j := 2) (by omega))
    have zn : wn2.cell? ⟨p7, 2, none⟩ = some (.int .i32 y2) := HM2.out.2.cell 2
    have Hav := hid hav
    clear hav
    obtain ⟨w6, hw6⟩ : ∃ w6, wn2.alloc (.cells #[.int .i64 (wrap64 y2)] 3) = w6 := ⟨_, rfl⟩
    have HN6 : Hid (RwM e gn gb s w p2 p3 5 V2 X2 w6 ∧ Blk w6 p7 86 [.int .i32 y0, .int .i32 y1, .int .i32 y2, .int .i32 y3, .int .u64 y4, .int .u8 y5, .bool y6]) := hid (by rw [← hw6]; exact ⟨HM2.out.1.below (nbel wn2 _), HM2.out.2.below (nbel wn2 _)⟩)
    have HNw := hid (newRow wn2 [.int .i64 (wrap64 y2)] 3 wn2.heap.size rfl)
    rw [show (wn2.alloc (.cells [.int .i64 (wrap64 y2)].toArray 3)) = w6 from hw6] at HNw
    obtain ⟨p6, hp6⟩ : ∃ p, wn2.heap.size = p := ⟨_, rfl⟩
    rw [hp6] at HNw
    have hbs : w.heap.size ≤ w6.heap.size := HN6.out.1.bel.size
    have HOw : Hid (OR w6 w.heap.size (rT 2) 1 one (.slice av nv ac) (X2 2)) := hid (by rw [← Hav.out]; exact HN6.out.1.ow 2 (by omega))
    go_wp2_with (at_builtin; refine stopHere ?_)
    intro _
    (try simp only [hw6])
    refine wpList_append_row _ rfl (.tmp 75) (.tmp 79) 52 rfl w.heap.size 3 ii (.int .i64 0) 1 8 Tryd.underlying52 IT.out.1 IT.out.2.1 IT.out.2.2.1 IT.out.2.2.2 rfl (by decide) (.slice av nv ac) _ _ (by simp [Act.eval, Act.put]; done) HOw.out (some ⟨p6, 0, none⟩) 1 1 (one (.int .i64 (wrap64 y2))) (by simp [Act.eval, Act.put]; done) rfl (fun h => by cases h) HNw.out (fun u hu => by simp only [one, List.mem_cons, List.not_mem_nil, or_false] at hu; rw [hu]; rfl) (by have := Hl2.out; omega) (by decide) hbs ?_
    intro v7 w7 hown7 hb7 hk7 hg7
    have HA7 := hid (⟨by have := hown7; rw [flatMap_snoc] at this; unfold OR; rw [List.length_append]; exact this, hb7, hk7, hg7⟩ : App w.heap.size (rT 2) 1 one (.slice av nv ac) (X2 2 ++ [.int .i64 (wrap64 y2)]) w6 v7 w7)
    clear hown7 hb7 hk7 hg7
    obtain ⟨a7, n7, c7, h7⟩ := HA7.out.ow.shape
    subst h7
    rw [← Hav.out] at HA7
    have HB7 : Hid (Blk w7 p3 56 (rwC s 5 V2) ∧ Blk w7 p7 86 [.int .i32 y0, .int .i32 y1, .int .i32 y2, .int .i32 y3, .int .u64 y4, .int .u8 y5, .bool y6]) := hid (by
      have kt : ∀ k t cs, Blk w6 k t cs → t ≠ rT 2 → Blk w7 k t cs := fun k t cs hb ht => hb.same (HA7.out.keep k hb.lt fun g hg e => by subst e; obtain ⟨_, c2, b2⟩ := (HN6.out.1.ow 2 (by omega)).blk hg; exact hb.tne b2 ht rfl)
      exact ⟨kt _ _ _ HN6.out.1.b3 (by decide), kt _ _ _ HN6.out.2 (by decide)⟩)
    have zd : w7.cell? ⟨p3, 21, none⟩ = some (.slice av nv ac) := by
      rw [← Hav.out]
      exact (HB7.out.1.cell _).trans (rwC_row s 5 _ (j := 2) (by omega))
    have zf : w7.frozen? ⟨p3, 21, none⟩ = false := HB7.out.1.frozen 21
    have HM3 : Hid (RwM e gn gb s w p2 p3 5 (upd V2 2 (.slice a7 n7 c7)) (upd X2 2 (X2 2 ++ [.int .i64 (wrap64 y2)])) (w7.setCell ⟨p3, 21, none⟩ (.slice a7 n7 c7)) ∧ Blk (w7.setCell ⟨p3, 21, none⟩ (.slice a7 n7 c7)) p7 86 [.int .i32 y0, .int .i32 y1, .int .i32 y2, .int .i32 y3, .int .u64 y4, .int .u8 y5, .bool y6]) := hid ⟨HN6.out.1.app (j := 2) (by omega) HA7.out, HB7.out.2.upd ((Upd.refl p3 w7).setCell rfl _) (HB7.out.2.tne HB7.out.1 (by decide))⟩
    clear HA7 HB7 HN6 HNw HOw Hav hw6 hp6 hbs zc zn HM2
    go_upto_region 13 with fail
    clear zd zf
    generalize w7.setCell ⟨p3, 21, none⟩ (.slice a7 n7 c7) = wn3 at HM3 ⊢
    obtain ⟨V3, hVn⟩ : ∃ V', upd V2 2 (.slice a7 n7 c7) = V' := ⟨_, rfl⟩
    rw [hVn] at HM3
    clear hVn
    obtain ⟨X3, hXn⟩ : ∃ X', upd X2 2 (X2 2 ++ [.int .i64 (wrap64 y2)]) = X' := ⟨_, rfl⟩
    rw [hXn] at HM3
    have HX3 := hid hXn
    clear hXn
    have Hl3 : Hid ((X3 3).length = i) := hid (by rw [← HX3.out, upd_ne _ _ (by omega), ← HX2.out, upd_ne _ _ (by omega), ← HX1.out, upd_ne _ _ (by omega)]; exact Hlx.out 3 (by omega))
    obtain ⟨av, nv, ac, hav⟩ := (HM3.out.1.ow 3 (by omega)).shape
    have zc : wn3.cell? ⟨p3, 22, none⟩ = some (.slice av nv ac) := by
      rw [← hav]
      exact (HM3.out.1.b3.cell _).trans (rwC_row s 5 _ (j := 3) (by omega))
    have zn : wn3.cell? ⟨p7, 5, none⟩ = some (.int .u8 y5) := HM3.out.2.cell 5
    have Hav := hid hav
    clear hav
    obtain ⟨w6, hw6⟩ : ∃ w6, wn3.alloc (.cells #[.int .u8 y5] 61) = w6 := ⟨_, rfl⟩
    have HN6 : Hid (RwM e gn gb s w p2 p3 5 V3 X3 w6 ∧ Blk w6 p7 86 [.int .i32 y0, .int .i32 y1, .int .i32 y2, .int .i32 y3, .int .u64 y4, .int .u8 y5, .bool y6]) := hid (by rw [← hw6]; exact ⟨HM3.out.1.below (nbel wn3 _), HM3.out.2.below (nbel wn3 _)⟩)
    have HNw := hid (newRow wn3 [.int .u8 y5] 61 wn3.heap.size rfl)
    rw [show (wn3.alloc (.cells [.int .u8 y5].toArray 61)) = w6 from hw6] at HNw
    obtain ⟨p6, hp6⟩ : ∃ p, wn3.heap.size = p := ⟨_, rfl⟩
    rw [hp6] at HNw
    have hbs : w.heap.size ≤ w6.heap.size := HN6.out.1.bel.size
    have HOw : Hid (OR w6 w.heap.size (rT 3) 1 one (.slice av nv ac) (X3 3)) := hid (by rw [← Hav.out]; exact HN6.out.1.ow 3 (by omega))
    go_wp2_with (at_builtin; refine stopHere ?_)
    intro _
    (try simp only [hw6])
    refine wpList_append_row _ rfl (.tmp 83) (.tmp 86) 53 rfl w.heap.size 61 iq (.int .u8 0) 1 1 Tryd.underlying53 IQ.out.1 IQ.out.2.1 IQ.out.2.2.1 IQ.out.2.2.2 rfl (by decide) (.slice av nv ac) _ _ (by simp [Act.eval, Act.put]; done) HOw.out (some ⟨p6, 0, none⟩) 1 1 (one (.int .u8 y5)) (by simp [Act.eval, Act.put]; done) rfl (fun h => by cases h) HNw.out (fun u hu => by simp only [one, List.mem_cons, List.not_mem_nil, or_false] at hu; rw [hu]; rfl) (by have := Hl3.out; omega) (by decide) hbs ?_
    intro v7 w7 hown7 hb7 hk7 hg7
    have HA7 := hid (⟨by have := hown7; rw [flatMap_snoc] at this; unfold OR; rw [List.length_append]; exact this, hb7, hk7, hg7⟩ : App w.heap.size (rT 3) 1 one (.slice av nv ac) (X3 3 ++ [.int .u8 y5]) w6 v7 w7)
    clear hown7 hb7 hk7 hg7
    obtain ⟨a7, n7, c7, h7⟩ := HA7.out.ow.shape
    subst h7
    rw [← Hav.out] at HA7
    have HB7 : Hid (Blk w7 p3 56 (rwC s 5 V3) ∧ Blk w7 p7 86 [.int .i32 y0, .int .i32 y1, .int .i32 y2, .int .i32 y3, .int .u64 y4, .int .u8 y5, .bool y6]) := hid (by
      have kt : ∀ k t cs, Blk w6 k t cs → t ≠ rT 3 → Blk w7 k t cs := fun k t cs hb ht => hb.same (HA7.out.keep k hb.lt fun g hg e => by subst e; obtain ⟨_, c2, b2⟩ := (HN6.out.1.ow 3 (by omega)).blk hg; exact hb.tne b2 ht rfl)
      exact ⟨kt _ _ _ HN6.out.1.b3 (by decide), kt _ _ _ HN6.out.2 (by decide)⟩)
    have zd : w7.cell? ⟨p3, 22, none⟩ = some (.slice av nv ac) := by
      rw [← Hav.out]
      exact (HB7.out.1.cell _).trans (rwC_row s 5 _ (j := 3) (by omega))
    have zf : w7.frozen? ⟨p3, 22, none⟩ = false := HB7.out.1.frozen 22
    have HM4 : Hid (RwM e gn gb s w p2 p3 5 (upd V3 3 (.slice a7 n7 c7)) (upd X3 3 (X3 3 ++ [.int .u8 y5])) (w7.setCell ⟨p3, 22, none⟩ (.slice a7 n7 c7)) ∧ Blk (w7.setCell ⟨p3, 22, none⟩ (.slice a7 n7 c7)) p7 86 [.int .i32 y0, .int .i32 y1, .int .i32 y2, .int .i32 y3, .int .u64 y4, .int .u8 y5, .bool y6]) := hid ⟨HN6.out.1.app (j := 3) (by omega) HA7.out, HB7.out.2.upd ((Upd.refl p3 w7).setCell rfl _) (HB7.out.2.tne HB7.out.1 (by decide))⟩
    clear HA7 HB7 HN6 HNw HOw Hav hw6 hp6 hbs zc zn HM3
    go_upto_region 14 with fail
    clear zd zf
    generalize w7.setCell ⟨p3, 22, none⟩ (.slice a7 n7 c7) = wn4 at HM4 ⊢
    obtain ⟨V4, hVn⟩ : ∃ V', upd V3 3 (.slice a7 n7 c7) = V' := ⟨_, rfl⟩
    rw [hVn] at HM4
    clear hVn
    obtain ⟨X4, hXn⟩ : ∃ X', upd X3 3 (X3 3 ++ [.int .u8 y5]) = X' := ⟨_, rfl⟩
    rw [hXn] at HM4
    have HX4 := hid hXn
    clear hXn
    have Hl4 : Hid ((X4 4).length = i) := hid (by rw [← HX4.out, upd_ne _ _ (by omega), ← HX3.out, upd_ne _ _ (by omega), ← HX2.out, upd_ne _ _ (by omega), ← HX1.out, upd_ne _ _ (by omega)]; exact Hlx.out 4 (by omega))
    obtain ⟨av, nv, ac, hav⟩ := (HM4.out.1.ow 4 (by omega)).shape
    have zc : wn4.cell? ⟨p3, 23, none⟩ = some (.slice av nv ac) := by
      rw [← hav]
      exact (HM4.out.1.b3.cell _).trans (rwC_row s 5 _ (j := 4) (by omega))
    have zn : wn4.cell? ⟨p7, 4, none⟩ = some (.int .u64 y4) := HM4.out.2.cell 4
    have Hav := hid hav
    clear hav
    obtain ⟨w6, hw6⟩ : ∃ w6, wn4.alloc (.cells #[.int .u64 y4] 29) = w6 := ⟨_, rfl⟩
    have HN6 : Hid (RwM e gn gb s w p2 p3 5 V4 X4 w6 ∧ Blk w6 p7 86 [.int .i32 y0, .int .i32 y1, .int .i32 y2, .int .i32 y3, .int .u64 y4, .int .u8 y5, .bool y6]) := hid (by rw [← hw6]; exact ⟨HM4.out.1.below (nbel wn4 _), HM4.out.2.below (nbel wn4 _)⟩)
    have HNw := hid (newRow wn4 [.int .u64 y4] 29 wn4.heap.size rfl)
    rw [show (wn4.alloc (.cells [.int .u64 y4].toArray 29)) = w6 from hw6] at HNw
    obtain ⟨p6, hp6⟩ : ∃ p, wn4.heap.size = p := ⟨_, rfl⟩
    rw [hp6] at HNw
    have hbs : w.heap.size ≤ w6.heap.size := HN6.out.1.bel.size
    have HOw : Hid (OR w6 w.heap.size (rT 4) 1 one (.slice av nv ac) (X4 4)) := hid (by rw [← Hav.out]; exact HN6.out.1.ow 4 (by omega))
    go_wp2_with (at_builtin; refine stopHere ?_)
    intro _
    (try simp only [hw6])
    refine wpList_append_row _ rfl (.tmp 90) (.tmp 93) 39 rfl w.heap.size 29 iu (.int .u64 0) 1 8 Tryd.underlying39 IU.out.1 IU.out.2.1 IU.out.2.2.1 IU.out.2.2.2 rfl (by decide) (.slice av nv ac) _ _ (by simp [Act.eval, Act.put]; done) HOw.out (some ⟨p6, 0, none⟩) 1 1 (one (.int .u64 y4)) (by simp [Act.eval, Act.put]; done) rfl (fun h => by cases h) HNw.out (fun u hu => by simp only [one, List.mem_cons, List.not_mem_nil, or_false] at hu; rw [hu]; rfl) (by have := Hl4.out; omega) (by decide) hbs ?_
    intro v7 w7 hown7 hb7 hk7 hg7
    have HA7 := hid (⟨by have := hown7; rw [flatMap_snoc] at this; unfold OR; rw [List.length_append]; exact this, hb7, hk7, hg7⟩ : App w.heap.size (rT 4) 1 one (.slice av nv ac) (X4 4 ++ [.int .u64 y4]) w6 v7 w7)
    clear hown7 hb7 hk7 hg7
    obtain ⟨a7, n7, c7, h7⟩ := HA7.out.ow.shape
    subst h7
    rw [← Hav.out] at HA7
    have HB7 : Hid (Blk w7 p3 56 (rwC s 5 V4) ∧ Blk w7 p7 86 [.int .i32 y0, .int .i32 y1, .int .i32 y2, .int .i32 y3, .int .u64 y4, .int .u8 y5, .bool y6]) := hid (by
      have kt : ∀ k t cs, Blk w6 k t cs → t ≠ rT 4 → Blk w7 k t cs := fun k t cs hb ht => hb.same (HA7.out.keep k hb.lt fun g hg e => by subst e; obtain ⟨_, c2, b2⟩ := (HN6.out.1.ow 4 (by omega)).blk hg; exact hb.tne b2 ht rfl)
      exact ⟨kt _ _ _ HN6.out.1.b3 (by decide), kt _ _ _ HN6.out.2 (by decide)⟩)
    have zd : w7.cell? ⟨p3, 23, none⟩ = some (.slice av nv ac) := by
      rw [← Hav.out]
      exact (HB7.out.1.cell _).trans (rwC_row s 5 _ (j := 4) (by omega))
    have zf : w7.frozen? ⟨p3, 23, none⟩ = false := HB7.out.1.frozen 23
    have HM5 : Hid (RwM e gn gb s w p2 p3 5 (upd V4 4 (.slice a7 n7 c7)) (upd X4 4 (X4 4 ++ [.int .u64 y4])) (w7.setCell ⟨p3, 23, none⟩ (.slice a7 n7 c7)) ∧ Blk (w7.setCell ⟨p3, 23, none⟩ (.slice a7 n7 c7)) p7 86 [.int .i32 y0, .int .i32 y1, .int .i32 y2, .int .i32 y3, .int .u64 y4, .int .u8 y5, .bool y6]) := hid ⟨HN6.out.1.app (j := 4) (by omega) HA7.out, HB7.out.2.upd ((Upd.refl p3 w7).setCell rfl _) (HB7.out.2.tne HB7.out.1 (by decide))⟩
    clear HA7 HB7 HN6 HNw HOw Hav hw6 hp6 hbs zc zn HM4
    go_upto_region 15 with fail
    clear zd zf
    generalize w7.setCell ⟨p3, 23, none⟩ (.slice a7 n7 c7) = wn5 at HM5 ⊢
    obtain ⟨V5, hVn⟩ : ∃ V', upd V4 4 (.slice a7 n7 c7) = V' := ⟨_, rfl⟩
    rw [hVn] at HM5
    clear hVn
    obtain ⟨X5, hXn⟩ : ∃ X', upd X4 4 (X4 4 ++ [.int .u64 y4]) = X' := ⟨_, rfl⟩
    rw [hXn] at HM5
    have HX5 := hid hXn
    clear hXn
    have Hl5 : Hid ((X5 5).length = i) := hid (by rw [← HX5.out, upd_ne _ _ (by omega), ← HX4.out, upd_ne _ _ (by omega), ← HX3.out, upd_ne _ _ (by omega), ← HX2.out, upd_ne _ _ (by omega), ← HX1.out, upd_ne _ _ (by omega)]; exact Hlx.out 5 (by omega))
    obtain ⟨av, nv, ac, hav⟩ := (HM5.out.1.ow 5 (by omega)).shape
    have zc : wn5.cell? ⟨p3, 24, none⟩ = some (.slice av nv ac) := by
      rw [← hav]
      exact (HM5.out.1.b3.cell _).trans (rwC_row s 5 _ (j := 5) (by omega))
    have zn : wn5.cell? ⟨p7, 3, none⟩ = some (.int .i32 y3) := HM5.out.2.cell 3
    have Hav := hid hav
    clear hav
    obtain ⟨w6, hw6⟩ : ∃ w6, wn5.alloc (.cells #[.int .i64 (wrap64 y3)] 3) = w6 := ⟨_, rfl⟩
    have HN6 : Hid (RwM e gn gb s w p2 p3 5 V5 X5 w6 ∧ Blk w6 p7 86 [.int .i32 y0, .int .i32 y1, .int .i32 y2, .int .i32 y3, .int .u64 y4, .int .u8 y5, .bool y6]) := hid (by rw [← hw6]; exact ⟨HM5.out.1.below (nbel wn5 _), HM5.out.2.below (nbel wn5 _)⟩)
    have HNw := hid (newRow wn5 [.int .i64 (wrap64 y3)] 3 wn5.heap.size rfl)
    rw [show (wn5.alloc (.cells [.int .i64 (wrap64 y3)].toArray 3)) = w6 from hw6] at HNw
    obtain ⟨p6, hp6⟩ : ∃ p, wn5.heap.size = p := ⟨_, rfl⟩
    rw [hp6] at HNw
    have hbs : w.heap.size ≤ w6.heap.size := HN6.out.1.bel.size
    have HOw : Hid (OR w6 w.heap.size (rT 5) 1 one (.slice av nv ac) (X5 5)) := hid (by rw [← Hav.out]; exact HN6.out.1.ow 5 (by omega))
    go_wp2_with (at_builtin; refine stopHere ?_)
    intro _
    (try simp only [hw6])
    refine wpList_append_row _ rfl (.tmp 97) (.tmp 101) 52 rfl w.heap.size 3 ii (.int .i64 0) 1 8 Tryd.underlying52 IT.out.1 IT.out.2.1 IT.out.2.2.1 IT.out.2.2.2 rfl (by decide) (.slice av nv ac) _ _ (by simp [Act.eval, Act.put]; done) HOw.out (some ⟨p6, 0, none⟩) 1 1 (one (.int .i64 (wrap64 y3))) (by simp [Act.eval, Act.put]; done) rfl (fun h => by cases h) HNw.out (fun u hu => by simp only [one, List.mem_cons, List.not_mem_nil, or_false] at hu; rw [hu]; rfl) (by have := Hl5.out; omega) (by decide) hbs ?_
    intro v7 w7 hown7 hb7 hk7 hg7
    have HA7 := hid (⟨by have := hown7; rw [flatMap_snoc] at this; unfold OR; rw [List.length_append]; exact this, hb7, hk7, hg7⟩ : App w.heap.size (rT 5) 1 one (.slice av nv ac) (X5 5 ++ [.int .i64 (wrap64 y3)]) w6 v7 w7)
    clear hown7 hb7 hk7 hg7
    obtain ⟨a7, n7, c7, h7⟩ := HA7.out.ow.shape
    subst h7
    rw [← Hav.out] at HA7
    have HB7 : Hid (Blk w7 p3 56 (rwC s 5 V5) ∧ Blk w7 p7 86 [.int .i32 y0, .int .i32 y1, .int .i32 y2, .int .i32 y3, .int .u64 y4, .int .u8 y5, .bool y6]) := hid (by
      have kt : ∀ k t cs, Blk w6 k t cs → t ≠ rT 5 → Blk w7 k t cs := fun k t cs hb ht => hb.same (HA7.out.keep k hb.lt fun g hg e => by subst e; obtain ⟨_, c2, b2⟩ := (HN6.out.1.ow 5 (by omega)).blk hg; exact hb.tne b2 ht rfl)
      exact ⟨kt _ _ _ HN6.out.1.b3 (by decide), kt _ _ _ HN6.out.2 (by decide)⟩)
    have zd : w7.cell? ⟨p3, 24, none⟩ = some (.slice av nv ac) := by
      rw [← Hav.out]
      exact (HB7.out.1.cell _).trans (rwC_row s 5 _ (j := 5) (by omega))
    have zf : w7.frozen? ⟨p3, 24, none⟩ = false := HB7.out.1.frozen 24
    have HM6 : Hid (RwM e gn gb s w p2 p3 5 (upd V5 5 (.slice a7 n7 c7)) (upd X5 5 (X5 5 ++ [.int .i64 (wrap64 y3)])) (w7.setCell ⟨p3, 24, none⟩ (.slice a7 n7 c7)) ∧ Blk (w7.setCell ⟨p3, 24, none⟩ (.slice a7 n7 c7)) p7 86 [.int .i32 y0, .int .i32 y1, .int .i32 y2, .int .i32 y3, .int .u64 y4, .int .u8 y5, .bool y6]) := hid ⟨HN6.out.1.app (j := 5) (by omega) HA7.out, HB7.out.2.upd ((Upd.refl p3 w7).setCell rfl _) (HB7.out.2.tne HB7.out.1 (by decide))⟩
    clear HA7 HB7 HN6 HNw HOw Hav hw6 hp6 hbs zc zn HM5
    go_upto_region 16 with fail
    clear zd zf
    generalize w7.setCell ⟨p3, 24, none⟩ (.slice a7 n7 c7) = wn6 at HM6 ⊢
    obtain ⟨V6, hVn⟩ : ∃ V', upd V5 5 (.slice a7 n7 c7) = V' := ⟨_, rfl⟩
    rw [hVn] at HM6
    clear hVn
    obtain ⟨X6, hXn⟩ : ∃ X', upd X5 5 (X5 5 ++ [.int .i64 (wrap64 y3)]) = X' := ⟨_, rfl⟩
    rw [hXn] at HM6
    have HX6 := hid hXn
    clear hXn
    have Hl6 : Hid ((X6 6).length = i) := hid (by rw [← HX6.out, upd_ne _ _ (by omega), ← HX5.out, upd_ne _ _ (by omega), ← HX4.out, upd_ne _ _ (by omega), ← HX3.out, upd_ne _ _ (by omega), ← HX2.out, upd_ne _ _ (by omega), ← HX1.out, upd_ne _ _ (by omega)]; exact Hlx.out 6 (by omega))
    obtain ⟨av, nv, ac, hav⟩ := (HM6.out.1.ow 6 (by omega)).shape
    have zc : wn6.cell? ⟨p3, 25, none⟩ = some (.slice av nv ac) := by
      rw [← hav]
      exact (HM6.out.1.b3.cell _).trans (rwC_row s 5 _ (j := 6) (by omega))
    have zn : wn6.cell? ⟨p7, 6, none⟩ = some (.bool y6) := HM6.out.2.cell 6
    have Hav := hid hav
    clear hav
    obtain ⟨w6, hw6⟩ : ∃ w6, wn6.alloc (.cells #[.bool y6] 4) = w6 := ⟨_, rfl⟩
    have HN6 : Hid (RwM e gn gb s w p2 p3 5 V6 X6 w6 ∧ Blk w6 p7 86 [.int .i32 y0, .int .i32 y1, .int .i32 y2, .int .i32 y3, .int .u64 y4, .int .u8 y5, .bool y6]) := hid (by rw [← hw6]; exact ⟨HM6.out.1.below (nbel wn6 _), HM6.out.2.below (nbel wn6 _)⟩)
    have HNw := hid (newRow wn6 [.bool y6] 4 wn6.heap.size rfl)
    rw [show (wn6.alloc (.cells [.bool y6].toArray 4)) = w6 from hw6] at HNw
    obtain ⟨p6, hp6⟩ : ∃ p, wn6.heap.size = p := ⟨_, rfl⟩
    rw [hp6] at HNw
    have hbs : w.heap.size ≤ w6.heap.size := HN6.out.1.bel.size
    have HOw : Hid (OR w6 w.heap.size (rT 6) 1 one (.slice av nv ac) (X6 6)) := hid (by rw [← Hav.out]; exact HN6.out.1.ow 6 (by omega))
    go_wp2_with (at_builtin; refine stopHere ?_)
    intro _
    (try simp only [hw6])
    refine wpList_append_row _ rfl (.tmp 105) (.tmp 108) 54 rfl w.heap.size 4 ib (.bool false) 1 1 Tryd.underlying54 IB.out.1 IB.out.2.1 IB.out.2.2.1 IB.out.2.2.2 rfl (by decide) (.slice av nv ac) _ _ (by simp [Act.eval, Act.put]; done) HOw.out (some ⟨p6, 0, none⟩) 1 1 (one (.bool y6)) (by simp [Act.eval, Act.put]; done) rfl (fun h => by cases h) HNw.out (fun u hu => by simp only [one, List.mem_cons, List.not_mem_nil, or_false] at hu; rw [hu]; rfl) (by have := Hl6.out; omega) (by decide) hbs ?_
    intro v7 w7 hown7 hb7 hk7 hg7
    have HA7 := hid (⟨by have := hown7; rw [flatMap_snoc] at this; unfold OR; rw [List.length_append]; exact this, hb7, hk7, hg7⟩ : App w.heap.size (rT 6) 1 one (.slice av nv ac) (X6 6 ++ [.bool y6]) w6 v7 w7)
    clear hown7 hb7 hk7 hg7
    obtain ⟨a7, n7, c7, h7⟩ := HA7.out.ow.shape
    subst h7
    rw [← Hav.out] at HA7
    have HB7 : Hid (Blk w7 p3 56 (rwC s 5 V6) ∧ Blk w7 p7 86 [.int .i32 y0, .int .i32 y1, .int .i32 y2, .int .i32 y3, .int .u64 y4, .int .u8 y5, .bool y6]) := hid (by
      have kt : ∀ k t cs, Blk w6 k t cs → t ≠ rT 6 → Blk w7 k t cs := fun k t cs hb ht => hb.same (HA7.out.keep k hb.lt fun g hg e => by subst e; obtain ⟨_, c2, b2⟩ := (HN6.out.1.ow 6 (by omega)).blk hg; exact hb.tne b2 ht rfl)
      exact ⟨kt _ _ _ HN6.out.1.b3 (by decide), kt _ _ _ HN6.out.2 (by decide)⟩)
    have zd : w7.cell? ⟨p3, 25, none⟩ = some (.slice av nv ac) := by
      rw [← Hav.out]
      exact (HB7.out.1.cell _).trans (rwC_row s 5 _ (j := 6) (by omega))
    have zf : w7.frozen? ⟨p3, 25, none⟩ = false := HB7.out.1.frozen 25
    have HM7 : Hid (RwM e gn gb s w p2 p3 5 (upd V6 6 (.slice a7 n7 c7)) (upd X6 6 (X6 6 ++ [.bool y6])) (w7.setCell ⟨p3, 25, none⟩ (.slice a7 n7 c7)) ∧ Blk (w7.setCell ⟨p3, 25, none⟩ (.slice a7 n7 c7)) p7 86 [.int .i32 y0, .int .i32 y1, .int .i32 y2, .int .i32 y3, .int .u64 y4, .int .u8 y5, .bool y6]) := hid ⟨HN6.out.1.app (j := 6) (by omega) HA7.out, HB7.out.2.upd ((Upd.refl p3 w7).setCell rfl _) (HB7.out.2.tne HB7.out.1 (by decide))⟩
    clear HA7 HB7 HN6 HNw HOw Hav hw6 hp6 hbs zc zn HM6
    go_upto_region 17 with fail
    clear zd zf
    generalize w7.setCell ⟨p3, 25, none⟩ (.slice a7 n7 c7) = wn7 at HM7 ⊢
    obtain ⟨V7, hVn⟩ : ∃ V', upd V6 6 (.slice a7 n7 c7) = V' := ⟨_, rfl⟩
    rw [hVn] at HM7
    clear hVn
    obtain ⟨X7, hXn⟩ : ∃ X', upd X6 6 (X6 6 ++ [.bool y6]) = X' := ⟨_, rfl⟩
    rw [hXn] at HM7
    have HX7 := hid hXn
    clear hXn
    have HF : Hid (∃ V, RwM e gn gb s w p2 p3 5 V (XN s (i + 1)) wn7) := hid ⟨V7, by
      rw [← XN_succ s i HY.out HX0.out HX1.out HX2.out HX3.out HX4.out HX5.out HX6.out HX7.out]
      exact HM7.out.1⟩
    clear HM7 HX0 HX1 HX2 HX3 HX4 HX5 HX6 HX7
    go_wp2
    exact ⟨⟨i + 1, by omega, by go_num, HF⟩, by simp [intOf]; omega⟩
  have di : decide ((i : Int) < (N : Int)) = false := decide_eq_false (by omega)
  have HMb : Hid (∃ V, RwM e gn gb s w p2 p3 5 V (XB s N 0) wr) := hid ⟨V, by
    have h1 : i = N := by omega
    rw [XB_zero, ← h1]
    exact HM.out⟩
  clear HM
  obtain ⟨wb, hwb⟩ : ∃ wb, wb = wr := ⟨_, rfl⟩
  subst hwb
  obtain ⟨M, hM⟩ : ∃ M, s.m = M := ⟨_, rfl⟩
  have c20 : wb.cell? ⟨e, 20, none⟩ = some (.slice (some ⟨gb, 0, none⟩) M M) := by
    obtain ⟨V', h⟩ := HMb.out
    rw [← hM]; exact h.em.bks
  have hMb : M ≤ 131072 := by rw [← hM]; exact HI.out.c.bw.mb
  have HMM := hid hM
  clear hM
  go_upto_region 19 with fail
  clear c20 di hi hin
  go_loopw [117] (fun v wr => ∃ i : Nat, i ≤ M ∧ v = .int .i64 (i : Int) ∧ Hid (∃ V, RwM e gn gb s w p2 p3 5 V (XB s N i) wr)) (fun v _ => M - (intOf v).toNat)
  case atStart => exact ⟨0, by omega, rfl, HMb⟩
  case round =>
  clear HMb
  obtain ⟨i, hi, rfl, HK⟩ := hrel
  obtain ⟨V7, hvm⟩ := HK.out
  have HM := hid hvm
  clear hvm HK
  by_cases hin : i < M
  · as_aux_lemma =>
    have hism : i < s.m := by rw [HMM.out]; exact hin
    have di : decide ((i : Int) < (M : Int)) = true := decide_eq_true (by omega)
    have hii : (i : Int) < (M : Int) := by omega
    obtain ⟨yb, hyb⟩ : ∃ y, s.bk i = y := ⟨_, rfl⟩
    have g0 : wr.cell? ⟨gb, i, none⟩ = some (.int .i32 yb) := by rw [← hyb]; exact HM.out.em.bk hism
    have HY := hid hyb
    clear hyb
    obtain ⟨X7, hX7⟩ : ∃ X, XB s N i = X := ⟨_, rfl⟩
    rw [hX7] at HM
    have HX7 := hid hX7
    have Hl7 : Hid ((X7 7).length = i) := hid (by rw [← hX7]; unfold XB; rw [upd_same]; exact fnL_len _ _)
    clear hX7
    obtain ⟨wn7, hwn7⟩ : ∃ w, w = wr := ⟨_, rfl⟩
    subst hwn7
    obtain ⟨av, nv, ac, hav⟩ := (HM.out.ow 7 (by omega)).shape
    have zc : wn7.cell? ⟨p3, 26, none⟩ = some (.slice av nv ac) := by
      rw [← hav]
      exact (HM.out.b3.cell _).trans (rwC_row s 5 _ (j := 7) (by omega))
    have Hav := hid hav
    clear hav
    obtain ⟨w6, hw6⟩ : ∃ w6, wn7.alloc (.cells #[.int .i64 (wrap64 yb)] 3) = w6 := ⟨_, rfl⟩
    have HN6 : Hid (RwM e gn gb s w p2 p3 5 V7 X7 w6) := hid (by rw [← hw6]; exact HM.out.below (nbel wn7 _))
    have HNw := hid (newRow wn7 [.int .i64 (wrap64 yb)] 3 wn7.heap.size rfl)
    rw [show (wn7.alloc (.cells [.int .i64 (wrap64 yb)].toArray 3)) = w6 from hw6] at HNw
    obtain ⟨p6, hp6⟩ : ∃ p, wn7.heap.size = p := ⟨_, rfl⟩
    rw [hp6] at HNw
    have hbs : w.heap.size ≤ w6.heap.size := HN6.out.bel.size
    have HOw : Hid (OR w6 w.heap.size (rT 7) 1 one (.slice av nv ac) (X7 7)) := hid (by rw [← Hav.out]; exact HN6.out.ow 7 (by omega))
    go_wp2_with (at_builtin; refine stopHere ?_)
    intro _
    (try simp only [hw6])
    refine wpList_append_row _ rfl (.tmp 122) (.tmp 125) 52 rfl w.heap.size 3 ii (.int .i64 0) 1 8 Tryd.underlying52 IT.out.1 IT.out.2.1 IT.out.2.2.1 IT.out.2.2.2 rfl (by decide) (.slice av nv ac) _ _ (by simp [Act.eval, Act.put]; done) HOw.out (some ⟨p6, 0, none⟩) 1 1 (one (.int .i64 (wrap64 yb))) (by simp [Act.eval, Act.put]; done) rfl (fun h => by cases h) HNw.out (fun u hu => by simp only [one, List.mem_cons, List.not_mem_nil, or_false] at hu; rw [hu]; rfl) (by have := Hl7.out; omega) (by decide) hbs ?_
    intro v7 w7 hown7 hb7 hk7 hg7
    have HA7 := hid (⟨by have := hown7; rw [flatMap_snoc] at this; unfold OR; rw [List.length_append]; exact this, hb7, hk7, hg7⟩ : App w.heap.size (rT 7) 1 one (.slice av nv ac) (X7 7 ++ [.int .i64 (wrap64 yb)]) w6 v7 w7)
    clear hown7 hb7 hk7 hg7
    obtain ⟨a7, n7, c7, h7⟩ := HA7.out.ow.shape
    subst h7
    rw [← Hav.out] at HA7
    have HB7 : Hid (Blk w7 p3 56 (rwC s 5 V7)) := hid (by
      have kt : ∀ k t cs, Blk w6 k t cs → t ≠ rT 7 → Blk w7 k t cs := fun k t cs hb ht => hb.same (HA7.out.keep k hb.lt fun g hg e => by subst e; obtain ⟨_, c2, b2⟩ := (HN6.out.ow 7 (by omega)).blk hg; exact hb.tne b2 ht rfl)
      exact kt _ _ _ HN6.out.b3 (by decide))
    have zd : w7.cell? ⟨p3, 26, none⟩ = some (.slice av nv ac) := by
      rw [← Hav.out]
      exact (HB7.out.cell _).trans (rwC_row s 5 _ (j := 7) (by omega))
    have zf : w7.frozen? ⟨p3, 26, none⟩ = false := HB7.out.frozen 26
    have HM8 : Hid (RwM e gn gb s w p2 p3 5 (upd V7 7 (.slice a7 n7 c7)) (upd X7 7 (X7 7 ++ [.int .i64 (wrap64 yb)])) (w7.setCell ⟨p3, 26, none⟩ (.slice a7 n7 c7))) := hid (HN6.out.app (j := 7) (by omega) HA7.out)
    clear HA7 HB7 HN6 HNw HOw Hav hw6 hp6 hbs zc HM g0
    go_upto_region 22 with fail
    clear zd zf
    generalize w7.setCell ⟨p3, 26, none⟩ (.slice a7 n7 c7) = wn8 at HM8 ⊢
    obtain ⟨V8, hVn⟩ : ∃ V', upd V7 7 (.slice a7 n7 c7) = V' := ⟨_, rfl⟩
    rw [hVn] at HM8
    clear hVn
    obtain ⟨X8, hXn⟩ : ∃ X', upd X7 7 (X7 7 ++ [.int .i64 (wrap64 yb)]) = X' := ⟨_, rfl⟩
    rw [hXn] at HM8
    have HX8 := hid hXn
    clear hXn
    have HF : Hid (∃ V, RwM e gn gb s w p2 p3 5 V (XB s N (i + 1)) wn8) := hid ⟨V8, by
      rw [← XB_succ s N i HY.out, HX7.out, HX8.out]
      exact HM8.out⟩
    clear HM8 HX7 HX8
    go_wp2
    exact ⟨⟨i + 1, by omega, by go_num, HF⟩, by simp [intOf]; omega⟩
  have di : decide ((i : Int) < (M : Int)) = false := decide_eq_false (by omega)
  have HMf : Hid (RwM e gn gb s w p2 p3 5 V7 (XB s s.n s.m) wr) := hid (by
    have h1 : i = M := by omega
    rw [HN.out, HMM.out, ← h1]
    exact HM.out)
  clear HM
  obtain ⟨RC, hRC⟩ : ∃ l, rwC s 5 V7 = l := ⟨_, rfl⟩
  have hRl : RC.length = 29 := by rw [← hRC]; exact fnL_len _ _
  have HB3 : Hid (Blk wr p3 56 RC) := hid (by rw [← hRC]; exact HMf.out.b3)
  obtain ⟨zs, hzs, hzb⟩ := HMf.out.b2
  have HB2 := hid hzb
  have HRC := hid hRC
  have Hzs := hid hzs
  have HRl := hid hRl
  clear hzb hRC hzs hRl
  have I := hid info_raw
  have HOne : Hid (∀ v ∈ RC, v.oneCell' = true) := hid (by
    rw [← HRC.out]
    exact rwC_one HMf.out)
  go_upto_region 23 with fail
  go_wp2_with (first | (refine wpList_load_blk rfl 56 (.tmp 3) rfl p3 (by simp [Act.eval, Act.put]; done) RC HB3.out _ Tryd.underlying56 rfl (by rw [HRl.out]; exact size_raw) ?_) | (refine wpList_store_blk rfl 56 (.tmp 2) (.tmp 129) rfl p2 (by simp [Act.eval, Act.put]; done) RC (by simp [Act.eval, Act.put]; done) HB2.out (by rw [Hzs.out, HRl.out]) (by rw [HRl.out]; exact size_raw) (HOne.out) ?_; intro w9 HB9 HU9))
  have HFn : Hid (Below w.heap.size w w9 ∧ ∀ j, j < 8 → OR w9 w.heap.size (rT j) 1 one (V7 j) (XB s s.n s.m j)) := hid ⟨HMf.out.bel.trans (HU9.out.below HMf.out.g2 HMf.out.bel.size), fun j hj => (HMf.out.ow j hj).keep fun g hg => HU9.out.block g ((HMf.out.ow j hj).lt hg) (fun e => by
    obtain ⟨_, cs, hb⟩ := (HMf.out.ow j hj).blk hg
    exact hb.tne HB2.out (rT_ne j).2.2.2 e)⟩
  clear HMf HU9 HB3 HB2
  refine bodyPost_ret (results_blk (cs := RC) Tryd.results16 rfl (by rw [HRl.out]; exact I.out) HB9.out) rfl ?_
  exact ⟨V7, by rw [HRC.out], HFn⟩
  done
end Go.Proofs.Qxb6500892aDoor
