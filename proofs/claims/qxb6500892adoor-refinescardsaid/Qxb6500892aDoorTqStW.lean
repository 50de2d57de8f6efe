/- One step of the real engine: the walk (written by tools/mk_tqstep.py). -/
import Derived.Test.Qxb6500892aDoorTqStp
namespace Go.Proofs.Qxb6500892aDoor
open Go.RowKit
set_option linter.unusedSimpArgs false
set_option linter.unusedVariables false

section
variable {w0 : World} {r e gn gb : Nat} {s : ES} {L C : Nat → List Nat} {w : World}
set_option maxRecDepth 100000 in
set_option maxHeartbeats 2000000 in
theorem step_1 (h : RS w0 r e gn gb s L C w) (x : Int) (k : Nat) (B : Bool) (a b c d : Int) (hpb : ∀ i, i < s.slots → s.pin i ≤ 1000000) :
    Calls Tryd.prog 10 #[.pointer (some ⟨r, 0, none⟩), .agg #[.int .u8 1, .int .i64 x, .int .u64 (k : Int), .bool B, .int .i64 a, .int .i64 b, .int .i64 c, .int .i64 d]] w fun y w' => StepP w0 r e gn gb s L 1 x k B a b c d w y w' := by
  have HSB0 := hid (SB.start h 1 x k B a b c d)
  have Hpb := hid hpb
  obtain ⟨q, hq⟩ : ∃ q, w.heap.size = q := ⟨_, rfl⟩
  obtain ⟨p, hp⟩ : ∃ p, w.heap.size + 1 = p := ⟨_, rfl⟩
  rw [hp, hq] at HSB0
  have hp2 : q + 1 = p := by omega
  clear h hpb
  go_enter Tryd.func10, Tryd.ntmps10
  have Ians := hid info_ans
  go_upto_region 1 with fail
  obtain ⟨w1, hw1⟩ : ∃ w1, (w.alloc (.cells #[.int .u8 1, .int .i64 x, .int .u64 (k : Int), .bool B, .int .i64 a, .int .i64 b, .int .i64 c, .int .i64 d] 33)).alloc (.cells #[.int .u8 0, .bool false, .int .i64 0] 36) = w1 := ⟨_, rfl⟩
  have HSB : Hid (SB w0 r e gn gb s L C q p 1 x k B a b c d w w1) := by rw [← hw1]; exact HSB0
  try simp only [hw1]
  clear hw1 HSB0 hq hp hp2
  have c0 : w1.cell? ⟨q, 0, none⟩ = some (.int .u8 1) := HSB.out.qb.cell 0
  go_upto_region 8 with fail
  have HC : Hid (∀ w2 : World, SB w0 r e gn gb s L C q p 1 x k B a b c d w w2 → Calls Tryd.prog 25 #[.pointer (some ⟨e, 0, none⟩), .int .i64 x, .int .u64 (k : Int), .bool B] w2 fun y w' => ∃ (v : Nat) (s' : ES) (L' C' : Nat → List Nat), y = Ending.returned (.int .u8 (v : Int)) ∧ EE e gn gb w2 s' L' C' w' ∧ StpS x k B a b c d s L 1 v false 0 s' L') := hid (fun w2 h2 => by
    have E0 := h2.rs.ee
    have hpb := Hpb.out
    refine (insert_ee E0 x k B).mono ?_
    rintro y w' ⟨v, s', L', C', rfl, h1, h2⟩; exact ⟨v, s', L', C', rfl, h1, .ins v s' L' h2⟩)
  refine wp_region_heavy (fun w' => w'.cell? ⟨r, 0, none⟩ = some (.pointer (some ⟨e, 0, none⟩)) ∧ w'.cell? ⟨q, 1, none⟩ = some (.int .i64 x) ∧ w'.cell? ⟨q, 2, none⟩ = some (.int .u64 (k : Int)) ∧ w'.cell? ⟨q, 3, none⟩ = some (.bool B)) 11 [0, 1, 2, 3, 4, 5, 6, 7, 8, 9] [10] rfl (by kernel_rfl) (by kernel_rfl) (fun d _ _ _ _ h => by cases d <;> exact h) (by have h9 := HSB.out.drew 1; exact ⟨h9.rs.rb.cell 0, h9.qb.cell 1, h9.qb.cell 2, h9.qb.cell 3⟩) ?_
  apply Exists.intro
  refine ⟨?_, ?_⟩
  · intro W hW
    have d0 : ∀ x, (W x).cell? ⟨r, 0, none⟩ = some (.pointer (some ⟨e, 0, none⟩)) := fun x => (hW x).1
    have d1 : ∀ u, (W u).cell? ⟨q, 1, none⟩ = some (.int .i64 x) := fun u => (hW u).2.1
    have d2 : ∀ u, (W u).cell? ⟨q, 2, none⟩ = some (.int .u64 (k : Int)) := fun u => (hW u).2.2.1
    have d3 : ∀ u, (W u).cell? ⟨q, 3, none⟩ = some (.bool B) := fun u => (hW u).2.2.2
    clear hW
    simp only [List.take, opsAt, List.drop, List.cons_append, List.nil_append]
    repeat (go_big_quiet_step (fail))
    exact rfl
  simp only [List.take, List.drop, opsAt, List.cons_append, List.nil_append, wpHv]
  have HSB1 : Hid (SB w0 r e gn gb s L C q p 1 x k B a b c d w w1.drew) := hid (HSB.out.drew 1)
  generalize w1.drew = w1d at HSB1 ⊢
  clear HSB
  go_wp2_with fail
  refine (HC.out _ HSB1.out).mono ?_
  rintro y w2 ⟨v, s2, L2, C2, rfl, hE2, hS2⟩
  have HSB2 := hid (HSB1.out.ee hE2)
  have HS2 := hid hS2
  clear hE2 hS2 HSB1 HC Hpb
  have HF := hid (SB.answer HSB2.out v false 0)
  have z0 := HSB2.out.pb.cell 0
  have y0 := HSB2.out.pb.frozen 0
  have p1 := HSB2.out.pb.set 0 (.int .u8 (v : Int))
  have z1 := p1.cell 1
  have y1 := p1.frozen 1
  have p2 := p1.set 1 (.bool false)
  have z2 := p2.cell 2
  have y2 := p2.frozen 2
  simp only [List.set_cons_zero, List.set_cons_succ, List.getElem?_cons_zero, List.getElem?_cons_succ] at z0 z1 z2
  have HP : Hid (w2.cell? ⟨r, 0, none⟩ = some (.pointer (some ⟨e, 0, none⟩)) ∧ w2.cell? ⟨q, 1, none⟩ = some (.int .i64 x) ∧ w2.cell? ⟨q, 2, none⟩ = some (.int .u64 (k : Int)) ∧ w2.cell? ⟨q, 3, none⟩ = some (.bool B)) := hid ⟨HSB2.out.rs.rb.cell 0, HSB2.out.qb.cell 1, HSB2.out.qb.cell 2, HSB2.out.qb.cell 3⟩
  clear p1 p2
  go_wp2_with fail
  refine ⟨HP.out, ?_⟩
  simp only [QN]
  go_wp2
  refine bodyPost_ret (v := ansV v false 0) (results_blk Tryd.results10 rfl Ians.out HF.out.1) rfl ?_
  exact ⟨_, _, _, rfl, hid ⟨e, gn, gb, s2, L2, C2, HF.out.2.1, HF.out.2.2, HS2.out⟩⟩
set_option maxRecDepth 100000 in
set_option maxHeartbeats 2000000 in
theorem step_2 (h : RS w0 r e gn gb s L C w) (x : Int) (k : Nat) (B : Bool) (a b c d : Int) (hpb : ∀ i, i < s.slots → s.pin i ≤ 1000000) :
    Calls Tryd.prog 10 #[.pointer (some ⟨r, 0, none⟩), .agg #[.int .u8 2, .int .i64 x, .int .u64 (k : Int), .bool B, .int .i64 a, .int .i64 b, .int .i64 c, .int .i64 d]] w fun y w' => StepP w0 r e gn gb s L 2 x k B a b c d w y w' := by
  have HSB0 := hid (SB.start h 2 x k B a b c d)
  have Hpb := hid hpb
  obtain ⟨q, hq⟩ : ∃ q, w.heap.size = q := ⟨_, rfl⟩
  obtain ⟨p, hp⟩ : ∃ p, w.heap.size + 1 = p := ⟨_, rfl⟩
  rw [hp, hq] at HSB0
  have hp2 : q + 1 = p := by omega
  clear h hpb
  go_enter Tryd.func10, Tryd.ntmps10
  have Ians := hid info_ans
  go_upto_region 1 with fail
  obtain ⟨w1, hw1⟩ : ∃ w1, (w.alloc (.cells #[.int .u8 2, .int .i64 x, .int .u64 (k : Int), .bool B, .int .i64 a, .int .i64 b, .int .i64 c, .int .i64 d] 33)).alloc (.cells #[.int .u8 0, .bool false, .int .i64 0] 36) = w1 := ⟨_, rfl⟩
  have HSB : Hid (SB w0 r e gn gb s L C q p 2 x k B a b c d w w1) := by rw [← hw1]; exact HSB0
  try simp only [hw1]
  clear hw1 HSB0 hq hp hp2
  have c0 : w1.cell? ⟨q, 0, none⟩ = some (.int .u8 2) := HSB.out.qb.cell 0
  go_upto_region 10 with fail
  have HC : Hid (∀ w2 : World, SB w0 r e gn gb s L C q p 2 x k B a b c d w w2 → Calls Tryd.prog 26 #[.pointer (some ⟨e, 0, none⟩), .int .i64 x] w2 fun y w' => ∃ (v : Nat) (s' : ES) (L' C' : Nat → List Nat), y = Ending.returned (.int .u8 (v : Int)) ∧ EE e gn gb w2 s' L' C' w' ∧ StpS x k B a b c d s L 2 v false 0 s' L') := hid (fun w2 h2 => by
    have E0 := h2.rs.ee
    have hpb := Hpb.out
    refine (touch_ee E0 x).mono ?_
    rintro y w' ⟨rfl, s', L', C', h1, h2⟩; exact ⟨_, s', L', C', rfl, h1, .tou s' L' h2⟩)
  refine wp_region_heavy (fun w' => w'.cell? ⟨r, 0, none⟩ = some (.pointer (some ⟨e, 0, none⟩)) ∧ w'.cell? ⟨q, 1, none⟩ = some (.int .i64 x)) 7 [0, 1, 2, 3, 4, 5] [6] rfl (by kernel_rfl) (by kernel_rfl) (fun d _ _ _ _ h => by cases d <;> exact h) (by have h9 := HSB.out.drew 1; exact ⟨h9.rs.rb.cell 0, h9.qb.cell 1⟩) ?_
  apply Exists.intro
  refine ⟨?_, ?_⟩
  · intro W hW
    have d0 : ∀ x, (W x).cell? ⟨r, 0, none⟩ = some (.pointer (some ⟨e, 0, none⟩)) := fun x => (hW x).1
    have d1 : ∀ u, (W u).cell? ⟨q, 1, none⟩ = some (.int .i64 x) := fun u => (hW u).2
    clear hW
    simp only [List.take, opsAt, List.drop, List.cons_append, List.nil_append]
    repeat (go_big_quiet_step (fail))
    exact rfl
  simp only [List.take, List.drop, opsAt, List.cons_append, List.nil_append, wpHv]
  have HSB1 : Hid (SB w0 r e gn gb s L C q p 2 x k B a b c d w w1.drew) := hid (HSB.out.drew 1)
  generalize w1.drew = w1d at HSB1 ⊢
  clear HSB
  go_wp2_with fail
  refine (HC.out _ HSB1.out).mono ?_
  rintro y w2 ⟨v, s2, L2, C2, rfl, hE2, hS2⟩
  have HSB2 := hid (HSB1.out.ee hE2)
  have HS2 := hid hS2
  clear hE2 hS2 HSB1 HC Hpb
  have HF := hid (SB.answer HSB2.out v false 0)
  have z0 := HSB2.out.pb.cell 0
  have y0 := HSB2.out.pb.frozen 0
  have p1 := HSB2.out.pb.set 0 (.int .u8 (v : Int))
  have z1 := p1.cell 1
  have y1 := p1.frozen 1
  have p2 := p1.set 1 (.bool false)
  have z2 := p2.cell 2
  have y2 := p2.frozen 2
  simp only [List.set_cons_zero, List.set_cons_succ, List.getElem?_cons_zero, List.getElem?_cons_succ] at z0 z1 z2
  have HP : Hid (w2.cell? ⟨r, 0, none⟩ = some (.pointer (some ⟨e, 0, none⟩)) ∧ w2.cell? ⟨q, 1, none⟩ = some (.int .i64 x)) := hid ⟨HSB2.out.rs.rb.cell 0, HSB2.out.qb.cell 1⟩
  clear p1 p2
  go_wp2_with fail
  refine ⟨HP.out, ?_⟩
  simp only [QN]
  go_wp2
  refine bodyPost_ret (v := ansV v false 0) (results_blk Tryd.results10 rfl Ians.out HF.out.1) rfl ?_
  exact ⟨_, _, _, rfl, hid ⟨e, gn, gb, s2, L2, C2, HF.out.2.1, HF.out.2.2, HS2.out⟩⟩
set_option maxRecDepth 100000 in
set_option maxHeartbeats 2000000 in
theorem step_3 (h : RS w0 r e gn gb s L C w) (x : Int) (k : Nat) (B : Bool) (a b c d : Int) (hpb : ∀ i, i < s.slots → s.pin i ≤ 1000000) :
    Calls Tryd.prog 10 #[.pointer (some ⟨r, 0, none⟩), .agg #[.int .u8 3, .int .i64 x, .int .u64 (k : Int), .bool B, .int .i64 a, .int .i64 b, .int .i64 c, .int .i64 d]] w fun y w' => StepP w0 r e gn gb s L 3 x k B a b c d w y w' := by
  have HSB0 := hid (SB.start h 3 x k B a b c d)
  have Hpb := hid hpb
  obtain ⟨q, hq⟩ : ∃ q, w.heap.size = q := ⟨_, rfl⟩
  obtain ⟨p, hp⟩ : ∃ p, w.heap.size + 1 = p := ⟨_, rfl⟩
  rw [hp, hq] at HSB0
  have hp2 : q + 1 = p := by omega
  clear h hpb
  go_enter Tryd.func10, Tryd.ntmps10
  have Ians := hid info_ans
  go_upto_region 1 with fail
  obtain ⟨w1, hw1⟩ : ∃ w1, (w.alloc (.cells #[.int .u8 3, .int .i64 x, .int .u64 (k : Int), .bool B, .int .i64 a, .int .i64 b, .int .i64 c, .int .i64 d] 33)).alloc (.cells #[.int .u8 0, .bool false, .int .i64 0] 36) = w1 := ⟨_, rfl⟩
  have HSB : Hid (SB w0 r e gn gb s L C q p 3 x k B a b c d w w1) := by rw [← hw1]; exact HSB0
  try simp only [hw1]
  clear hw1 HSB0 hq hp hp2
  have c0 : w1.cell? ⟨q, 0, none⟩ = some (.int .u8 3) := HSB.out.qb.cell 0
  go_upto_region 12 with fail
  have HC : Hid (∀ w2 : World, SB w0 r e gn gb s L C q p 3 x k B a b c d w w2 → Calls Tryd.prog 27 #[.pointer (some ⟨e, 0, none⟩), .int .i64 x] w2 fun y w' => ∃ (v : Nat) (s' : ES) (L' C' : Nat → List Nat), y = Ending.returned (.int .u8 (v : Int)) ∧ EE e gn gb w2 s' L' C' w' ∧ StpS x k B a b c d s L 3 v false 0 s' L') := hid (fun w2 h2 => by
    have E0 := h2.rs.ee
    have hpb := Hpb.out
    refine (remove_ee E0 x).mono ?_
    rintro y w' ⟨rfl, s', L', C', h1, h2⟩; exact ⟨_, s', L', C', rfl, h1, .rem s' L' h2⟩)
  refine wp_region_heavy (fun w' => w'.cell? ⟨r, 0, none⟩ = some (.pointer (some ⟨e, 0, none⟩)) ∧ w'.cell? ⟨q, 1, none⟩ = some (.int .i64 x)) 7 [0, 1, 2, 3, 4, 5] [6] rfl (by kernel_rfl) (by kernel_rfl) (fun d _ _ _ _ h => by cases d <;> exact h) (by have h9 := HSB.out.drew 1; exact ⟨h9.rs.rb.cell 0, h9.qb.cell 1⟩) ?_
  apply Exists.intro
  refine ⟨?_, ?_⟩
  · intro W hW
    have d0 : ∀ x, (W x).cell? ⟨r, 0, none⟩ = some (.pointer (some ⟨e, 0, none⟩)) := fun x => (hW x).1
    have d1 : ∀ u, (W u).cell? ⟨q, 1, none⟩ = some (.int .i64 x) := fun u => (hW u).2
    clear hW
    simp only [List.take, opsAt, List.drop, List.cons_append, List.nil_append]
    repeat (go_big_quiet_step (fail))
    exact rfl
  simp only [List.take, List.drop, opsAt, List.cons_append, List.nil_append, wpHv]
  have HSB1 : Hid (SB w0 r e gn gb s L C q p 3 x k B a b c d w w1.drew) := hid (HSB.out.drew 1)
  generalize w1.drew = w1d at HSB1 ⊢
  clear HSB
  go_wp2_with fail
  refine (HC.out _ HSB1.out).mono ?_
  rintro y w2 ⟨v, s2, L2, C2, rfl, hE2, hS2⟩
  have HSB2 := hid (HSB1.out.ee hE2)
  have HS2 := hid hS2
  clear hE2 hS2 HSB1 HC Hpb
  have HF := hid (SB.answer HSB2.out v false 0)
  have z0 := HSB2.out.pb.cell 0
  have y0 := HSB2.out.pb.frozen 0
  have p1 := HSB2.out.pb.set 0 (.int .u8 (v : Int))
  have z1 := p1.cell 1
  have y1 := p1.frozen 1
  have p2 := p1.set 1 (.bool false)
  have z2 := p2.cell 2
  have y2 := p2.frozen 2
  simp only [List.set_cons_zero, List.set_cons_succ, List.getElem?_cons_zero, List.getElem?_cons_succ] at z0 z1 z2
  have HP : Hid (w2.cell? ⟨r, 0, none⟩ = some (.pointer (some ⟨e, 0, none⟩)) ∧ w2.cell? ⟨q, 1, none⟩ = some (.int .i64 x)) := hid ⟨HSB2.out.rs.rb.cell 0, HSB2.out.qb.cell 1⟩
  clear p1 p2
  go_wp2_with fail
  refine ⟨HP.out, ?_⟩
  simp only [QN]
  go_wp2
  refine bodyPost_ret (v := ansV v false 0) (results_blk Tryd.results10 rfl Ians.out HF.out.1) rfl ?_
  exact ⟨_, _, _, rfl, hid ⟨e, gn, gb, s2, L2, C2, HF.out.2.1, HF.out.2.2, HS2.out⟩⟩
set_option maxRecDepth 100000 in
set_option maxHeartbeats 2000000 in
theorem step_4 (h : RS w0 r e gn gb s L C w) (x : Int) (k : Nat) (B : Bool) (a b c d : Int) (hpb : ∀ i, i < s.slots → s.pin i ≤ 1000000) :
    Calls Tryd.prog 10 #[.pointer (some ⟨r, 0, none⟩), .agg #[.int .u8 4, .int .i64 x, .int .u64 (k : Int), .bool B, .int .i64 a, .int .i64 b, .int .i64 c, .int .i64 d]] w fun y w' => StepP w0 r e gn gb s L 4 x k B a b c d w y w' := by
  have HSB0 := hid (SB.start h 4 x k B a b c d)
  have Hpb := hid hpb
  obtain ⟨q, hq⟩ : ∃ q, w.heap.size = q := ⟨_, rfl⟩
  obtain ⟨p, hp⟩ : ∃ p, w.heap.size + 1 = p := ⟨_, rfl⟩
  rw [hp, hq] at HSB0
  have hp2 : q + 1 = p := by omega
  clear h hpb
  go_enter Tryd.func10, Tryd.ntmps10
  have Ians := hid info_ans
  go_upto_region 1 with fail
  obtain ⟨w1, hw1⟩ : ∃ w1, (w.alloc (.cells #[.int .u8 4, .int .i64 x, .int .u64 (k : Int), .bool B, .int .i64 a, .int .i64 b, .int .i64 c, .int .i64 d] 33)).alloc (.cells #[.int .u8 0, .bool false, .int .i64 0] 36) = w1 := ⟨_, rfl⟩
  have HSB : Hid (SB w0 r e gn gb s L C q p 4 x k B a b c d w w1) := by rw [← hw1]; exact HSB0
  try simp only [hw1]
  clear hw1 HSB0 hq hp hp2
  have c0 : w1.cell? ⟨q, 0, none⟩ = some (.int .u8 4) := HSB.out.qb.cell 0
  go_upto_region 14 with fail
  have HC : Hid (∀ w2 : World, SB w0 r e gn gb s L C q p 4 x k B a b c d w w2 → Calls Tryd.prog 28 #[.pointer (some ⟨e, 0, none⟩), .int .i64 x] w2 fun y w' => ∃ (v : Nat) (s' : ES) (L' C' : Nat → List Nat), y = Ending.returned (.int .u8 (v : Int)) ∧ EE e gn gb w2 s' L' C' w' ∧ StpS x k B a b c d s L 4 v false 0 s' L') := hid (fun w2 h2 => by
    have E0 := h2.rs.ee
    have hpb := Hpb.out
    refine (pin_ee E0 x hpb).mono ?_
    rintro y w' ⟨rfl, s', C', h1, h2⟩; exact ⟨_, s', L, C', rfl, h1, .pin s' h2⟩)
  refine wp_region_heavy (fun w' => w'.cell? ⟨r, 0, none⟩ = some (.pointer (some ⟨e, 0, none⟩)) ∧ w'.cell? ⟨q, 1, none⟩ = some (.int .i64 x)) 7 [0, 1, 2, 3, 4, 5] [6] rfl (by kernel_rfl) (by kernel_rfl) (fun d _ _ _ _ h => by cases d <;> exact h) (by have h9 := HSB.out.drew 1; exact ⟨h9.rs.rb.cell 0, h9.qb.cell 1⟩) ?_
  apply Exists.intro
  refine ⟨?_, ?_⟩
  · intro W hW
    have d0 : ∀ x, (W x).cell? ⟨r, 0, none⟩ = some (.pointer (some ⟨e, 0, none⟩)) := fun x => (hW x).1
    have d1 : ∀ u, (W u).cell? ⟨q, 1, none⟩ = some (.int .i64 x) := fun u => (hW u).2
    clear hW
    simp only [List.take, opsAt, List.drop, List.cons_append, List.nil_append]
    repeat (go_big_quiet_step (fail))
    exact rfl
  simp only [List.take, List.drop, opsAt, List.cons_append, List.nil_append, wpHv]
  have HSB1 : Hid (SB w0 r e gn gb s L C q p 4 x k B a b c d w w1.drew) := hid (HSB.out.drew 1)
  generalize w1.drew = w1d at HSB1 ⊢
  clear HSB
  go_wp2_with fail
  refine (HC.out _ HSB1.out).mono ?_
  rintro y w2 ⟨v, s2, L2, C2, rfl, hE2, hS2⟩
  have HSB2 := hid (HSB1.out.ee hE2)
  have HS2 := hid hS2
  clear hE2 hS2 HSB1 HC Hpb
  have HF := hid (SB.answer HSB2.out v false 0)
  have z0 := HSB2.out.pb.cell 0
  have y0 := HSB2.out.pb.frozen 0
  have p1 := HSB2.out.pb.set 0 (.int .u8 (v : Int))
  have z1 := p1.cell 1
  have y1 := p1.frozen 1
  have p2 := p1.set 1 (.bool false)
  have z2 := p2.cell 2
  have y2 := p2.frozen 2
  simp only [List.set_cons_zero, List.set_cons_succ, List.getElem?_cons_zero, List.getElem?_cons_succ] at z0 z1 z2
  have HP : Hid (w2.cell? ⟨r, 0, none⟩ = some (.pointer (some ⟨e, 0, none⟩)) ∧ w2.cell? ⟨q, 1, none⟩ = some (.int .i64 x)) := hid ⟨HSB2.out.rs.rb.cell 0, HSB2.out.qb.cell 1⟩
  clear p1 p2
  go_wp2_with fail
  refine ⟨HP.out, ?_⟩
  simp only [QN]
  go_wp2
  refine bodyPost_ret (v := ansV v false 0) (results_blk Tryd.results10 rfl Ians.out HF.out.1) rfl ?_
  exact ⟨_, _, _, rfl, hid ⟨e, gn, gb, s2, L2, C2, HF.out.2.1, HF.out.2.2, HS2.out⟩⟩
set_option maxRecDepth 100000 in
set_option maxHeartbeats 2000000 in
theorem step_5 (h : RS w0 r e gn gb s L C w) (x : Int) (k : Nat) (B : Bool) (a b c d : Int) (hpb : ∀ i, i < s.slots → s.pin i ≤ 1000000) :
    Calls Tryd.prog 10 #[.pointer (some ⟨r, 0, none⟩), .agg #[.int .u8 5, .int .i64 x, .int .u64 (k : Int), .bool B, .int .i64 a, .int .i64 b, .int .i64 c, .int .i64 d]] w fun y w' => StepP w0 r e gn gb s L 5 x k B a b c d w y w' := by
  have HSB0 := hid (SB.start h 5 x k B a b c d)
  have Hpb := hid hpb
  obtain ⟨q, hq⟩ : ∃ q, w.heap.size = q := ⟨_, rfl⟩
  obtain ⟨p, hp⟩ : ∃ p, w.heap.size + 1 = p := ⟨_, rfl⟩
  rw [hp, hq] at HSB0
  have hp2 : q + 1 = p := by omega
  clear h hpb
  go_enter Tryd.func10, Tryd.ntmps10
  have Ians := hid info_ans
  go_upto_region 1 with fail
  obtain ⟨w1, hw1⟩ : ∃ w1, (w.alloc (.cells #[.int .u8 5, .int .i64 x, .int .u64 (k : Int), .bool B, .int .i64 a, .int .i64 b, .int .i64 c, .int .i64 d] 33)).alloc (.cells #[.int .u8 0, .bool false, .int .i64 0] 36) = w1 := ⟨_, rfl⟩
  have HSB : Hid (SB w0 r e gn gb s L C q p 5 x k B a b c d w w1) := by rw [← hw1]; exact HSB0
  try simp only [hw1]
  clear hw1 HSB0 hq hp hp2
  have c0 : w1.cell? ⟨q, 0, none⟩ = some (.int .u8 5) := HSB.out.qb.cell 0
  go_upto_region 16 with fail
  have HC : Hid (∀ w2 : World, SB w0 r e gn gb s L C q p 5 x k B a b c d w w2 → Calls Tryd.prog 29 #[.pointer (some ⟨e, 0, none⟩), .int .i64 x] w2 fun y w' => ∃ (v : Nat) (s' : ES) (L' C' : Nat → List Nat), y = Ending.returned (.int .u8 (v : Int)) ∧ EE e gn gb w2 s' L' C' w' ∧ StpS x k B a b c d s L 5 v false 0 s' L') := hid (fun w2 h2 => by
    have E0 := h2.rs.ee
    have hpb := Hpb.out
    refine (unpin_ee E0 x hpb).mono ?_
    rintro y w' ⟨rfl, s', C', h1, h2⟩; exact ⟨_, s', L, C', rfl, h1, .unp s' h2⟩)
  refine wp_region_heavy (fun w' => w'.cell? ⟨r, 0, none⟩ = some (.pointer (some ⟨e, 0, none⟩)) ∧ w'.cell? ⟨q, 1, none⟩ = some (.int .i64 x)) 7 [0, 1, 2, 3, 4, 5] [6] rfl (by kernel_rfl) (by kernel_rfl) (fun d _ _ _ _ h => by cases d <;> exact h) (by have h9 := HSB.out.drew 1; exact ⟨h9.rs.rb.cell 0, h9.qb.cell 1⟩) ?_
  apply Exists.intro
  refine ⟨?_, ?_⟩
  · intro W hW
    have d0 : ∀ x, (W x).cell? ⟨r, 0, none⟩ = some (.pointer (some ⟨e, 0, none⟩)) := fun x => (hW x).1
    have d1 : ∀ u, (W u).cell? ⟨q, 1, none⟩ = some (.int .i64 x) := fun u => (hW u).2
    clear hW
    simp only [List.take, opsAt, List.drop, List.cons_append, List.nil_append]
    repeat (go_big_quiet_step (fail))
    exact rfl
  simp only [List.take, List.drop, opsAt, List.cons_append, List.nil_append, wpHv]
  have HSB1 : Hid (SB w0 r e gn gb s L C q p 5 x k B a b c d w w1.drew) := hid (HSB.out.drew 1)
  generalize w1.drew = w1d at HSB1 ⊢
  clear HSB
  go_wp2_with fail
  refine (HC.out _ HSB1.out).mono ?_
  rintro y w2 ⟨v, s2, L2, C2, rfl, hE2, hS2⟩
  have HSB2 := hid (HSB1.out.ee hE2)
  have HS2 := hid hS2
  clear hE2 hS2 HSB1 HC Hpb
  have HF := hid (SB.answer HSB2.out v false 0)
  have z0 := HSB2.out.pb.cell 0
  have y0 := HSB2.out.pb.frozen 0
  have p1 := HSB2.out.pb.set 0 (.int .u8 (v : Int))
  have z1 := p1.cell 1
  have y1 := p1.frozen 1
  have p2 := p1.set 1 (.bool false)
  have z2 := p2.cell 2
  have y2 := p2.frozen 2
  simp only [List.set_cons_zero, List.set_cons_succ, List.getElem?_cons_zero, List.getElem?_cons_succ] at z0 z1 z2
  have HP : Hid (w2.cell? ⟨r, 0, none⟩ = some (.pointer (some ⟨e, 0, none⟩)) ∧ w2.cell? ⟨q, 1, none⟩ = some (.int .i64 x)) := hid ⟨HSB2.out.rs.rb.cell 0, HSB2.out.qb.cell 1⟩
  clear p1 p2
  go_wp2_with fail
  refine ⟨HP.out, ?_⟩
  simp only [QN]
  go_wp2
  refine bodyPost_ret (v := ansV v false 0) (results_blk Tryd.results10 rfl Ians.out HF.out.1) rfl ?_
  exact ⟨_, _, _, rfl, hid ⟨e, gn, gb, s2, L2, C2, HF.out.2.1, HF.out.2.2, HS2.out⟩⟩
set_option maxRecDepth 100000 in
set_option maxHeartbeats 2000000 in
theorem step_7 (h : RS w0 r e gn gb s L C w) (x : Int) (k : Nat) (B : Bool) (a b c d : Int) (hpb : ∀ i, i < s.slots → s.pin i ≤ 1000000) :
    Calls Tryd.prog 10 #[.pointer (some ⟨r, 0, none⟩), .agg #[.int .u8 7, .int .i64 x, .int .u64 (k : Int), .bool B, .int .i64 a, .int .i64 b, .int .i64 c, .int .i64 d]] w fun y w' => StepP w0 r e gn gb s L 7 x k B a b c d w y w' := by
  have HSB0 := hid (SB.start h 7 x k B a b c d)
  have Hpb := hid hpb
  obtain ⟨q, hq⟩ : ∃ q, w.heap.size = q := ⟨_, rfl⟩
  obtain ⟨p, hp⟩ : ∃ p, w.heap.size + 1 = p := ⟨_, rfl⟩
  rw [hp, hq] at HSB0
  have hp2 : q + 1 = p := by omega
  clear h hpb
  go_enter Tryd.func10, Tryd.ntmps10
  have Ians := hid info_ans
  go_upto_region 1 with fail
  obtain ⟨w1, hw1⟩ : ∃ w1, (w.alloc (.cells #[.int .u8 7, .int .i64 x, .int .u64 (k : Int), .bool B, .int .i64 a, .int .i64 b, .int .i64 c, .int .i64 d] 33)).alloc (.cells #[.int .u8 0, .bool false, .int .i64 0] 36) = w1 := ⟨_, rfl⟩
  have HSB : Hid (SB w0 r e gn gb s L C q p 7 x k B a b c d w w1) := by rw [← hw1]; exact HSB0
  try simp only [hw1]
  clear hw1 HSB0 hq hp hp2
  have c0 : w1.cell? ⟨q, 0, none⟩ = some (.int .u8 7) := HSB.out.qb.cell 0
  go_upto_region 21 with fail
  have HC : Hid (∀ w2 : World, SB w0 r e gn gb s L C q p 7 x k B a b c d w w2 → Calls Tryd.prog 30 #[.pointer (some ⟨e, 0, none⟩), .int .i64 x] w2 fun y w' => ∃ (v : Nat) (s' : ES) (L' C' : Nat → List Nat), y = Ending.returned (.int .u8 (v : Int)) ∧ EE e gn gb w2 s' L' C' w' ∧ StpS x k B a b c d s L 7 v false 0 s' L') := hid (fun w2 h2 => by
    have E0 := h2.rs.ee
    have hpb := Hpb.out
    refine (evict_ee E0 x).mono ?_
    rintro y w' ⟨rfl, s', L', C', h1, h2⟩; exact ⟨_, s', L', C', rfl, h1, .evi s' L' h2⟩)
  refine wp_region_heavy (fun w' => w'.cell? ⟨r, 0, none⟩ = some (.pointer (some ⟨e, 0, none⟩)) ∧ w'.cell? ⟨q, 1, none⟩ = some (.int .i64 x)) 7 [0, 1, 2, 3, 4, 5] [6] rfl (by kernel_rfl) (by kernel_rfl) (fun d _ _ _ _ h => by cases d <;> exact h) (by have h9 := HSB.out.drew 1; exact ⟨h9.rs.rb.cell 0, h9.qb.cell 1⟩) ?_
  apply Exists.intro
  refine ⟨?_, ?_⟩
  · intro W hW
    have d0 : ∀ x, (W x).cell? ⟨r, 0, none⟩ = some (.pointer (some ⟨e, 0, none⟩)) := fun x => (hW x).1
    have d1 : ∀ u, (W u).cell? ⟨q, 1, none⟩ = some (.int .i64 x) := fun u => (hW u).2
    clear hW
    simp only [List.take, opsAt, List.drop, List.cons_append, List.nil_append]
    repeat (go_big_quiet_step (fail))
    exact rfl
  simp only [List.take, List.drop, opsAt, List.cons_append, List.nil_append, wpHv]
  have HSB1 : Hid (SB w0 r e gn gb s L C q p 7 x k B a b c d w w1.drew) := hid (HSB.out.drew 1)
  generalize w1.drew = w1d at HSB1 ⊢
  clear HSB
  go_wp2_with fail
  refine (HC.out _ HSB1.out).mono ?_
  rintro y w2 ⟨v, s2, L2, C2, rfl, hE2, hS2⟩
  have HSB2 := hid (HSB1.out.ee hE2)
  have HS2 := hid hS2
  clear hE2 hS2 HSB1 HC Hpb
  have HF := hid (SB.answer HSB2.out v false 0)
  have z0 := HSB2.out.pb.cell 0
  have y0 := HSB2.out.pb.frozen 0
  have p1 := HSB2.out.pb.set 0 (.int .u8 (v : Int))
  have z1 := p1.cell 1
  have y1 := p1.frozen 1
  have p2 := p1.set 1 (.bool false)
  have z2 := p2.cell 2
  have y2 := p2.frozen 2
  simp only [List.set_cons_zero, List.set_cons_succ, List.getElem?_cons_zero, List.getElem?_cons_succ] at z0 z1 z2
  have HP : Hid (w2.cell? ⟨r, 0, none⟩ = some (.pointer (some ⟨e, 0, none⟩)) ∧ w2.cell? ⟨q, 1, none⟩ = some (.int .i64 x)) := hid ⟨HSB2.out.rs.rb.cell 0, HSB2.out.qb.cell 1⟩
  clear p1 p2
  go_wp2_with fail
  refine ⟨HP.out, ?_⟩
  simp only [QN]
  go_wp2
  refine bodyPost_ret (v := ansV v false 0) (results_blk Tryd.results10 rfl Ians.out HF.out.1) rfl ?_
  exact ⟨_, _, _, rfl, hid ⟨e, gn, gb, s2, L2, C2, HF.out.2.1, HF.out.2.2, HS2.out⟩⟩
set_option maxRecDepth 100000 in
set_option maxHeartbeats 2000000 in
theorem step_9 (h : RS w0 r e gn gb s L C w) (x : Int) (k : Nat) (B : Bool) (a b c d : Int) (hpb : ∀ i, i < s.slots → s.pin i ≤ 1000000) :
    Calls Tryd.prog 10 #[.pointer (some ⟨r, 0, none⟩), .agg #[.int .u8 9, .int .i64 x, .int .u64 (k : Int), .bool B, .int .i64 a, .int .i64 b, .int .i64 c, .int .i64 d]] w fun y w' => StepP w0 r e gn gb s L 9 x k B a b c d w y w' := by
  have HSB0 := hid (SB.start h 9 x k B a b c d)
  have Hpb := hid hpb
  obtain ⟨q, hq⟩ : ∃ q, w.heap.size = q := ⟨_, rfl⟩
  obtain ⟨p, hp⟩ : ∃ p, w.heap.size + 1 = p := ⟨_, rfl⟩
  rw [hp, hq] at HSB0
  have hp2 : q + 1 = p := by omega
  clear h hpb
  go_enter Tryd.func10, Tryd.ntmps10
  have Ians := hid info_ans
  go_upto_region 1 with fail
  obtain ⟨w1, hw1⟩ : ∃ w1, (w.alloc (.cells #[.int .u8 9, .int .i64 x, .int .u64 (k : Int), .bool B, .int .i64 a, .int .i64 b, .int .i64 c, .int .i64 d] 33)).alloc (.cells #[.int .u8 0, .bool false, .int .i64 0] 36) = w1 := ⟨_, rfl⟩
  have HSB : Hid (SB w0 r e gn gb s L C q p 9 x k B a b c d w w1) := by rw [← hw1]; exact HSB0
  try simp only [hw1]
  clear hw1 HSB0 hq hp hp2
  have c0 : w1.cell? ⟨q, 0, none⟩ = some (.int .u8 9) := HSB.out.qb.cell 0
  go_upto_region 26 with fail
  have HC : Hid (∀ w2 : World, SB w0 r e gn gb s L C q p 9 x k B a b c d w w2 → Calls Tryd.prog 32 #[.pointer (some ⟨e, 0, none⟩), .int .i64 x, .int .u64 (k : Int), .bool B] w2 fun y w' => ∃ (v : Nat) (s' : ES) (L' C' : Nat → List Nat), y = Ending.returned (.int .u8 (v : Int)) ∧ EE e gn gb w2 s' L' C' w' ∧ StpS x k B a b c d s L 9 v false 0 s' L') := hid (fun w2 h2 => by
    have E0 := h2.rs.ee
    have hpb := Hpb.out
    refine (replace_ee E0 x k B).mono ?_
    rintro y w' ⟨v, s', L', C', rfl, h1, h2⟩; exact ⟨v, s', L', C', rfl, h1, .rep v s' L' h2⟩)
  refine wp_region_heavy (fun w' => w'.cell? ⟨r, 0, none⟩ = some (.pointer (some ⟨e, 0, none⟩)) ∧ w'.cell? ⟨q, 1, none⟩ = some (.int .i64 x) ∧ w'.cell? ⟨q, 2, none⟩ = some (.int .u64 (k : Int)) ∧ w'.cell? ⟨q, 3, none⟩ = some (.bool B)) 11 [0, 1, 2, 3, 4, 5, 6, 7, 8, 9] [10] rfl (by kernel_rfl) (by kernel_rfl) (fun d _ _ _ _ h => by cases d <;> exact h) (by have h9 := HSB.out.drew 1; exact ⟨h9.rs.rb.cell 0, h9.qb.cell 1, h9.qb.cell 2, h9.qb.cell 3⟩) ?_
  apply Exists.intro
  refine ⟨?_, ?_⟩
  · intro W hW
    have d0 : ∀ x, (W x).cell? ⟨r, 0, none⟩ = some (.pointer (some ⟨e, 0, none⟩)) := fun x => (hW x).1
    have d1 : ∀ u, (W u).cell? ⟨q, 1, none⟩ = some (.int .i64 x) := fun u => (hW u).2.1
    have d2 : ∀ u, (W u).cell? ⟨q, 2, none⟩ = some (.int .u64 (k : Int)) := fun u => (hW u).2.2.1
    have d3 : ∀ u, (W u).cell? ⟨q, 3, none⟩ = some (.bool B) := fun u => (hW u).2.2.2
    clear hW
    simp only [List.take, opsAt, List.drop, List.cons_append, List.nil_append]
    repeat (go_big_quiet_step (fail))
    exact rfl
  simp only [List.take, List.drop, opsAt, List.cons_append, List.nil_append, wpHv]
  have HSB1 : Hid (SB w0 r e gn gb s L C q p 9 x k B a b c d w w1.drew) := hid (HSB.out.drew 1)
  generalize w1.drew = w1d at HSB1 ⊢
  clear HSB
  go_wp2_with fail
  refine (HC.out _ HSB1.out).mono ?_
  rintro y w2 ⟨v, s2, L2, C2, rfl, hE2, hS2⟩
  have HSB2 := hid (HSB1.out.ee hE2)
  have HS2 := hid hS2
  clear hE2 hS2 HSB1 HC Hpb
  have HF := hid (SB.answer HSB2.out v false 0)
  have z0 := HSB2.out.pb.cell 0
  have y0 := HSB2.out.pb.frozen 0
  have p1 := HSB2.out.pb.set 0 (.int .u8 (v : Int))
  have z1 := p1.cell 1
  have y1 := p1.frozen 1
  have p2 := p1.set 1 (.bool false)
  have z2 := p2.cell 2
  have y2 := p2.frozen 2
  simp only [List.set_cons_zero, List.set_cons_succ, List.getElem?_cons_zero, List.getElem?_cons_succ] at z0 z1 z2
  have HP : Hid (w2.cell? ⟨r, 0, none⟩ = some (.pointer (some ⟨e, 0, none⟩)) ∧ w2.cell? ⟨q, 1, none⟩ = some (.int .i64 x) ∧ w2.cell? ⟨q, 2, none⟩ = some (.int .u64 (k : Int)) ∧ w2.cell? ⟨q, 3, none⟩ = some (.bool B)) := hid ⟨HSB2.out.rs.rb.cell 0, HSB2.out.qb.cell 1, HSB2.out.qb.cell 2, HSB2.out.qb.cell 3⟩
  clear p1 p2
  go_wp2_with fail
  refine ⟨HP.out, ?_⟩
  simp only [QN]
  go_wp2
  refine bodyPost_ret (v := ansV v false 0) (results_blk Tryd.results10 rfl Ians.out HF.out.1) rfl ?_
  exact ⟨_, _, _, rfl, hid ⟨e, gn, gb, s2, L2, C2, HF.out.2.1, HF.out.2.2, HS2.out⟩⟩
set_option maxRecDepth 100000 in
set_option maxHeartbeats 2000000 in
theorem step_10 (h : RS w0 r e gn gb s L C w) (x : Int) (k : Nat) (B : Bool) (a b c d : Int) (hpb : ∀ i, i < s.slots → s.pin i ≤ 1000000) :
    Calls Tryd.prog 10 #[.pointer (some ⟨r, 0, none⟩), .agg #[.int .u8 10, .int .i64 x, .int .u64 (k : Int), .bool B, .int .i64 a, .int .i64 b, .int .i64 c, .int .i64 d]] w fun y w' => StepP w0 r e gn gb s L 10 x k B a b c d w y w' := by
  have HSB0 := hid (SB.start h 10 x k B a b c d)
  have Hpb := hid hpb
  obtain ⟨q, hq⟩ : ∃ q, w.heap.size = q := ⟨_, rfl⟩
  obtain ⟨p, hp⟩ : ∃ p, w.heap.size + 1 = p := ⟨_, rfl⟩
  rw [hp, hq] at HSB0
  have hp2 : q + 1 = p := by omega
  clear h hpb
  go_enter Tryd.func10, Tryd.ntmps10
  have Ians := hid info_ans
  go_upto_region 1 with fail
  obtain ⟨w1, hw1⟩ : ∃ w1, (w.alloc (.cells #[.int .u8 10, .int .i64 x, .int .u64 (k : Int), .bool B, .int .i64 a, .int .i64 b, .int .i64 c, .int .i64 d] 33)).alloc (.cells #[.int .u8 0, .bool false, .int .i64 0] 36) = w1 := ⟨_, rfl⟩
  have HSB : Hid (SB w0 r e gn gb s L C q p 10 x k B a b c d w w1) := by rw [← hw1]; exact HSB0
  try simp only [hw1]
  clear hw1 HSB0 hq hp hp2
  have c0 : w1.cell? ⟨q, 0, none⟩ = some (.int .u8 10) := HSB.out.qb.cell 0
  go_upto_region 28 with fail
  have HC : Hid (∀ w2 : World, SB w0 r e gn gb s L C q p 10 x k B a b c d w w2 → Calls Tryd.prog 33 #[.pointer (some ⟨e, 0, none⟩), .int .i64 x, .bool B] w2 fun y w' => ∃ (v : Nat) (s' : ES) (L' C' : Nat → List Nat), y = Ending.returned (.int .u8 (v : Int)) ∧ EE e gn gb w2 s' L' C' w' ∧ StpS x k B a b c d s L 10 v false 0 s' L') := hid (fun w2 h2 => by
    have E0 := h2.rs.ee
    have hpb := Hpb.out
    refine (setNeg_ee E0 x B).mono ?_
    rintro y w' ⟨rfl, s', L', C', h1, h2⟩; exact ⟨_, s', L', C', rfl, h1, .sng s' L' h2⟩)
  refine wp_region_heavy (fun w' => w'.cell? ⟨r, 0, none⟩ = some (.pointer (some ⟨e, 0, none⟩)) ∧ w'.cell? ⟨q, 1, none⟩ = some (.int .i64 x) ∧ w'.cell? ⟨q, 3, none⟩ = some (.bool B)) 9 [0, 1, 2, 3, 4, 5, 6, 7] [8] rfl (by kernel_rfl) (by kernel_rfl) (fun d _ _ _ _ h => by cases d <;> exact h) (by have h9 := HSB.out.drew 1; exact ⟨h9.rs.rb.cell 0, h9.qb.cell 1, h9.qb.cell 3⟩) ?_
  apply Exists.intro
  refine ⟨?_, ?_⟩
  · intro W hW
    have d0 : ∀ x, (W x).cell? ⟨r, 0, none⟩ = some (.pointer (some ⟨e, 0, none⟩)) := fun x => (hW x).1
    have d1 : ∀ u, (W u).cell? ⟨q, 1, none⟩ = some (.int .i64 x) := fun u => (hW u).2.1
    have d2 : ∀ u, (W u).cell? ⟨q, 3, none⟩ = some (.bool B) := fun u => (hW u).2.2
    clear hW
    simp only [List.take, opsAt, List.drop, List.cons_append, List.nil_append]
    repeat (go_big_quiet_step (fail))
    exact rfl
  simp only [List.take, List.drop, opsAt, List.cons_append, List.nil_append, wpHv]
  have HSB1 : Hid (SB w0 r e gn gb s L C q p 10 x k B a b c d w w1.drew) := hid (HSB.out.drew 1)
  generalize w1.drew = w1d at HSB1 ⊢
  clear HSB
  go_wp2_with fail
  refine (HC.out _ HSB1.out).mono ?_
  rintro y w2 ⟨v, s2, L2, C2, rfl, hE2, hS2⟩
  have HSB2 := hid (HSB1.out.ee hE2)
  have HS2 := hid hS2
  clear hE2 hS2 HSB1 HC Hpb
  have HF := hid (SB.answer HSB2.out v false 0)
  have z0 := HSB2.out.pb.cell 0
  have y0 := HSB2.out.pb.frozen 0
  have p1 := HSB2.out.pb.set 0 (.int .u8 (v : Int))
  have z1 := p1.cell 1
  have y1 := p1.frozen 1
  have p2 := p1.set 1 (.bool false)
  have z2 := p2.cell 2
  have y2 := p2.frozen 2
  simp only [List.set_cons_zero, List.set_cons_succ, List.getElem?_cons_zero, List.getElem?_cons_succ] at z0 z1 z2
  have HP : Hid (w2.cell? ⟨r, 0, none⟩ = some (.pointer (some ⟨e, 0, none⟩)) ∧ w2.cell? ⟨q, 1, none⟩ = some (.int .i64 x) ∧ w2.cell? ⟨q, 3, none⟩ = some (.bool B)) := hid ⟨HSB2.out.rs.rb.cell 0, HSB2.out.qb.cell 1, HSB2.out.qb.cell 3⟩
  clear p1 p2
  go_wp2_with fail
  refine ⟨HP.out, ?_⟩
  simp only [QN]
  go_wp2
  refine bodyPost_ret (v := ansV v false 0) (results_blk Tryd.results10 rfl Ians.out HF.out.1) rfl ?_
  exact ⟨_, _, _, rfl, hid ⟨e, gn, gb, s2, L2, C2, HF.out.2.1, HF.out.2.2, HS2.out⟩⟩
set_option maxRecDepth 100000 in
set_option maxHeartbeats 2000000 in
theorem step_11 (h : RS w0 r e gn gb s L C w) (x : Int) (k : Nat) (B : Bool) (a b c d : Int) (hpb : ∀ i, i < s.slots → s.pin i ≤ 1000000) :
    Calls Tryd.prog 10 #[.pointer (some ⟨r, 0, none⟩), .agg #[.int .u8 11, .int .i64 x, .int .u64 (k : Int), .bool B, .int .i64 a, .int .i64 b, .int .i64 c, .int .i64 d]] w fun y w' => StepP w0 r e gn gb s L 11 x k B a b c d w y w' := by
  have HSB0 := hid (SB.start h 11 x k B a b c d)
  have Hpb := hid hpb
  obtain ⟨q, hq⟩ : ∃ q, w.heap.size = q := ⟨_, rfl⟩
  obtain ⟨p, hp⟩ : ∃ p, w.heap.size + 1 = p := ⟨_, rfl⟩
  rw [hp, hq] at HSB0
  have hp2 : q + 1 = p := by omega
  clear h hpb
  go_enter Tryd.func10, Tryd.ntmps10
  have Ians := hid info_ans
  go_upto_region 1 with fail
  obtain ⟨w1, hw1⟩ : ∃ w1, (w.alloc (.cells #[.int .u8 11, .int .i64 x, .int .u64 (k : Int), .bool B, .int .i64 a, .int .i64 b, .int .i64 c, .int .i64 d] 33)).alloc (.cells #[.int .u8 0, .bool false, .int .i64 0] 36) = w1 := ⟨_, rfl⟩
  have HSB : Hid (SB w0 r e gn gb s L C q p 11 x k B a b c d w w1) := by rw [← hw1]; exact HSB0
  try simp only [hw1]
  clear hw1 HSB0 hq hp hp2
  have c0 : w1.cell? ⟨q, 0, none⟩ = some (.int .u8 11) := HSB.out.qb.cell 0
  go_upto_region 30 with fail
  have HC : Hid (∀ w2 : World, SB w0 r e gn gb s L C q p 11 x k B a b c d w w2 → Calls Tryd.prog 34 #[.pointer (some ⟨e, 0, none⟩), .int .u64 (k : Int)] w2 fun y w' => ∃ (v : Bool) (s' : ES) (L' C' : Nat → List Nat), y = Ending.returned (.bool v) ∧ EE e gn gb w2 s' L' C' w' ∧ StpS x k B a b c d s L 11 0 v 0 s' L') := hid (fun w2 h2 => by
    have E0 := h2.rs.ee
    have hpb := Hpb.out
    refine (forget_ee E0 k).mono ?_
    rintro y w' ⟨v, rfl, s', L', C', h1, h2⟩; exact ⟨v, s', L', C', rfl, h1, .fgt v s' L' h2⟩)
  refine wp_region_heavy (fun w' => w'.cell? ⟨r, 0, none⟩ = some (.pointer (some ⟨e, 0, none⟩)) ∧ w'.cell? ⟨q, 2, none⟩ = some (.int .u64 (k : Int))) 7 [0, 1, 2, 3, 4, 5] [6] rfl (by kernel_rfl) (by kernel_rfl) (fun d _ _ _ _ h => by cases d <;> exact h) (by have h9 := HSB.out.drew 1; exact ⟨h9.rs.rb.cell 0, h9.qb.cell 2⟩) ?_
  apply Exists.intro
  refine ⟨?_, ?_⟩
  · intro W hW
    have d0 : ∀ x, (W x).cell? ⟨r, 0, none⟩ = some (.pointer (some ⟨e, 0, none⟩)) := fun x => (hW x).1
    have d1 : ∀ u, (W u).cell? ⟨q, 2, none⟩ = some (.int .u64 (k : Int)) := fun u => (hW u).2
    clear hW
    simp only [List.take, opsAt, List.drop, List.cons_append, List.nil_append]
    repeat (go_big_quiet_step (fail))
    exact rfl
  simp only [List.take, List.drop, opsAt, List.cons_append, List.nil_append, wpHv]
  have HSB1 : Hid (SB w0 r e gn gb s L C q p 11 x k B a b c d w w1.drew) := hid (HSB.out.drew 1)
  generalize w1.drew = w1d at HSB1 ⊢
  clear HSB
  go_wp2_with fail
  refine (HC.out _ HSB1.out).mono ?_
  rintro y w2 ⟨v, s2, L2, C2, rfl, hE2, hS2⟩
  have HSB2 := hid (HSB1.out.ee hE2)
  have HS2 := hid hS2
  clear hE2 hS2 HSB1 HC Hpb
  have HF := hid (SB.answer HSB2.out 0 v 0)
  have z0 := HSB2.out.pb.cell 0
  have y0 := HSB2.out.pb.frozen 0
  have p1 := HSB2.out.pb.set 0 (.int .u8 (0))
  have z1 := p1.cell 1
  have y1 := p1.frozen 1
  have p2 := p1.set 1 (.bool v)
  have z2 := p2.cell 2
  have y2 := p2.frozen 2
  simp only [List.set_cons_zero, List.set_cons_succ, List.getElem?_cons_zero, List.getElem?_cons_succ] at z0 z1 z2
  have HP : Hid (w2.cell? ⟨r, 0, none⟩ = some (.pointer (some ⟨e, 0, none⟩)) ∧ w2.cell? ⟨q, 2, none⟩ = some (.int .u64 (k : Int))) := hid ⟨HSB2.out.rs.rb.cell 0, HSB2.out.qb.cell 2⟩
  clear p1 p2
  go_wp2_with fail
  refine ⟨HP.out, ?_⟩
  simp only [QN]
  go_wp2
  refine bodyPost_ret (v := ansV 0 v 0) (results_blk Tryd.results10 rfl Ians.out HF.out.1) rfl ?_
  exact ⟨_, _, _, rfl, hid ⟨e, gn, gb, s2, L2, C2, HF.out.2.1, HF.out.2.2, HS2.out⟩⟩
set_option maxRecDepth 100000 in
set_option maxHeartbeats 2000000 in
theorem step_6 (h : RS w0 r e gn gb s L C w) (x : Int) (k : Nat) (B : Bool) (a b c d : Int) :
    Calls Tryd.prog 10 #[.pointer (some ⟨r, 0, none⟩), .agg #[.int .u8 6, .int .i64 x, .int .u64 (k : Int), .bool B, .int .i64 a, .int .i64 b, .int .i64 c, .int .i64 d]] w fun y w' => StepP w0 r e gn gb s L 6 x k B a b c d w y w' := by
  have HSB0 := hid (SB.start h 6 x k B a b c d)
  obtain ⟨q, hq⟩ : ∃ q, w.heap.size = q := ⟨_, rfl⟩
  obtain ⟨p, hp⟩ : ∃ p, w.heap.size + 1 = p := ⟨_, rfl⟩
  rw [hp, hq] at HSB0
  have hp2 : q + 1 = p := by omega
  clear h
  go_enter Tryd.func10, Tryd.ntmps10
  have Ians := hid info_ans
  go_upto_region 1 with fail
  obtain ⟨w1, hw1⟩ : ∃ w1, (w.alloc (.cells #[.int .u8 6, .int .i64 x, .int .u64 (k : Int), .bool B, .int .i64 a, .int .i64 b, .int .i64 c, .int .i64 d] 33)).alloc (.cells #[.int .u8 0, .bool false, .int .i64 0] 36) = w1 := ⟨_, rfl⟩
  have HSB : Hid (SB w0 r e gn gb s L C q p 6 x k B a b c d w w1) := by rw [← hw1]; exact HSB0
  try simp only [hw1]
  clear hw1 HSB0 hq hp hp2
  have c0 : w1.cell? ⟨q, 0, none⟩ = some (.int .u8 6) := HSB.out.qb.cell 0
  obtain ⟨slt, hslt⟩ : ∃ z, ovV (victimS s L) = z := ⟨_, rfl⟩
  obtain ⟨som, hsom⟩ : ∃ z, (victimS s L).isSome = z := ⟨_, rfl⟩
  have HV : Hid (Calls Tryd.prog 20 #[.pointer (some ⟨e, 0, none⟩)] w1 fun y w' => y = .returned (.tuple #[.int .i64 slt, .bool som]) ∧ EE e gn gb w1 s L C w' ∧ Below w1.heap.size w1 w') := hid (by have h1 := victim_ee HSB.out.rs.ee; unfold ov at h1; rw [hslt, hsom] at h1; exact h1)
  have HS2 : Hid (StpS x k B a b c d s L 6 0 som slt s L) := hid (by rw [← hslt, ← hsom]; exact .vic)
  clear hslt hsom
  have r0 : w1.cell? ⟨r, 0, none⟩ = some (.pointer (some ⟨e, 0, none⟩)) := HSB.out.rs.rb.cell 0
  go_wp2_with fail
  refine HV.out.mono ?_
  rintro y w2 ⟨rfl, hE2, _⟩
  have HSB2 := hid (HSB.out.ee hE2)
  clear hE2 HV HSB c0 r0
  have HF := hid (SB.answer HSB2.out 0 som slt)
  have z0 := HSB2.out.pb.cell 0
  have y0 := HSB2.out.pb.frozen 0
  have p1 := HSB2.out.pb.set 0 (.int .u8 0)
  have z1 := p1.cell 1
  have y1 := p1.frozen 1
  have p2 := p1.set 1 (.bool som)
  have z2 := p2.cell 2
  have y2 := p2.frozen 2
  simp only [List.set_cons_zero, List.set_cons_succ, List.getElem?_cons_zero, List.getElem?_cons_succ] at z0 z1 z2
  clear p1 p2
  go_wp2
  refine bodyPost_ret (v := ansV 0 som slt) (results_blk Tryd.results10 rfl Ians.out HF.out.1) rfl ?_
  exact ⟨_, _, _, rfl, hid ⟨e, gn, gb, s, L, C, HF.out.2.1, HF.out.2.2, HS2.out⟩⟩
set_option maxRecDepth 100000 in
set_option maxHeartbeats 2000000 in
theorem step_8 (h : RS w0 r e gn gb s L C w) (x : Int) (k : Nat) (B : Bool) (a b c d : Int) :
    Calls Tryd.prog 10 #[.pointer (some ⟨r, 0, none⟩), .agg #[.int .u8 8, .int .i64 x, .int .u64 (k : Int), .bool B, .int .i64 a, .int .i64 b, .int .i64 c, .int .i64 d]] w fun y w' => StepP w0 r e gn gb s L 8 x k B a b c d w y w' := by
  have HSB0 := hid (SB.start h 8 x k B a b c d)
  obtain ⟨q, hq⟩ : ∃ q, w.heap.size = q := ⟨_, rfl⟩
  obtain ⟨p, hp⟩ : ∃ p, w.heap.size + 1 = p := ⟨_, rfl⟩
  rw [hp, hq] at HSB0
  have hp2 : q + 1 = p := by omega
  clear h
  go_enter Tryd.func10, Tryd.ntmps10
  have Ians := hid info_ans
  go_upto_region 1 with fail
  obtain ⟨w1, hw1⟩ : ∃ w1, (w.alloc (.cells #[.int .u8 8, .int .i64 x, .int .u64 (k : Int), .bool B, .int .i64 a, .int .i64 b, .int .i64 c, .int .i64 d] 33)).alloc (.cells #[.int .u8 0, .bool false, .int .i64 0] 36) = w1 := ⟨_, rfl⟩
  have HSB : Hid (SB w0 r e gn gb s L C q p 8 x k B a b c d w w1) := by rw [← hw1]; exact HSB0
  try simp only [hw1]
  clear hw1 HSB0 hq hp hp2
  have c0 : w1.cell? ⟨q, 0, none⟩ = some (.int .u8 8) := HSB.out.qb.cell 0
  have HV : Hid (Calls Tryd.prog 31 #[.pointer (some ⟨e, 0, none⟩)] w1 fun y w' => ∃ slt som, y = .returned (.tuple #[.int .i64 slt, .bool som]) ∧ Hid (∃ s' L' C', EE e gn gb w1 s' L' C' w' ∧ StpS x k B a b c d s L 8 0 som slt s' L')) := hid (by
    refine (reclaim_ee HSB.out.rs.ee).mono ?_
    rintro y w' ⟨o, s', L', C', rfl, h1, h2⟩
    exact ⟨ovV o, o.isSome, rfl, hid ⟨s', L', C', h1, .rcl o s' L' h2⟩⟩)
  have r0 : w1.cell? ⟨r, 0, none⟩ = some (.pointer (some ⟨e, 0, none⟩)) := HSB.out.rs.rb.cell 0
  go_wp2_with fail
  refine HV.out.mono ?_
  rintro y w2 ⟨slt, som, rfl, HE2⟩
  obtain ⟨s2, L2, C2, hE2, hS2⟩ := HE2.out
  have HS2 := hid hS2
  have HSB2 := hid (HSB.out.ee hE2)
  clear hE2 hS2 HE2 HV HSB c0 r0
  have HF := hid (SB.answer HSB2.out 0 som slt)
  have z0 := HSB2.out.pb.cell 0
  have y0 := HSB2.out.pb.frozen 0
  have p1 := HSB2.out.pb.set 0 (.int .u8 0)
  have z1 := p1.cell 1
  have y1 := p1.frozen 1
  have p2 := p1.set 1 (.bool som)
  have z2 := p2.cell 2
  have y2 := p2.frozen 2
  simp only [List.set_cons_zero, List.set_cons_succ, List.getElem?_cons_zero, List.getElem?_cons_succ] at z0 z1 z2
  clear p1 p2
  go_wp2
  refine bodyPost_ret (v := ansV 0 som slt) (results_blk Tryd.results10 rfl Ians.out HF.out.1) rfl ?_
  exact ⟨_, _, _, rfl, hid ⟨e, gn, gb, s2, L2, C2, HF.out.2.1, HF.out.2.2, HS2.out⟩⟩
set_option maxRecDepth 100000 in
set_option maxHeartbeats 2000000 in
theorem step_n (h : RS w0 r e gn gb s L C w) (kd : Nat) (hk : 12 ≤ kd) (x : Int) (k : Nat) (B : Bool) (a b c d : Int) :
    Calls Tryd.prog 10 #[.pointer (some ⟨r, 0, none⟩), .agg #[.int .u8 (kd : Int), .int .i64 x, .int .u64 (k : Int), .bool B, .int .i64 a, .int .i64 b, .int .i64 c, .int .i64 d]] w fun y w' => StepP w0 r e gn gb s L kd x k B a b c d w y w' := by
  have HSB0 := hid (SB.start h kd x k B a b c d)
  obtain ⟨q, hq⟩ : ∃ q, w.heap.size = q := ⟨_, rfl⟩
  obtain ⟨p, hp⟩ : ∃ p, w.heap.size + 1 = p := ⟨_, rfl⟩
  rw [hp, hq] at HSB0
  have hp2 : q + 1 = p := by omega
  clear h
  have d0 : ((kd : Int) == 0) = false := by rw [beq_eq_false_iff_ne]; omega
  have d1 : ((kd : Int) == 1) = false := by rw [beq_eq_false_iff_ne]; omega
  have d2 : ((kd : Int) == 2) = false := by rw [beq_eq_false_iff_ne]; omega
  have d3 : ((kd : Int) == 3) = false := by rw [beq_eq_false_iff_ne]; omega
  have d4 : ((kd : Int) == 4) = false := by rw [beq_eq_false_iff_ne]; omega
  have d5 : ((kd : Int) == 5) = false := by rw [beq_eq_false_iff_ne]; omega
  have d6 : ((kd : Int) == 6) = false := by rw [beq_eq_false_iff_ne]; omega
  have d7 : ((kd : Int) == 7) = false := by rw [beq_eq_false_iff_ne]; omega
  have d8 : ((kd : Int) == 8) = false := by rw [beq_eq_false_iff_ne]; omega
  have d9 : ((kd : Int) == 9) = false := by rw [beq_eq_false_iff_ne]; omega
  have d10 : ((kd : Int) == 10) = false := by rw [beq_eq_false_iff_ne]; omega
  have d11 : ((kd : Int) == 11) = false := by rw [beq_eq_false_iff_ne]; omega
  go_enter Tryd.func10, Tryd.ntmps10
  have Ians := hid info_ans
  go_upto_region 1 with fail
  obtain ⟨w1, hw1⟩ : ∃ w1, (w.alloc (.cells #[.int .u8 (kd : Int), .int .i64 x, .int .u64 (k : Int), .bool B, .int .i64 a, .int .i64 b, .int .i64 c, .int .i64 d] 33)).alloc (.cells #[.int .u8 0, .bool false, .int .i64 0] 36) = w1 := ⟨_, rfl⟩
  have HSB : Hid (SB w0 r e gn gb s L C q p kd x k B a b c d w w1) := by rw [← hw1]; exact HSB0
  try simp only [hw1]
  clear hw1 HSB0 hq hp hp2
  have c0 : w1.cell? ⟨q, 0, none⟩ = some (.int .u8 (kd : Int)) := HSB.out.qb.cell 0
  have HF := hid (SB.answer HSB.out 0 false 0)
  have z0 := HSB.out.pb.cell 0
  have y0 := HSB.out.pb.frozen 0
  have p1 := HSB.out.pb.set 0 (.int .u8 0)
  have z1 := p1.cell 1
  have y1 := p1.frozen 1
  have p2 := p1.set 1 (.bool false)
  have z2 := p2.cell 2
  have y2 := p2.frozen 2
  simp only [List.set_cons_zero, List.set_cons_succ, List.getElem?_cons_zero, List.getElem?_cons_succ] at z0 z1 z2
  clear p1 p2
  go_wp2
  refine bodyPost_ret (v := ansV 0 false 0) (results_blk Tryd.results10 rfl Ians.out HF.out.1) rfl ?_
  exact ⟨_, _, _, rfl, hid ⟨e, gn, gb, s, L, C, HF.out.2.1, HF.out.2.2, .none kd hk⟩⟩
set_option maxRecDepth 100000 in
set_option maxHeartbeats 2000000 in
theorem step_0 (h : RS w0 r e gn gb s L C w) (x : Int) (k : Nat) (B : Bool) (a b c d : Int) :
    Calls Tryd.prog 10 #[.pointer (some ⟨r, 0, none⟩), .agg #[.int .u8 0, .int .i64 x, .int .u64 (k : Int), .bool B, .int .i64 a, .int .i64 b, .int .i64 c, .int .i64 d]] w fun y w' => StepP w0 r e gn gb s L 0 x k B a b c d w y w' := by
  have HSB0 := hid (SB.start h 0 x k B a b c d)
  obtain ⟨q, hq⟩ : ∃ q, w.heap.size = q := ⟨_, rfl⟩
  obtain ⟨p, hp⟩ : ∃ p, w.heap.size + 1 = p := ⟨_, rfl⟩
  rw [hp, hq] at HSB0
  have hp2 : q + 1 = p := by omega
  clear h
  go_enter Tryd.func10, Tryd.ntmps10
  have Ians := hid info_ans
  go_upto_region 1 with fail
  obtain ⟨w1, hw1⟩ : ∃ w1, (w.alloc (.cells #[.int .u8 0, .int .i64 x, .int .u64 (k : Int), .bool B, .int .i64 a, .int .i64 b, .int .i64 c, .int .i64 d] 33)).alloc (.cells #[.int .u8 0, .bool false, .int .i64 0] 36) = w1 := ⟨_, rfl⟩
  have HSB : Hid (SB w0 r e gn gb s L C q p 0 x k B a b c d w w1) := by rw [← hw1]; exact HSB0
  have HBw : Hid (Below w.heap.size w w1) := by rw [← hw1]; exact hid (((Below.refl _ w).alloc (Nat.le_refl _) _).alloc (by simp) _)
  try simp only [hw1]
  clear hw1 HSB0 hq hp hp2
  have c0 : w1.cell? ⟨q, 0, none⟩ = some (.int .u8 0) := HSB.out.qb.cell 0
  have c4 : w1.cell? ⟨q, 4, none⟩ = some (.int .i64 a) := HSB.out.qb.cell 4
  have c5 : w1.cell? ⟨q, 5, none⟩ = some (.int .i64 b) := HSB.out.qb.cell 5
  have c6 : w1.cell? ⟨q, 6, none⟩ = some (.int .i64 c) := HSB.out.qb.cell 6
  have c7 : w1.cell? ⟨q, 7, none⟩ = some (.int .i64 d) := HSB.out.qb.cell 7
  have HV := hid (new_walk a b c d w1)
  go_wp2_with fail
  refine HV.out.mono ?_
  rintro y w2 hy
  clear HV c0 c4 c5 c6 c7
  rcases hy with ⟨hcf, rfl, hb⟩ | ⟨hcf, e', gn', gb', s', L', C', rfl, hE, hb, l1, l2, l3, hN⟩
  · as_aux_lemma =>
    have HSB2 := hid (HSB.out.bel hb)
    have HS2 : Hid (StpS x k B a b c d s L 0 4 false 0 s L) := hid (.bad hcf)
    clear HSB hb hcf
    have HF := hid (SB.answer HSB2.out 4 false 0)
    have z0 := HSB2.out.pb.cell 0
    have y0 := HSB2.out.pb.frozen 0
    have p1 := HSB2.out.pb.set 0 (.int .u8 4)
    have z1 := p1.cell 1
    have y1 := p1.frozen 1
    have p2 := p1.set 1 (.bool false)
    have z2 := p2.cell 2
    have y2 := p2.frozen 2
    simp only [List.set_cons_zero, List.set_cons_succ, List.getElem?_cons_zero, List.getElem?_cons_succ] at z0 z1 z2
    clear p1 p2
    go_wp2
    refine bodyPost_ret (v := ansV 4 false 0) (results_blk Tryd.results10 rfl Ians.out HF.out.1) rfl ?_
    exact ⟨_, _, _, rfl, hid ⟨e, gn, gb, s, L, C, HF.out.2.1, HF.out.2.2, HS2.out⟩⟩
  · as_aux_lemma =>
    have hsz := HSB.out.u4.size
    have HSB2 := hid (HSB.out.setup (e' := e') (gn' := gn') (gb' := gb') (U4.ofBelow HBw.out) hE hb l1 l2 l3)
    have r0 : w2.cell? ⟨r, 0, none⟩ = some (.pointer (some ⟨e, 0, none⟩)) := (HSB.out.rs.rb.below hb).cell 0
    have r1 := (HSB.out.rs.rb.below hb).frozen 0
    have HS2 : Hid (StpS x k B a b c d s L 0 0 false 0 s' L') := hid (.new hcf s' L' hN)
    have HL : Hid (w.heap.size ≤ e' ∧ w.heap.size ≤ gn' ∧ w.heap.size ≤ gb') := hid ⟨by omega, by omega, by omega⟩
    clear hE hb l1 l2 l3 hN hcf HSB hsz
    have HF := hid (SB.answer HSB2.out 0 false 0)
    have z0 := HSB2.out.pb.cell 0
    have y0 := HSB2.out.pb.frozen 0
    have p1 := HSB2.out.pb.set 0 (.int .u8 0)
    have z1 := p1.cell 1
    have y1 := p1.frozen 1
    have p2 := p1.set 1 (.bool false)
    have z2 := p2.cell 2
    have y2 := p2.frozen 2
    simp only [List.set_cons_zero, List.set_cons_succ, List.getElem?_cons_zero, List.getElem?_cons_succ] at z0 z1 z2
    clear p1 p2
    go_wp2
    refine bodyPost_ret (v := ansV 0 false 0) (results_blk Tryd.results10 rfl Ians.out HF.out.1) rfl ?_
    exact ⟨_, _, _, rfl, hid ⟨e', gn', gb', s', L', C', HF.out.2.1, HF.out.2.2.fresh HL.out.1 HL.out.2.1 HL.out.2.2, HS2.out⟩⟩
theorem step_walk (h : RS w0 r e gn gb s L C w) (kd : Nat) (x : Int) (k : Nat) (B : Bool) (a b c d : Int) (hpb : ∀ i, i < s.slots → s.pin i ≤ 1000000) :
    Calls Tryd.prog 10 #[.pointer (some ⟨r, 0, none⟩), .agg #[.int .u8 (kd : Int), .int .i64 x, .int .u64 (k : Int), .bool B, .int .i64 a, .int .i64 b, .int .i64 c, .int .i64 d]] w fun y w' => StepP w0 r e gn gb s L kd x k B a b c d w y w' := by
  by_cases hk : 12 ≤ kd
  · exact step_n h kd hk x k B a b c d
  have h12 : kd = 0 ∨ kd = 1 ∨ kd = 2 ∨ kd = 3 ∨ kd = 4 ∨ kd = 5 ∨ kd = 6 ∨ kd = 7 ∨ kd = 8 ∨ kd = 9 ∨ kd = 10 ∨ kd = 11 := by omega
  rcases h12 with rfl | rfl | rfl | rfl | rfl | rfl | rfl | rfl | rfl | rfl | rfl | rfl
  · exact step_0 h x k B a b c d
  · exact step_1 h x k B a b c d hpb
  · exact step_2 h x k B a b c d hpb
  · exact step_3 h x k B a b c d hpb
  · exact step_4 h x k B a b c d hpb
  · exact step_5 h x k B a b c d hpb
  · exact step_6 h x k B a b c d
  · exact step_7 h x k B a b c d hpb
  · exact step_8 h x k B a b c d
  · exact step_9 h x k B a b c d hpb
  · exact step_10 h x k B a b c d hpb
  · exact step_11 h x k B a b c d hpb
end
end Go.Proofs.Qxb6500892aDoor
