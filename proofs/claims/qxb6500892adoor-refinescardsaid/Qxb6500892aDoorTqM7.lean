/- The model's Step (written by tools/mk_mstep.py). -/
import Derived.Test.Qxb6500892aDoorTqM6
namespace Go.Proofs.Qxb6500892aDoor
open Go.RowKit
set_option linter.unusedSimpArgs false
set_option linter.unusedVariables false

def MStepP (B pb : Nat) (m : MS) (kind : Nat) (x : Int) (k : Nat) (b : Bool) (w : World) (y : Ending) (w' : World) : Prop :=
  ∃ (err : Nat) (som : Bool) (slt : Int), y = .returned (ansV err som slt) ∧ Hid (∃ m', stepM m kind x k b = (err, som, slt, m') ∧ MX B pb m' w' ∧ UM B w w')
/-- The machine inside a step: the operation in the block q, the answer in the block p. -/
structure MSB (B pb q p : Nat) (m : MS) (kind : Nat) (x : Int) (k : Nat) (b : Bool) (a c d e : Int) (ws w : World) : Prop where
  mx : MX B pb m w
  um : UM B ws w
  lq : ws.heap.size ≤ q
  lp : ws.heap.size ≤ p
  qb : Blk w q 33 [.int .u8 (kind : Int), .int .i64 x, .int .u64 (k : Int), .bool b, .int .i64 a, .int .i64 c, .int .i64 d, .int .i64 e]
  pk : Blk w p 36 [.int .u8 0, .bool false, .int .i64 0]
section
variable {B pb q p : Nat} {m m' : MS} {kind : Nat} {x : Int} {k : Nat} {b : Bool} {a c d e : Int} {ws w w' : World}
theorem MX.below (h : MX B pb m w) (hb : Below w.heap.size w w') : MX B pb m w' := by
  obtain ⟨a1, n1, c1, a2, n2, c2, a3, n3, c3, h⟩ := h
  exact ⟨a1, n1, c1, a2, n2, c2, a3, n3, c3, h.below hb⟩
theorem MX.upd {g : Nat} {t : TypeId} {cs : List Value} (h : MX B pb m w) (hg : Blk w g t cs) (h1 : t ≠ 88) (h2 : t ≠ 64) (h3 : t ≠ 29) (hu : Upd g w w') : MX B pb m w' := by
  obtain ⟨a1, n1, c1, a2, n2, c2, a3, n3, c3, h⟩ := h
  exact ⟨a1, n1, c1, a2, n2, c2, a3, n3, c3, ⟨h.bk.upd hu (h.bk.tne hg (Ne.symm h1)), h.o1.updT hg (Ne.symm h2) hu, h.o2.updT hg (Ne.symm h2) hu, h.o3.updT hg (Ne.symm h3) hu, h.sp, h.lb⟩⟩
theorem MX.b0 (h : MX B pb m w) : B ≤ w.heap.size := by
  obtain ⟨a1, n1, c1, a2, n2, c2, a3, n3, c3, h⟩ := h
  exact h.b0
theorem MSB.start (h : MX B pb m ws) (kind : Nat) (x : Int) (k : Nat) (b : Bool) (a c d e : Int) : MSB B pb ws.heap.size (ws.heap.size + 1) m kind x k b a c d e ws ((ws.alloc (.cells #[.int .u8 (kind : Int), .int .i64 x, .int .u64 (k : Int), .bool b, .int .i64 a, .int .i64 c, .int .i64 d, .int .i64 e] 33)).alloc (.cells #[.int .u8 0, .bool false, .int .i64 0] 36)) := by
  have s1 : ∀ (x : World) (o : Obj), (x.alloc o).heap.size = x.heap.size + 1 := fun x o => by simp
  have hb : Below ws.heap.size ws ((ws.alloc (.cells #[.int .u8 (kind : Int), .int .i64 x, .int .u64 (k : Int), .bool b, .int .i64 a, .int .i64 c, .int .i64 d, .int .i64 e] 33)).alloc (.cells #[.int .u8 0, .bool false, .int .i64 0] 36)) := ((Below.refl _ ws).alloc (Nat.le_refl _) _).alloc (by rw [s1]; omega) _
  refine ⟨h.below hb, UM.ofBelow hb, Nat.le_refl _, by omega, (Blk.new ws [.int .u8 (kind : Int), .int .i64 x, .int .u64 (k : Int), .bool b, .int .i64 a, .int .i64 c, .int .i64 d, .int .i64 e] 33).alloc _, ?_⟩
  have h1 := Blk.new (ws.alloc (.cells #[.int .u8 (kind : Int), .int .i64 x, .int .u64 (k : Int), .bool b, .int .i64 a, .int .i64 c, .int .i64 d, .int .i64 e] 33)) [.int .u8 0, .bool false, .int .i64 0] 36
  rw [s1] at h1
  exact h1
theorem MSB.go (h : MSB B pb q p m kind x k b a c d e ws w) (hm : MX B pb m' w') (hu : UM B w w') : MSB B pb q p m' kind x k b a c d e ws w' :=
  ⟨hm, h.um.trans hu, h.lq, h.lp, hu.blk h.qb (by decide) (by decide), hu.blk h.pk (by decide) (by decide)⟩
theorem MSB.answer (h : MSB B pb q p m kind x k b a c d e ws w) (err : Nat) (som : Bool) (slt : Int) : Blk (((w.setCell ⟨p, 0, none⟩ (.int .u8 (err : Int))).setCell ⟨p, 1, none⟩ (.bool som)).setCell ⟨p, 2, none⟩ (.int .i64 slt)) p 36 [.int .u8 (err : Int), .bool som, .int .i64 slt] ∧ MX B pb m (((w.setCell ⟨p, 0, none⟩ (.int .u8 (err : Int))).setCell ⟨p, 1, none⟩ (.bool som)).setCell ⟨p, 2, none⟩ (.int .i64 slt)) ∧ UM B ws (((w.setCell ⟨p, 0, none⟩ (.int .u8 (err : Int))).setCell ⟨p, 1, none⟩ (.bool som)).setCell ⟨p, 2, none⟩ (.int .i64 slt)) := by
  have hu : Upd p w (((w.setCell ⟨p, 0, none⟩ (.int .u8 (err : Int))).setCell ⟨p, 1, none⟩ (.bool som)).setCell ⟨p, 2, none⟩ (.int .i64 slt)) := (((Upd.refl p w).setCell rfl _).setCell rfl _).setCell rfl _
  refine ⟨((h.pk.set 0 _).set 1 _).set 2 _, h.mx.upd h.pk (by decide) (by decide) (by decide) hu, ?_⟩
  exact ⟨hu.os.trans h.um.os, hu.tape.trans h.um.tape, hu.output.trans h.um.output, Nat.le_trans h.um.size hu.size, fun j hj hp => (hu.block j (Nat.lt_of_lt_of_le hj h.um.size) (by have := h.lp; omega)).trans (h.um.block j hj hp)⟩
theorem vic_err {t : TEnt} (hk : MOk m) (h : vicM m = some t) : errM m t.slot = 0 := by
  have h1 : t ∈ ordP m.I m.M m.kin m.kneg := List.mem_of_find?_eq_some h
  have h2 : t ∈ m.I ++ m.M := by
    unfold ordP at h1
    rw [List.mem_append] at h1 ⊢
    rcases h1 with h1 | h1
    · split at h1
      · exact .inl (by simpa using (List.mem_filter.1 h1).1)
      · cases h1
    · split at h1 <;> rcases List.mem_append.1 h1 with h1 | h1 <;> simp at h1 <;> simp [h1]
  have h3 := hk.rg t h2
  unfold errM
  rw [if_pos h3]
  have : (findE m t.slot).isSome = true := by
    unfold findE
    rw [List.find?_isSome]
    exact ⟨t, h2, by simp⟩
  rw [this]
  rfl
set_option maxRecDepth 100000 in
set_option maxHeartbeats 2000000 in
theorem mstep_1 (h : MX B pb m w) (hk : MOk m) (x : Int) (k : Nat) (b : Bool) (a c d e : Int) : Calls Tryd.prog 35 #[.pointer (some ⟨pb, 0, none⟩), .agg #[.int .u8 1, .int .i64 x, .int .u64 (k : Int), .bool b, .int .i64 a, .int .i64 c, .int .i64 d, .int .i64 e]] w fun y w' => MStepP B pb m 1 x k b w y w' := by
  have HS0 := hid (MSB.start h 1 x k b a c d e)
  have HK := hid hk
  obtain ⟨q, hq⟩ : ∃ q, w.heap.size = q := ⟨_, rfl⟩
  obtain ⟨p, hp⟩ : ∃ p, w.heap.size + 1 = p := ⟨_, rfl⟩
  rw [hp, hq] at HS0
  have hp2 : q + 1 = p := by omega
  clear h hk
  go_enter Tryd.func35, Tryd.ntmps35
  have Ians := hid info_ans
  go_upto_region 1 with fail
  obtain ⟨w1, hw1⟩ : ∃ w1, (w.alloc (.cells #[.int .u8 1, .int .i64 x, .int .u64 (k : Int), .bool b, .int .i64 a, .int .i64 c, .int .i64 d, .int .i64 e] 33)).alloc (.cells #[.int .u8 0, .bool false, .int .i64 0] 36) = w1 := ⟨_, rfl⟩
  have HS : Hid (MSB B pb q p m 1 x k b a c d e w w1) := by rw [← hw1]; exact HS0
  try simp only [hw1]
  clear hw1 HS0 hq hp hp2
  have c0 : w1.cell? ⟨q, 0, none⟩ = some (.int .u8 1) := HS.out.qb.cell 0
  have c1 : w1.cell? ⟨q, 1, none⟩ = some (.int .i64 x) := HS.out.qb.cell 1
  have c2 : w1.cell? ⟨q, 2, none⟩ = some (.int .u64 (k : Int)) := HS.out.qb.cell 2
  have c3 : w1.cell? ⟨q, 3, none⟩ = some (.bool b) := HS.out.qb.cell 3
  obtain ⟨a1, n1, d1, a2, n2, d2, a3, n3, d3, hm⟩ := HS.out.mx
  have HC := hid (minsert_walk hm HK.out x k b)
  have HR : Hid (stepM m 1 x k b = ((insM m x k b).1, false, 0, (insM m x k b).2)) := hid rfl
  clear hm
  go_wp2_with fail
  refine HC.out.mono ?_
  rintro y w2 ⟨v, rfl, HX⟩
  have HS2 := hid (HS.out.go HX.out.2.1 HX.out.2.2)
  have HR2 : Hid (stepM m 1 x k b = (v, false, 0, (insM m x k b).2)) := hid (by rw [HR.out, HX.out.1])
  clear HC HX HS HR c0 c1 c2 c3
  have HF := hid (MSB.answer HS2.out v false 0)
  have z0 := HS2.out.pk.cell 0
  have y0 := HS2.out.pk.frozen 0
  have p1 := HS2.out.pk.set 0 (.int .u8 (v : Int))
  have z1 := p1.cell 1
  have y1 := p1.frozen 1
  have p2 := p1.set 1 (.bool false)
  have z2 := p2.cell 2
  have y2 := p2.frozen 2
  simp only [List.set_cons_zero, List.set_cons_succ, List.getElem?_cons_zero, List.getElem?_cons_succ] at z0 z1 z2
  clear p1 p2 HS2
  go_wp2
  refine bodyPost_ret (v := ansV v false 0) (results_blk Tryd.results35 rfl Ians.out HF.out.1) rfl ?_
  exact ⟨_, _, _, rfl, hid ⟨_, HR2.out, HF.out.2.1, HF.out.2.2⟩⟩
set_option maxRecDepth 100000 in
set_option maxHeartbeats 2000000 in
theorem mstep_2 (h : MX B pb m w) (hk : MOk m) (x : Int) (k : Nat) (b : Bool) (a c d e : Int) : Calls Tryd.prog 35 #[.pointer (some ⟨pb, 0, none⟩), .agg #[.int .u8 2, .int .i64 x, .int .u64 (k : Int), .bool b, .int .i64 a, .int .i64 c, .int .i64 d, .int .i64 e]] w fun y w' => MStepP B pb m 2 x k b w y w' := by
  have HS0 := hid (MSB.start h 2 x k b a c d e)
  have HK := hid hk
  obtain ⟨q, hq⟩ : ∃ q, w.heap.size = q := ⟨_, rfl⟩
  obtain ⟨p, hp⟩ : ∃ p, w.heap.size + 1 = p := ⟨_, rfl⟩
  rw [hp, hq] at HS0
  have hp2 : q + 1 = p := by omega
  clear h hk
  go_enter Tryd.func35, Tryd.ntmps35
  have Ians := hid info_ans
  go_upto_region 1 with fail
  obtain ⟨w1, hw1⟩ : ∃ w1, (w.alloc (.cells #[.int .u8 2, .int .i64 x, .int .u64 (k : Int), .bool b, .int .i64 a, .int .i64 c, .int .i64 d, .int .i64 e] 33)).alloc (.cells #[.int .u8 0, .bool false, .int .i64 0] 36) = w1 := ⟨_, rfl⟩
  have HS : Hid (MSB B pb q p m 2 x k b a c d e w w1) := by rw [← hw1]; exact HS0
  try simp only [hw1]
  clear hw1 HS0 hq hp hp2
  have c0 : w1.cell? ⟨q, 0, none⟩ = some (.int .u8 2) := HS.out.qb.cell 0
  have c1 : w1.cell? ⟨q, 1, none⟩ = some (.int .i64 x) := HS.out.qb.cell 1
  have c2 : w1.cell? ⟨q, 2, none⟩ = some (.int .u64 (k : Int)) := HS.out.qb.cell 2
  have c3 : w1.cell? ⟨q, 3, none⟩ = some (.bool b) := HS.out.qb.cell 3
  obtain ⟨a1, n1, d1, a2, n2, d2, a3, n3, d3, hm⟩ := HS.out.mx
  have HC := hid (mtouch_walk hm HK.out x)
  have HR : Hid (stepM m 2 x k b = ((touM m x).1, false, 0, (touM m x).2)) := hid rfl
  clear hm
  go_wp2_with fail
  refine HC.out.mono ?_
  rintro y w2 ⟨v, rfl, HX⟩
  have HS2 := hid (HS.out.go HX.out.2.1 HX.out.2.2)
  have HR2 : Hid (stepM m 2 x k b = (v, false, 0, (touM m x).2)) := hid (by rw [HR.out, HX.out.1])
  clear HC HX HS HR c0 c1 c2 c3
  have HF := hid (MSB.answer HS2.out v false 0)
  have z0 := HS2.out.pk.cell 0
  have y0 := HS2.out.pk.frozen 0
  have p1 := HS2.out.pk.set 0 (.int .u8 (v : Int))
  have z1 := p1.cell 1
  have y1 := p1.frozen 1
  have p2 := p1.set 1 (.bool false)
  have z2 := p2.cell 2
  have y2 := p2.frozen 2
  simp only [List.set_cons_zero, List.set_cons_succ, List.getElem?_cons_zero, List.getElem?_cons_succ] at z0 z1 z2
  clear p1 p2 HS2
  go_wp2
  refine bodyPost_ret (v := ansV v false 0) (results_blk Tryd.results35 rfl Ians.out HF.out.1) rfl ?_
  exact ⟨_, _, _, rfl, hid ⟨_, HR2.out, HF.out.2.1, HF.out.2.2⟩⟩
set_option maxRecDepth 100000 in
set_option maxHeartbeats 2000000 in
theorem mstep_3 (h : MX B pb m w) (hk : MOk m) (x : Int) (k : Nat) (b : Bool) (a c d e : Int) : Calls Tryd.prog 35 #[.pointer (some ⟨pb, 0, none⟩), .agg #[.int .u8 3, .int .i64 x, .int .u64 (k : Int), .bool b, .int .i64 a, .int .i64 c, .int .i64 d, .int .i64 e]] w fun y w' => MStepP B pb m 3 x k b w y w' := by
  have HS0 := hid (MSB.start h 3 x k b a c d e)
  have HK := hid hk
  obtain ⟨q, hq⟩ : ∃ q, w.heap.size = q := ⟨_, rfl⟩
  obtain ⟨p, hp⟩ : ∃ p, w.heap.size + 1 = p := ⟨_, rfl⟩
  rw [hp, hq] at HS0
  have hp2 : q + 1 = p := by omega
  clear h hk
  go_enter Tryd.func35, Tryd.ntmps35
  have Ians := hid info_ans
  go_upto_region 1 with fail
  obtain ⟨w1, hw1⟩ : ∃ w1, (w.alloc (.cells #[.int .u8 3, .int .i64 x, .int .u64 (k : Int), .bool b, .int .i64 a, .int .i64 c, .int .i64 d, .int .i64 e] 33)).alloc (.cells #[.int .u8 0, .bool false, .int .i64 0] 36) = w1 := ⟨_, rfl⟩
  have HS : Hid (MSB B pb q p m 3 x k b a c d e w w1) := by rw [← hw1]; exact HS0
  try simp only [hw1]
  clear hw1 HS0 hq hp hp2
  have c0 : w1.cell? ⟨q, 0, none⟩ = some (.int .u8 3) := HS.out.qb.cell 0
  have c1 : w1.cell? ⟨q, 1, none⟩ = some (.int .i64 x) := HS.out.qb.cell 1
  have c2 : w1.cell? ⟨q, 2, none⟩ = some (.int .u64 (k : Int)) := HS.out.qb.cell 2
  have c3 : w1.cell? ⟨q, 3, none⟩ = some (.bool b) := HS.out.qb.cell 3
  obtain ⟨a1, n1, d1, a2, n2, d2, a3, n3, d3, hm⟩ := HS.out.mx
  have HC := hid (mremove_walk hm HK.out x)
  have HR : Hid (stepM m 3 x k b = ((remM m x).1, false, 0, (remM m x).2)) := hid rfl
  clear hm
  go_wp2_with fail
  refine HC.out.mono ?_
  rintro y w2 ⟨v, rfl, HX⟩
  have HS2 := hid (HS.out.go HX.out.2.1 HX.out.2.2)
  have HR2 : Hid (stepM m 3 x k b = (v, false, 0, (remM m x).2)) := hid (by rw [HR.out, HX.out.1])
  clear HC HX HS HR c0 c1 c2 c3
  have HF := hid (MSB.answer HS2.out v false 0)
  have z0 := HS2.out.pk.cell 0
  have y0 := HS2.out.pk.frozen 0
  have p1 := HS2.out.pk.set 0 (.int .u8 (v : Int))
  have z1 := p1.cell 1
  have y1 := p1.frozen 1
  have p2 := p1.set 1 (.bool false)
  have z2 := p2.cell 2
  have y2 := p2.frozen 2
  simp only [List.set_cons_zero, List.set_cons_succ, List.getElem?_cons_zero, List.getElem?_cons_succ] at z0 z1 z2
  clear p1 p2 HS2
  go_wp2
  refine bodyPost_ret (v := ansV v false 0) (results_blk Tryd.results35 rfl Ians.out HF.out.1) rfl ?_
  exact ⟨_, _, _, rfl, hid ⟨_, HR2.out, HF.out.2.1, HF.out.2.2⟩⟩
set_option maxRecDepth 100000 in
set_option maxHeartbeats 2000000 in
theorem mstep_4 (h : MX B pb m w) (hk : MOk m) (x : Int) (k : Nat) (b : Bool) (a c d e : Int) : Calls Tryd.prog 35 #[.pointer (some ⟨pb, 0, none⟩), .agg #[.int .u8 4, .int .i64 x, .int .u64 (k : Int), .bool b, .int .i64 a, .int .i64 c, .int .i64 d, .int .i64 e]] w fun y w' => MStepP B pb m 4 x k b w y w' := by
  have HS0 := hid (MSB.start h 4 x k b a c d e)
  have HK := hid hk
  obtain ⟨q, hq⟩ : ∃ q, w.heap.size = q := ⟨_, rfl⟩
  obtain ⟨p, hp⟩ : ∃ p, w.heap.size + 1 = p := ⟨_, rfl⟩
  rw [hp, hq] at HS0
  have hp2 : q + 1 = p := by omega
  clear h hk
  go_enter Tryd.func35, Tryd.ntmps35
  have Ians := hid info_ans
  go_upto_region 1 with fail
  obtain ⟨w1, hw1⟩ : ∃ w1, (w.alloc (.cells #[.int .u8 4, .int .i64 x, .int .u64 (k : Int), .bool b, .int .i64 a, .int .i64 c, .int .i64 d, .int .i64 e] 33)).alloc (.cells #[.int .u8 0, .bool false, .int .i64 0] 36) = w1 := ⟨_, rfl⟩
  have HS : Hid (MSB B pb q p m 4 x k b a c d e w w1) := by rw [← hw1]; exact HS0
  try simp only [hw1]
  clear hw1 HS0 hq hp hp2
  have c0 : w1.cell? ⟨q, 0, none⟩ = some (.int .u8 4) := HS.out.qb.cell 0
  have c1 : w1.cell? ⟨q, 1, none⟩ = some (.int .i64 x) := HS.out.qb.cell 1
  have c2 : w1.cell? ⟨q, 2, none⟩ = some (.int .u64 (k : Int)) := HS.out.qb.cell 2
  have c3 : w1.cell? ⟨q, 3, none⟩ = some (.bool b) := HS.out.qb.cell 3
  obtain ⟨a1, n1, d1, a2, n2, d2, a3, n3, d3, hm⟩ := HS.out.mx
  have HC := hid (mpin_walk hm HK.out x)
  have HR : Hid (stepM m 4 x k b = ((pinM m x).1, false, 0, (pinM m x).2)) := hid rfl
  clear hm
  go_wp2_with fail
  refine HC.out.mono ?_
  rintro y w2 ⟨v, rfl, HX⟩
  have HS2 := hid (HS.out.go HX.out.2.1 HX.out.2.2)
  have HR2 : Hid (stepM m 4 x k b = (v, false, 0, (pinM m x).2)) := hid (by rw [HR.out, HX.out.1])
  clear HC HX HS HR c0 c1 c2 c3
  have HF := hid (MSB.answer HS2.out v false 0)
  have z0 := HS2.out.pk.cell 0
  have y0 := HS2.out.pk.frozen 0
  have p1 := HS2.out.pk.set 0 (.int .u8 (v : Int))
  have z1 := p1.cell 1
  have y1 := p1.frozen 1
  have p2 := p1.set 1 (.bool false)
  have z2 := p2.cell 2
  have y2 := p2.frozen 2
  simp only [List.set_cons_zero, List.set_cons_succ, List.getElem?_cons_zero, List.getElem?_cons_succ] at z0 z1 z2
  clear p1 p2 HS2
  go_wp2
  refine bodyPost_ret (v := ansV v false 0) (results_blk Tryd.results35 rfl Ians.out HF.out.1) rfl ?_
  exact ⟨_, _, _, rfl, hid ⟨_, HR2.out, HF.out.2.1, HF.out.2.2⟩⟩
set_option maxRecDepth 100000 in
set_option maxHeartbeats 2000000 in
theorem mstep_5 (h : MX B pb m w) (hk : MOk m) (x : Int) (k : Nat) (b : Bool) (a c d e : Int) : Calls Tryd.prog 35 #[.pointer (some ⟨pb, 0, none⟩), .agg #[.int .u8 5, .int .i64 x, .int .u64 (k : Int), .bool b, .int .i64 a, .int .i64 c, .int .i64 d, .int .i64 e]] w fun y w' => MStepP B pb m 5 x k b w y w' := by
  have HS0 := hid (MSB.start h 5 x k b a c d e)
  have HK := hid hk
  obtain ⟨q, hq⟩ : ∃ q, w.heap.size = q := ⟨_, rfl⟩
  obtain ⟨p, hp⟩ : ∃ p, w.heap.size + 1 = p := ⟨_, rfl⟩
  rw [hp, hq] at HS0
  have hp2 : q + 1 = p := by omega
  clear h hk
  go_enter Tryd.func35, Tryd.ntmps35
  have Ians := hid info_ans
  go_upto_region 1 with fail
  obtain ⟨w1, hw1⟩ : ∃ w1, (w.alloc (.cells #[.int .u8 5, .int .i64 x, .int .u64 (k : Int), .bool b, .int .i64 a, .int .i64 c, .int .i64 d, .int .i64 e] 33)).alloc (.cells #[.int .u8 0, .bool false, .int .i64 0] 36) = w1 := ⟨_, rfl⟩
  have HS : Hid (MSB B pb q p m 5 x k b a c d e w w1) := by rw [← hw1]; exact HS0
  try simp only [hw1]
  clear hw1 HS0 hq hp hp2
  have c0 : w1.cell? ⟨q, 0, none⟩ = some (.int .u8 5) := HS.out.qb.cell 0
  have c1 : w1.cell? ⟨q, 1, none⟩ = some (.int .i64 x) := HS.out.qb.cell 1
  have c2 : w1.cell? ⟨q, 2, none⟩ = some (.int .u64 (k : Int)) := HS.out.qb.cell 2
  have c3 : w1.cell? ⟨q, 3, none⟩ = some (.bool b) := HS.out.qb.cell 3
  obtain ⟨a1, n1, d1, a2, n2, d2, a3, n3, d3, hm⟩ := HS.out.mx
  have HC := hid (munpin_walk hm HK.out x)
  have HR : Hid (stepM m 5 x k b = ((unpM m x).1, false, 0, (unpM m x).2)) := hid rfl
  clear hm
  go_wp2_with fail
  refine HC.out.mono ?_
  rintro y w2 ⟨v, rfl, HX⟩
  have HS2 := hid (HS.out.go HX.out.2.1 HX.out.2.2)
  have HR2 : Hid (stepM m 5 x k b = (v, false, 0, (unpM m x).2)) := hid (by rw [HR.out, HX.out.1])
  clear HC HX HS HR c0 c1 c2 c3
  have HF := hid (MSB.answer HS2.out v false 0)
  have z0 := HS2.out.pk.cell 0
  have y0 := HS2.out.pk.frozen 0
  have p1 := HS2.out.pk.set 0 (.int .u8 (v : Int))
  have z1 := p1.cell 1
  have y1 := p1.frozen 1
  have p2 := p1.set 1 (.bool false)
  have z2 := p2.cell 2
  have y2 := p2.frozen 2
  simp only [List.set_cons_zero, List.set_cons_succ, List.getElem?_cons_zero, List.getElem?_cons_succ] at z0 z1 z2
  clear p1 p2 HS2
  go_wp2
  refine bodyPost_ret (v := ansV v false 0) (results_blk Tryd.results35 rfl Ians.out HF.out.1) rfl ?_
  exact ⟨_, _, _, rfl, hid ⟨_, HR2.out, HF.out.2.1, HF.out.2.2⟩⟩
set_option maxRecDepth 100000 in
set_option maxHeartbeats 2000000 in
theorem mstep_7 (h : MX B pb m w) (hk : MOk m) (x : Int) (k : Nat) (b : Bool) (a c d e : Int) : Calls Tryd.prog 35 #[.pointer (some ⟨pb, 0, none⟩), .agg #[.int .u8 7, .int .i64 x, .int .u64 (k : Int), .bool b, .int .i64 a, .int .i64 c, .int .i64 d, .int .i64 e]] w fun y w' => MStepP B pb m 7 x k b w y w' := by
  have HS0 := hid (MSB.start h 7 x k b a c d e)
  have HK := hid hk
  obtain ⟨q, hq⟩ : ∃ q, w.heap.size = q := ⟨_, rfl⟩
  obtain ⟨p, hp⟩ : ∃ p, w.heap.size + 1 = p := ⟨_, rfl⟩
  rw [hp, hq] at HS0
  have hp2 : q + 1 = p := by omega
  clear h hk
  go_enter Tryd.func35, Tryd.ntmps35
  have Ians := hid info_ans
  go_upto_region 1 with fail
  obtain ⟨w1, hw1⟩ : ∃ w1, (w.alloc (.cells #[.int .u8 7, .int .i64 x, .int .u64 (k : Int), .bool b, .int .i64 a, .int .i64 c, .int .i64 d, .int .i64 e] 33)).alloc (.cells #[.int .u8 0, .bool false, .int .i64 0] 36) = w1 := ⟨_, rfl⟩
  have HS : Hid (MSB B pb q p m 7 x k b a c d e w w1) := by rw [← hw1]; exact HS0
  try simp only [hw1]
  clear hw1 HS0 hq hp hp2
  have c0 : w1.cell? ⟨q, 0, none⟩ = some (.int .u8 7) := HS.out.qb.cell 0
  have c1 : w1.cell? ⟨q, 1, none⟩ = some (.int .i64 x) := HS.out.qb.cell 1
  have c2 : w1.cell? ⟨q, 2, none⟩ = some (.int .u64 (k : Int)) := HS.out.qb.cell 2
  have c3 : w1.cell? ⟨q, 3, none⟩ = some (.bool b) := HS.out.qb.cell 3
  obtain ⟨a1, n1, d1, a2, n2, d2, a3, n3, d3, hm⟩ := HS.out.mx
  have HC := hid (mevict_walk hm HK.out x)
  have HR : Hid (stepM m 7 x k b = ((eviM m x).1, false, 0, (eviM m x).2)) := hid rfl
  clear hm
  go_wp2_with fail
  refine HC.out.mono ?_
  rintro y w2 ⟨v, rfl, HX⟩
  have HS2 := hid (HS.out.go HX.out.2.1 HX.out.2.2)
  have HR2 : Hid (stepM m 7 x k b = (v, false, 0, (eviM m x).2)) := hid (by rw [HR.out, HX.out.1])
  clear HC HX HS HR c0 c1 c2 c3
  have HF := hid (MSB.answer HS2.out v false 0)
  have z0 := HS2.out.pk.cell 0
  have y0 := HS2.out.pk.frozen 0
  have p1 := HS2.out.pk.set 0 (.int .u8 (v : Int))
  have z1 := p1.cell 1
  have y1 := p1.frozen 1
  have p2 := p1.set 1 (.bool false)
  have z2 := p2.cell 2
  have y2 := p2.frozen 2
  simp only [List.set_cons_zero, List.set_cons_succ, List.getElem?_cons_zero, List.getElem?_cons_succ] at z0 z1 z2
  clear p1 p2 HS2
  go_wp2
  refine bodyPost_ret (v := ansV v false 0) (results_blk Tryd.results35 rfl Ians.out HF.out.1) rfl ?_
  exact ⟨_, _, _, rfl, hid ⟨_, HR2.out, HF.out.2.1, HF.out.2.2⟩⟩
set_option maxRecDepth 100000 in
set_option maxHeartbeats 2000000 in
theorem mstep_9 (h : MX B pb m w) (hk : MOk m) (x : Int) (k : Nat) (b : Bool) (a c d e : Int) : Calls Tryd.prog 35 #[.pointer (some ⟨pb, 0, none⟩), .agg #[.int .u8 9, .int .i64 x, .int .u64 (k : Int), .bool b, .int .i64 a, .int .i64 c, .int .i64 d, .int .i64 e]] w fun y w' => MStepP B pb m 9 x k b w y w' := by
  have HS0 := hid (MSB.start h 9 x k b a c d e)
  have HK := hid hk
  obtain ⟨q, hq⟩ : ∃ q, w.heap.size = q := ⟨_, rfl⟩
  obtain ⟨p, hp⟩ : ∃ p, w.heap.size + 1 = p := ⟨_, rfl⟩
  rw [hp, hq] at HS0
  have hp2 : q + 1 = p := by omega
  clear h hk
  go_enter Tryd.func35, Tryd.ntmps35
  have Ians := hid info_ans
  go_upto_region 1 with fail
  obtain ⟨w1, hw1⟩ : ∃ w1, (w.alloc (.cells #[.int .u8 9, .int .i64 x, .int .u64 (k : Int), .bool b, .int .i64 a, .int .i64 c, .int .i64 d, .int .i64 e] 33)).alloc (.cells #[.int .u8 0, .bool false, .int .i64 0] 36) = w1 := ⟨_, rfl⟩
  have HS : Hid (MSB B pb q p m 9 x k b a c d e w w1) := by rw [← hw1]; exact HS0
  try simp only [hw1]
  clear hw1 HS0 hq hp hp2
  have c0 : w1.cell? ⟨q, 0, none⟩ = some (.int .u8 9) := HS.out.qb.cell 0
  have c1 : w1.cell? ⟨q, 1, none⟩ = some (.int .i64 x) := HS.out.qb.cell 1
  have c2 : w1.cell? ⟨q, 2, none⟩ = some (.int .u64 (k : Int)) := HS.out.qb.cell 2
  have c3 : w1.cell? ⟨q, 3, none⟩ = some (.bool b) := HS.out.qb.cell 3
  obtain ⟨a1, n1, d1, a2, n2, d2, a3, n3, d3, hm⟩ := HS.out.mx
  have HC := hid (mreplace_walk hm HK.out x k b)
  have HR : Hid (stepM m 9 x k b = ((repM m x k b).1, false, 0, (repM m x k b).2)) := hid rfl
  clear hm
  go_wp2_with fail
  refine HC.out.mono ?_
  rintro y w2 ⟨v, rfl, HX⟩
  have HS2 := hid (HS.out.go HX.out.2.1 HX.out.2.2)
  have HR2 : Hid (stepM m 9 x k b = (v, false, 0, (repM m x k b).2)) := hid (by rw [HR.out, HX.out.1])
  clear HC HX HS HR c0 c1 c2 c3
  have HF := hid (MSB.answer HS2.out v false 0)
  have z0 := HS2.out.pk.cell 0
  have y0 := HS2.out.pk.frozen 0
  have p1 := HS2.out.pk.set 0 (.int .u8 (v : Int))
  have z1 := p1.cell 1
  have y1 := p1.frozen 1
  have p2 := p1.set 1 (.bool false)
  have z2 := p2.cell 2
  have y2 := p2.frozen 2
  simp only [List.set_cons_zero, List.set_cons_succ, List.getElem?_cons_zero, List.getElem?_cons_succ] at z0 z1 z2
  clear p1 p2 HS2
  go_wp2
  refine bodyPost_ret (v := ansV v false 0) (results_blk Tryd.results35 rfl Ians.out HF.out.1) rfl ?_
  exact ⟨_, _, _, rfl, hid ⟨_, HR2.out, HF.out.2.1, HF.out.2.2⟩⟩
set_option maxRecDepth 100000 in
set_option maxHeartbeats 2000000 in
theorem mstep_10 (h : MX B pb m w) (hk : MOk m) (x : Int) (k : Nat) (b : Bool) (a c d e : Int) : Calls Tryd.prog 35 #[.pointer (some ⟨pb, 0, none⟩), .agg #[.int .u8 10, .int .i64 x, .int .u64 (k : Int), .bool b, .int .i64 a, .int .i64 c, .int .i64 d, .int .i64 e]] w fun y w' => MStepP B pb m 10 x k b w y w' := by
  have HS0 := hid (MSB.start h 10 x k b a c d e)
  have HK := hid hk
  obtain ⟨q, hq⟩ : ∃ q, w.heap.size = q := ⟨_, rfl⟩
  obtain ⟨p, hp⟩ : ∃ p, w.heap.size + 1 = p := ⟨_, rfl⟩
  rw [hp, hq] at HS0
  have hp2 : q + 1 = p := by omega
  clear h hk
  go_enter Tryd.func35, Tryd.ntmps35
  have Ians := hid info_ans
  go_upto_region 1 with fail
  obtain ⟨w1, hw1⟩ : ∃ w1, (w.alloc (.cells #[.int .u8 10, .int .i64 x, .int .u64 (k : Int), .bool b, .int .i64 a, .int .i64 c, .int .i64 d, .int .i64 e] 33)).alloc (.cells #[.int .u8 0, .bool false, .int .i64 0] 36) = w1 := ⟨_, rfl⟩
  have HS : Hid (MSB B pb q p m 10 x k b a c d e w w1) := by rw [← hw1]; exact HS0
  try simp only [hw1]
  clear hw1 HS0 hq hp hp2
  have c0 : w1.cell? ⟨q, 0, none⟩ = some (.int .u8 10) := HS.out.qb.cell 0
  have c1 : w1.cell? ⟨q, 1, none⟩ = some (.int .i64 x) := HS.out.qb.cell 1
  have c2 : w1.cell? ⟨q, 2, none⟩ = some (.int .u64 (k : Int)) := HS.out.qb.cell 2
  have c3 : w1.cell? ⟨q, 3, none⟩ = some (.bool b) := HS.out.qb.cell 3
  obtain ⟨a1, n1, d1, a2, n2, d2, a3, n3, d3, hm⟩ := HS.out.mx
  have HC := hid (msetneg_walk hm HK.out x b)
  have HR : Hid (stepM m 10 x k b = ((sngM m x b).1, false, 0, (sngM m x b).2)) := hid rfl
  clear hm
  go_wp2_with fail
  refine HC.out.mono ?_
  rintro y w2 ⟨v, rfl, HX⟩
  have HS2 := hid (HS.out.go HX.out.2.1 HX.out.2.2)
  have HR2 : Hid (stepM m 10 x k b = (v, false, 0, (sngM m x b).2)) := hid (by rw [HR.out, HX.out.1])
  clear HC HX HS HR c0 c1 c2 c3
  have HF := hid (MSB.answer HS2.out v false 0)
  have z0 := HS2.out.pk.cell 0
  have y0 := HS2.out.pk.frozen 0
  have p1 := HS2.out.pk.set 0 (.int .u8 (v : Int))
  have z1 := p1.cell 1
  have y1 := p1.frozen 1
  have p2 := p1.set 1 (.bool false)
  have z2 := p2.cell 2
  have y2 := p2.frozen 2
  simp only [List.set_cons_zero, List.set_cons_succ, List.getElem?_cons_zero, List.getElem?_cons_succ] at z0 z1 z2
  clear p1 p2 HS2
  go_wp2
  refine bodyPost_ret (v := ansV v false 0) (results_blk Tryd.results35 rfl Ians.out HF.out.1) rfl ?_
  exact ⟨_, _, _, rfl, hid ⟨_, HR2.out, HF.out.2.1, HF.out.2.2⟩⟩
set_option maxRecDepth 100000 in
set_option maxHeartbeats 2000000 in
theorem mstep_6 (h : MX B pb m w) (hk : MOk m) (x : Int) (k : Nat) (b : Bool) (a c d e : Int) : Calls Tryd.prog 35 #[.pointer (some ⟨pb, 0, none⟩), .agg #[.int .u8 6, .int .i64 x, .int .u64 (k : Int), .bool b, .int .i64 a, .int .i64 c, .int .i64 d, .int .i64 e]] w fun y w' => MStepP B pb m 6 x k b w y w' := by
  have HS0 := hid (MSB.start h 6 x k b a c d e)
  have HK := hid hk
  obtain ⟨q, hq⟩ : ∃ q, w.heap.size = q := ⟨_, rfl⟩
  obtain ⟨p, hp⟩ : ∃ p, w.heap.size + 1 = p := ⟨_, rfl⟩
  rw [hp, hq] at HS0
  have hp2 : q + 1 = p := by omega
  clear h hk
  go_enter Tryd.func35, Tryd.ntmps35
  have Ians := hid info_ans
  go_upto_region 1 with fail
  obtain ⟨w1, hw1⟩ : ∃ w1, (w.alloc (.cells #[.int .u8 6, .int .i64 x, .int .u64 (k : Int), .bool b, .int .i64 a, .int .i64 c, .int .i64 d, .int .i64 e] 33)).alloc (.cells #[.int .u8 0, .bool false, .int .i64 0] 36) = w1 := ⟨_, rfl⟩
  have HS : Hid (MSB B pb q p m 6 x k b a c d e w w1) := by rw [← hw1]; exact HS0
  try simp only [hw1]
  clear hw1 HS0 hq hp hp2
  have c0 : w1.cell? ⟨q, 0, none⟩ = some (.int .u8 6) := HS.out.qb.cell 0
  have c1 : w1.cell? ⟨q, 1, none⟩ = some (.int .i64 x) := HS.out.qb.cell 1
  have c2 : w1.cell? ⟨q, 2, none⟩ = some (.int .u64 (k : Int)) := HS.out.qb.cell 2
  have c3 : w1.cell? ⟨q, 3, none⟩ = some (.bool b) := HS.out.qb.cell 3
  obtain ⟨a1, n1, d1, a2, n2, d2, a3, n3, d3, hm⟩ := HS.out.mx
  have HC := hid (mvictim_walk hm HK.out)
  have HR : Hid (stepM m 6 x k b = (0, (vicM m).isSome, slotO (vicM m), m)) := hid rfl
  clear hm
  generalize (vicM m).isSome = som at HC HR
  generalize slotO (vicM m) = slt at HC HR
  go_wp2_with fail
  refine HC.out.mono ?_
  rintro y w2 ⟨rfl, hb2⟩
  have HS2 := hid (HS.out.go (HS.out.mx.below hb2) (UM.ofBelow hb2))
  clear HC HS hb2 c0 c1 c2 c3
  have HF := hid (MSB.answer HS2.out 0 som slt)
  have z0 := HS2.out.pk.cell 0
  have y0 := HS2.out.pk.frozen 0
  have p1 := HS2.out.pk.set 0 (.int .u8 0)
  have z1 := p1.cell 1
  have y1 := p1.frozen 1
  have p2 := p1.set 1 (.bool som)
  have z2 := p2.cell 2
  have y2 := p2.frozen 2
  simp only [List.set_cons_zero, List.set_cons_succ, List.getElem?_cons_zero, List.getElem?_cons_succ] at z0 z1 z2
  clear p1 p2 HS2
  go_wp2
  refine bodyPost_ret (v := ansV 0 som slt) (results_blk Tryd.results35 rfl Ians.out HF.out.1) rfl ?_
  exact ⟨_, _, _, rfl, hid ⟨_, HR.out, HF.out.2.1, HF.out.2.2⟩⟩
set_option maxRecDepth 100000 in
set_option maxHeartbeats 2000000 in
theorem mstep_8 (h : MX B pb m w) (hk : MOk m) (x : Int) (k : Nat) (b : Bool) (a c d e : Int) : Calls Tryd.prog 35 #[.pointer (some ⟨pb, 0, none⟩), .agg #[.int .u8 8, .int .i64 x, .int .u64 (k : Int), .bool b, .int .i64 a, .int .i64 c, .int .i64 d, .int .i64 e]] w fun y w' => MStepP B pb m 8 x k b w y w' := by
  have HS0 := hid (MSB.start h 8 x k b a c d e)
  have HK := hid hk
  obtain ⟨q, hq⟩ : ∃ q, w.heap.size = q := ⟨_, rfl⟩
  obtain ⟨p, hp⟩ : ∃ p, w.heap.size + 1 = p := ⟨_, rfl⟩
  rw [hp, hq] at HS0
  have hp2 : q + 1 = p := by omega
  clear h hk
  go_enter Tryd.func35, Tryd.ntmps35
  have Ians := hid info_ans
  go_upto_region 1 with fail
  obtain ⟨w1, hw1⟩ : ∃ w1, (w.alloc (.cells #[.int .u8 8, .int .i64 x, .int .u64 (k : Int), .bool b, .int .i64 a, .int .i64 c, .int .i64 d, .int .i64 e] 33)).alloc (.cells #[.int .u8 0, .bool false, .int .i64 0] 36) = w1 := ⟨_, rfl⟩
  have HS : Hid (MSB B pb q p m 8 x k b a c d e w w1) := by rw [← hw1]; exact HS0
  try simp only [hw1]
  clear hw1 HS0 hq hp hp2
  have c0 : w1.cell? ⟨q, 0, none⟩ = some (.int .u8 8) := HS.out.qb.cell 0
  have c1 : w1.cell? ⟨q, 1, none⟩ = some (.int .i64 x) := HS.out.qb.cell 1
  have c2 : w1.cell? ⟨q, 2, none⟩ = some (.int .u64 (k : Int)) := HS.out.qb.cell 2
  have c3 : w1.cell? ⟨q, 3, none⟩ = some (.bool b) := HS.out.qb.cell 3
  obtain ⟨a1, n1, d1, a2, n2, d2, a3, n3, d3, hm⟩ := HS.out.mx
  have HM := hid hm
  have HC := hid (mvictim_walk hm HK.out)
  have HR : Hid (stepM m 8 x k b = (0, (vicM m).isSome, slotO (vicM m), rclM m)) := hid rfl
  clear hm
  cases hv : vicM m with
  | none =>
    as_aux_lemma =>
    have HR2 : Hid (stepM m 8 x k b = (0, false, 0, m)) := hid (by rw [HR.out, hv]; unfold rclM; rw [hv]; rfl)
    rw [hv] at HC
    clear hv HR
    go_wp2_with fail
    refine HC.out.mono ?_
    rintro y w2 ⟨rfl, hb2⟩
    have HS2 := hid (HS.out.go (HS.out.mx.below hb2) (UM.ofBelow hb2))
    clear HC HS hb2 c0 c1 c2 c3 HM
    simp only [slotO, Option.isSome_none]
    have HF := hid (MSB.answer HS2.out 0 false 0)
    have z0 := HS2.out.pk.cell 0
    have y0 := HS2.out.pk.frozen 0
    have p1 := HS2.out.pk.set 0 (.int .u8 0)
    have z1 := p1.cell 1
    have y1 := p1.frozen 1
    have p2 := p1.set 1 (.bool false)
    have z2 := p2.cell 2
    have y2 := p2.frozen 2
    simp only [List.set_cons_zero, List.set_cons_succ, List.getElem?_cons_zero, List.getElem?_cons_succ] at z0 z1 z2
    clear p1 p2 HS2
    go_wp2
    refine bodyPost_ret (v := ansV 0 false 0) (results_blk Tryd.results35 rfl Ians.out HF.out.1) rfl ?_
    exact ⟨_, _, _, rfl, hid ⟨_, HR2.out, HF.out.2.1, HF.out.2.2⟩⟩
  | some t =>
    as_aux_lemma =>
    have HR2 : Hid (stepM m 8 x k b = (0, true, t.slot, pgM m t.slot)) := hid (by rw [HR.out, hv]; unfold rclM; rw [hv]; rfl)
    have HEr := hid (vic_err HK.out hv)
    rw [hv] at HC
    clear hv HR
    have HC2 : Hid (Calls Tryd.prog 54 #[.pointer (some ⟨pb, 0, none⟩)] w1 fun y w' => y = .returned (.tuple #[.int .i64 t.slot, .bool true]) ∧ Below w1.heap.size w1 w') := hid HC.out
    clear HC
    generalize t.slot = sl at HR2 HEr HC2
    go_wp2_with fail
    refine HC2.out.mono ?_
    rintro y w2 ⟨rfl, hb2⟩
    have HS2 := hid (HS.out.go (HS.out.mx.below hb2) (UM.ofBelow hb2))
    have HM2 := hid (HM.out.below hb2)
    have HPg := hid (pageOut_walk HM2.out HK.out sl HEr.out)
    clear HC2 HS hb2 c0 c1 c2 c3 HM
    go_wp2_with fail
    refine HPg.out.mono ?_
    rintro y w3 ⟨rfl, hm3, hu3⟩
    have HS3 := hid (HS2.out.go hm3 (HM2.out.um hu3))
    clear HPg HS2 HM2 hm3 hu3
    have HF := hid (MSB.answer HS3.out 0 true sl)
    have z0 := HS3.out.pk.cell 0
    have y0 := HS3.out.pk.frozen 0
    have p1 := HS3.out.pk.set 0 (.int .u8 0)
    have z1 := p1.cell 1
    have y1 := p1.frozen 1
    have p2 := p1.set 1 (.bool true)
    have z2 := p2.cell 2
    have y2 := p2.frozen 2
    simp only [List.set_cons_zero, List.set_cons_succ, List.getElem?_cons_zero, List.getElem?_cons_succ] at z0 z1 z2
    clear p1 p2 HS3
    go_wp2
    refine bodyPost_ret (v := ansV 0 true sl) (results_blk Tryd.results35 rfl Ians.out HF.out.1) rfl ?_
    exact ⟨_, _, _, rfl, hid ⟨_, HR2.out, HF.out.2.1, HF.out.2.2⟩⟩
set_option maxRecDepth 100000 in
set_option maxHeartbeats 2000000 in
theorem mstep_11 (h : MX B pb m w) (hk : MOk m) (x : Int) (k : Nat) (b : Bool) (a c d e : Int) : Calls Tryd.prog 35 #[.pointer (some ⟨pb, 0, none⟩), .agg #[.int .u8 11, .int .i64 x, .int .u64 (k : Int), .bool b, .int .i64 a, .int .i64 c, .int .i64 d, .int .i64 e]] w fun y w' => MStepP B pb m 11 x k b w y w' := by
  have HS0 := hid (MSB.start h 11 x k b a c d e)
  have HK := hid hk
  obtain ⟨q, hq⟩ : ∃ q, w.heap.size = q := ⟨_, rfl⟩
  obtain ⟨p, hp⟩ : ∃ p, w.heap.size + 1 = p := ⟨_, rfl⟩
  rw [hp, hq] at HS0
  have hp2 : q + 1 = p := by omega
  clear h hk
  go_enter Tryd.func35, Tryd.ntmps35
  have Ians := hid info_ans
  go_upto_region 1 with fail
  obtain ⟨w1, hw1⟩ : ∃ w1, (w.alloc (.cells #[.int .u8 11, .int .i64 x, .int .u64 (k : Int), .bool b, .int .i64 a, .int .i64 c, .int .i64 d, .int .i64 e] 33)).alloc (.cells #[.int .u8 0, .bool false, .int .i64 0] 36) = w1 := ⟨_, rfl⟩
  have HS : Hid (MSB B pb q p m 11 x k b a c d e w w1) := by rw [← hw1]; exact HS0
  try simp only [hw1]
  clear hw1 HS0 hq hp hp2
  have c0 : w1.cell? ⟨q, 0, none⟩ = some (.int .u8 11) := HS.out.qb.cell 0
  have c1 : w1.cell? ⟨q, 1, none⟩ = some (.int .i64 x) := HS.out.qb.cell 1
  have c2 : w1.cell? ⟨q, 2, none⟩ = some (.int .u64 (k : Int)) := HS.out.qb.cell 2
  have c3 : w1.cell? ⟨q, 3, none⟩ = some (.bool b) := HS.out.qb.cell 3
  obtain ⟨a1, n1, d1, a2, n2, d2, a3, n3, d3, hm⟩ := HS.out.mx
  have HM := hid hm
  have HC := hid (mforget_walk hm (by have := HK.out.l3; omega) k)
  have HR : Hid (stepM m 11 x k b = (0, decide (k ∈ m.O), 0, { m with O := noK m.O k })) := hid rfl
  clear hm
  generalize decide (k ∈ m.O) = som at HC HR
  go_wp2_with fail
  refine HC.out.mono ?_
  rintro y w2 ⟨rfl, ⟨b3, e3, g3, hm2⟩, hu2⟩
  have HS2 := hid (HS.out.go ⟨_, _, _, _, _, _, _, _, _, hm2⟩ (HM.out.um hu2))
  clear HC HS hm2 hu2 HM c0 c1 c2 c3
  have HF := hid (MSB.answer HS2.out 0 som 0)
  have z0 := HS2.out.pk.cell 0
  have y0 := HS2.out.pk.frozen 0
  have p1 := HS2.out.pk.set 0 (.int .u8 0)
  have z1 := p1.cell 1
  have y1 := p1.frozen 1
  have p2 := p1.set 1 (.bool som)
  have z2 := p2.cell 2
  have y2 := p2.frozen 2
  simp only [List.set_cons_zero, List.set_cons_succ, List.getElem?_cons_zero, List.getElem?_cons_succ] at z0 z1 z2
  clear p1 p2 HS2
  go_wp2
  refine bodyPost_ret (v := ansV 0 som 0) (results_blk Tryd.results35 rfl Ians.out HF.out.1) rfl ?_
  exact ⟨_, _, _, rfl, hid ⟨_, HR.out, HF.out.2.1, HF.out.2.2⟩⟩
set_option maxRecDepth 100000 in
set_option maxHeartbeats 2000000 in
theorem mstep_n (h : MX B pb m w) (hk : MOk m) (kd : Nat) (hd : 12 ≤ kd) (x : Int) (k : Nat) (b : Bool) (a c d e : Int) : Calls Tryd.prog 35 #[.pointer (some ⟨pb, 0, none⟩), .agg #[.int .u8 (kd : Int), .int .i64 x, .int .u64 (k : Int), .bool b, .int .i64 a, .int .i64 c, .int .i64 d, .int .i64 e]] w fun y w' => MStepP B pb m kd x k b w y w' := by
  have HS0 := hid (MSB.start h kd x k b a c d e)
  have HK := hid hk
  obtain ⟨q, hq⟩ : ∃ q, w.heap.size = q := ⟨_, rfl⟩
  obtain ⟨p, hp⟩ : ∃ p, w.heap.size + 1 = p := ⟨_, rfl⟩
  rw [hp, hq] at HS0
  have hp2 : q + 1 = p := by omega
  clear h hk
  go_enter Tryd.func35, Tryd.ntmps35
  have Ians := hid info_ans
  go_upto_region 1 with fail
  obtain ⟨w1, hw1⟩ : ∃ w1, (w.alloc (.cells #[.int .u8 (kd : Int), .int .i64 x, .int .u64 (k : Int), .bool b, .int .i64 a, .int .i64 c, .int .i64 d, .int .i64 e] 33)).alloc (.cells #[.int .u8 0, .bool false, .int .i64 0] 36) = w1 := ⟨_, rfl⟩
  have HS : Hid (MSB B pb q p m kd x k b a c d e w w1) := by rw [← hw1]; exact HS0
  try simp only [hw1]
  clear hw1 HS0 hq hp hp2
  have c0 : w1.cell? ⟨q, 0, none⟩ = some (.int .u8 (kd : Int)) := HS.out.qb.cell 0
  have c1 : w1.cell? ⟨q, 1, none⟩ = some (.int .i64 x) := HS.out.qb.cell 1
  have c2 : w1.cell? ⟨q, 2, none⟩ = some (.int .u64 (k : Int)) := HS.out.qb.cell 2
  have c3 : w1.cell? ⟨q, 3, none⟩ = some (.bool b) := HS.out.qb.cell 3
  have e1 : ((kd : Int) == 1) = false := beq_eq_false_iff_ne.2 (by omega)
  have e2 : ((kd : Int) == 2) = false := beq_eq_false_iff_ne.2 (by omega)
  have e3 : ((kd : Int) == 3) = false := beq_eq_false_iff_ne.2 (by omega)
  have e4 : ((kd : Int) == 4) = false := beq_eq_false_iff_ne.2 (by omega)
  have e5 : ((kd : Int) == 5) = false := beq_eq_false_iff_ne.2 (by omega)
  have e6 : ((kd : Int) == 6) = false := beq_eq_false_iff_ne.2 (by omega)
  have e7 : ((kd : Int) == 7) = false := beq_eq_false_iff_ne.2 (by omega)
  have e8 : ((kd : Int) == 8) = false := beq_eq_false_iff_ne.2 (by omega)
  have e9 : ((kd : Int) == 9) = false := beq_eq_false_iff_ne.2 (by omega)
  have e10 : ((kd : Int) == 10) = false := beq_eq_false_iff_ne.2 (by omega)
  have e11 : ((kd : Int) == 11) = false := beq_eq_false_iff_ne.2 (by omega)
  have HR : Hid (stepM m kd x k b = (0, false, 0, m)) := hid (by
    unfold stepM
    rw [if_neg (by omega), if_neg (by omega), if_neg (by omega), if_neg (by omega), if_neg (by omega), if_neg (by omega), if_neg (by omega), if_neg (by omega), if_neg (by omega), if_neg (by omega), if_neg (by omega)])
  have HF := hid (MSB.answer HS.out 0 false 0)
  have z0 := HS.out.pk.cell 0
  have y0 := HS.out.pk.frozen 0
  have p1 := HS.out.pk.set 0 (.int .u8 0)
  have z1 := p1.cell 1
  have y1 := p1.frozen 1
  have p2 := p1.set 1 (.bool false)
  have z2 := p2.cell 2
  have y2 := p2.frozen 2
  simp only [List.set_cons_zero, List.set_cons_succ, List.getElem?_cons_zero, List.getElem?_cons_succ] at z0 z1 z2
  clear p1 p2 HS
  go_wp2
  refine bodyPost_ret (v := ansV 0 false 0) (results_blk Tryd.results35 rfl Ians.out HF.out.1) rfl ?_
  exact ⟨_, _, _, rfl, hid ⟨_, HR.out, HF.out.2.1, HF.out.2.2⟩⟩
theorem mstep_walk (h : MX B pb m w) (hk : MOk m) (kd : Nat) (hd : kd ≠ 0) (x : Int) (k : Nat) (b : Bool) (a c d e : Int) : Calls Tryd.prog 35 #[.pointer (some ⟨pb, 0, none⟩), .agg #[.int .u8 (kd : Int), .int .i64 x, .int .u64 (k : Int), .bool b, .int .i64 a, .int .i64 c, .int .i64 d, .int .i64 e]] w fun y w' => MStepP B pb m kd x k b w y w' := by
  by_cases h12 : 12 ≤ kd
  · exact mstep_n h hk kd h12 x k b a c d e
  rcases (by omega : kd = 1 ∨ kd = 2 ∨ kd = 3 ∨ kd = 4 ∨ kd = 5 ∨ kd = 6 ∨ kd = 7 ∨ kd = 8 ∨ kd = 9 ∨ kd = 10 ∨ kd = 11) with rfl | rfl | rfl | rfl | rfl | rfl | rfl | rfl | rfl | rfl | rfl
  · exact mstep_1 h hk x k b a c d e
  · exact mstep_2 h hk x k b a c d e
  · exact mstep_3 h hk x k b a c d e
  · exact mstep_4 h hk x k b a c d e
  · exact mstep_5 h hk x k b a c d e
  · exact mstep_6 h hk x k b a c d e
  · exact mstep_7 h hk x k b a c d e
  · exact mstep_8 h hk x k b a c d e
  · exact mstep_9 h hk x k b a c d e
  · exact mstep_10 h hk x k b a c d e
  · exact mstep_11 h hk x k b a c d e
end
end Go.Proofs.Qxb6500892aDoor
