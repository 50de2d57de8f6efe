/- newModel, the player's step, View.Same. -/
import Derived.Test.Qxb6500892aDoorTqM7
import Derived.Laws.StructEq
namespace Go.Proofs.Qxb6500892aDoor
open Go.RowKit
set_option linter.unusedSimpArgs false
set_option linter.unusedVariables false

theorem EI.lenQ {s : ES} {L C : Nat → List Nat} (h : EI s L C) {q : Nat} (hq : q < 5) : (L q).length ≤ 131072 := Nat.le_trans (nodup_len (h.q.dl q hq).nd (h.q.dl q hq).lt) h.q.nb
theorem MOk.of {s : ES} {L C : Nat → List Nat} (hE : EI s L C) (hp : ∀ j, j < s.slots → s.pin j ≤ 1000000) : MOk (absM s L) := by
  have mem : ∀ t ∈ (absM s L).I ++ (absM s L).M, ∃ i, i < s.slots ∧ t = entOf s i := fun t ht => by
    rcases List.mem_append.1 ht with h | h
    · obtain ⟨i, hi, rfl⟩ := List.mem_map.1 h
      exact ⟨i, (hE.live_of (.inl rfl) hi).1, rfl⟩
    · obtain ⟨i, hi, rfl⟩ := List.mem_map.1 h
      exact ⟨i, (hE.live_of (.inr rfl) hi).1, rfl⟩
  refine ⟨?_, ?_, ?_, ?_, ?_, ?_, ?_, ?_⟩
  · show ((L 1).map _).length ≤ _
    rw [List.length_map]; exact hE.lenQ (by omega)
  · show ((L 2).map _).length ≤ _
    rw [List.length_map]; exact hE.lenQ (by omega)
  · show ((L 3).map _).length ≤ _
    rw [List.length_map]; exact hE.lenQ (by omega)
  · show ((L 3).map _).length ≤ s.kout
    rw [List.length_map]
    have := hE.gl
    omega
  · intro t ht
    obtain ⟨i, _, rfl⟩ := mem t ht
    exact Int.natCast_nonneg _
  · intro t ht
    obtain ⟨i, hi, rfl⟩ := mem t ht
    exact ⟨(hE.pn i (by have := hE.nn; omega)).1, hp i hi⟩
  · show (((L 1).map (entOf s) ++ (L 2).map (entOf s)).map (·.slot)).Nodup
    rw [← List.map_append, List.map_map]
    have hn : (L 1 ++ L 2).Nodup := by
      rw [List.nodup_append]
      refine ⟨(hE.q.dl 1 (by omega)).nd, (hE.q.dl 2 (by omega)).nd, fun i h1 j h2 e => ?_⟩
      subst e
      have a1 := (hE.q.dl 1 (by omega)).wh i h1
      have a2 := (hE.q.dl 2 (by omega)).wh i h2
      omega
    refine List.Pairwise.map _ (fun i j hij e => hij ?_) hn
    have : (i : Int) = (j : Int) := e
    omega
  · intro t ht
    obtain ⟨i, hi, rfl⟩ := mem t ht
    exact ⟨Int.natCast_nonneg _, show (i : Int) < (s.slots : Int) by omega⟩
/-- What the model's player leaves alone. -/
structure UF (B : Nat) (w w' : World) : Prop where
  low : Below B w w'
  blk : ∀ g t cs, Blk w g t cs → t ≠ 88 → t ≠ 64 → t ≠ 49 → Blk w' g t cs
section
variable {B pb r2 : Nat} {m : MS} {w w' w'' : World} {w0 : World} {r e gn gb : Nat} {s : ES} {L C : Nat → List Nat}
theorem UF.trans (h : UF B w w') (k : UF B w' w'') : UF B w w'' := ⟨h.low.trans k.low, fun g t cs hb h1 h2 h3 => k.blk g t cs (h.blk g t cs hb h1 h2 h3) h1 h2 h3⟩
theorem UF.ofUM (h : UM B w w') (hB : B ≤ w.heap.size) : UF B w w' := ⟨h.below hB, fun g t cs hb h1 h2 _ => h.blk hb h1 h2⟩
theorem UF.ofBelow (h : Below w.heap.size w w') (hB : B ≤ w.heap.size) : UF B w w' := ⟨h.mono hB, fun g t cs hb _ _ _ => hb.below h⟩
theorem UF.ofUpd {g : Nat} {cs : List Value} (h : Upd g w w') (hb : Blk w g 49 cs) (hB : B ≤ g) : UF B w w' := ⟨h.below hB (by have := hb.lt; omega), fun k t ds hk _ _ h3 => hk.upd h (hk.tne hb h3)⟩
theorem UF.fresh {g : Nat} (h : Upd g w w') (hg : B ≤ g) (hB : B ≤ w.heap.size) (hk : ∀ k t ds, Blk w k t ds → k ≠ g ∨ Blk w' k t ds) : UF B w w' := ⟨h.below hg hB, fun k t ds hb _ _ _ => by
  rcases hk k t ds hb with h1 | h1
  · exact hb.upd h h1
  · exact h1⟩
theorem RS.uf (h : RS w0 r e gn gb s L C w) (hu : UF w0.heap.size w w') : RS w0 r e gn gb s L C w' :=
  ⟨hu.blk _ _ _ h.rb (by decide) (by decide) (by decide), ⟨hu.blk _ _ _ h.em.eb (by decide) (by decide) (by decide), hu.blk _ _ _ h.em.nb (by decide) (by decide) (by decide), hu.blk _ _ _ h.em.bb (by decide) (by decide) (by decide)⟩, h.ei, h.bel.trans hu.low, h.lr, h.le, h.ln, h.lb⟩
/-- The model's player in memory. -/
structure MT (B r2 pb : Nat) (m : MS) (w : World) : Prop where
  rb : Blk w r2 49 [.pointer (some ⟨pb, 0, none⟩)]
  mx : MX B pb m w
  lr : B ≤ r2
theorem MT.below (h : MT B r2 pb m w) (hb : Below w.heap.size w w') : MT B r2 pb m w' := ⟨h.rb.below hb, h.mx.below hb, h.lr⟩
theorem MX.keep (h : MX B pb m w) (hk : ∀ g t cs, Blk w g t cs → t = 88 ∨ t = 64 ∨ t = 29 → w'.heap[g]? = w.heap[g]?) : MX B pb m w' := by
  obtain ⟨a1, n1, c1, a2, n2, c2, a3, n3, c3, h⟩ := h
  exact ⟨a1, n1, c1, a2, n2, c2, a3, n3, c3, ⟨h.bk.same (hk _ _ _ h.bk (.inl rfl)), h.o1.keep fun g hg => by obtain ⟨_, cs, hb⟩ := h.o1.blk hg; exact hk _ _ _ hb (.inr (.inl rfl)), h.o2.keep fun g hg => by obtain ⟨_, cs, hb⟩ := h.o2.blk hg; exact hk _ _ _ hb (.inr (.inl rfl)), h.o3.keep fun g hg => by obtain ⟨_, cs, hb⟩ := h.o3.blk hg; exact hk _ _ _ hb (.inr (.inr rfl)), h.sp, h.lb⟩⟩
/-- The engine's step leaves the model alone. -/
theorem MT.u4 (h : MT B r2 pb m w) (hr : RS w0 r e gn gb s L C w) (hu : U4 r e gn gb w w') : MT B r2 pb m w' := by
  refine ⟨hu.blk h.rb (h.rb.tne hr.rb (by decide)) (h.rb.tne hr.em.eb (by decide)) (h.rb.tne hr.em.nb (by decide)) (h.rb.tne hr.em.bb (by decide)), h.mx.keep fun g t cs hb ht => hu.block g hb.lt ?_ ?_ ?_ ?_, h.lr⟩
  · exact hb.tne hr.rb (by rcases ht with rfl | rfl | rfl <;> decide)
  · exact hb.tne hr.em.eb (by rcases ht with rfl | rfl | rfl <;> decide)
  · exact hb.tne hr.em.nb (by rcases ht with rfl | rfl | rfl <;> decide)
  · exact hb.tne hr.em.bb (by rcases ht with rfl | rfl | rfl <;> decide)
/-- The player's step, plainly. -/
def playM (m : MS) (kind : Nat) (x : Int) (k : Nat) (b : Bool) (a c d e : Int) : Nat × Bool × Int × MS :=
  if kind = 0 then (if cfgB a c d e = true then (0, false, 0, mtM a c d.toNat e) else (4, false, 0, m)) else stepM m kind x k b
def PStepP (B r2 pb : Nat) (m : MS) (kind : Nat) (x : Int) (k : Nat) (b : Bool) (a c d e : Int) (w : World) (y : Ending) (w' : World) : Prop :=
  ∃ (err : Nat) (som : Bool) (slt : Int), y = .returned (ansV err som slt) ∧ Hid (∃ pb' m', playM m kind x k b a c d e = (err, som, slt, m') ∧ MT B r2 pb' m' w' ∧ UF B w w')
theorem mstart (h : MT B r2 pb m w) (kind : Nat) (x : Int) (k : Nat) (b : Bool) (a c d e : Int) {q p : Nat} (hq : w.heap.size = q) (hp : w.heap.size + 1 = p) : let w1 := ((w.alloc (.cells #[.int .u8 (kind : Int), .int .i64 x, .int .u64 (k : Int), .bool b, .int .i64 a, .int .i64 c, .int .i64 d, .int .i64 e] 33)).alloc (.cells #[.int .u8 0, .bool false, .int .i64 0] 36)); Below w.heap.size w w1 ∧ MT B r2 pb m w1 ∧ Blk w1 q 33 [.int .u8 (kind : Int), .int .i64 x, .int .u64 (k : Int), .bool b, .int .i64 a, .int .i64 c, .int .i64 d, .int .i64 e] ∧ Blk w1 p 36 [.int .u8 0, .bool false, .int .i64 0] := by
  have s1 : ∀ (x : World) (o : Obj), (x.alloc o).heap.size = x.heap.size + 1 := fun x o => by simp
  have hb : Below w.heap.size w ((w.alloc (.cells #[.int .u8 (kind : Int), .int .i64 x, .int .u64 (k : Int), .bool b, .int .i64 a, .int .i64 c, .int .i64 d, .int .i64 e] 33)).alloc (.cells #[.int .u8 0, .bool false, .int .i64 0] 36)) := ((Below.refl _ w).alloc (Nat.le_refl _) _).alloc (by rw [s1]; omega) _
  have k1 := (Blk.new w [.int .u8 (kind : Int), .int .i64 x, .int .u64 (k : Int), .bool b, .int .i64 a, .int .i64 c, .int .i64 d, .int .i64 e] 33).alloc (.cells #[.int .u8 0, .bool false, .int .i64 0] 36)
  have k2 := Blk.new (w.alloc (.cells #[.int .u8 (kind : Int), .int .i64 x, .int .u64 (k : Int), .bool b, .int .i64 a, .int .i64 c, .int .i64 d, .int .i64 e] 33)) [.int .u8 0, .bool false, .int .i64 0] 36
  rw [hq] at k1
  rw [s1, hp] at k2
  exact ⟨hb, h.below hb, k1, k2⟩
/-- The answer is written into its block, which the call itself made. -/
theorem MT.ans {ws : World} {p : Nat} (h : MT B r2 pb m w) (hk : Blk w p 36 [.int .u8 0, .bool false, .int .i64 0]) (hu : UF B ws w) (hlp : ws.heap.size ≤ p) (hB : B ≤ ws.heap.size) (err : Nat) (som : Bool) (slt : Int) : Blk (((w.setCell ⟨p, 0, none⟩ (.int .u8 (err : Int))).setCell ⟨p, 1, none⟩ (.bool som)).setCell ⟨p, 2, none⟩ (.int .i64 slt)) p 36 [.int .u8 (err : Int), .bool som, .int .i64 slt] ∧ MT B r2 pb m (((w.setCell ⟨p, 0, none⟩ (.int .u8 (err : Int))).setCell ⟨p, 1, none⟩ (.bool som)).setCell ⟨p, 2, none⟩ (.int .i64 slt)) ∧ UF B ws (((w.setCell ⟨p, 0, none⟩ (.int .u8 (err : Int))).setCell ⟨p, 1, none⟩ (.bool som)).setCell ⟨p, 2, none⟩ (.int .i64 slt)) := by
  have hv : Upd p w (((w.setCell ⟨p, 0, none⟩ (.int .u8 (err : Int))).setCell ⟨p, 1, none⟩ (.bool som)).setCell ⟨p, 2, none⟩ (.int .i64 slt)) := (((Upd.refl p w).setCell rfl _).setCell rfl _).setCell rfl _
  refine ⟨((hk.set 0 _).set 1 _).set 2 _, ⟨h.rb.upd hv (h.rb.tne hk (by decide)), h.mx.upd hk (by decide) (by decide) (by decide) hv, h.lr⟩, ⟨hu.low.trans (hv.below (by omega) (by have := hu.low.size; omega)), fun g t cs hb h1 h2 h3 => (hu.blk g t cs hb h1 h2 h3).upd hv (by have := hb.lt; omega)⟩⟩
set_option maxRecDepth 100000 in
set_option maxHeartbeats 2000000 in
theorem pstep_walk (h : MT B r2 pb m w) (hk : MOk m) (kd : Nat) (x : Int) (k : Nat) (b : Bool) (a c d e : Int) : Calls Tryd.prog 11 #[.pointer (some ⟨r2, 0, none⟩), .agg #[.int .u8 (kd : Int), .int .i64 x, .int .u64 (k : Int), .bool b, .int .i64 a, .int .i64 c, .int .i64 d, .int .i64 e]] w fun y w' => PStepP B r2 pb m kd x k b a c d e w y w' := by
  have HT := hid h
  have HK := hid hk
  obtain ⟨q, hq⟩ : ∃ q, w.heap.size = q := ⟨_, rfl⟩
  obtain ⟨p, hp⟩ : ∃ p, w.heap.size + 1 = p := ⟨_, rfl⟩
  have HS0 := hid (mstart h kd x k b a c d e hq hp)
  have HQ : Hid (w.heap.size ≤ p ∧ B ≤ w.heap.size) := hid ⟨by omega, h.mx.b0⟩
  have hp2 : q + 1 = p := by omega
  clear h hk
  go_enter Tryd.func11, Tryd.ntmps11
  have Ians := hid info_ans
  go_upto_region 1 with fail
  obtain ⟨w1, hw1⟩ : ∃ w1, (w.alloc (.cells #[.int .u8 (kd : Int), .int .i64 x, .int .u64 (k : Int), .bool b, .int .i64 a, .int .i64 c, .int .i64 d, .int .i64 e] 33)).alloc (.cells #[.int .u8 0, .bool false, .int .i64 0] 36) = w1 := ⟨_, rfl⟩
  have HS : Hid (Below w.heap.size w w1 ∧ MT B r2 pb m w1 ∧ Blk w1 q 33 [.int .u8 (kd : Int), .int .i64 x, .int .u64 (k : Int), .bool b, .int .i64 a, .int .i64 c, .int .i64 d, .int .i64 e] ∧ Blk w1 p 36 [.int .u8 0, .bool false, .int .i64 0]) := by rw [← hw1]; exact HS0
  try simp only [hw1]
  clear hw1 HS0 hq hp hp2 HT
  have c0 : w1.cell? ⟨q, 0, none⟩ = some (.int .u8 (kd : Int)) := HS.out.2.2.1.cell 0
  by_cases h0 : kd = 0
  rotate_left
  · as_aux_lemma =>
    have dk : ((kd : Int) != 0) = true := by rw [key_bneI]; exact decide_eq_true (by omega)
    have HR : Hid (playM m kd x k b a c d e = stepM m kd x k b) := hid (if_neg h0)
    have HC : Hid (∀ wz, MX B pb m wz → Calls Tryd.prog 35 #[.pointer (some ⟨pb, 0, none⟩), .agg #[.int .u8 (kd : Int), .int .i64 x, .int .u64 (k : Int), .bool b, .int .i64 a, .int .i64 c, .int .i64 d, .int .i64 e]] wz fun y w' => MStepP B pb m kd x k b wz y w') := hid (fun wz hz => mstep_walk hz HK.out kd h0 x k b a c d e)
    clear h0
    go_upto_region 2 with fail
    refine wp_region_heavy (fun w' => w'.cell? ⟨r2, 0, none⟩ = some (.pointer (some ⟨pb, 0, none⟩)) ∧ Blk w' q 33 [.int .u8 (kd : Int), .int .i64 x, .int .u64 (k : Int), .bool b, .int .i64 a, .int .i64 c, .int .i64 d, .int .i64 e]) 6 [0, 1, 2, 3, 4] [5] rfl (by kernel_rfl) (by kernel_rfl) (fun d _ _ _ _ h => by cases d <;> exact h) ⟨HS.out.2.1.rb.cell 0, HS.out.2.2.1.below (Drew.below ⟨1, rfl⟩ _)⟩ ?_
    apply Exists.intro
    refine ⟨?_, ?_⟩
    · intro W hW
      have e0 : ∀ u, (W u).cell? ⟨r2, 0, none⟩ = some (.pointer (some ⟨pb, 0, none⟩)) := fun u => (hW u).1
      have d0 : ∀ u, (W u).cell? ⟨q, 0, none⟩ = some (.int .u8 (kd : Int)) := fun u => (hW u).2.cell 0
      have d1 : ∀ u, (W u).cell? ⟨q, 1, none⟩ = some (.int .i64 x) := fun u => (hW u).2.cell 1
      have d2 : ∀ u, (W u).cell? ⟨q, 2, none⟩ = some (.int .u64 (k : Int)) := fun u => (hW u).2.cell 2
      have d3 : ∀ u, (W u).cell? ⟨q, 3, none⟩ = some (.bool b) := fun u => (hW u).2.cell 3
      have d4 : ∀ u, (W u).cell? ⟨q, 4, none⟩ = some (.int .i64 a) := fun u => (hW u).2.cell 4
      have d5 : ∀ u, (W u).cell? ⟨q, 5, none⟩ = some (.int .i64 c) := fun u => (hW u).2.cell 5
      have d6 : ∀ u, (W u).cell? ⟨q, 6, none⟩ = some (.int .i64 d) := fun u => (hW u).2.cell 6
      have d7 : ∀ u, (W u).cell? ⟨q, 7, none⟩ = some (.int .i64 e) := fun u => (hW u).2.cell 7
      clear hW
      simp only [List.take, opsAt, List.drop, List.cons_append, List.nil_append]
      repeat (go_big_quiet_step (fail))
      exact rfl
    simp only [List.take, List.drop, opsAt, List.cons_append, List.nil_append, wpHv]
    have HBd : Hid (Below w1.heap.size w1 w1.drew) := hid (Drew.below ⟨1, rfl⟩ _)
    generalize w1.drew = wd at HBd ⊢
    have HTd := hid (HS.out.2.1.below HBd.out)
    go_wp2_with fail
    refine (HC.out wd HTd.out.mx).mono ?_
    rintro y w2 ⟨err, som, slt, hy, HX⟩
    unfold ansV at hy
    subst hy
    obtain ⟨m', hm1, hm2, hm3⟩ := HX.out
    have HR2 : Hid (playM m kd x k b a c d e = (err, som, slt, m')) := hid (by rw [HR.out, hm1])
    have HT2 : Hid (MT B r2 pb m' w2 ∧ Blk w2 q 33 [.int .u8 (kd : Int), .int .i64 x, .int .u64 (k : Int), .bool b, .int .i64 a, .int .i64 c, .int .i64 d, .int .i64 e] ∧ Blk w2 p 36 [.int .u8 0, .bool false, .int .i64 0] ∧ UF B w w2) := hid (by
      have g1 := HS.out.1.size
      have g2 := HBd.out.size
      have g3 := HQ.out.2
      exact ⟨⟨hm3.blk HTd.out.rb (by decide) (by decide), hm2, HTd.out.lr⟩, hm3.blk (HS.out.2.2.1.below HBd.out) (by decide) (by decide), hm3.blk (HS.out.2.2.2.below HBd.out) (by decide) (by decide), (UF.ofBelow (HS.out.1.trans (HBd.out.mono g1)) g3).trans (UF.ofUM hm3 (by omega))⟩)
    clear hm1 hm2 hm3 HX HC HTd HBd HS HR c0
    have HF := hid (HT2.out.1.ans HT2.out.2.2.1 HT2.out.2.2.2 HQ.out.1 HQ.out.2 err som slt)
    have HP : Hid (w2.cell? ⟨r2, 0, none⟩ = some (.pointer (some ⟨pb, 0, none⟩)) ∧ Blk w2 q 33 [.int .u8 (kd : Int), .int .i64 x, .int .u64 (k : Int), .bool b, .int .i64 a, .int .i64 c, .int .i64 d, .int .i64 e]) := hid ⟨HT2.out.1.rb.cell 0, HT2.out.2.1⟩
    have z0 := HT2.out.2.2.1.cell 0
    have y0 := HT2.out.2.2.1.frozen 0
    have p1 := HT2.out.2.2.1.set 0 (.int .u8 (err : Int))
    have z1 := p1.cell 1
    have y1 := p1.frozen 1
    have p2 := p1.set 1 (.bool som)
    have z2 := p2.cell 2
    have y2 := p2.frozen 2
    simp only [List.set_cons_zero, List.set_cons_succ, List.getElem?_cons_zero, List.getElem?_cons_succ] at z0 z1 z2
    clear p1 p2 HT2
    go_wp2_with fail
    refine ⟨HP.out, ?_⟩
    simp only [QN]
    go_wp2
    refine bodyPost_ret (v := ansV err som slt) (results_blk Tryd.results11 rfl Ians.out HF.out.1) rfl ?_
    exact ⟨_, _, _, rfl, hid ⟨pb, _, HR2.out, HF.out.2.1, HF.out.2.2⟩⟩
  as_aux_lemma =>
  have dk : ((kd : Int) != 0) = false := by rw [key_bneI]; exact decide_eq_false (by omega)
  have HV := hid (fun wz => valid_walk a c d e wz)
  obtain ⟨vb, hvb⟩ : ∃ b, cfgB a c d e = b := ⟨_, rfl⟩
  have HR : Hid (playM m kd x k b a c d e = if vb = true then (0, false, 0, mtM a c d.toNat e) else (4, false, 0, m)) := hid (by unfold playM; rw [if_pos h0, hvb])
  have HD : Hid (vb = true → ((d.toNat : Nat) : Int) = d) := hid (fun h => by
    rw [h] at hvb
    have := cfgB_true.1 hvb
    omega)
  rw [hvb] at HV
  clear hvb h0
  have c4 : w1.cell? ⟨q, 4, none⟩ = some (.int .i64 a) := HS.out.2.2.1.cell 4
  have c5 : w1.cell? ⟨q, 5, none⟩ = some (.int .i64 c) := HS.out.2.2.1.cell 5
  have c6 : w1.cell? ⟨q, 6, none⟩ = some (.int .i64 d) := HS.out.2.2.1.cell 6
  have c7 : w1.cell? ⟨q, 7, none⟩ = some (.int .i64 e) := HS.out.2.2.1.cell 7
  go_wp2_with fail
  refine (HV.out _).mono ?_
  rintro y w2 ⟨rfl, hb2⟩
  have HS2 : Hid (Below w.heap.size w w2 ∧ MT B r2 pb m w2 ∧ Blk w2 q 33 [.int .u8 (kd : Int), .int .i64 x, .int .u64 (k : Int), .bool b, .int .i64 a, .int .i64 c, .int .i64 d, .int .i64 e] ∧ Blk w2 p 36 [.int .u8 0, .bool false, .int .i64 0]) := hid ⟨HS.out.1.trans (hb2.mono HS.out.1.size), HS.out.2.1.below hb2, HS.out.2.2.1.below hb2, HS.out.2.2.2.below hb2⟩
  clear hb2 HS c0 c4 c5 c6 c7 HV
  cases vb with
  | false =>
    as_aux_lemma =>
    have HR2 : Hid (playM m kd x k b a c d e = (4, false, 0, m)) := hid (by rw [HR.out]; rfl)
    have HF := hid (HS2.out.2.1.ans HS2.out.2.2.2 (UF.ofBelow HS2.out.1 HQ.out.2) HQ.out.1 HQ.out.2 4 false 0)
    have z0 := HS2.out.2.2.2.cell 0
    have y0 := HS2.out.2.2.2.frozen 0
    have p1 := HS2.out.2.2.2.set 0 (.int .u8 4)
    have z1 := p1.cell 1
    have y1 := p1.frozen 1
    have p2 := p1.set 1 (.bool false)
    have z2 := p2.cell 2
    have y2 := p2.frozen 2
    simp only [List.set_cons_zero, List.set_cons_succ, List.getElem?_cons_zero, List.getElem?_cons_succ] at z0 z1 z2
    clear p1 p2 HS2 HR HD
    go_wp2
    refine bodyPost_ret (v := ansV 4 false 0) (results_blk Tryd.results11 rfl Ians.out HF.out.1) rfl ?_
    exact ⟨_, _, _, rfl, hid ⟨pb, _, HR2.out, HF.out.2.1, HF.out.2.2⟩⟩
  | true =>
    as_aux_lemma =>
    obtain ⟨dn, hdn⟩ : ∃ n : Nat, d.toNat = n := ⟨_, rfl⟩
    have hd := HD.out rfl
    rw [hdn] at hd
    have HR2 : Hid (playM m kd x k b a c d e = (0, false, 0, mtM a c dn e)) := hid (by rw [HR.out, hdn]; rfl)
    clear hdn HR HD
    subst hd
    have c4 : w2.cell? ⟨q, 4, none⟩ = some (.int .i64 a) := HS2.out.2.2.1.cell 4
    have c5 : w2.cell? ⟨q, 5, none⟩ = some (.int .i64 c) := HS2.out.2.2.1.cell 5
    have c6 : w2.cell? ⟨q, 6, none⟩ = some (.int .i64 (dn : Int)) := HS2.out.2.2.1.cell 6
    have c7 : w2.cell? ⟨q, 7, none⟩ = some (.int .i64 e) := HS2.out.2.2.1.cell 7
    have HN := hid (mnew_walk a c dn e B w2 (by have := HS2.out.1.size; have := HQ.out.2; omega))
    go_wp2_with fail
    refine HN.out.mono ?_
    rintro y w3 ⟨pb', rfl, _, HX⟩
    have HT3 : Hid (MT B r2 pb' (mtM a c dn e) (w3.setCell ⟨r2, 0, none⟩ (.pointer (some ⟨pb', 0, none⟩))) ∧ Blk (w3.setCell ⟨r2, 0, none⟩ (.pointer (some ⟨pb', 0, none⟩))) p 36 [.int .u8 0, .bool false, .int .i64 0] ∧ UF B w (w3.setCell ⟨r2, 0, none⟩ (.pointer (some ⟨pb', 0, none⟩)))) := hid (by
      have k1 := HS2.out.2.1.rb.below HX.out.2
      have k2 := HS2.out.2.2.2.below HX.out.2
      have hu : Upd r2 w3 (w3.setCell ⟨r2, 0, none⟩ (.pointer (some ⟨pb', 0, none⟩))) := (Upd.refl r2 w3).setCell rfl _
      exact ⟨⟨k1.set 0 _, HX.out.1.upd k1 (by decide) (by decide) (by decide) hu, HS2.out.2.1.lr⟩, k2.upd hu (k2.tne k1 (by decide)), (UF.ofBelow (HS2.out.1.trans (HX.out.2.mono HS2.out.1.size)) HQ.out.2).trans (UF.ofUpd hu k1 HS2.out.2.1.lr)⟩)
    have zr : w3.cell? ⟨r2, 0, none⟩ = some (.pointer (some ⟨pb, 0, none⟩)) := (HS2.out.2.1.rb.below HX.out.2).cell 0
    have fr : w3.frozen? ⟨r2, 0, none⟩ = false := (HS2.out.2.1.rb.below HX.out.2).frozen 0
    clear HX HN HS2 c4 c5 c6 c7
    go_upto_region 6 with fail
    clear zr fr
    generalize w3.setCell ⟨r2, 0, none⟩ (.pointer (some ⟨pb', 0, none⟩)) = w4 at HT3 ⊢
    have HF := hid (HT3.out.1.ans HT3.out.2.1 HT3.out.2.2 HQ.out.1 HQ.out.2 0 false 0)
    have z0 := HT3.out.2.1.cell 0
    have y0 := HT3.out.2.1.frozen 0
    have p1 := HT3.out.2.1.set 0 (.int .u8 0)
    have z1 := p1.cell 1
    have y1 := p1.frozen 1
    have p2 := p1.set 1 (.bool false)
    have z2 := p2.cell 2
    have y2 := p2.frozen 2
    simp only [List.set_cons_zero, List.set_cons_succ, List.getElem?_cons_zero, List.getElem?_cons_succ] at z0 z1 z2
    clear p1 p2 HT3
    go_wp2
    refine bodyPost_ret (v := ansV 0 false 0) (results_blk Tryd.results11 rfl Ians.out HF.out.1) rfl ?_
    exact ⟨_, _, _, rfl, hid ⟨pb', _, HR2.out, HF.out.2.1, HF.out.2.2⟩⟩
set_option maxRecDepth 100000 in
set_option maxHeartbeats 1000000 in
theorem newModel_walk {w : World} (hd : Dflt w) {B : Nat} (hB : B ≤ w.heap.size) : Calls Tryd.prog 9 #[] w fun y w' => ∃ r2, y = .returned (.pointer (some ⟨r2, 0, none⟩)) ∧ Hid (∃ pb, MT B r2 pb (mtM 48 12 24 8) w' ∧ Below w.heap.size w w') := by
  have c0 := hd.c0
  have c1 := hd.c1
  have c2 := hd.c2
  have c3 := hd.c3
  have HN := hid (mnew_walk 48 12 24 8 B w hB)
  clear hd
  go_enter Tryd.func9, Tryd.ntmps9
  go_wp2_with fail
  refine HN.out.mono ?_
  rintro y w1 ⟨pb, rfl, _, HX⟩
  obtain ⟨r, hr⟩ : ∃ r, w1.heap.size = r := ⟨_, rfl⟩
  have HG2 : Hid (∃ pb', MT B r pb' (mtM 48 12 24 8) (w1.alloc (.cells #[.pointer (some ⟨pb, 0, none⟩)] 49)) ∧ Below w.heap.size w (w1.alloc (.cells #[.pointer (some ⟨pb, 0, none⟩)] 49))) := hid (by
    have hb1 := nbel w1 (.cells #[.pointer (some ⟨pb, 0, none⟩)] 49)
    have hbk := Blk.new w1 [.pointer (some ⟨pb, 0, none⟩)] 49
    rw [hr] at hbk
    have := HX.out.2.size
    exact ⟨pb, ⟨hbk, HX.out.1.below hb1, by omega⟩, HX.out.2.trans (hb1.mono HX.out.2.size)⟩)
  clear HX HN c0 c1 c2 c3
  go_wp2
  go_ret
  exact ⟨r, rfl, HG2⟩
end
theorem neq_ent (t : TEnt) (w : World) : (binOp .neq 64 (.agg #[.int .i64 t.slot, .int .u64 t.key, .int .i64 t.pins, .bool t.neg]) (.agg #[.int .i64 t.slot, .int .u64 t.key, .int .i64 t.pins, .bool t.neg])).run Tryd.prog w = .ok (.bool false) w := by
  rw [run_neq_struct]
  simp [go_sem, part]
theorem neq_ans (err : Int) (som : Bool) (slt : Int) (w : World) : (binOp .neq 36 (.agg #[.int .u8 err, .bool som, .int .i64 slt]) (.agg #[.int .u8 err, .bool som, .int .i64 slt])).run Tryd.prog w = .ok (.bool false) w := by
  rw [run_neq_struct]
  simp [go_sem, part]
end Go.Proofs.Qxb6500892aDoor
