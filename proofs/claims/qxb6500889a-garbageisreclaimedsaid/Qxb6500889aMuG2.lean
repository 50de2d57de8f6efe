/- Garbage: the ids reached, and the closure play. -/
import Derived.Test.Qxb6500889aMuG1
namespace Go.Proofs.Qxb6500889a
open Go.RowKit
set_option linter.unusedSimpArgs false
set_option linter.unusedVariables false
/-- The words of the model's object. -/
def wqM (M : MS) (id : Nat) : Nat := match M.objs[id - 1]? with
  | some q => 1 + q.refs.length + q.data.length
  | none => 0
theorem nodup_map_inj {f : Nat → Nat} : ∀ {l : List Nat}, l.Nodup → (∀ a ∈ l, ∀ b ∈ l, f a = f b → a = b) → (l.map f).Nodup
  | [], _, _ => List.nodup_nil
  | a :: l, hn, hi => by
    rw [List.nodup_cons] at hn
    rw [List.map_cons, List.nodup_cons]
    refine ⟨fun hm => ?_, nodup_map_inj hn.2 (fun x hx y hy => hi x (List.mem_cons_of_mem _ hx) y (List.mem_cons_of_mem _ hy))⟩
    obtain ⟨b, hb, e⟩ := List.mem_map.1 hm
    exact hn.1 (by rw [← hi b (List.mem_cons_of_mem _ hb) a List.mem_cons_self e]; exact hb)
/-- While the model's ids are gathered: R those reached, ys those that wait. -/
structure Gth (H : HS) (X : XS) (M : MS) (φ : Nat → Nat) (R ys : List Nat) : Prop where
  yw : ∀ y ∈ ys, y = 0 ∨ ∃ a, Nm H X a ∧ φ a = y
  rs : ∀ y ∈ R, ∃ a, Nm H X a ∧ φ a = y
  rt : ∀ m, m < 4 → ∀ y ∈ M.roots m, y = 0 ∨ y ∈ R ∨ y ∈ ys
  rf : ∀ y ∈ R, ∀ q, M.objs[y - 1]? = some q → ∀ r ∈ q.refs, r = 0 ∨ r ∈ R ∨ r ∈ ys
  nd : R.Nodup
section
variable {H : HS} {X : XS} {M : MS} {G : List Nat} {φ : Nat → Nat} {R ys : List Nat} {k : Nat}
theorem Gth.len (h : Gth H X M φ R ys) (hr : RM H X G M φ) : R.length ≤ M.objs.length := by
  have := nd_le (l1 := R) (l2 := (List.range M.objs.length).map (· + 1)) h.nd (fun y hy => by
    obtain ⟨a, ha, rfl⟩ := h.rs y hy
    obtain ⟨x, q, _, k1, k2, _⟩ := hr.mt.ob a ha
    have := (List.getElem?_eq_some_iff.1 k2).1
    exact List.mem_map.2 ⟨φ a - 1, List.mem_range.2 this, by omega⟩)
  simpa using this
/-- Another row is gathered. -/
theorem Gth.zero_pop (h : Gth H X M φ R (ys ++ [0])) : Gth H X M φ R ys :=
  ⟨fun y hy => h.yw y (List.mem_append_left _ hy), h.rs, fun m hm y hy => by
    rcases h.rt m hm y hy with e | e | e
    · exact .inl e
    · exact .inr (.inl e)
    · rcases List.mem_append.1 e with e | e
      · exact .inr (.inr e)
      · exact .inl (by simpa using e), fun y hy q hq r hr => by
    rcases h.rf y hy q hq r hr with e | e | e
    · exact .inl e
    · exact .inr (.inl e)
    · rcases List.mem_append.1 e with e | e
      · exact .inr (.inr e)
      · exact .inl (by simpa using e), h.nd⟩
theorem Gth.seen_pop {y : Nat} (h : Gth H X M φ R (ys ++ [y])) (hy : y ∈ R) : Gth H X M φ R ys :=
  ⟨fun y hy => h.yw y (List.mem_append_left _ hy), h.rs, fun m hm z hz => by
    rcases h.rt m hm z hz with e | e | e
    · exact .inl e
    · exact .inr (.inl e)
    · rcases List.mem_append.1 e with e | e
      · exact .inr (.inr e)
      · exact .inr (.inl (by simp at e; rw [e]; exact hy)), fun z hz q hq r hr => by
    rcases h.rf z hz q hq r hr with e | e | e
    · exact .inl e
    · exact .inr (.inl e)
    · rcases List.mem_append.1 e with e | e
      · exact .inr (.inr e)
      · exact .inr (.inl (by simp at e; rw [e]; exact hy)), h.nd⟩
theorem Gth.add {y : Nat} {q : MO} (h : Gth H X M φ R (ys ++ [y])) (hr : RM H X G M φ) (hi : HI H X) (hy0 : y ≠ 0) (hy : y ∉ R) (hq : M.objs[y - 1]? = some q) : Gth H X M φ (R ++ [y]) (ys ++ q.refs) := by
  obtain ⟨a, ha, hay⟩ := (h.yw y (by simp)).resolve_left hy0
  obtain ⟨x, q', hx, k1, k2, k3, k4⟩ := hr.mt.ob a ha
  rw [hay, hq] at k2
  cases k2
  have conv : ∀ r, (r = 0 ∨ r ∈ R ∨ r ∈ ys ++ [y]) → (r = 0 ∨ r ∈ R ++ [y] ∨ r ∈ ys ++ q.refs) := fun r e => by
    rcases e with e | e | e
    · exact .inl e
    · exact .inr (.inl (List.mem_append_left _ e))
    · rcases List.mem_append.1 e with e | e
      · exact .inr (.inr (List.mem_append_left _ e))
      · exact .inr (.inl (List.mem_append_right _ e))
  refine ⟨fun z hz => ?_, fun z hz => ?_, fun m hm z hz => conv z (h.rt m hm z hz), fun z hz p hp r hrr => ?_, ?_⟩
  · rcases List.mem_append.1 hz with e | e
    · exact h.yw z (List.mem_append_left _ e)
    · rw [k3] at e
      obtain ⟨b, hb, rfl⟩ := List.mem_map.1 e
      by_cases e0 : b = 0
      · left; rw [e0]; exact hr.mt.z
      · exact .inr ⟨b, .ref a b x ha hx hb e0, rfl⟩
  · rcases List.mem_append.1 hz with e | e
    · exact h.rs z e
    · simp at e; rw [e]; exact ⟨a, ha, hay⟩
  · rcases List.mem_append.1 hz with e | e
    · exact conv r (h.rf z e p hp r hrr)
    · simp at e
      rw [e, hq] at hp
      cases hp
      exact .inr (.inr (List.mem_append_right _ hrr))
  · rw [List.nodup_append]
    refine ⟨h.nd, by simp, fun b hb c hc e => ?_⟩
    simp at hc
    exact hy (by rw [← hc, ← e]; exact hb)
theorem Gth.done (h : Gth H X M φ R []) (hr : RM H X G M φ) (had : ∀ m, m < 4 → (X.tb m).ad = []) {a : Nat} (ha : Nm H X a) : φ a ∈ R := by
  have key : ∀ r, (r = 0 ∨ r ∈ R ∨ r ∈ ([] : List Nat)) → 1 ≤ r → r ∈ R := fun r e h1 => by
    rcases e with e | e | e
    · omega
    · exact e
    · cases e
  have h1 : ∀ {a}, Nm H X a → 1 ≤ φ a := fun ha => hr.node ha
  induction ha with
  | root m a h2 h3 h4 =>
    refine key _ (h.rt m h2 (φ a) ?_) (h1 (.root m a h2 h3 h4))
    rw [hr.roots m h2]
    exact List.mem_map.2 ⟨a, h3, rfl⟩
  | hand m a h2 h3 h4 =>
    rw [had m h2] at h3
    cases h3
  | ref b a x hb h2 h3 h4 ih =>
    obtain ⟨x', q, e1, e2, e3, e4, e5⟩ := hr.mt.ob b hb
    rw [h2] at e1
    cases e1
    refine key _ (h.rf (φ b) ih q e3 (φ a) ?_) (h1 (.ref b a x hb h2 h3 h4))
    rw [e4]
    exact List.mem_map.2 ⟨a, h3, rfl⟩
/-- The counts at the end. -/
theorem Gth.counts (h : Gth H X M φ R []) (hr : RM H X G M φ) (hi : HI H X) (ht : TkI H) (hc : Cl H X) (h0 : cT H.cond 98304 = 0) {A : List Nat} (hn : A.Nodup) (hA : ∀ a, a ∈ A ↔ (H.objs a).isSome = true) : A.length = R.length ∧ sumF (wqM M) R = cT H.taken 32768 := by
  have hAN : ∀ a, a ∈ A ↔ Nm H X a := fun a => (hA a).trans (hc.all hi h0 a)
  have hnd : (A.map φ).Nodup := by
    exact nodup_map_inj hn (fun a ha b hb e => hr.mt.inj a b ((hAN a).1 ha) ((hAN b).1 hb) e)
  have m1 : ∀ y ∈ A.map φ, y ∈ R := fun y hy => by
    obtain ⟨a, ha, rfl⟩ := List.mem_map.1 hy
    exact h.done hr hc.ad ((hAN a).1 ha)
  have m2 : ∀ y ∈ R, y ∈ A.map φ := fun y hy => by
    obtain ⟨a, ha, rfl⟩ := h.rs y hy
    exact List.mem_map.2 ⟨a, (hAN a).2 ha, rfl⟩
  have l1 := nd_le hnd m1
  have l2 := nd_le h.nd m2
  rw [List.length_map] at l1 l2
  have s1 := sumF_le (wqM M) hnd m1
  have s2 := sumF_le (wqM M) h.nd m2
  have s3 : sumF (wqM M) (A.map φ) = sumF (obN2 H) A := by
    rw [sumF_map]
    refine sumF_congr (fun a ha => ?_)
    obtain ⟨x, q, e1, e2, e3, e4, e5⟩ := hr.mt.ob a ((hAN a).1 ha)
    unfold wqM obN2
    rw [e1, e3]
    show 1 + q.refs.length + q.data.length = obW x
    unfold obW
    rw [e4, e5, List.length_map]
  have s4 := taken_sum hi.wf ht hn (fun a => (hA a).symm)
  exact ⟨by omega, by omega⟩
end
section
variable {w0 wr w' : World} {wB mB : Nat} {S S' : WSt} {M M' : MS} {xs : List XBk} {φ : Nat → Nat} {o : OpP} {z : Rz}
set_option maxRecDepth 1000000 in
set_option maxHeartbeats 4000000 in
theorem gplay_walk {mP wP : Nat} (h : WP w0 wB mB S M xs wr) (hr : Rel S M φ) (hk : S.k < 100000000000) (hm : (mP, 26, [.pointer (some ⟨mB, 0, none⟩)]) ∈ xs) (hw : (wP, 24, [.pointer (some ⟨wB, 0, none⟩)]) ∈ xs) (o : OpP) (hob : OpB o) :
    Calls Try.prog 20 #[.agg (opC o).toArray, .pointer (some ⟨mP, 0, none⟩), .pointer (some ⟨wP, 0, none⟩)] wr fun e w' => e = .returned (.tuple #[]) ∧ ∃ z S' M' φ', Pld S o z S' ∧ Rel S' M' φ' ∧ WP w0 wB mB S' M' xs w' := by
  have HW := hid (h.alloc (opC o) 31)
  have HR := hid hr
  have Hob := hid hob
  have Hm := hid hm
  have Hw := hid hw
  have HBM : Hid (MBd M S.k ∧ MIds M) := hid ⟨hr.mbd h.lw (by omega), hr.ids h.lw.hi⟩
  obtain ⟨ob, hqo⟩ : ∃ b, wr.heap.size = b := ⟨_, rfl⟩
  rw [hqo] at HW
  obtain ⟨w1, hw1⟩ : ∃ w1, wr.alloc (.cells (opC o).toArray 31) = w1 := ⟨_, rfl⟩
  rw [hw1] at HW
  clear h hr hob hm hw
  go_enter Try.func20, Try.ntmps20
  go_upto_region 1 with fail
  try simp only [hqo]
  try rw [show wr.alloc (.cells #[.int .u8 (o.ac : Int), .int .u8 (o.k : Int), .int .u64 (o.a : Int), .int .u64 (o.b : Int), .int .u64 (o.c : Int)] 31) = w1 from hw1]
  try simp only [hw1]
  clear hw1 hqo
  have HSc : Hid (∀ S M wy, WP w0 wB mB S M ((ob, 31, opC o) :: xs) wy → wy.cell? ⟨mP, 0, none⟩ = some (.pointer (some ⟨mB, 0, none⟩)) ∧ wy.cell? ⟨wP, 0, none⟩ = some (.pointer (some ⟨wB, 0, none⟩)) ∧ Blk wy ob 31 (opC o)) := hid (fun S M wy hy => ⟨(hy.bl _ (List.mem_cons_of_mem _ Hm.out)).1.cell 0, (hy.bl _ (List.mem_cons_of_mem _ Hw.out)).1.cell 0, (hy.bl _ List.mem_cons_self).1⟩)
  refine wp_region_heavy (fun wy => wy.cell? ⟨mP, 0, none⟩ = some (.pointer (some ⟨mB, 0, none⟩)) ∧ wy.cell? ⟨wP, 0, none⟩ = some (.pointer (some ⟨wB, 0, none⟩)) ∧ Blk wy ob 31 (opC o)) 8 [0, 1, 2, 3] [4, 5, 6, 7] rfl (by kernel_rfl) (by kernel_rfl) (fun d _ _ _ _ h => by cases d <;> exact h) (HSc.out _ _ _ (HW.out.below (Drew.below ⟨1, rfl⟩ _))) ?_
  apply Exists.intro
  refine ⟨?_, ?_⟩
  · intro W hW
    have q0 := fun x => (hW x).1
    have q1 := fun x => (hW x).2.1
    have s0 : ∀ x, (W x).cell? ⟨ob, 0, none⟩ = some (.int .u8 (o.ac : Int)) := fun x => (hW x).2.2.cell 0
    have s1 : ∀ x, (W x).cell? ⟨ob, 1, none⟩ = some (.int .u8 (o.k : Int)) := fun x => (hW x).2.2.cell 1
    have s2 : ∀ x, (W x).cell? ⟨ob, 2, none⟩ = some (.int .u64 (o.a : Int)) := fun x => (hW x).2.2.cell 2
    have s3 : ∀ x, (W x).cell? ⟨ob, 3, none⟩ = some (.int .u64 (o.b : Int)) := fun x => (hW x).2.2.cell 3
    have s4 : ∀ x, (W x).cell? ⟨ob, 4, none⟩ = some (.int .u64 (o.c : Int)) := fun x => (hW x).2.2.cell 4
    clear hW
    simp only [List.take, opsAt, List.drop, List.cons_append, List.nil_append]
    repeat (go_big_quiet_step (fail))
    exact rfl
  simp only [List.take, List.drop, opsAt, List.cons_append, List.nil_append, wpHv]
  have HW2 : Hid (WP w0 wB mB S M ((ob, 31, opC o) :: xs) w1.drew) := hid (HW.out.below (Drew.below ⟨1, rfl⟩ _))
  generalize w1.drew = w2 at HW2 ⊢
  clear HW
  go_wp2_with fail
  refine (HW2.out.play hk o Hob.out).mono ?_
  rintro e w3 ⟨z, S3, rfl, hp3, hW3⟩
  simp only [show (rzC z).toArray = #[.int .u8 (z.c : Int), .int .u64 (z.v : Int), .int .u64 (z.a : Int), .int .u64 (z.b : Int), .int .u64 (z.d : Int), .int .u64 (z.e : Int), .int .i64 (z.h : Int), .int .i64 (z.r : Int)] from rfl]
  obtain ⟨hzz, h8, φ3, hRel3⟩ := HR.out.step HW2.out.lw (by omega) Hob.out hp3
  have HP3 := hid hp3
  have HW3 := hid hW3
  have HRel3 := hid hRel3
  have HS3 := hid (HSc.out _ _ _ hW3)
  have HSt := hid (fun wy (hy : WP w0 wB mB S3 M ((ob, 31, opC o) :: xs) wy) => hy.step HBM.out.1 hk HBM.out.2 o Hob.out (decide (z.c ≠ 8)))
  rw [hzz] at HSt
  have hfd : ∀ w9 : World, (Instr.field 36 (.agg #[.int .u8 (z.c : Int), .int .u64 (z.v : Int), .int .u64 (z.a : Int), .int .u64 (z.b : Int), .int .u64 (z.d : Int), .int .u64 (z.e : Int), .int .i64 (z.h : Int), .int .i64 (z.r : Int)]) 0).run Try.prog w9 = .ok (.int .u8 (z.c : Int)) w9 := fun w9 => by
    simp only [Instr.field, Sem.run_bind, run_underlying Try.underlying36, Result.andThen_ok]
    rfl
  have hroom : ((z.c : Int) != 8) = decide (z.c ≠ 8) := by
    rw [Bool.eq_iff_iff]
    simp
    omega
  generalize mCnt (mDo M o (decide (z.c ≠ 8))).1 z = M3 at HSt HRel3
  generalize decide (z.c ≠ 8) = room at HSt hroom
  clear hzz h8 hRel3 hp3 hW3 HW2 HBM HR
  go_wp2_with fail
  refine ⟨HS3.out, ?_⟩
  go_wp2_with fail
  refine ⟨HS3.out, ?_⟩
  go_wp2_with fail
  refine ⟨HS3.out, ?_⟩
  go_wp2_with fail
  refine (HSt.out _ HW3.out).mono ?_
  rintro e w4 ⟨rfl, hW4⟩
  have HW4 := hid hW4
  have HS4 := hid (HSc.out _ _ _ hW4)
  clear hW4 HW3 HSt HS3
  go_wp2_with fail
  refine ⟨HS4.out, ?_⟩
  simp only [QN]
  go_wp2
  go_end0
  exact ⟨rfl, z, S3, M3, φ3, HP3.out, HRel3.out, HW4.out.tail⟩
end
end Go.Proofs.Qxb6500889a
