/- The law's comparison of two models: sameInts, sameModel. -/
import Derived.Test.Qxb6500889aDoorMuB1
namespace Go.Proofs.Qxb6500889aDoor
open Go.RowKit
set_option linter.unusedSimpArgs false
set_option linter.unusedVariables false
/-- A row of ints that a world holds. -/
def RI (w : World) (v : Value) (xs : List Nat) : Prop := ∃ a k, v = .slice a xs.length k ∧ ∀ wz, Below w.heap.size w wz → ∀ (j x : Nat), xs[j]? = some x → ∃ g, a = some ⟨g, 0, none⟩ ∧ wz.cell? ⟨g, j, none⟩ = some (.int .i64 (x : Int))
section
variable {w w' : World} {v v1 v2 : Value} {xs : List Nat} {σ : Rl} {c : Nat}
theorem RI.below (h : RI w v xs) (hb : Below w.heap.size w w') : RI w' v xs := by
  obtain ⟨a, k, h1, h2⟩ := h
  exact ⟨a, k, h1, fun wz hz => h2 wz (hb.trans (hz.mono hb.size))⟩
theorem RowK.ri (h : RowK w σ 3 .i64 c v xs) : RI w v xs := by
  obtain ⟨a, k, e⟩ := h.shape
  refine ⟨a, k, e, fun wz hz j x hx => ?_⟩
  have h' : RowK wz σ 3 .i64 c v xs := h.of (fun g hg _ => ⟨hz.block g hg, rfl⟩)
  obtain ⟨g, q, e1, e2⟩ := h'.get hx
  rw [e] at e1
  injection e1 with t1
  exact ⟨g, t1, e2⟩
theorem Blk.ri {g : Nat} (h : Blk w g 3 (aK .i64 xs)) : RI w (.slice (some ⟨g, 0, none⟩) xs.length xs.length) xs :=
  ⟨_, _, rfl, fun wz hz j x hx => ⟨g, rfl, by rw [(h.below hz).cell]; unfold aK; rw [List.getElem?_map, hx]; rfl⟩⟩
set_option maxRecDepth 1000000 in
set_option maxHeartbeats 4000000 in
theorem sameInts_walk (h1 : RI w v1 xs) (h2 : RI w v2 xs) (hl : xs.length ≤ 100000000000) :
    Calls Tryd.prog 28 #[v1, v2] w fun e w' => e = .returned (.bool true) ∧ Below w.heap.size w w' := by
  obtain ⟨a1, k1, rfl, g1⟩ := h1
  obtain ⟨a2, k2, rfl, g2⟩ := h2
  have HG1 := hid g1
  have HG2 := hid g2
  obtain ⟨n, hn⟩ : ∃ n, xs.length = n := ⟨_, rfl⟩
  rw [hn]
  have nb : (n : Int) ≤ 100000000000 := by omega
  have Hn := hid hn
  have dn : ((n : Int) != (n : Int)) = false := by simp
  clear g1 g2 hn hl
  go_enter Tryd.func28, Tryd.ntmps28
  go_wp2_with fail
  clear dn
  have HB0 : Hid (Below w.heap.size w w) := hid (Below.refl _ _)
  go_loopw [13] (fun v wq => ∃ j : Nat, j ≤ n ∧ v = .int .i64 (j : Int) ∧ Hid (Below w.heap.size w wq)) (fun v _ => n - (intOf v).toNat)
  case atStart => exact ⟨0, by omega, rfl, HB0⟩
  case round =>
  clear HB0
  obtain ⟨j, hj, rfl, HB⟩ := hrel
  by_cases hjl : j < n
  · as_aux_lemma =>
    have dj : decide ((j : Int) < (n : Int)) = true := decide_eq_true (by omega)
    have ij : (j : Int) < (n : Int) := by omega
    obtain ⟨x, hx⟩ : ∃ x, xs[j]? = some x := ⟨_, List.getElem?_eq_getElem (by rw [Hn.out]; exact hjl)⟩
    obtain ⟨b1, e1, _⟩ := HG1.out _ HB.out j x hx
    obtain ⟨b2, e2, _⟩ := HG2.out _ HB.out j x hx
    subst e1 e2
    have HC : Hid (∀ wz, Below w.heap.size w wz → wz.cell? ⟨b1, j, none⟩ = some (.int .i64 (x : Int)) ∧ wz.cell? ⟨b2, j, none⟩ = some (.int .i64 (x : Int))) := hid (fun wz hz => by
      obtain ⟨c1, e1, e2⟩ := HG1.out _ hz j x hx
      obtain ⟨c2, e3, e4⟩ := HG2.out _ hz j x hx
      cases e1
      cases e3
      exact ⟨e2, e4⟩)
    have dx : ((x : Int) != (x : Int)) = false := by simp
    clear hx
    go_upto_region 6 with fail
    refine wp_region_heavy (fun wz => Below w.heap.size w wz) 9 (List.range 9) [] rfl (by kernel_rfl) (by kernel_rfl) (fun d _ _ _ _ h => by cases d <;> exact h) (HB.out.trans (Drew.below ⟨1, rfl⟩ _)) ?_
    apply Exists.intro
    refine ⟨?_, ?_⟩
    · intro W hW
      have q0 := fun y => (HC.out _ (hW y)).1
      have q1 := fun y => (HC.out _ (hW y)).2
      clear hW
      simp only [List.take, opsAt, List.drop, List.cons_append, List.nil_append, List.range, List.range.loop]
      repeat (go_big_quiet_step (fail))
      exact rfl
    simp only [List.take, List.drop, opsAt, List.cons_append, List.nil_append, wpHv, QN]
    have HB2 : Hid (Below w.heap.size w wr.drew) := hid (HB.out.trans (Drew.below ⟨1, rfl⟩ _))
    generalize wr.drew = wd at HB2 ⊢
    go_wp2
    exact ⟨⟨j + 1, by omega, by go_num, HB2⟩, by simp [intOf]; omega⟩
  obtain rfl : j = n := by omega
  as_aux_lemma =>
  have dj : decide ((j : Int) < (j : Int)) = false := decide_eq_false (by omega)
  go_wp2
  go_ret
  exact ⟨rfl, HB.out⟩
end
set_option maxHeartbeats 1000000 in
theorem neq_gen (a b c d : Nat) (w : World) : (binOp .neq 67 (.agg #[.int .u64 (a : Int), .int .u64 (b : Int), .int .u64 (c : Int), .int .u64 (d : Int)]) (.agg #[.int .u64 (a : Int), .int .u64 (b : Int), .int .u64 (c : Int), .int .u64 (d : Int)])).run Tryd.prog w = .ok (.bool false) w := by
  rw [run_neq_struct]
  have h := run_equalIn_ints (P := Tryd.prog) w 9998 67 29 .u64 [(a : Int), b, c, d] [(a : Int), b, c, d] rfl Tryd.underlying67 Tryd.underlying29 (fun w => by kernel_rfl)
  rw [decide_eq_true rfl] at h
  have h2 : (Op.equalIn 10000 67 (.agg #[.int .u64 (a : Int), .int .u64 (b : Int), .int .u64 (c : Int), .int .u64 (d : Int)]) (.agg #[.int .u64 (a : Int), .int .u64 (b : Int), .int .u64 (c : Int), .int .u64 (d : Int)])).run Tryd.prog w = .ok true w := h
  rw [h2]
  rfl
/-- What two models have alike, all but their counts of steps and refusals. -/
structure SmM (M1 M2 : MS) : Prop where
  ob : M1.objs = M2.objs
  rt : M1.roots = M2.roots
  hd : M1.held = M2.held
  gn : M1.gen = M2.gen
  is : M1.iss = M2.iss
  al : M1.alt = M2.alt
  sf : M1.sf = M2.sf
section
variable {w : World} {σ1 σ2 : Rl} {N1 N2 : ML} {M1 M2 : MS} {n : Nat}
set_option maxRecDepth 1000000 in
set_option maxHeartbeats 8000000 in
theorem sameModel_walk (hA : MN w σ1 N1 M1) (hB : MN w σ2 N2 M2) (hs : SmM M1 M2) (hb : MBd M2 n) (hn : n ≤ 100000000000) :
    Calls Tryd.prog 14 #[.pointer (some ⟨N1.mB, 0, none⟩), .pointer (some ⟨N2.mB, 0, none⟩)] w fun e w' => e = .returned (.bool true) ∧ Below w.heap.size w w' := by
  obtain ⟨m1, hm1⟩ : ∃ b, N1.mB = b := ⟨_, rfl⟩
  obtain ⟨m2, hm2⟩ : ∃ b, N2.mB = b := ⟨_, rfl⟩
  rw [hm1, hm2]
  have HA := hid hA
  have HB := hid hB
  have HS := hid hs
  have Hm1 := hid hm1
  have Hm2 := hid hm2
  have HBd := hid hb
  have HSI := hid (fun (w : World) (v1 v2 : Value) (xs : List Nat) (h1 : RI w v1 xs) (h2 : RI w v2 xs) (hl : xs.length ≤ 100000000000) => sameInts_walk h1 h2 hl)
  obtain ⟨no, hno⟩ : ∃ x, M2.objs.length = x := ⟨_, rfl⟩
  have nob : (no : Int) ≤ 100000000000 := by have := hb.ob; omega
  have Hno := hid hno
  obtain ⟨oa1, ok1, ho1⟩ : ∃ a k, N1.ov = .slice a no k := by
    rcases hA.pt.ow.2 with ⟨e, h0⟩ | ⟨g, cap, cur, e, _⟩
    · exact ⟨none, 0, by rw [e, ← hno, ← hs.ob, h0]⟩
    · exact ⟨_, _, by rw [e, ← hno, ← hs.ob]⟩
  obtain ⟨oa2, ok2, ho2⟩ : ∃ a k, N2.ov = .slice a no k := by
    rcases hB.pt.ow.2 with ⟨e, h0⟩ | ⟨g, cap, cur, e, _⟩
    · exact ⟨none, 0, by rw [e, ← hno, h0]⟩
    · exact ⟨_, _, by rw [e, ← hno]⟩
  obtain ⟨is, his⟩ : ∃ x, M2.iss.length = x := ⟨_, rfl⟩
  obtain ⟨ia1, ik1, hi1⟩ := hA.pt.is.shape
  obtain ⟨ia2, ik2, hi2⟩ := hB.pt.is.shape
  rw [hs.is, his] at hi1
  rw [his] at hi2
  have HC : Hid (∀ wz, Below w.heap.size w wz → (wz.cell? ⟨m1, 0, none⟩ = some (.slice oa1 no ok1) ∧ wz.cell? ⟨m2, 0, none⟩ = some (.slice oa2 no ok2)) ∧ (wz.cell? ⟨m1, 13, none⟩ = some (.slice ia1 is ik1) ∧ wz.cell? ⟨m2, 13, none⟩ = some (.slice ia2 is ik2)) ∧ (wz.cell? ⟨m1, 14, none⟩ = some (.int .i64 (M2.alt : Int)) ∧ wz.cell? ⟨m2, 14, none⟩ = some (.int .i64 (M2.alt : Int))) ∧ (wz.cell? ⟨m1, 17, none⟩ = some (.int .u64 (M2.sf : Int)) ∧ wz.cell? ⟨m2, 17, none⟩ = some (.int .u64 (M2.sf : Int)))) := hid (fun wz hz => by
    have h1 := hA.below hz
    have h2 := hB.below hz
    have k1 : ∀ i, wz.cell? ⟨m1, i, none⟩ = (mC N1 M1)[i]? := fun i => by have := h1.cell i; rw [hm1] at this; exact this
    have k2 : ∀ i, wz.cell? ⟨m2, i, none⟩ = (mC N2 M2)[i]? := fun i => by have := h2.cell i; rw [hm2] at this; exact this
    rw [k1, k1, k1, k1, k2, k2, k2, k2, ← ho1, ← ho2, ← hi1, ← hi2, ← hs.al, ← hs.sf]
    refine ⟨⟨rfl, rfl⟩, ⟨rfl, rfl⟩, ⟨rfl, ?_⟩, ⟨rfl, ?_⟩⟩
    · rw [hs.al]; rfl
    · rw [hs.sf]; rfl)
  have HCg : Hid (∀ m, m < 4 → ∀ wz, Below w.heap.size w wz → wz.cell? ⟨m1, 9 + m, none⟩ = some (.int .u64 (M2.gen m : Int)) ∧ wz.cell? ⟨m2, 9 + m, none⟩ = some (.int .u64 (M2.gen m : Int))) := hid (fun m hm wz hz => by
    have h1 := ((hA.below hz).rcell hm).2.2
    have h2 := ((hB.below hz).rcell hm).2.2
    rw [hm1, hs.gn] at h1
    rw [hm2] at h2
    exact ⟨h1, h2⟩)
  have hne := neq_gen (M2.gen 0) (M2.gen 1) (M2.gen 2) (M2.gen 3)
  clear hA hB hs hm1 hm2 hb ho1 ho2 his hi1 hi2 hno
  go_enter Tryd.func14, Tryd.ntmps14
  go_upto_region 1 with fail
  have HB0 : Hid (Below w.heap.size w w.drew) := hid (Drew.below ⟨1, rfl⟩ _)
  refine wp_region_heavy (fun wz => Below w.heap.size w wz) 57 (List.range 57) [] rfl (by kernel_rfl) (by kernel_rfl) (fun d _ _ _ _ h => by cases d <;> exact h) (Drew.below ⟨1, rfl⟩ _) ?_
  apply Exists.intro
  refine ⟨?_, ?_⟩
  · intro W hW
    have q0 := fun x => (HC.out _ (hW x)).1.1
    have q1 := fun x => (HC.out _ (hW x)).1.2
    have q2 := fun x => (HC.out _ (hW x)).2.1.1
    have q3 := fun x => (HC.out _ (hW x)).2.1.2
    have q4 := fun x => (HC.out _ (hW x)).2.2.1.1
    have q5 := fun x => (HC.out _ (hW x)).2.2.1.2
    have q6 := fun x => (HC.out _ (hW x)).2.2.2.1
    have q7 := fun x => (HC.out _ (hW x)).2.2.2.2
    have g0 : ∀ x, (W x).cell? ⟨m1, 9, none⟩ = some (.int .u64 (M2.gen 0 : Int)) := fun x => (HCg.out 0 (by omega) _ (hW x)).1
    have g1 : ∀ x, (W x).cell? ⟨m1, 10, none⟩ = some (.int .u64 (M2.gen 1 : Int)) := fun x => (HCg.out 1 (by omega) _ (hW x)).1
    have g2 : ∀ x, (W x).cell? ⟨m1, 11, none⟩ = some (.int .u64 (M2.gen 2 : Int)) := fun x => (HCg.out 2 (by omega) _ (hW x)).1
    have g3 : ∀ x, (W x).cell? ⟨m1, 12, none⟩ = some (.int .u64 (M2.gen 3 : Int)) := fun x => (HCg.out 3 (by omega) _ (hW x)).1
    have g4 : ∀ x, (W x).cell? ⟨m2, 9, none⟩ = some (.int .u64 (M2.gen 0 : Int)) := fun x => (HCg.out 0 (by omega) _ (hW x)).2
    have g5 : ∀ x, (W x).cell? ⟨m2, 10, none⟩ = some (.int .u64 (M2.gen 1 : Int)) := fun x => (HCg.out 1 (by omega) _ (hW x)).2
    have g6 : ∀ x, (W x).cell? ⟨m2, 11, none⟩ = some (.int .u64 (M2.gen 2 : Int)) := fun x => (HCg.out 2 (by omega) _ (hW x)).2
    have g7 : ∀ x, (W x).cell? ⟨m2, 12, none⟩ = some (.int .u64 (M2.gen 3 : Int)) := fun x => (HCg.out 3 (by omega) _ (hW x)).2
    have d0 : ((no : Int) != (no : Int)) = false := by simp
    have d1 : ((is : Int) != (is : Int)) = false := by simp
    have d2 : ((M2.alt : Int) != (M2.alt : Int)) = false := by simp
    have d3 : ((M2.sf : Int) != (M2.sf : Int)) = false := by simp
    clear hW
    simp only [List.take, opsAt, List.drop, List.cons_append, List.nil_append, List.range, List.range.loop]
    repeat (go_big_quiet_step (fail))
    exact rfl
  simp only [List.take, List.drop, opsAt, List.cons_append, List.nil_append, wpHv, QN]
  generalize w.drew = w1 at HB0 ⊢
  clear hne
  have c0 := (HC.out w1 HB0.out).1.1
  go_wp2_with fail
  go_loopw [70] (fun v wq => ∃ j : Nat, j ≤ no ∧ v = .int .i64 (j : Int) ∧ Hid (Below w.heap.size w wq)) (fun v _ => no - (intOf v).toNat)
  case atStart => exact ⟨0, by omega, rfl, HB0⟩
  case round =>
  clear HB0 c0
  obtain ⟨j, hj, rfl, HBj⟩ := hrel
  by_cases hjl : j < no
  · as_aux_lemma =>
    have dj : decide ((j : Int) < (no : Int)) = true := decide_eq_true (by omega)
    have ij : (j : Int) < (no : Int) := by omega
    obtain ⟨q, hq⟩ : ∃ q, M2.objs[j]? = some q := ⟨_, List.getElem?_eq_getElem (by rw [Hno.out]; exact hjl)⟩
    have hq1 : M1.objs[j]? = some q := by rw [HS.out.ob]; exact hq
    obtain ⟨g1, k1, e1, o1⟩ := HA.out.oat hq1
    obtain ⟨g2, k2, e2, o2⟩ := HB.out.oat hq
    rw [HS.out.ob, Hno.out] at e1 o1
    rw [Hno.out] at e2 o2
    rw [Hm1.out] at o1
    rw [Hm2.out] at o2
    obtain ⟨rn, hrn⟩ : ∃ x, q.refs.length = x := ⟨_, rfl⟩
    obtain ⟨dn, hdn⟩ : ∃ x, q.data.length = x := ⟨_, rfl⟩
    have hsz := (HB.out.pt.o j q hq).sz
    have rn9 : (rn : Int) ≤ 8192 := by omega
    have dn9 : (dn : Int) ≤ 8192 := by omega
    generalize N1.rb j = r1 at o1
    generalize N1.db j = d1 at o1
    generalize N2.rb j = r2 at o2
    generalize N2.db j = d2 at o2
    have HQ : Hid (∀ wz, Below w.heap.size w wz → (wz.cell? ⟨m1, 0, none⟩ = some (.slice (some ⟨g1, 0, none⟩) no k1) ∧ wz.cell? ⟨m2, 0, none⟩ = some (.slice (some ⟨g2, 0, none⟩) no k2)) ∧ (wz.cell? ⟨g1, j * 2, none⟩ = some (.slice (some ⟨r1, 0, none⟩) rn rn) ∧ wz.cell? ⟨g2, j * 2, none⟩ = some (.slice (some ⟨r2, 0, none⟩) rn rn)) ∧ wz.cell? ⟨g1, j * 2 + 1, none⟩ = some (.slice (some ⟨d1, 0, none⟩) dn dn) ∧ wz.cell? ⟨g2, j * 2 + 1, none⟩ = some (.slice (some ⟨d2, 0, none⟩) dn dn)) := hid (fun wz hz => by
      have a1 := o1 wz hz
      have a2 := o2 wz hz
      rw [← hrn, ← hdn]
      exact ⟨⟨a1.c, a2.c⟩, ⟨a1.r, a2.r⟩, a1.d, a2.d⟩)
    have HDj : Hid (∀ wz, Below w.heap.size w wz → ∀ (t x : Nat), q.data[t]? = some x → wz.cell? ⟨d1, t, none⟩ = some (.int .u64 (x : Int)) ∧ wz.cell? ⟨d2, t, none⟩ = some (.int .u64 (x : Int))) := hid (fun wz hz t x hx => by
      have a1 := (o1 wz hz).db.cell t
      have a2 := (o2 wz hz).db.cell t
      rw [a1, a2]
      unfold aK
      rw [List.getElem?_map, hx]
      exact ⟨rfl, rfl⟩)
    have HSi : Hid (∀ wz, Below w.heap.size w wz → Calls Tryd.prog 28 #[.slice (some ⟨r1, 0, none⟩) rn rn, .slice (some ⟨r2, 0, none⟩) rn rn] wz fun e w' => e = .returned (.bool true) ∧ Below w.heap.size w w') := hid (fun wz hz => by
      have a1 := (o1 wz hz).rb.ri
      have a2 := (o2 wz hz).rb.ri
      rw [hrn] at a1 a2
      exact (HSI.out wz _ _ q.refs a1 a2 (by omega)).mono (fun e w' ⟨t1, t2⟩ => ⟨t1, hz.trans (t2.mono hz.size)⟩))
    have Hdn := hid hdn
    have dr : ((dn : Int) != (dn : Int)) = false := by simp
    clear hq hq1 e1 e2 o1 o2 hrn hdn hsz
    go_upto_region 6 with fail
    refine wp_region_tree (fun wz => Below w.heap.size w wz) 39 (List.range 16) (.one 16 (.one 17 (.one 18 (.lit [19, 20, 21, 22, 23, 24, 25, 26, 27, 28, 29, 30, 31, 32, 33, 34, 35, 36, 37] (.one 38 .leaf))))) rfl (by kernel_rfl) (by kernel_rfl) (fun d _ _ _ _ h => by cases d <;> exact h) (HBj.out.trans (Drew.below ⟨1, rfl⟩ _)) ?_
    apply Exists.intro
    refine ⟨?_, ?_⟩
    · intro W hW
      have q0 := fun x => (HQ.out _ (hW x)).1.1
      have q1 := fun x => (HQ.out _ (hW x)).1.2
      have q2 := fun x => (HQ.out _ (hW x)).2.1.1
      have q3 := fun x => (HQ.out _ (hW x)).2.1.2
      clear hW
      simp only [List.take, opsAt, List.drop, List.cons_append, List.nil_append, List.range, List.range.loop]
      repeat (go_big_quiet_step (fail))
      exact rfl
    have HB1 : Hid (Below w.heap.size w wr.drew) := hid (HBj.out.trans (Drew.below ⟨1, rfl⟩ _))
    generalize wr.drew = wd at HB1 ⊢
    simp only [wpTr, opsAt, List.take, List.drop, List.cons_append, List.nil_append]
    go_wp2_with fail
    refine (HSi.out _ HB1.out).mono ?_
    rintro e w2 ⟨rfl, hB2⟩
    have HB2 := hid hB2
    clear hB2 HB1
    go_wp2_with fail
    refine ⟨HB2.out, ?_⟩
    go_wp2_with fail
    refine ⟨HB2.out, ?_⟩
    go_wp2_with fail
    refine ⟨HB2.out, ?_⟩
    apply Exists.intro
    refine ⟨?_, ?_⟩
    · intro W hW
      have q0 := fun x => (HQ.out _ (hW x)).1.1
      have q1 := fun x => (HQ.out _ (hW x)).1.2
      have q2 := fun x => (HQ.out _ (hW x)).2.2.1
      have q3 := fun x => (HQ.out _ (hW x)).2.2.2
      clear hW
      (try simp only [List.take, opsAt, List.drop, List.cons_append, List.nil_append])
      repeat (go_big_quiet_step (fail))
      exact rfl
    (try simp only [wpTr, opsAt, List.take, List.drop, List.cons_append, List.nil_append])
    go_wp2_with fail
    refine ⟨HB2.out, ?_⟩
    simp only [wpTr, QN]
    have c0 := (HQ.out w2 HB2.out).1.1
    have c1 := (HQ.out w2 HB2.out).2.2.1
    go_wp2_with fail
    go_loopw [121] (fun v wq => ∃ t : Nat, t ≤ dn ∧ v = .int .i64 (t : Int) ∧ Hid (Below w.heap.size w wq)) (fun v _ => dn - (intOf v).toNat)
    case atStart => exact ⟨0, by omega, rfl, HB2⟩
    case round =>
    clear HB2 c0 c1
    obtain ⟨t, ht, rfl, HBt⟩ := hrel
    by_cases htl : t < dn
    · as_aux_lemma =>
      have dt : decide ((t : Int) < (dn : Int)) = true := decide_eq_true (by omega)
      have it : (t : Int) < (dn : Int) := by omega
      obtain ⟨x, hx⟩ : ∃ x, q.data[t]? = some x := ⟨_, List.getElem?_eq_getElem (by rw [Hdn.out]; exact htl)⟩
      have HDx := hid (fun wz hz => HDj.out wz hz t x hx)
      have dx : ((x : Int) != (x : Int)) = false := by simp
      clear hx
      go_upto_region 11 with fail
      refine wp_region_heavy (fun wz => Below w.heap.size w wz) 23 (List.range 23) [] rfl (by kernel_rfl) (by kernel_rfl) (fun d _ _ _ _ h => by cases d <;> exact h) (HBt.out.trans (Drew.below ⟨1, rfl⟩ _)) ?_
      apply Exists.intro
      refine ⟨?_, ?_⟩
      · intro W hW
        have q0 := fun x => (HQ.out _ (hW x)).1.1
        have q1 := fun x => (HQ.out _ (hW x)).1.2
        have q2 := fun x => (HQ.out _ (hW x)).2.2.1
        have q3 := fun x => (HQ.out _ (hW x)).2.2.2
        have q4 := fun x => (HDx.out _ (hW x)).1
        have q5 := fun x => (HDx.out _ (hW x)).2
        clear hW
        simp only [List.take, opsAt, List.drop, List.cons_append, List.nil_append, List.range, List.range.loop]
        repeat (go_big_quiet_step (fail))
        exact rfl
      simp only [List.take, List.drop, opsAt, List.cons_append, List.nil_append, wpHv, QN]
      have HB3 : Hid (Below w.heap.size w wr.drew) := hid (HBt.out.trans (Drew.below ⟨1, rfl⟩ _))
      generalize wr.drew = wd2 at HB3 ⊢
      go_wp2
      exact ⟨⟨t + 1, by omega, by go_num, HB3⟩, by simp [intOf]; omega⟩
    obtain rfl : t = dn := by omega
    as_aux_lemma =>
    have dt : decide ((t : Int) < (t : Int)) = false := decide_eq_false (by omega)
    go_wp2
    exact ⟨⟨j + 1, by omega, by go_num, HBt⟩, by simp [intOf]; omega⟩
  obtain rfl : j = no := by omega
  as_aux_lemma =>
  have dj : decide ((j : Int) < (j : Int)) = false := decide_eq_false (by omega)
  go_wp2_with fail
  clear dj
  go_loopw [7] (fun v wq => ∃ m : Nat, m ≤ 4 ∧ v = .int .i64 (m : Int) ∧ Hid (Below w.heap.size w wq)) (fun v _ => 4 - (intOf v).toNat)
  case atStart => exact ⟨0, by omega, rfl, HBj⟩
  case round =>
  clear HBj
  obtain ⟨m, hm, rfl, HBm⟩ := hrel
  by_cases hm4 : m < 4
  · as_aux_lemma =>
    have dm : decide ((m : Int) < 4) = true := decide_eq_true (by omega)
    have im : (m : Int) < 4 := by omega
    have HRt : Hid (∀ wz, Below w.heap.size w wz → wz.cell? ⟨m1, 1 + m, none⟩ = some (N1.rv m) ∧ wz.cell? ⟨m2, 1 + m, none⟩ = some (N2.rv m) ∧ wz.cell? ⟨m1, 5 + m, none⟩ = some (N1.hv m) ∧ wz.cell? ⟨m2, 5 + m, none⟩ = some (N2.hv m)) := hid (fun wz hz => by
      have a1 := (HA.out.below hz).rcell hm4
      have a2 := (HB.out.below hz).rcell hm4
      rw [Hm1.out] at a1
      rw [Hm2.out] at a2
      exact ⟨a1.1, a2.1, a1.2.1, a2.2.1⟩)
    have HS1 : Hid (∀ wz, Below w.heap.size w wz → Calls Tryd.prog 28 #[N1.rv m, N2.rv m] wz fun e w' => e = .returned (.bool true) ∧ Below w.heap.size w w') := hid (fun wz hz => by
      have a1 := ((HA.out.below hz).pt.rt m hm4).ri
      have a2 := ((HB.out.below hz).pt.rt m hm4).ri
      rw [HS.out.rt] at a1
      have := HBd.out.rt m hm4
      exact (HSI.out wz _ _ _ a1 a2 (by omega)).mono (fun e w' ⟨t1, t2⟩ => ⟨t1, hz.trans (t2.mono hz.size)⟩))
    have HS2 : Hid (∀ wz, Below w.heap.size w wz → Calls Tryd.prog 28 #[N1.hv m, N2.hv m] wz fun e w' => e = .returned (.bool true) ∧ Below w.heap.size w w') := hid (fun wz hz => by
      have a1 := ((HA.out.below hz).pt.hd m hm4).ri
      have a2 := ((HB.out.below hz).pt.hd m hm4).ri
      rw [HS.out.hd] at a1
      have := HBd.out.hd m hm4
      exact (HSI.out wz _ _ _ a1 a2 (by omega)).mono (fun e w' ⟨t1, t2⟩ => ⟨t1, hz.trans (t2.mono hz.size)⟩))
    obtain ⟨a1, k1, s1⟩ := (HA.out.pt.rt m hm4).shape
    obtain ⟨a2, k2, s2⟩ := (HB.out.pt.rt m hm4).shape
    obtain ⟨a3, k3, s3⟩ := (HA.out.pt.hd m hm4).shape
    obtain ⟨a4, k4, s4⟩ := (HB.out.pt.hd m hm4).shape
    rw [s1, s2, s3, s4] at HRt
    rw [s1, s2] at HS1
    rw [s3, s4] at HS2
    generalize (M1.roots m).length = n1 at HRt HS1
    generalize (M2.roots m).length = n2 at HRt HS1
    generalize (M1.held m).length = n3 at HRt HS2
    generalize (M2.held m).length = n4 at HRt HS2
    clear s1 s2 s3 s4
    go_upto_region 18 with fail
    refine wp_region_tree (fun wz => Below w.heap.size w wz) 30 (List.range 12) (.one 12 (.one 13 (.one 14 (.lit [15, 16, 17, 18, 19, 20, 21, 22, 23, 24, 25, 26] (.one 27 (.one 28 (.one 29 .leaf))))))) rfl (by kernel_rfl) (by kernel_rfl) (fun d _ _ _ _ h => by cases d <;> exact h) (HBm.out.trans (Drew.below ⟨1, rfl⟩ _)) ?_
    apply Exists.intro
    refine ⟨?_, ?_⟩
    · intro W hW
      have q0 := fun x => (HRt.out _ (hW x)).1
      have q1 := fun x => (HRt.out _ (hW x)).2.1
      clear hW
      simp only [List.take, opsAt, List.drop, List.cons_append, List.nil_append, List.range, List.range.loop]
      repeat (go_big_quiet_step (fail))
      exact rfl
    have HB1 : Hid (Below w.heap.size w wr.drew) := hid (HBm.out.trans (Drew.below ⟨1, rfl⟩ _))
    generalize wr.drew = wd at HB1 ⊢
    simp only [wpTr, opsAt, List.take, List.drop, List.cons_append, List.nil_append]
    go_wp2_with fail
    refine (HS1.out _ HB1.out).mono ?_
    rintro e w2 ⟨rfl, hB2⟩
    have HB2 := hid hB2
    clear hB2 HB1
    go_wp2_with fail
    refine ⟨HB2.out, ?_⟩
    go_wp2_with fail
    refine ⟨HB2.out, ?_⟩
    go_wp2_with fail
    refine ⟨HB2.out, ?_⟩
    apply Exists.intro
    refine ⟨?_, ?_⟩
    · intro W hW
      have q0 := fun x => (HRt.out _ (hW x)).2.2.1
      have q1 := fun x => (HRt.out _ (hW x)).2.2.2
      clear hW
      (try simp only [List.take, opsAt, List.drop, List.cons_append, List.nil_append])
      repeat (go_big_quiet_step (fail))
      exact rfl
    (try simp only [wpTr, opsAt, List.take, List.drop, List.cons_append, List.nil_append])
    go_wp2_with fail
    refine (HS2.out _ HB2.out).mono ?_
    rintro e w3 ⟨rfl, hB3⟩
    have HB3 := hid hB3
    clear hB3 HB2
    go_wp2_with fail
    refine ⟨HB3.out, ?_⟩
    go_wp2_with fail
    refine ⟨HB3.out, ?_⟩
    go_wp2_with fail
    refine ⟨HB3.out, ?_⟩
    simp only [wpTr, QN]
    go_wp2
    exact ⟨⟨m + 1, by omega, by go_num, HB3⟩, by simp [intOf]; omega⟩
  obtain rfl : m = 4 := by omega
  as_aux_lemma =>
  rw [show ((4 : Nat) : Int) = 4 from rfl]
  have dm : decide ((4 : Int) < 4) = false := rfl
  go_wp2
  go_ret
  exact ⟨rfl, HBm.out⟩
end
end Go.Proofs.Qxb6500889aDoor
