/- The model's View, liveKey, add. -/
import Derived.Test.Qxb6500892aDoorTqM2
namespace Go.Proofs.Qxb6500892aDoor
open Go.RowKit
set_option linter.unusedSimpArgs false
set_option linter.unusedVariables false

def MViewP (m : MS) (w : World) (y : Ending) (w' : World) : Prop := ∃ a1 n1 c1 a2 n2 c2 a3 n3 c3, y = .returned (.agg #[.slice a1 n1 c1, .slice a2 n2 c2, .slice a3 n3 c3]) ∧
  Hid (Below w.heap.size w w' ∧ OR w' w.heap.size 64 4 entC (.slice a1 n1 c1) m.I ∧ OR w' w.heap.size 64 4 entC (.slice a2 n2 c2) m.M ∧ OR w' w.heap.size 29 1 keyC (.slice a3 n3 c3) m.O)
section
variable {B pb : Nat} {a1 : Option Addr} {n1 c1 : Nat} {a2 : Option Addr} {n2 c2 : Nat} {a3 : Option Addr} {n3 c3 : Nat} {m : MS} {w : World}
set_option maxRecDepth 100000 in
set_option maxHeartbeats 2000000 in
theorem mview_walk (h : MM B pb a1 n1 c1 a2 n2 c2 a3 n3 c3 m w) (hk : MOk m) : Calls Tryd.prog 14 #[.pointer (some ⟨pb, 0, none⟩)] w fun y w' => MViewP m w y w' := by
  have HL := hid (And.intro h.o1.lenS (And.intro h.o2.lenS h.o3.lenS))
  have HK := hid hk
  have hn1 : n1 ≤ 131072 := by have := h.o1.lenS; have := hk.l1; omega
  have hn2 : n2 ≤ 131072 := by have := h.o2.lenS; have := hk.l2; omega
  have hn3 : n3 ≤ 131072 := by have := h.o3.lenS; have := hk.l3; omega
  have HM := hid h
  clear h hk
  obtain ⟨ie, hie, hze, hsz1, hby1⟩ := info_entz
  have IE := hid (And.intro hie (And.intro hze (And.intro hsz1 hby1)))
  clear hie hze hsz1 hby1
  obtain ⟨iu, hiu, hzu, hsz2, hby2⟩ := info_u64z
  have IU := hid (And.intro hiu (And.intro hzu (And.intro hsz2 hby2)))
  clear hiu hzu hsz2 hby2
  have I := hid info_view
  obtain ⟨p2, hp2⟩ : ∃ p, w.heap.size = p := ⟨_, rfl⟩
  go_enter Tryd.func14, Tryd.ntmps14
  go_upto_region 1 with fail
  obtain ⟨w2, hw2⟩ : ∃ w2, w.alloc (.cells #[.slice none 0 0, .slice none 0 0, .slice none 0 0] 41) = w2 := ⟨_, rfl⟩
  have HB2 : Hid (Below w.heap.size w w2 ∧ Blk w2 p2 41 [.slice none 0 0, .slice none 0 0, .slice none 0 0]) := hid (by
    have k1 := Blk.new w [.slice none 0 0, .slice none 0 0, .slice none 0 0] 41
    rw [hp2] at k1
    rw [← hw2]
    exact ⟨nbel w _, k1⟩)
  (try simp only [hw2])
  clear hw2
  have HM2 := hid (HM.out.below HB2.out.1)
  refine wp_region_heavy (fun w3 => Below w2.heap.size w2 w3) 15 [0, 1, 2, 3, 5, 6, 7, 8, 10, 11, 12, 13] [4, 9, 14] rfl (by kernel_rfl) (by kernel_rfl) (fun d _ _ _ _ h => by cases d <;> exact h) (Drew.below ⟨1, rfl⟩ _) ?_
  apply Exists.intro
  refine ⟨?_, ?_⟩
  · intro W hW
    have d0 : ∀ x, (W x).cell? ⟨pb, 4, none⟩ = some (.slice a1 n1 c1) := fun x => (HM2.out.bk.below (hW x)).cell 4
    have d1 : ∀ x, (W x).cell? ⟨pb, 5, none⟩ = some (.slice a2 n2 c2) := fun x => (HM2.out.bk.below (hW x)).cell 5
    have d2 : ∀ x, (W x).cell? ⟨pb, 6, none⟩ = some (.slice a3 n3 c3) := fun x => (HM2.out.bk.below (hW x)).cell 6
    clear hW
    simp only [List.take, opsAt, List.drop, List.cons_append, List.nil_append]
    repeat (go_big_quiet_step (fail))
    exact rfl
  simp only [List.take, List.drop, opsAt, List.cons_append, List.nil_append, wpHv]
  have HBd : Hid (Below w2.heap.size w2 w2.drew) := hid (Drew.below ⟨1, rfl⟩ _)
  generalize w2.drew = wd at HBd ⊢
  have HMd := hid (HM2.out.below HBd.out)
  have HRd := hid (HMd.out.o1.rowE (by have := HK.out.l1; omega))
  refine wpList_append_row _ rfl (.const (.slice none 0 0)) (.tmp 6) 38 rfl wd.heap.size 64 ie (.agg #[.int .i64 0, .int .u64 0, .int .i64 0, .bool false]) 4 32 Tryd.underlying38 IE.out.1 IE.out.2.1 IE.out.2.2.1 IE.out.2.2.2 rfl (by decide) (.slice none 0 0) 0 [] rfl (World.ownsRow_nil _ _ _ _) a1 n1 c1 (m.I.flatMap entC) (by simp [Act.eval, Act.put]; done) (by rw [length_flatMap_const (f := entC) (sz := 4) m.I (fun x _ => rfl), HL.out.1]) (fun h => HRd.out.nil h) (HRd.out.cells (by omega) (fun _ => rfl)) (ents_oneM m.I) (by omega) (by decide) (Nat.le_refl _) ?_
  intro v7 wA hownA hbA hkA hgA
  have HOA : Hid (OR wA wd.heap.size 64 4 entC v7 m.I) := hid (by
    rw [Nat.zero_add, List.nil_append, ← HL.out.1] at hownA
    exact hownA)
  have HBA := hid hbA
  clear hownA hbA hkA hgA HRd
  obtain ⟨a7, n7, c7, h7⟩ := HOA.out.shape
  subst h7
  have HBA2 := hid (HBd.out.trans (HBA.out.mono HBd.out.size))
  go_wp2_with fail
  refine ⟨HBA2.out, ?_⟩
  have HRA := hid ((HMd.out.below HBA.out).o2.rowE (by have := HK.out.l2; omega))
  refine wpList_append_row _ rfl (.const (.slice none 0 0)) (.tmp 11) 38 rfl wA.heap.size 64 ie (.agg #[.int .i64 0, .int .u64 0, .int .i64 0, .bool false]) 4 32 Tryd.underlying38 IE.out.1 IE.out.2.1 IE.out.2.2.1 IE.out.2.2.2 rfl (by decide) (.slice none 0 0) 0 [] rfl (World.ownsRow_nil _ _ _ _) a2 n2 c2 (m.M.flatMap entC) (by simp [Act.eval, Act.put]; done) (by rw [length_flatMap_const (f := entC) (sz := 4) m.M (fun x _ => rfl), HL.out.2.1]) (fun h => HRA.out.nil h) (HRA.out.cells (by omega) (fun _ => rfl)) (ents_oneM m.M) (by omega) (by decide) (Nat.le_refl _) ?_
  intro v8 wB hownB hbB hkB hgB
  have HOB : Hid (OR wB wA.heap.size 64 4 entC v8 m.M) := hid (by
    rw [Nat.zero_add, List.nil_append, ← HL.out.2.1] at hownB
    exact hownB)
  have HBB := hid hbB
  clear hownB hbB hkB hgB HRA
  obtain ⟨a8, n8, c8, h8⟩ := HOB.out.shape
  subst h8
  have HBB2 := hid (HBA2.out.trans (HBB.out.mono HBA2.out.size))
  have HOA2 := hid (HOA.out.below HBB.out)
  go_wp2_with fail
  refine ⟨HBB2.out, ?_⟩
  have HRB := hid ((HM2.out.below HBB2.out).o3.rowU (by have := HK.out.l3; omega))
  refine wpList_append_row _ rfl (.const (.slice none 0 0)) (.tmp 16) 39 rfl wB.heap.size 29 iu (.int .u64 0) 1 8 Tryd.underlying39 IU.out.1 IU.out.2.1 IU.out.2.2.1 IU.out.2.2.2 rfl (by decide) (.slice none 0 0) 0 [] rfl (World.ownsRow_nil _ _ _ _) a3 n3 c3 (m.O.flatMap keyC) (by simp [Act.eval, Act.put]; done) (by rw [length_flatMap_const (f := keyC) (sz := 1) m.O (fun x _ => rfl), HL.out.2.2]) (fun h => HRB.out.nil h) (HRB.out.cells (by omega) (fun _ => rfl)) (keys_oneM m.O) (by omega) (by decide) (Nat.le_refl _) ?_
  intro v9 wC hownC hbC hkC hgC
  have HOC : Hid (OR wC wB.heap.size 29 1 keyC v9 m.O) := hid (by
    rw [Nat.zero_add, List.nil_append, ← HL.out.2.2] at hownC
    exact hownC)
  have HBC := hid hbC
  clear hownC hbC hkC hgC HRB
  obtain ⟨a9, n9, c9, h9⟩ := HOC.out.shape
  subst h9
  have HBC2 := hid (HBB2.out.trans (HBC.out.mono HBB2.out.size))
  have HOA3 := hid (HOA2.out.below HBC.out)
  have HOB3 := hid (HOB.out.below HBC.out)
  go_wp2_with fail
  refine ⟨HBC2.out, ?_⟩
  simp only [QN]
  have b2 := HB2.out.2.below HBC2.out
  have k1 := b2.set 0 (.slice a7 n7 c7)
  have k2 := k1.set 1 (.slice a8 n8 c8)
  have k3 := k2.set 2 (.slice a9 n9 c9)
  have f0 := b2.frozen 0
  have f1 := k1.frozen 1
  have f2 := k2.frozen 2
  have z0 := b2.cell 0
  have z1 := k1.cell 1
  have z2 := k2.cell 2
  simp only [List.set_cons_zero, List.set_cons_succ, List.getElem?_cons_zero, List.getElem?_cons_succ] at z0 z1 z2
  have HK3 := hid k3
  have HU : Hid (Upd p2 wC (((wC.setCell ⟨p2, 0, none⟩ (.slice a7 n7 c7)).setCell ⟨p2, 1, none⟩ (.slice a8 n8 c8)).setCell ⟨p2, 2, none⟩ (.slice a9 n9 c9))) := hid ((((Upd.refl p2 wC).setCell rfl _).setCell rfl _).setCell rfl _)
  have HF : Hid (∀ w', Upd p2 wC w' → Below w.heap.size w w' ∧ OR w' w.heap.size 64 4 entC (.slice a7 n7 c7) m.I ∧ OR w' w.heap.size 64 4 entC (.slice a8 n8 c8) m.M ∧ OR w' w.heap.size 29 1 keyC (.slice a9 n9 c9) m.O) := hid (fun w' hu => by
    have s1 := HB2.out.1.size
    have s2 := HBd.out.size
    have s3 := HBA.out.size
    have s4 := HBB.out.size
    have s5 := HBC.out.size
    refine ⟨(HB2.out.1.trans (HBC2.out.mono s1)).trans (hu.below (by omega) (by omega)), (HOA3.out.updT b2 (by decide) hu).mono (by omega), (HOB3.out.updT b2 (by decide) hu).mono (by omega), (HOC.out.updT b2 (by decide) hu).mono (by omega)⟩)
  have HFF := hid (HF.out _ HU.out)
  clear b2 k1 k2 k3 HF HU HOA HOB HOC HOA2 HOA3 HOB3 HBA HBB HBC HBA2 HBB2 HBC2 HBd HMd HM2 HB2 HM HL HK
  go_wp2
  refine bodyPost_ret (results_blk (cs := [.slice a7 n7 c7, .slice a8 n8 c8, .slice a9 n9 c9]) Tryd.results14 rfl I.out HK3.out) rfl ?_
  exact ⟨a7, n7, c7, a8, n8, c8, a9, n9, c9, rfl, HFF⟩
theorem field_view0 (x y z : Value) (w : World) : (Instr.field 41 (.agg #[x, y, z]) 0).run Tryd.prog w = .ok x w := by kernel_rfl
set_option maxRecDepth 100000 in
set_option maxHeartbeats 2000000 in
theorem liveKey_walk (h : MM B pb a1 n1 c1 a2 n2 c2 a3 n3 c3 m w) (hk : MOk m) (k : Nat) (x : Int) : Calls Tryd.prog 65 #[.pointer (some ⟨pb, 0, none⟩), .int .u64 (k : Int), .int .i64 x] w fun y w' => y = .returned (.bool (lkM m k x)) ∧ Below w.heap.size w w' := by
  have HVw := hid (fun (wz : World) (hz : Below w.heap.size w wz) => mview_walk (h.below hz) hk)
  have HL := hid (And.intro h.o1.lenS h.o2.lenS)
  have HK := hid hk
  have hn2 : n2 ≤ 131072 := by have := h.o2.lenS; have := hk.l2; omega
  have HM := hid h
  clear h hk
  obtain ⟨ie, hie, hze, hsz1, hby1⟩ := info_entz
  have IE := hid (And.intro hie (And.intro hze (And.intro hsz1 hby1)))
  clear hie hze hsz1 hby1
  go_enter Tryd.func65, Tryd.ntmps65
  go_upto_region 1 with fail
  refine wp_region_heavy (fun w3 => Below w.heap.size w w3) 10 [0, 3, 4, 5, 6, 9] [1, 2, 7, 8] rfl (by kernel_rfl) (by kernel_rfl) (fun d _ _ _ _ h => by cases d <;> exact h) (Drew.below ⟨1, rfl⟩ _) ?_
  apply Exists.intro
  refine ⟨?_, ?_⟩
  · intro W hW
    have d1 : ∀ x, (W x).cell? ⟨pb, 5, none⟩ = some (.slice a2 n2 c2) := fun x => (HM.out.bk.below (hW x)).cell 5
    clear hW
    simp only [List.take, opsAt, List.drop, List.cons_append, List.nil_append]
    repeat (go_big_quiet_step (fail))
    exact rfl
  simp only [List.take, List.drop, opsAt, List.cons_append, List.nil_append, wpHv]
  have HBd : Hid (Below w.heap.size w w.drew) := hid (Drew.below ⟨1, rfl⟩ _)
  generalize w.drew = wd at HBd ⊢
  go_wp2_with fail
  refine (HVw.out wd HBd.out).mono ?_
  rintro y w1 ⟨b1, e1, d1, b2, e2, d2, b3, e3, d3, rfl, HV⟩
  have HB1 : Hid (Below w.heap.size w w1) := hid (HBd.out.trans (HV.out.1.mono HBd.out.size))
  have hfl := fun wz => field_view0 (.slice b1 e1 d1) (.slice b2 e2 d2) (.slice b3 e3 d3) wz
  clear HVw
  go_wp2_with fail
  refine ⟨HB1.out, ?_⟩
  go_wp2_with fail
  refine ⟨HB1.out, ?_⟩
  have hl1 : m.I.length = e1 := HV.out.2.1.lenS
  have HRA := hid ((HM.out.below HB1.out).o2.rowE (by have := HK.out.l2; omega))
  refine wpList_append_row _ rfl (.tmp 11) (.tmp 15) 38 rfl wd.heap.size 64 ie (.agg #[.int .i64 0, .int .u64 0, .int .i64 0, .bool false]) 4 32 Tryd.underlying38 IE.out.1 IE.out.2.1 IE.out.2.2.1 IE.out.2.2.2 rfl (by decide) (.slice b1 e1 d1) _ _ (by simp [Act.eval, Act.put]; done) HV.out.2.1 a2 n2 c2 (m.M.flatMap entC) (by simp [Act.eval, Act.put]; done) (by rw [length_flatMap_const (f := entC) (sz := 4) m.M (fun x _ => rfl), HL.out.2]) (fun h => HRA.out.nil h) (HRA.out.cells (by omega) (fun _ => rfl)) (ents_oneM m.M) (by have := HK.out.l1; omega) (by decide) HV.out.1.size ?_
  intro v8 wB hownB hbB hkB hgB
  have HOB : Hid (OR wB wd.heap.size 64 4 entC v8 (m.I ++ m.M)) := hid (by
    rw [← HL.out.2, ← List.flatMap_append, ← List.length_append] at hownB
    exact hownB)
  have HBB : Hid (Below w.heap.size w wB) := hid (HBd.out.trans ((HV.out.1.trans hbB).mono HBd.out.size))
  clear hownB hbB hkB hgB HRA
  obtain ⟨a8, n8, c8, h8⟩ := HOB.out.shape
  subst h8
  go_wp2_with fail
  refine ⟨HBB.out, ?_⟩
  obtain ⟨l, hl⟩ : ∃ l, m.I ++ m.M = l := ⟨_, rfl⟩
  rw [hl] at HOB
  have HLk : Hid (lkM m k x = l.any fun t => decide (t.key = (k : Int)) && decide (t.slot ≠ x)) := hid (by unfold lkM; rw [hl])
  have hll : l.length ≤ 262144 := by rw [← hl, List.length_append]; have := HK.out.l1; have := HK.out.l2; omega
  have HL8 := hid HOB.out.lenS
  have hn8 : n8 ≤ 262144 := by have := HL8.out; omega
  have HR := hid (HOB.out.rowE (by omega))
  clear hl hll HOB HV HM HK HL hl1 HB1 HBd hfl
  go_wp2_with fail
  refine ⟨HBB.out, ?_⟩
  simp only [QN]
  go_upto_region 2 with fail
  go_loopw [18] (fun v wr => ∃ i : Nat, i ≤ n8 ∧ v = .int .i64 (i : Int) ∧ Hid ((∀ t ∈ l.take i, (decide (t.key = (k : Int)) && decide (t.slot ≠ x)) = false) ∧ Below wB.heap.size wB wr)) (fun v _ => n8 - (intOf v).toNat)
  case atStart => exact ⟨0, by omega, rfl, hid ⟨by simp, Below.refl _ _⟩⟩
  case round =>
  obtain ⟨i, hi, rfl, HX⟩ := hrel
  by_cases hin : i < n8
  · as_aux_lemma =>
    have di : decide ((i : Int) < (n8 : Int)) = true := decide_eq_true (by omega)
    have hii : (i : Int) < (n8 : Int) := by omega
    obtain ⟨t, b, off, ht, rfl, q0, q1, q2, q3⟩ := rowE_at (HR.out.below HX.out.2) hin
    have HT := hid ht
    clear ht
    obtain ⟨p9, hp9⟩ : ∃ p, wr.heap.size = p := ⟨_, rfl⟩
    have HB9 : Hid (Below wB.heap.size wB (wr.alloc (.cells #[.int .i64 t.slot, .int .u64 t.key, .int .i64 t.pins, .bool t.neg] 64)) ∧ Blk (wr.alloc (.cells #[.int .i64 t.slot, .int .u64 t.key, .int .i64 t.pins, .bool t.neg] 64)) p9 64 [.int .i64 t.slot, .int .u64 t.key, .int .i64 t.pins, .bool t.neg]) := hid (by
      have k1 := Blk.new wr [.int .i64 t.slot, .int .u64 t.key, .int .i64 t.pins, .bool t.neg] 64
      rw [hp9] at k1
      exact ⟨HX.out.2.trans ((nbel wr _).mono HX.out.2.size), k1⟩)
    go_upto_region 4 with fail
    generalize wr.alloc (.cells #[.int .i64 t.slot, .int .u64 t.key, .int .i64 t.pins, .bool t.neg] 64) = w9 at HB9 ⊢
    have m0 : w9.cell? ⟨p9, 0, none⟩ = some (.int .i64 t.slot) := HB9.out.2.cell 0
    have m1 : w9.cell? ⟨p9, 1, none⟩ = some (.int .u64 t.key) := HB9.out.2.cell 1
    obtain ⟨B1, hB1⟩ : ∃ b, decide (t.key = (k : Int)) = b := ⟨_, rfl⟩
    obtain ⟨B2, hB2⟩ : ∃ b, decide (t.slot ≠ x) = b := ⟨_, rfl⟩
    have e1 : (t.key == (k : Int)) = B1 := by rw [key_beqI]; exact hB1
    have e2 : (t.slot != x) = B2 := by rw [key_bneI]; exact hB2
    cases hB : (B1 && B2) with
    | true =>
      have HF : Hid (lkM m k x = true ∧ Below w.heap.size w w9) := hid ⟨by
        rw [HLk.out, List.any_eq_true]
        exact ⟨t, List.mem_of_getElem? HT.out, by rw [hB1, hB2]; exact hB⟩, HBB.out.trans (HB9.out.1.mono HBB.out.size)⟩
      rw [Bool.and_eq_true] at hB
      obtain ⟨rfl, rfl⟩ := hB
      clear HT HB9 HX hB1 hB2 q0 q1 q2 q3
      go_wp2
      go_ret
      exact ⟨by rw [HF.out.1]; rfl, HF.out.2⟩
    | false =>
      have HF : Hid ((∀ t ∈ l.take (i + 1), (decide (t.key = (k : Int)) && decide (t.slot ≠ x)) = false) ∧ Below wB.heap.size wB w9) := hid ⟨by
        rw [List.take_add_one, HT.out]
        intro u hu
        rcases List.mem_append.1 hu with h1 | h1
        · exact HX.out.1 u h1
        · simp only [Option.toList_some, List.mem_singleton] at h1
          rw [h1, hB1, hB2]
          exact hB, HB9.out.1⟩
      clear HT HB9 HX hB1 hB2 q0 q1 q2 q3
      cases B1 with
      | false =>
        go_wp2
        exact ⟨⟨i + 1, by omega, by go_num, HF⟩, by simp [intOf]; omega⟩
      | true =>
        rw [Bool.true_and] at hB
        subst hB
        go_wp2
        exact ⟨⟨i + 1, by omega, by go_num, HF⟩, by simp [intOf]; omega⟩
  · as_aux_lemma =>
    have di : decide ((i : Int) < (n8 : Int)) = false := decide_eq_false (by omega)
    have HF : Hid (lkM m k x = false ∧ Below w.heap.size w wr) := hid ⟨by
      have h1 := HX.out.1
      rw [List.take_of_length_le (by have := HL8.out; omega)] at h1
      rw [HLk.out]
      exact List.any_eq_false.2 fun u hu e => (by rw [h1 u hu] at e; cases e), HBB.out.trans (HX.out.2.mono HBB.out.size)⟩
    clear HX
    go_wp2
    go_ret
    exact ⟨by rw [HF.out.1]; rfl, HF.out.2⟩
end
end Go.Proofs.Qxb6500892aDoor
