/- The model's add, pageOut. -/
import Derived.Test.Qxb6500892aDoorTqM3
namespace Go.Proofs.Qxb6500892aDoor
open Go.RowKit
set_option linter.unusedSimpArgs false
set_option linter.unusedVariables false

section
variable {B pb : Nat} {a1 : Option Addr} {n1 c1 : Nat} {a2 : Option Addr} {n2 c2 : Nat} {a3 : Option Addr} {n3 c3 : Nat} {m : MS} {w : World}
def addM (m : MS) (x : Int) (k : Nat) (b hot : Bool) : MS := if hot = true then { m with M := ⟨x, k, 0, b⟩ :: m.M } else { m with I := ⟨x, k, 0, b⟩ :: m.I }
set_option maxRecDepth 100000 in
set_option maxHeartbeats 2000000 in
theorem add_walk (h : MM B pb a1 n1 c1 a2 n2 c2 a3 n3 c3 m w) (hl1 : m.I.length ≤ 131072) (hl2 : m.M.length ≤ 131072) (x : Int) (k : Nat) (b hot : Bool) : Calls Tryd.prog 66 #[.pointer (some ⟨pb, 0, none⟩), .int .i64 x, .int .u64 (k : Int), .bool b, .bool hot] w fun y w' => y = .returned (.tuple #[]) ∧ MX B pb (addM m x k b hot) w' ∧ Upd pb w w' := by
  have HM := hid h
  have HL := hid (And.intro h.o1.lenS (And.intro h.o2.lenS (And.intro hl1 hl2)))
  clear h hl1 hl2
  obtain ⟨p9, hp9⟩ : ∃ p, w.heap.size = p := ⟨_, rfl⟩
  go_enter Tryd.func66, Tryd.ntmps66
  go_upto_region 1 with fail
  obtain ⟨w9, hw9⟩ : ∃ w9, w.alloc (.cells #[.int .i64 x, .int .u64 (k : Int), .int .i64 0, .bool b] 64) = w9 := ⟨_, rfl⟩
  have HB9 : Hid (Below w.heap.size w w9 ∧ Blk w9 p9 64 [.int .i64 x, .int .u64 (k : Int), .int .i64 0, .bool b]) := hid (by
    have k1 := Blk.new w [.int .i64 x, .int .u64 (k : Int), .int .i64 0, .bool b] 64
    rw [hp9] at k1
    rw [← hw9]
    exact ⟨nbel w _, k1⟩)
  (try simp only [hw9])
  clear hw9
  cases hot with
  | true =>
    as_aux_lemma =>
    go_upto_region 2 with fail
    have HIf : Hid (∀ wz, Below w9.heap.size w9 wz → Calls Tryd.prog 68 #[.agg #[.int .i64 x, .int .u64 (k : Int), .int .i64 0, .bool b], .slice a2 n2 c2] wz fun y w' => ∃ a' n' c', y = .returned (.slice a' n' c') ∧ OR w' wz.heap.size 64 4 entC (.slice a' n' c') (⟨x, k, 0, b⟩ :: m.M) ∧ Below wz.heap.size wz w') := hid (fun wz hz => inFront_walk (((HM.out.below HB9.out.1).below hz).o2.rowE (by have := HL.out; omega)) (by have := HL.out; omega) ⟨x, k, 0, b⟩)
    refine wp_region_heavy (fun w3 => Below w9.heap.size w9 w3) 7 [0, 1, 2, 3, 4, 5] [6] rfl (by kernel_rfl) (by kernel_rfl) (fun d _ _ _ _ h => by cases d <;> exact h) (Drew.below ⟨1, rfl⟩ _) ?_
    apply Exists.intro
    refine ⟨?_, ?_⟩
    · intro W hW
      have d5 : ∀ x, (W x).cell? ⟨pb, 5, none⟩ = some (.slice a2 n2 c2) := fun u => ((HM.out.bk.below HB9.out.1).below (hW u)).cell 5
      have e0 : ∀ u, (W u).cell? ⟨p9, 0, none⟩ = some (.int .i64 x) := fun u => (HB9.out.2.below (hW u)).cell 0
      have e1 : ∀ u, (W u).cell? ⟨p9, 1, none⟩ = some (.int .u64 (k : Int)) := fun u => (HB9.out.2.below (hW u)).cell 1
      have e2 : ∀ u, (W u).cell? ⟨p9, 2, none⟩ = some (.int .i64 0) := fun u => (HB9.out.2.below (hW u)).cell 2
      have e3 : ∀ u, (W u).cell? ⟨p9, 3, none⟩ = some (.bool b) := fun u => (HB9.out.2.below (hW u)).cell 3
      clear hW
      simp only [List.take, opsAt, List.drop, List.cons_append, List.nil_append]
      repeat (go_big_quiet_step (fail))
      exact rfl
    simp only [List.take, List.drop, opsAt, List.cons_append, List.nil_append, wpHv]
    have HBd : Hid (Below w9.heap.size w9 w9.drew) := hid (Drew.below ⟨1, rfl⟩ _)
    generalize w9.drew = wd at HBd ⊢
    go_wp2_with fail
    refine (HIf.out wd HBd.out).mono ?_
    rintro y w5 ⟨a5, n5, c5, rfl, ho5, hb5⟩
    have HB5 : Hid (Below w9.heap.size w9 w5) := hid (HBd.out.trans (hb5.mono HBd.out.size))
    have HM9 := hid (HM.out.below HB9.out.1)
    have HM5 := hid (HM9.out.below HB5.out)
    have HF : Hid (MX B pb (addM m x k b true) (w5.setCell ⟨pb, 5, none⟩ (.slice a5 n5 c5)) ∧ Upd pb w (w5.setCell ⟨pb, 5, none⟩ (.slice a5 n5 c5))) := hid (by
      have s1 := HB9.out.1.size
      have s2 := HBd.out.size
      have s3 := HM.out.b0
      exact ⟨⟨_, _, _, _, _, _, _, _, _, HM5.out.put2 (ho5.mono (by omega)) (HM.out.o1.apart ho5 (by omega))⟩, (((Upd.refl pb w).ofBelow HB9.out.1).ofBelow HB5.out).setCell rfl _⟩)
    have zc : w5.cell? ⟨pb, 5, none⟩ = some (.slice a2 n2 c2) := HM5.out.bk.cell 5
    have zf : w5.frozen? ⟨pb, 5, none⟩ = false := HM5.out.bk.frozen 5
    clear ho5 hb5 HIf HM5 HM9
    go_wp2_with fail
    refine ⟨HB5.out, ?_⟩
    simp only [QN]
    go_wp2
    refine bodyPost_end (results_none Tryd.results66 _ _ _) rfl ?_
    exact ⟨rfl, HF.out.1, HF.out.2⟩
  | false =>
    as_aux_lemma =>
    go_upto_region 3 with fail
    have HIf : Hid (∀ wz, Below w9.heap.size w9 wz → Calls Tryd.prog 68 #[.agg #[.int .i64 x, .int .u64 (k : Int), .int .i64 0, .bool b], .slice a1 n1 c1] wz fun y w' => ∃ a' n' c', y = .returned (.slice a' n' c') ∧ OR w' wz.heap.size 64 4 entC (.slice a' n' c') (⟨x, k, 0, b⟩ :: m.I) ∧ Below wz.heap.size wz w') := hid (fun wz hz => inFront_walk (((HM.out.below HB9.out.1).below hz).o1.rowE (by have := HL.out; omega)) (by have := HL.out; omega) ⟨x, k, 0, b⟩)
    refine wp_region_heavy (fun w3 => Below w9.heap.size w9 w3) 7 [0, 1, 2, 3, 4, 5] [6] rfl (by kernel_rfl) (by kernel_rfl) (fun d _ _ _ _ h => by cases d <;> exact h) (Drew.below ⟨1, rfl⟩ _) ?_
    apply Exists.intro
    refine ⟨?_, ?_⟩
    · intro W hW
      have d5 : ∀ x, (W x).cell? ⟨pb, 4, none⟩ = some (.slice a1 n1 c1) := fun u => ((HM.out.bk.below HB9.out.1).below (hW u)).cell 4
      have e0 : ∀ u, (W u).cell? ⟨p9, 0, none⟩ = some (.int .i64 x) := fun u => (HB9.out.2.below (hW u)).cell 0
      have e1 : ∀ u, (W u).cell? ⟨p9, 1, none⟩ = some (.int .u64 (k : Int)) := fun u => (HB9.out.2.below (hW u)).cell 1
      have e2 : ∀ u, (W u).cell? ⟨p9, 2, none⟩ = some (.int .i64 0) := fun u => (HB9.out.2.below (hW u)).cell 2
      have e3 : ∀ u, (W u).cell? ⟨p9, 3, none⟩ = some (.bool b) := fun u => (HB9.out.2.below (hW u)).cell 3
      clear hW
      simp only [List.take, opsAt, List.drop, List.cons_append, List.nil_append]
      repeat (go_big_quiet_step (fail))
      exact rfl
    simp only [List.take, List.drop, opsAt, List.cons_append, List.nil_append, wpHv]
    have HBd : Hid (Below w9.heap.size w9 w9.drew) := hid (Drew.below ⟨1, rfl⟩ _)
    generalize w9.drew = wd at HBd ⊢
    go_wp2_with fail
    refine (HIf.out wd HBd.out).mono ?_
    rintro y w5 ⟨a5, n5, c5, rfl, ho5, hb5⟩
    have HB5 : Hid (Below w9.heap.size w9 w5) := hid (HBd.out.trans (hb5.mono HBd.out.size))
    have HM9 := hid (HM.out.below HB9.out.1)
    have HM5 := hid (HM9.out.below HB5.out)
    have HF : Hid (MX B pb (addM m x k b false) (w5.setCell ⟨pb, 4, none⟩ (.slice a5 n5 c5)) ∧ Upd pb w (w5.setCell ⟨pb, 4, none⟩ (.slice a5 n5 c5))) := hid (by
      have s1 := HB9.out.1.size
      have s2 := HBd.out.size
      have s3 := HM.out.b0
      exact ⟨⟨_, _, _, _, _, _, _, _, _, HM5.out.put1 (ho5.mono (by omega)) (HM.out.o2.apart' ho5 (by omega))⟩, (((Upd.refl pb w).ofBelow HB9.out.1).ofBelow HB5.out).setCell rfl _⟩)
    have zc : w5.cell? ⟨pb, 4, none⟩ = some (.slice a1 n1 c1) := HM5.out.bk.cell 4
    have zf : w5.frozen? ⟨pb, 4, none⟩ = false := HM5.out.bk.frozen 4
    clear ho5 hb5 HIf HM5 HM9
    go_wp2_with fail
    refine ⟨HB5.out, ?_⟩
    simp only [QN]
    go_wp2
    refine bodyPost_end (results_none Tryd.results66 _ _ _) rfl ?_
    exact ⟨rfl, HF.out.1, HF.out.2⟩
/-- What follows from the two withouts. -/
def outM (m : MS) (x : Int) : MS := { m with I := woutI m.I x, M := woutI m.M x }
theorem wout_len (l : List TEnt) (x : Int) : (woutI l x).length ≤ l.length := List.length_filter_le _ _
theorem take_or {α : Type} {l : List α} {x : α} {k : Nat} (h : l.length ≤ k) : (x :: l).take k = if k < l.length + 1 then (x :: l).dropLast else x :: l := by
  by_cases hk : k < l.length + 1
  · rw [if_pos hk, List.dropLast_eq_take]
    congr 1
    simp
    omega
  · rw [if_neg hk, List.take_of_length_le (by simp; omega)]
set_option maxRecDepth 100000 in
set_option maxHeartbeats 4000000 in
theorem pageOut_walk (h : MM B pb a1 n1 c1 a2 n2 c2 a3 n3 c3 m w) (hk : MOk m) (x : Int) (he : errM m x = 0) : Calls Tryd.prog 56 #[.pointer (some ⟨pb, 0, none⟩), .int .i64 x] w fun y w' => y = .returned (.tuple #[]) ∧ MX B pb (pgM m x) w' ∧ Upd pb w w' := by
  have HM := hid h
  have HK := hid hk
  have HEn := hid (mentry_walk h hk x)
  have HL := hid (And.intro h.o1.lenS (And.intro h.o2.lenS h.o3.lenS))
  have HE := hid he
  have hn1 : n1 ≤ 131072 := by have := HL.out.1; have := hk.l1; omega
  have hn2 : n2 ≤ 131072 := by have := HL.out.2.1; have := hk.l2; omega
  have hn3 : n3 ≤ 131072 := by have := HL.out.2.2; have := hk.l3; omega
  clear h hk he
  obtain ⟨iu, hiu, hzu, hsz2, hby2⟩ := info_u64z
  have IU := hid (And.intro hiu (And.intro hzu (And.intro hsz2 hby2)))
  clear hiu hzu hsz2 hby2
  go_enter Tryd.func56, Tryd.ntmps56
  go_wp2_with fail
  refine HEn.out.mono ?_
  rintro y w1 ⟨hP, hw1⟩
  have hw1' := hw1.symm
  clear hw1
  subst hw1'
  clear HEn
  rcases hP with ⟨h0, _⟩ | ⟨_, g, i, t, rfl, HP⟩
  · exact absurd HE.out h0
  obtain ⟨q0, q1, q2, q3, _⟩ := HM.out.at HK.out HP.out.1
  obtain ⟨p9, hp9⟩ : ∃ p, w.heap.size = p := ⟨_, rfl⟩
  go_upto_region 2 with fail
  obtain ⟨w9, hw9⟩ : ∃ w9, w.alloc (.cells #[.int .i64 t.slot, .int .u64 t.key, .int .i64 t.pins, .bool t.neg] 64) = w9 := ⟨_, rfl⟩
  have HB9 : Hid (Below w.heap.size w w9 ∧ Blk w9 p9 64 [.int .i64 t.slot, .int .u64 t.key, .int .i64 t.pins, .bool t.neg]) := hid (by
    have k1 := Blk.new w [.int .i64 t.slot, .int .u64 t.key, .int .i64 t.pins, .bool t.neg] 64
    rw [hp9] at k1
    rw [← hw9]
    exact ⟨nbel w _, k1⟩)
  (try simp only [hw9])
  clear hw9 q0 q1 q2 q3
  have HM9 := hid (HM.out.below HB9.out.1)
  have HIa := hid (inAm_walk HM9.out HK.out.l2 x)
  obtain ⟨bA, hbA⟩ : ∃ b, inAm m x = b := ⟨_, rfl⟩
  rw [hbA] at HIa
  have HbA := hid hbA
  clear hbA
  go_wp2_with fail
  refine HIa.out.mono ?_
  rintro y w3 ⟨rfl, hb3⟩
  have HB3 := hid (HB9.out.2.below hb3)
  have HM3 := hid (HM9.out.below hb3)
  have HW3 : Hid (Below w.heap.size w w3) := hid (HB9.out.1.trans (hb3.mono HB9.out.1.size))
  clear hb3 HIa HM9 HB9
  go_upto_region 3 with fail
  have HWo : Hid (∀ wz, Below w3.heap.size w3 wz → ∀ a' n' c' l', OR wz B 64 4 entC (.slice a' n' c') l' → l'.length ≤ 131072 → Calls Tryd.prog 69 #[.slice a' n' c', .int .i64 x] wz fun y w' => ∃ a' n' c', y = .returned (.slice a' n' c') ∧ OR w' wz.heap.size 64 4 entC (.slice a' n' c') (woutI l' x) ∧ Below wz.heap.size wz w') := hid (fun wz hz a' n' c' l' ho hl => without_walk (ho.rowE (by omega)) (by have := ho.lenS; omega) x)
  refine wp_region_heavy (fun w4 => w4.cell? ⟨pb, 5, none⟩ = some (.slice a2 n2 c2)) 17 [0, 1, 2, 3, 4, 6, 8, 9, 10, 11, 12] [5, 7, 13, 14, 15, 16] rfl (by kernel_rfl) (by kernel_rfl) (fun d _ _ _ _ h => by cases d <;> exact h) (HM3.out.bk.cell 5) ?_
  apply Exists.intro
  refine ⟨?_, ?_⟩
  · intro W hW
    have d5 : ∀ x, (W x).cell? ⟨pb, 5, none⟩ = some (.slice a2 n2 c2) := fun u => hW u
    clear hW
    simp only [List.take, opsAt, List.drop, List.cons_append, List.nil_append]
    repeat (go_big_quiet_step (fail))
    exact rfl
  simp only [List.take, List.drop, opsAt, List.cons_append, List.nil_append, wpHv]
  have HBd : Hid (Below w3.heap.size w3 w3.drew) := hid (Drew.below ⟨1, rfl⟩ _)
  generalize w3.drew = wd at HBd ⊢
  have HMd := hid (HM3.out.below HBd.out)
  have z4 : wd.cell? ⟨pb, 4, none⟩ = some (.slice a1 n1 c1) := HMd.out.bk.cell 4
  have s0 : wd.cell? ⟨pb, 5, none⟩ = some (.slice a2 n2 c2) := HMd.out.bk.cell 5
  go_wp2_with fail
  refine ⟨s0, ?_⟩
  go_wp2_with fail
  refine (HWo.out wd HBd.out a1 n1 c1 m.I HMd.out.o1 HK.out.l1).mono ?_
  rintro y w5 ⟨a5, n5, c5, rfl, ho5, hb5⟩
  have HO5 := hid ho5
  have HM5 := hid (HMd.out.below hb5)
  have HB5 : Hid (Below w3.heap.size w3 w5) := hid (HBd.out.trans (hb5.mono HBd.out.size))
  have s1 : w5.cell? ⟨pb, 5, none⟩ = some (.slice a2 n2 c2) := HM5.out.bk.cell 5
  clear ho5 hb5 z4 s0
  go_wp2_with fail
  refine ⟨s1, ?_⟩
  go_wp2_with fail
  refine (HWo.out w5 HB5.out a2 n2 c2 m.M HM5.out.o2 HK.out.l2).mono ?_
  rintro y w6 ⟨a6, n6, c6, rfl, ho6, hb6⟩
  have HO6 := hid ho6
  have HM6 := hid (HM5.out.below hb6)
  have HB6 : Hid (Below w3.heap.size w3 w6) := hid (HB5.out.trans (hb6.mono HB5.out.size))
  have HO56 := hid (HO5.out.below hb6)
  have s2 : w6.cell? ⟨pb, 5, none⟩ = some (.slice a2 n2 c2) := HM6.out.bk.cell 5
  have z4 : w6.cell? ⟨pb, 4, none⟩ = some (.slice a1 n1 c1) := HM6.out.bk.cell 4
  have f4 : w6.frozen? ⟨pb, 4, none⟩ = false := HM6.out.bk.frozen 4
  have s3 : (w6.setCell ⟨pb, 4, none⟩ (.slice a5 n5 c5)).cell? ⟨pb, 5, none⟩ = some (.slice a2 n2 c2) := (HM6.out.bk.set 4 (.slice a5 n5 c5)).cell 5
  have f5 : (w6.setCell ⟨pb, 4, none⟩ (.slice a5 n5 c5)).frozen? ⟨pb, 5, none⟩ = false := (HM6.out.bk.set 4 (.slice a5 n5 c5)).frozen 5
  have HM7 : Hid (MM B pb a5 n5 c5 a6 n6 c6 a3 n3 c3 (outM m x) ((w6.setCell ⟨pb, 4, none⟩ (.slice a5 n5 c5)).setCell ⟨pb, 5, none⟩ (.slice a6 n6 c6)) ∧ Upd pb w ((w6.setCell ⟨pb, 4, none⟩ (.slice a5 n5 c5)).setCell ⟨pb, 5, none⟩ (.slice a6 n6 c6)) ∧ Blk ((w6.setCell ⟨pb, 4, none⟩ (.slice a5 n5 c5)).setCell ⟨pb, 5, none⟩ (.slice a6 n6 c6)) p9 64 [.int .i64 t.slot, .int .u64 t.key, .int .i64 t.pins, .bool t.neg]) := hid (by
    have g1 := HM.out.b0
    have g2 := HW3.out.size
    have g3 := HBd.out.size
    have g4 := HB5.out.size
    have hu : Upd pb w6 ((w6.setCell ⟨pb, 4, none⟩ (.slice a5 n5 c5)).setCell ⟨pb, 5, none⟩ (.slice a6 n6 c6)) := ((Upd.refl pb w6).setCell rfl _).setCell rfl _
    have hb9 := HB3.out.below HB6.out
    exact ⟨HM6.out.put12 (HO56.out.mono (by omega)) (HO6.out.mono (by omega)) (HO5.out.apart HO6.out (Nat.le_refl _)), (((Upd.refl pb w).ofBelow HW3.out).ofBelow HB6.out).trans hu, hb9.upd hu (hb9.tne HM6.out.bk (by decide))⟩)
  clear ho6 hb6 HWo HO5 HO6 HO56 HM5 HM6 HB5 HB6 HMd HBd HM3 HB3 s1
  go_wp2_with fail
  refine ⟨s2, ?_⟩
  go_wp2_with fail
  refine ⟨s2, ?_⟩
  go_wp2_with fail
  refine ⟨s2, ?_⟩
  go_wp2_with fail
  refine ⟨s3, ?_⟩
  simp only [QN]
  go_upto_region 4 with fail
  clear z4 f4 s2 s3 f5
  generalize (w6.setCell ⟨pb, 4, none⟩ (.slice a5 n5 c5)).setCell ⟨pb, 5, none⟩ (.slice a6 n6 c6) = w7 at HM7 ⊢
  obtain ⟨bN, hbN⟩ : ∃ b, t.neg = b := ⟨_, rfl⟩
  rw [hbN] at HM7
  have HbN := hid hbN
  clear hbN
  have k3 : w7.cell? ⟨p9, 3, none⟩ = some (.bool bN) := HM7.out.2.2.cell 3
  by_cases hc : bA = true ∨ bN = true
  · as_aux_lemma =>
    have HG : Hid (MX B pb (pgM m x) w7 ∧ Upd pb w w7) := hid (by
      have e : pgM m x = outM m x := by
        have : goneM m x = m.O := by
          unfold goneM
          rw [HP.out.2.1]
          exact if_neg (by rw [HbA.out, HbN.out]; rcases hc with e | e <;> rw [e] <;> simp)
        unfold pgM
        rw [this]
        rfl
      rw [e]
      exact ⟨⟨_, _, _, _, _, _, _, _, _, HM7.out.1⟩, HM7.out.2.1⟩)
    clear HM7 HM
    rcases hc with rfl | rfl
    · go_wp2
      refine bodyPost_end (results_none Tryd.results56 _ _ _) rfl ?_
      exact ⟨rfl, HG.out.1, HG.out.2⟩
    · cases bA
      · go_wp2
        refine bodyPost_end (results_none Tryd.results56 _ _ _) rfl ?_
        exact ⟨rfl, HG.out.1, HG.out.2⟩
      · go_wp2
        refine bodyPost_end (results_none Tryd.results56 _ _ _) rfl ?_
        exact ⟨rfl, HG.out.1, HG.out.2⟩
  obtain ⟨rfl, rfl⟩ : bA = false ∧ bN = false := by
    cases bA <;> cases bN <;> simp at hc ⊢
  clear hc
  have hkey : 0 ≤ t.key := HK.out.ky t (by
    rcases HP.out.1 with ⟨_, h1⟩ | ⟨_, h1⟩
    · exact List.mem_append_left _ (List.mem_of_getElem? h1)
    · exact List.mem_append_right _ (List.mem_of_getElem? h1))
  obtain ⟨ky, hky⟩ : ∃ ky : Nat, t.key = (ky : Int) := ⟨t.key.toNat, by omega⟩
  rw [hky] at HM7
  have HGo : Hid (pgM m x = { outM m x with O := if m.kout < m.O.length + 1 then (ky :: m.O).dropLast else ky :: m.O }) := hid (by
    have : goneM m x = (ky :: m.O).take m.kout := by
      unfold goneM
      rw [HP.out.2.1]
      show (if inAm m x = false ∧ t.neg = false then (t.key.toNat :: m.O).take m.kout else m.O) = _
      rw [if_pos ⟨HbA.out, HbN.out⟩, hky, Int.toNat_natCast]
    unfold pgM
    rw [this, take_or HK.out.lk]
    rfl)
  clear hky hkey HP HbA HbN
  go_upto_region 5 with fail
  clear k3
  refine wp_region_heavy (fun w4 => Below w7.heap.size w7 w4) 9 [0, 1, 2, 4, 5, 6, 7] [3, 8] rfl (by kernel_rfl) (by kernel_rfl) (fun d _ _ _ _ h => by cases d <;> exact h) (Drew.below ⟨1, rfl⟩ _) ?_
  apply Exists.intro
  refine ⟨?_, ?_⟩
  · intro W hW
    have d5 : ∀ x, (W x).cell? ⟨pb, 6, none⟩ = some (.slice a3 n3 c3) := fun u => (HM7.out.1.bk.below (hW u)).cell 6
    have d6 : ∀ x, (W x).cell? ⟨p9, 1, none⟩ = some (.int .u64 (ky : Int)) := fun u => (HM7.out.2.2.below (hW u)).cell 1
    clear hW
    simp only [List.take, opsAt, List.drop, List.cons_append, List.nil_append]
    repeat (go_big_quiet_step (fail))
    exact rfl
  simp only [List.take, List.drop, opsAt, List.cons_append, List.nil_append, wpHv]
  have HBd : Hid (Below w7.heap.size w7 w7.drew) := hid (Drew.below ⟨1, rfl⟩ _)
  generalize w7.drew = wd2 at HBd ⊢
  obtain ⟨p6, hp6⟩ : ∃ p, wd2.heap.size = p := ⟨_, rfl⟩
  go_wp2_with fail
  obtain ⟨wf, hwf⟩ : ∃ wf, wd2.alloc (.cells #[.int .u64 (ky : Int)] 29) = wf := ⟨_, rfl⟩
  have HBf : Hid (Below w7.heap.size w7 wf) := hid (by rw [← hwf]; exact HBd.out.trans ((nbel wd2 _).mono HBd.out.size))
  have HOf : Hid (OR wf w7.heap.size 29 1 keyC (.slice (some ⟨p6, 0, none⟩) 1 1) [ky]) := hid (by
    have k := Blk.new wd2 [.int .u64 (ky : Int)] 29
    rw [hp6] at k
    rw [← hwf]
    exact ⟨rfl, .inr ⟨p6, 1, #[.int .u64 (ky : Int)], rfl, by have := HBd.out.size; omega, k, Nat.le_refl _, by decide, rfl, rfl⟩⟩)
  (try simp only [hwf])
  refine ⟨HBf.out, ?_⟩
  clear hwf hp6
  have HRf := hid ((HM7.out.1.below HBf.out).o3.rowU (by have := HK.out.l3; show m.O.length ≤ _; omega))
  refine wpList_append_row _ rfl (.tmp 48) (.tmp 52) 39 rfl w7.heap.size 29 iu (.int .u64 0) 1 8 Tryd.underlying39 IU.out.1 IU.out.2.1 IU.out.2.2.1 IU.out.2.2.2 rfl (by decide) (.slice (some ⟨p6, 0, none⟩) 1 1) _ _ (by simp [Act.eval, Act.put]; done) HOf.out a3 n3 c3 (m.O.flatMap keyC) (by simp [Act.eval, Act.put]; done) (by rw [length_flatMap_const (f := keyC) (sz := 1) m.O (fun x _ => rfl), HL.out.2.2]) (fun h => HRf.out.nil h) (HRf.out.cells (by omega) (fun _ => rfl)) (keys_oneM m.O) (by simp; omega) (by decide) HBf.out.size ?_
  intro v8 w8 hown8 hb8 hk8 hg8
  have HO8 : Hid (OR w8 w7.heap.size 29 1 keyC v8 (ky :: m.O)) := hid (by
    unfold OR
    have := hown8
    rw [← List.flatMap_append, ← HL.out.2.2, ← List.length_append] at this
    exact this)
  have HB8 := hid (HBf.out.trans hb8)
  clear hown8 hb8 hk8 hg8 HOf HRf HBf HBd
  obtain ⟨a8, n8, c8, h8⟩ := HO8.out.shape
  subst h8
  have HM8 := hid (HM7.out.1.below HB8.out)
  have z6 : w8.cell? ⟨pb, 6, none⟩ = some (.slice a3 n3 c3) := HM8.out.bk.cell 6
  have f6 : w8.frozen? ⟨pb, 6, none⟩ = false := HM8.out.bk.frozen 6
  have hn8 : n8 = m.O.length + 1 := by have := HO8.out.lenS; rw [← this]; rfl
  have hb8 : n8 ≤ 131073 := by have := HK.out.l3; omega
  have HN8 := hid hn8
  clear hn8
  have HMa : Hid (MM B pb a5 n5 c5 a6 n6 c6 a8 n8 c8 { outM m x with O := ky :: m.O } (w8.setCell ⟨pb, 6, none⟩ (.slice a8 n8 c8)) ∧ Upd pb w (w8.setCell ⟨pb, 6, none⟩ (.slice a8 n8 c8))) := hid (by
    have g1 := HM7.out.1.b0
    exact ⟨HM8.out.put3 (HO8.out.mono g1), (HM7.out.2.1.ofBelow HB8.out).setCell rfl _⟩)
  go_wp2_with fail
  refine ⟨HB8.out, ?_⟩
  simp only [QN]
  go_upto_region 6 with fail
  clear z6 f6 HM8 HO8 HB8 HM7
  generalize w8.setCell ⟨pb, 6, none⟩ (.slice a8 n8 c8) = wa at HMa ⊢
  obtain ⟨ko, hko⟩ : ∃ k, m.kout = k := ⟨_, rfl⟩
  have t2 : ∀ nn, (wa.drewN nn).cell? ⟨pb, 2, none⟩ = some (.int .i64 (ko : Int)) := fun nn => by rw [← hko]; exact HMa.out.1.bk.cell 2
  have t6 : ∀ nn, (wa.drewN nn).cell? ⟨pb, 6, none⟩ = some (.slice a8 n8 c8) := fun nn => HMa.out.1.bk.cell 6
  obtain ⟨B2, hB2⟩ : ∃ b, decide (ko < n8) = b := ⟨_, rfl⟩
  have hB3 : decide ((n8 : Int) > (ko : Int)) = B2 := by rw [← hB2]; exact decide_eq_decide.2 (by omega)
  have hB4 : decide ((ko : Int) < (n8 : Int)) = B2 := hB3
  rw [hko, ← HN8.out] at HGo
  clear hko HN8
  go_quiet (fail)
  have HMb : Hid (MM B pb a5 n5 c5 a6 n6 c6 a8 n8 c8 { outM m x with O := ky :: m.O } (wa.drewN nq) ∧ Upd pb w (wa.drewN nq)) := hid ⟨HMa.out.1.below (Drew.below ⟨nq, rfl⟩ _), HMa.out.2.drewN nq⟩
  generalize wa.drewN nq = wb at HMb ⊢
  clear t2 t6 HMa
  cases B2 with
  | false =>
    as_aux_lemma =>
    have HF : Hid (MX B pb (pgM m x) wb) := hid (by
      rw [HGo.out, if_neg (of_decide_eq_false hB2)]
      exact ⟨_, _, _, _, _, _, _, _, _, HMb.out.1⟩)
    have HU := hid HMb.out.2
    clear hB2 HMb HGo
    go_wp2
    refine bodyPost_end (results_none Tryd.results56 _ _ _) rfl ?_
    exact ⟨rfl, HF.out, HU.out⟩
  | true =>
  as_aux_lemma =>
  have hB5 := of_decide_eq_true hB2
  rw [if_pos hB5] at HGo
  obtain ⟨m8, rfl⟩ : ∃ q, n8 = q + 1 := ⟨n8 - 1, by omega⟩
  obtain ⟨_, g8, rfl, hmc8⟩ := HMb.out.1.o3.init'
  have hmm8 : ((m8 + 1 : Nat) : Int) - 1 = (m8 : Int) := by omega
  clear hB2 hB3 hB4 hB5
  go_upto_region 7 with fail
  have HMc : Hid (MM B pb a5 n5 c5 a6 n6 c6 (some ⟨g8, 0, none⟩) (m8 + 1) c8 { outM m x with O := ky :: m.O } wb.drew) := hid (HMb.out.1.below (Drew.below ⟨1, rfl⟩ _))
  have HUc : Hid (Upd pb w wb.drew) := hid (HMb.out.2.drewN 1)
  refine wp_region_heavy (fun w' => w'.cell? ⟨pb, 6, none⟩ = some (.slice (some ⟨g8, 0, none⟩) (m8 + 1) c8)) 12 [0, 1, 2, 3, 4, 5, 6, 7, 8, 9, 10, 11] [] rfl (by kernel_rfl) (by kernel_rfl) (fun d _ _ _ _ h => by cases d <;> exact h) (HMc.out.bk.cell 6) ?_
  apply Exists.intro
  refine ⟨?_, ?_⟩
  · intro W hW
    have d0 : ∀ u, (W u).cell? ⟨pb, 6, none⟩ = some (.slice (some ⟨g8, 0, none⟩) (m8 + 1) c8) := fun u => hW u
    clear hW
    simp only [List.take, opsAt, List.drop, List.cons_append, List.nil_append]
    repeat (go_big_quiet_step (fail))
    exact rfl
  simp only [List.take, List.drop, opsAt, List.cons_append, List.nil_append, wpHv, QN]
  generalize wb.drew = wd7 at HMc HUc ⊢
  have zc : wd7.cell? ⟨pb, 6, none⟩ = some (.slice (some ⟨g8, 0, none⟩) (m8 + 1) c8) := HMc.out.bk.cell 6
  have zf : wd7.frozen? ⟨pb, 6, none⟩ = false := HMc.out.bk.frozen 6
  have HF : Hid (MX B pb (pgM m x) (wd7.setCell ⟨pb, 6, none⟩ (.slice (some ⟨g8, 0, none⟩) m8 c8)) ∧ Upd pb w (wd7.setCell ⟨pb, 6, none⟩ (.slice (some ⟨g8, 0, none⟩) m8 c8))) := hid (by
    rw [HGo.out]
    obtain ⟨hin2, _⟩ := HMc.out.o3.init'
    exact ⟨⟨_, _, _, _, _, _, _, _, _, HMc.out.put3 hin2⟩, HUc.out.setCell rfl _⟩)
  clear HMb HMc HUc HGo
  go_wp2
  refine bodyPost_end (results_none Tryd.results56 _ _ _) rfl ?_
  exact ⟨rfl, HF.out.1, HF.out.2⟩
end
end Go.Proofs.Qxb6500892aDoor
