/- Inter. -/
import Derived.Test.Qxb6500884aClCmp
namespace Go.Proofs.Qxb6500884a
open Go.RowKit
set_option linter.unusedSimpArgs false
set_option linter.unusedVariables false

/-- The pairs up to (i, j) met. -/
structure II (c d : List (Int × Int)) (i j : Nat) (ol : List (Int × Int)) : Prop where
  nrm : Nrm ol
  mem : ∀ x, memB ol x = true ↔ ∃ i' j' p q, c[i']? = some p ∧ d[j']? = some q ∧ (i' < i ∨ j' < j) ∧ (p.1 ≤ x ∧ x ≤ p.2) ∧ (q.1 ≤ x ∧ x ≤ q.2)
  gap : ∀ r ∈ ol, ∀ p q, c[i]? = some p → d[j]? = some q → r.2 + 1 < p.1 ∨ r.2 + 1 < q.1
theorem II.zero (c d : List (Int × Int)) : II c d 0 0 [] := ⟨nrm_nil, fun x => ⟨fun h => (by cases h), fun ⟨i', j', p, q, _, _, h, _⟩ => by omega⟩, fun r hr => (by cases hr)⟩
def meetL (p q : Int × Int) : Int × Int := (if p.1 < q.1 then q.1 else p.1, if q.2 < p.2 then q.2 else p.2)
theorem II.step {c d ol : List (Int × Int)} {i j : Nat} {p q : Int × Int} (h : II c d i j ol) (hc : Nrm c) (hd : Nrm d) (hp : c[i]? = some p) (hq : d[j]? = some q) :
    (p.2 < q.2 → II c d (i + 1) j (ol ++ if (meetL p q).1 ≤ (meetL p q).2 then [meetL p q] else [])) ∧ (¬ p.2 < q.2 → II c d i (j + 1) (ol ++ if (meetL p q).1 ≤ (meetL p q).2 then [meetL p q] else [])) := by
  have hpr := hc.rng p (List.mem_of_getElem? hp)
  have hqr := hd.rng q (List.mem_of_getElem? hq)
  have hm1 : ∀ x, ((meetL p q).1 ≤ x ∧ x ≤ (meetL p q).2) ↔ ((p.1 ≤ x ∧ x ≤ p.2) ∧ (q.1 ≤ x ∧ x ≤ q.2)) := fun x => by
    unfold meetL; dsimp only; split <;> split <;> omega
  have hlo : p.1 ≤ (meetL p q).1 ∧ q.1 ≤ (meetL p q).1 := by unfold meetL; dsimp only; split <;> omega
  have hhi : (meetL p q).2 ≤ p.2 ∧ (meetL p q).2 ≤ q.2 := by unfold meetL; dsimp only; split <;> omega
  have hmem : ∀ x, memB (ol ++ if (meetL p q).1 ≤ (meetL p q).2 then [meetL p q] else []) x = true ↔ (memB ol x = true ∨ ((p.1 ≤ x ∧ x ≤ p.2) ∧ (q.1 ≤ x ∧ x ≤ q.2))) := fun x => by
    rw [memB_append, Bool.or_eq_true, ← hm1 x]
    constructor
    · rintro (h1 | h1)
      · exact .inl h1
      · split at h1
        · rw [memB_one] at h1; simp at h1; exact .inr h1
        · cases h1
    · rintro (h1 | h1)
      · exact .inl h1
      · right
        rw [if_pos (by omega), memB_one]
        simp
        exact h1
  have hnrm : Nrm (ol ++ if (meetL p q).1 ≤ (meetL p q).2 then [meetL p q] else []) := by
    split
    · rename_i hle
      exact nrm_snoc h.nrm ⟨by omega, hle, by omega⟩ (fun r hr => by have := h.gap r hr p q hp hq; omega)
    · rw [List.append_nil]; exact h.nrm
  have hin : ∀ r ∈ ol ++ (if (meetL p q).1 ≤ (meetL p q).2 then [meetL p q] else []), r ∈ ol ∨ r.2 = (meetL p q).2 := fun r hr => by
    rcases List.mem_append.1 hr with h1 | h1
    · exact .inl h1
    · split at h1
      · simp at h1; subst h1; exact .inr rfl
      · cases h1
  constructor
  · intro hlt
    refine ⟨hnrm, fun x => ?_, fun r hr p' q' hp' hq' => ?_⟩
    · rw [hmem x, h.mem x]
      constructor
      · rintro (⟨i', j', a, b, h1, h2, h3, h4⟩ | h1)
        · exact ⟨i', j', a, b, h1, h2, by omega, h4⟩
        · exact ⟨i, j, p, q, hp, hq, by omega, h1⟩
      · rintro ⟨i', j', a, b, h1, h2, h3, h4⟩
        by_cases h5 : i' < i ∨ j' < j
        · exact .inl ⟨i', j', a, b, h1, h2, h5, h4⟩
        · have hi : i' = i := by omega
          subst hi
          rw [hp] at h1
          cases h1
          rcases Nat.lt_or_ge j j' with h6 | h6
          · have := hd.later h6 hq h2; omega
          · have hj : j' = j := by omega
            subst hj
            rw [hq] at h2
            cases h2
            exact .inr h4
    · rw [hq] at hq'
      cases hq'
      have hl := hc.later (show i < i + 1 by omega) hp hp'
      rcases hin r hr with h1 | h1
      · have := h.gap r h1 p q hp hq; omega
      · left; omega
  · intro hge
    refine ⟨hnrm, fun x => ?_, fun r hr p' q' hp' hq' => ?_⟩
    · rw [hmem x, h.mem x]
      constructor
      · rintro (⟨i', j', a, b, h1, h2, h3, h4⟩ | h1)
        · exact ⟨i', j', a, b, h1, h2, by omega, h4⟩
        · exact ⟨i, j, p, q, hp, hq, by omega, h1⟩
      · rintro ⟨i', j', a, b, h1, h2, h3, h4⟩
        by_cases h5 : i' < i ∨ j' < j
        · exact .inl ⟨i', j', a, b, h1, h2, h5, h4⟩
        · have hj : j' = j := by omega
          subst hj
          rw [hq] at h2
          cases h2
          rcases Nat.lt_or_ge i i' with h6 | h6
          · have := hc.later h6 hp h1; omega
          · have hi : i' = i := by omega
            subst hi
            rw [hp] at h1
            cases h1
            exact .inr h4
    · rw [hp] at hp'
      cases hp'
      have hl := hd.later (show j < j + 1 by omega) hq hq'
      rcases hin r hr with h1 | h1
      · have := h.gap r h1 p q hp hq; omega
      · right; omega
theorem II.fin {c d ol : List (Int × Int)} {i j : Nat} (h : II c d i j ol) (he : c.length ≤ i ∨ d.length ≤ j) (x : Int) : memB ol x = (memB c x && memB d x) := by
  rw [Bool.eq_iff_iff, h.mem x, Bool.and_eq_true, memB_iff, memB_iff]
  constructor
  · rintro ⟨i', j', p, q, h1, h2, _, h3, h4⟩
    exact ⟨⟨p, List.mem_of_getElem? h1, h3⟩, ⟨q, List.mem_of_getElem? h2, h4⟩⟩
  · rintro ⟨⟨p, h1, h3⟩, ⟨q, h2, h4⟩⟩
    obtain ⟨i', h5⟩ := List.mem_iff_getElem?.1 h1
    obtain ⟨j', h6⟩ := List.mem_iff_getElem?.1 h2
    have h7 := (List.getElem?_eq_some_iff.1 h5).1
    have h8 := (List.getElem?_eq_some_iff.1 h6).1
    exact ⟨i', j', p, q, h5, h6, by omega, h3, h4⟩
theorem own_lt2 {w : World} {base : Nat} {e : TypeId} {sz : Nat} {v : Value} {n : Nat} {xs : List Value} (h : w.ownsRow base e sz v n xs) : ∀ g', v.ownBlock = some g' → g' < w.heap.size := by
  intro g' hg'
  rcases h.2 with ⟨rfl, _⟩ | ⟨g2, cap, cur, rfl, _, hg, _⟩
  · cases hg'
  · cases hg'
    exact (Array.getElem?_eq_some_iff.1 hg).1
theorem meet_eq (x y x' y' : Int) : meetL (x, y) (x', y') = (max x x', min y y') := by
  unfold meetL
  dsimp only
  rw [Int.max_def, Int.min_def]
  congr 1
  · split <;> split <;> omega
  · split <;> split <;> omega
theorem blk_pair (w : World) (l1 l2 : List Value) (t1 t2 : TypeId) :
    Blk ((w.alloc (.cells l1.toArray t1)).alloc (.cells l2.toArray t2)).drew w.heap.size t1 l1 ∧ Blk ((w.alloc (.cells l1.toArray t1)).alloc (.cells l2.toArray t2)).drew (w.heap.size + 1) t2 l2 ∧ Below w.heap.size w ((w.alloc (.cells l1.toArray t1)).alloc (.cells l2.toArray t2)).drew :=
  ⟨((Blk.new w l1 t1).alloc _).drewN 1, (blk_two w l1 l2 t1 t2).1, (blk_two w l1 l2 t1 t2).2⟩
theorem own_nil (w0 w : World) : w.ownsRow w0.heap.size 67 2 (.slice none 0 0) ([] : List (Int × Int)).length (([] : List (Int × Int)).flatMap ivC) := World.ownsRow_nil _ _ _ _
/-- Two boxes and the result's block. -/
theorem Ow.two (w : World) (s1 s2 : Value) {q : Nat} (hq : w.heap.size = q) : Ow w [(q, [s1]), (q + 1, [s2]), (q + 1 + 1, [.slice none 0 0])] (.slice none 0 0) [] (((w.alloc (.cells #[s1] 30)).alloc (.cells #[s2] 30)).alloc (.cells #[Value.slice none 0 0] 30)) := by
  have s1' : ∀ (x : World) (o : Obj), (x.alloc o).heap.size = x.heap.size + 1 := fun x o => by simp
  have b0 := Blk.new w [s1] 30
  have b1 := Blk.new (w.alloc (.cells #[s1] 30)) [s2] 30
  have b2 := Blk.new ((w.alloc (.cells #[s1] 30)).alloc (.cells #[s2] 30)) [Value.slice none 0 0] 30
  rw [hq] at b0
  rw [s1', hq] at b1
  rw [s1', s1', hq] at b2
  refine ⟨((nbel w _).alloc (by rw [s1']; omega) _).alloc (by rw [s1', s1']; omega) _, own_nil _ _, fun x hx => ?_⟩
  simp at hx
  rcases hx with rfl | rfl | rfl
  · exact (b0.alloc _).alloc _
  · exact b1.alloc _
  · exact b2
set_option maxRecDepth 100000 in
set_option maxHeartbeats 2000000 in
theorem inter_walk (a1 : Option Addr) (n1 c1 : Nat) (l1 : List (Int × Int)) (a2 : Option Addr) (n2 c2 : Nat) (l2 : List (Int × Int)) (w : World) (hr1 : IvRow w a1 n1 c1 l1) (hr2 : IvRow w a2 n2 c2 l2) (hN1 : Nrm l1) (hN2 : Nrm l2) :
    Calls Try.prog 46 #[.agg #[.slice a1 n1 c1], .agg #[.slice a2 n2 c2]] w fun e w' => CP (fun x => memB l1 x && memB l2 x) w e w' := by
  have HR1 := hid hr1
  have HR2 := hid hr2
  have hl1 := hr1.len
  have hl2 := hr2.len
  have hs1 := hN1.short
  have hs2 := hN2.short
  obtain ⟨i0, hi, hz0, hz1, hz2⟩ := info_ivz
  have HI := hid (And.intro hi (And.intro hz0 (And.intro hz1 hz2)))
  clear hi hz0 hz1 hz2 hr1 hr2
  obtain ⟨q, hq⟩ : ∃ q, w.heap.size = q := ⟨_, rfl⟩
  have HO0 := hid (Ow.two w (.slice a1 n1 c1) (.slice a2 n2 c2) hq)
  obtain ⟨q2, hq2⟩ : ∃ q2, q + 1 = q2 := ⟨_, rfl⟩
  rw [hq2] at HO0
  obtain ⟨r, hr⟩ : ∃ r, q2 + 1 = r := ⟨_, rfl⟩
  rw [hr] at HO0
  obtain ⟨K, hK⟩ : ∃ K, [(q, [Value.slice a1 n1 c1]), (q2, [.slice a2 n2 c2]), (r, [.slice none 0 0])] = K := ⟨_, rfl⟩
  rw [hK] at HO0
  have hk1 : (q, [Value.slice a1 n1 c1]) ∈ K := by rw [← hK]; simp
  have hk2 : (q2, [Value.slice a2 n2 c2]) ∈ K := by rw [← hK]; simp
  have hk3 : (r, [Value.slice none 0 0]) ∈ K := by rw [← hK]; simp
  have Hk1 := hid hk1
  have Hk2 := hid hk2
  have Hk3 := hid hk3
  have Hq2 := hid hq2
  have Hr := hid hr
  clear hK hk1 hk2 hk3
  go_enter Try.func46, Try.ntmps46
  go_upto_region 1 with fail
  generalize ((w.alloc (.cells #[Value.slice a1 n1 c1] 30)).alloc (.cells #[Value.slice a2 n2 c2] 30)).alloc (.cells #[Value.slice none 0 0] 30) = w1 at HO0 ⊢
  clear hq2 hr
  have hqr : w.heap.size ≤ r := by have := Hq2.out; have := Hr.out; omega
  go_wp2_with fail
  go_loopw [5, 6, 7] (fun v i j wr => ∃ (i' j' : Nat) (ol : List (Int × Int)), i' ≤ n1 ∧ j' ≤ n2 ∧ i = .int .i64 i' ∧ j = .int .i64 j' ∧ Hid (II l1 l2 i' j' ol) ∧ Hid (Ow w K v ol wr)) (fun _ i j _ => (n1 - (intOf i).toNat) + (n2 - (intOf j).toNat))
  case atStart => exact ⟨0, 0, [], Nat.zero_le _, Nat.zero_le _, rfl, rfl, hid (II.zero l1 l2), HO0⟩
  case round =>
    clear HO0
    obtain ⟨i, j, ol, hi, hj, rfl, rfl, HII, HO⟩ := hrel
    have b1 : wr.cell? ⟨q, 0, none⟩ = some (.slice a1 n1 c1) := (HO.out.keep _ Hk1.out).cell 0
    have b2 : wr.cell? ⟨q2, 0, none⟩ = some (.slice a2 n2 c2) := (HO.out.keep _ Hk2.out).cell 0
    have hsh := HII.out.nrm.short
    by_cases hlt : i < n1 ∧ j < n2
    rotate_left
    · as_aux_lemma =>
      have HF := hid (fun x => HII.out.fin (by omega) x)
      obtain ⟨sa, sc, rfl⟩ := owns_shape HO.out.own
      have I0 : Hid ((Try.prog.info? 30).map (·.size) = some [Value.slice sa ol.length sc].length) := hid info_reg
      by_cases hi1 : i < n1
      · have d1 : decide ((i : Int) < (n1 : Int)) = true := decide_eq_true (by omega)
        have d2 : decide ((j : Int) < (n2 : Int)) = false := decide_eq_false (by omega)
        go_wp2_with (refine wpList_store_blk rfl 30 _ _ rfl r rfl [.slice sa ol.length sc] rfl (HO.out.keep _ Hk3.out) rfl I0.out (fun v hv => by simp at hv; subst hv; rfl) ?_; intro w9 HB9 HU9)
        obtain ⟨a9, n9, c9, he9, hrow, hbel, hty⟩ := HO.out.cls Hk3.out hqr HU9.out HII.out.nrm
        cases he9
        exact bodyPost_ret (results_blk Try.results46 rfl (show AggOf Try.prog 30 (List.length [_]) from AggOf.struct Try.underlying30 info_reg) HB9.out) rfl ⟨⟨_, _, _, _, rfl, hrow, HII.out.nrm, fun x _ _ => HF.out x, hty⟩, hbel⟩
      · have d1 : decide ((i : Int) < (n1 : Int)) = false := decide_eq_false (by omega)
        go_wp2_with (refine wpList_store_blk rfl 30 _ _ rfl r rfl [.slice sa ol.length sc] rfl (HO.out.keep _ Hk3.out) rfl I0.out (fun v hv => by simp at hv; subst hv; rfl) ?_; intro w9 HB9 HU9)
        obtain ⟨a9, n9, c9, he9, hrow, hbel, hty⟩ := HO.out.cls Hk3.out hqr HU9.out HII.out.nrm
        cases he9
        exact bodyPost_ret (results_blk Try.results46 rfl (show AggOf Try.prog 30 (List.length [_]) from AggOf.struct Try.underlying30 info_reg) HB9.out) rfl ⟨⟨_, _, _, _, rfl, hrow, HII.out.nrm, fun x _ _ => HF.out x, hty⟩, hbel⟩
    obtain ⟨hi1, hj1⟩ := hlt
    have d1 : decide ((i : Int) < (n1 : Int)) = true := decide_eq_true (by omega)
    have d2 : decide ((j : Int) < (n2 : Int)) = true := decide_eq_true (by omega)
    have i1 : (i : Int) < (n1 : Int) := by omega
    have i2 : (j : Int) < (n2 : Int) := by omega
    obtain ⟨p, hp, f1, f2, bA, offA, rfl, hbA, e1, e2⟩ := (HR1.out.below HO.out.bel).get hi1
    obtain ⟨p', hp', g1, g2, bB, offB, rfl, hbB, e3, e4⟩ := (HR2.out.below HO.out.bel).get hj1
    have HSt := hid (HII.out.step hN1 hN2 hp hp')
    obtain ⟨x, y⟩ := p
    obtain ⟨x', y'⟩ := p'
    have hrg := hN1.rng _ (List.mem_of_getElem? hp)
    have hrg' := hN2.rng _ (List.mem_of_getElem? hp')
    dsimp only at e1 e2 e3 e4 hrg hrg'
    clear hp hp'
    go_upto_region 4 with fail
    go_cut [8, 9] (fun v8 v9 wc => ∃ p8 p9, v8 = .pointer (some ⟨p8, 0, none⟩) ∧ v9 = .pointer (some ⟨p9, 0, none⟩) ∧ Hid (Blk wc p8 67 [.int .i64 x, .int .i64 y]) ∧ Hid (Blk wc p9 67 [.int .i64 x', .int .i64 y']) ∧ wr.heap.size ≤ p8 ∧ wr.heap.size ≤ p9 ∧ Hid (Ow w K u5 ol wc))
    case first =>
      have hq0 : q < wr.heap.size := (HO.out.keep _ Hk1.out).lt
      have hq0' : q2 < wr.heap.size := (HO.out.keep _ Hk2.out).lt
      have t1 : ∀ o, (wr.alloc o).cell? ⟨q, 0, none⟩ = some (.slice (some ⟨bA, offA, none⟩) n1 c1) := fun o => by rw [← b1]; exact (nbel wr o).cell hq0
      have t2 : ∀ o, (wr.alloc o).cell? ⟨q2, 0, none⟩ = some (.slice (some ⟨bB, offB, none⟩) n2 c2) := fun o => by rw [← b2]; exact (nbel wr o).cell hq0'
      have t3 : ∀ o, (wr.alloc o).cell? ⟨bA, offA + i * 2, none⟩ = some (.int .i64 x) := fun o => by rw [← e1]; exact (nbel wr o).cell hbA
      have t4 : ∀ o, (wr.alloc o).cell? ⟨bA, offA + i * 2 + 1, none⟩ = some (.int .i64 y) := fun o => by rw [← e2]; exact (nbel wr o).cell hbA
      have t5 : ∀ o, (wr.alloc o).cell? ⟨bB, offB + j * 2, none⟩ = some (.int .i64 x') := fun o => by rw [← e3]; exact (nbel wr o).cell hbB
      have t6 : ∀ o, (wr.alloc o).cell? ⟨bB, offB + j * 2 + 1, none⟩ = some (.int .i64 y') := fun o => by rw [← e4]; exact (nbel wr o).cell hbB
      have nb2 : ∀ o o', Below wr.heap.size wr ((wr.alloc o).alloc o') := fun o o' => (nbel wr o).alloc (by simp) o'
      have s1 : ∀ o o', ((wr.alloc o).alloc o').cell? ⟨q, 0, none⟩ = some (.slice (some ⟨bA, offA, none⟩) n1 c1) := fun o o' => by rw [← b1]; exact (nb2 o o').cell hq0
      have s2 : ∀ o o', ((wr.alloc o).alloc o').cell? ⟨q2, 0, none⟩ = some (.slice (some ⟨bB, offB, none⟩) n2 c2) := fun o o' => by rw [← b2]; exact (nb2 o o').cell hq0'
      have s3 : ∀ o o', ((wr.alloc o).alloc o').cell? ⟨bA, offA + i * 2, none⟩ = some (.int .i64 x) := fun o o' => by rw [← e1]; exact (nb2 o o').cell hbA
      have s4 : ∀ o o', ((wr.alloc o).alloc o').cell? ⟨bA, offA + i * 2 + 1, none⟩ = some (.int .i64 y) := fun o o' => by rw [← e2]; exact (nb2 o o').cell hbA
      have s5 : ∀ o o', ((wr.alloc o).alloc o').cell? ⟨bB, offB + j * 2, none⟩ = some (.int .i64 x') := fun o o' => by rw [← e3]; exact (nb2 o o').cell hbB
      have s6 : ∀ o o', ((wr.alloc o).alloc o').cell? ⟨bB, offB + j * 2 + 1, none⟩ = some (.int .i64 y') := fun o o' => by rw [← e4]; exact (nb2 o o').cell hbB
      go_region
      · go_wp2_with fail
        go_meet
        case rel =>
          have hk := blk_pair wr [.int .i64 x, .int .i64 y] [.int .i64 x', .int .i64 y'] 67 67
          exact ⟨wr.heap.size, wr.heap.size + 1, rfl, rfl, hid hk.1, hid hk.2.1, by omega, by omega, hid (HO.out.below hk.2.2)⟩
      · go_wp2_with fail
        go_meet
        case rel =>
          have hk := blk_pair wr [.int .i64 x', .int .i64 y'] [.int .i64 x, .int .i64 y] 67 67
          exact ⟨wr.heap.size + 1, wr.heap.size, rfl, rfl, hid hk.2.1, hid hk.1, by omega, by omega, hid (HO.out.below hk.2.2)⟩
    case rest =>
    obtain ⟨p8, p9, rfl, rfl, HB8, HB9, h8, h9, HOc⟩ := hcut
    clear e1 e2 e3 e4 b1 b2
    have m1 : ∀ nn, (wc.drewN nn).cell? ⟨p8, 0, none⟩ = some (.int .i64 x) := fun nn => (HB8.out.drewN nn).cell 0
    have m2 : ∀ nn, (wc.drewN nn).cell? ⟨p8, 1, none⟩ = some (.int .i64 y) := fun nn => (HB8.out.drewN nn).cell 1
    have m3 : ∀ nn, (wc.drewN nn).cell? ⟨p9, 0, none⟩ = some (.int .i64 x') := fun nn => (HB9.out.drewN nn).cell 0
    have m4 : ∀ nn, (wc.drewN nn).cell? ⟨p9, 1, none⟩ = some (.int .i64 y') := fun nn => (HB9.out.drewN nn).cell 1
    have Hlt := hid (own_lt2 HO.out.own)
    obtain ⟨u, hu⟩ : ∃ u, max x x' = u := ⟨_, rfl⟩
    obtain ⟨v, hv⟩ : ∃ v, min y y' = v := ⟨_, rfl⟩
    have HSt1 : Hid ((y < y' → II l1 l2 (i + 1) j (ol ++ if u ≤ v then [(u, v)] else [])) ∧ (¬ y < y' → II l1 l2 i (j + 1) (ol ++ if u ≤ v then [(u, v)] else []))) := hid (by have h := HSt.out; rw [meet_eq, hu, hv] at h; exact h)
    have hbb : (ol.length + 1) * 16 ≤ 140737488355328 := by omega
    clear HSt
    go_upto_region 5 with fail
    go_quiet (fail)
    have HBa0 := hid (HB8.out.drewN nq)
    have HBb0 := hid (HB9.out.drewN nq)
    have HOd := hid (HOc.out.below (Drew.below ⟨nq, rfl⟩ _))
    generalize wc.drewN nq = wd at HBa0 HBb0 HOd ⊢
    clear m1 m2 m3 m4 HB8 HB9 HOc
    try simp only [hu, hv]
    clear hu hv
    by_cases huv : u ≤ v
    · have duv : decide (u ≤ v) = true := decide_eq_true huv
      have HSt2 : Hid ((y < y' → II l1 l2 (i + 1) j (ol ++ [(u, v)])) ∧ (¬ y < y' → II l1 l2 i (j + 1) (ol ++ [(u, v)]))) := hid (by have h := HSt1.out; rw [if_pos huv] at h; exact h)
      have HOn := hid (HOd.out.own.alloc (.cells #[.int .i64 u, .int .i64 v] 67))
      have HO3 := hid (HOd.out.below (nbel wd (.cells #[.int .i64 u, .int .i64 v] 67)))
      have hsz : w.heap.size ≤ (wd.alloc (.cells #[.int .i64 u, .int .i64 v] 67)).heap.size := HO3.out.bel.size
      have HBa := hid (HBa0.out.alloc (.cells #[.int .i64 u, .int .i64 v] 67))
      have HBb := hid (HBb0.out.alloc (.cells #[.int .i64 u, .int .i64 v] 67))
      clear HSt1
      go_upto_region 8 with (at_builtin; refine wpList_append_row _ rfl (.tmp 47) (.tmp 51) 25 rfl w.heap.size 67 i0 (.agg #[.int .i64 0, .int .i64 0]) 2 16 Try.underlying25 HI.out.1 HI.out.2.1 HI.out.2.2.1 HI.out.2.2.2 rfl (by decide) _ _ _ rfl HOn.out (some ⟨wd.heap.size, 0, none⟩) 1 1 [.int .i64 u, .int .i64 v] rfl rfl (fun h => by cases h) (newRow _ [.int .i64 u, .int .i64 v] _ _ rfl) (fun u hu => by simp at hu; rcases hu with rfl | rfl <;> rfl) hbb (by decide) hsz ?_; intro v8 w8 hown8 hb8 hk8 hg8; have HOw8 := hid hown8; have HB8' := hid hb8; have HK8 := hid hk8; have k1 : w8.cell? ⟨p8, 1, none⟩ = some (.int .i64 y) := (keepCell 1 (hk8 p8 HBa.out.lt (fun g' h => by have := Hlt.out g' h; omega))).trans (HBa.out.cell 1); have k2 : w8.cell? ⟨p9, 1, none⟩ = some (.int .i64 y') := (keepCell 1 (hk8 p9 HBb.out.lt (fun g' h => by have := Hlt.out g' h; omega))).trans (HBb.out.cell 1); clear hown8 hb8 hk8 hg8)
      have HOe := hid (HO3.out.app (p := (u, v)) HOw8.out HB8'.out HK8.out)
      by_cases hyy : y < y'
      · have dy : decide (y < y') = true := decide_eq_true hyy
        have HSn : Hid (II l1 l2 (i + 1) j (ol ++ [(u, v)])) := hid (HSt2.out.1 hyy)
        go_wp2
        exact ⟨⟨i + 1, j, ol ++ [(u, v)], by omega, by omega, by go_num, rfl, HSn, HOe⟩, by simp [intOf]; omega⟩
      · have dy : decide (y < y') = false := decide_eq_false hyy
        have HSn : Hid (II l1 l2 i (j + 1) (ol ++ [(u, v)])) := hid (HSt2.out.2 hyy)
        go_wp2
        exact ⟨⟨i, j + 1, ol ++ [(u, v)], by omega, by omega, rfl, by go_num, HSn, HOe⟩, by simp [intOf]; omega⟩
    · have duv : decide (u ≤ v) = false := decide_eq_false huv
      have HSt2 : Hid ((y < y' → II l1 l2 (i + 1) j ol) ∧ (¬ y < y' → II l1 l2 i (j + 1) ol)) := hid (by have h := HSt1.out; rw [if_neg huv, List.append_nil] at h; exact h)
      have k1 : wd.cell? ⟨p8, 1, none⟩ = some (.int .i64 y) := HBa0.out.cell 1
      have k2 : wd.cell? ⟨p9, 1, none⟩ = some (.int .i64 y') := HBb0.out.cell 1
      clear HSt1
      by_cases hyy : y < y'
      · have dy : decide (y < y') = true := decide_eq_true hyy
        have HSn : Hid (II l1 l2 (i + 1) j (ol)) := hid (HSt2.out.1 hyy)
        go_wp2
        exact ⟨⟨i + 1, j, ol, by omega, by omega, by go_num, rfl, HSn, HOd⟩, by simp [intOf]; omega⟩
      · have dy : decide (y < y') = false := decide_eq_false hyy
        have HSn : Hid (II l1 l2 i (j + 1) (ol)) := hid (HSt2.out.2 hyy)
        go_wp2
        exact ⟨⟨i, j + 1, ol, by omega, by omega, rfl, by go_num, HSn, HOd⟩, by simp [intOf]; omega⟩
end Go.Proofs.Qxb6500884a
