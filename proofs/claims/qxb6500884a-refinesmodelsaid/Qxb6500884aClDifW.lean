/- Diff: the walk. -/
import Derived.Test.Qxb6500884aClDif
import Derived.Test.Qxb6500884aClUni
namespace Go.Proofs.Qxb6500884a
open Go.RowKit
set_option linter.unusedSimpArgs false
set_option linter.unusedVariables false

/-- Does the j-th interval end before x. -/
def dHi (l : List (Int × Int)) (j : Nat) (x : Int) : Bool := match l[j]? with
  | some p => decide (p.2 < x)
  | none => false
/-- Does the k-th interval begin up to y. -/
def dLo (l : List (Int × Int)) (k : Nat) (y : Int) : Bool := match l[k]? with
  | some p => decide (p.1 ≤ y)
  | none => false
theorem dHi_some {l : List (Int × Int)} {j : Nat} {x : Int} {p : Int × Int} (h : l[j]? = some p) : dHi l j x = decide (p.2 < x) := by unfold dHi; rw [h]
theorem dLo_some {l : List (Int × Int)} {j : Nat} {x : Int} {p : Int × Int} (h : l[j]? = some p) : dLo l j x = decide (p.1 ≤ x) := by unfold dLo; rw [h]
theorem dHi_none {l : List (Int × Int)} {j : Nat} {x : Int} (h : l.length ≤ j) : dHi l j x = false := by unfold dHi; rw [List.getElem?_eq_none h]
theorem dLo_none {l : List (Int × Int)} {j : Nat} {x : Int} (h : l.length ≤ j) : dLo l j x = false := by unfold dLo; rw [List.getElem?_eq_none h]
theorem dHi_true {l : List (Int × Int)} {j : Nat} {x : Int} (h : dHi l j x = true) : ∃ p, l[j]? = some p ∧ p.2 < x := by
  unfold dHi at h
  split at h
  · rename_i p hp; exact ⟨p, hp, of_decide_eq_true h⟩
  · cases h
theorem dLo_true {l : List (Int × Int)} {j : Nat} {x : Int} (h : dLo l j x = true) : ∃ p, l[j]? = some p ∧ p.1 ≤ x := by
  unfold dLo at h
  split at h
  · rename_i p hp; exact ⟨p, hp, of_decide_eq_true h⟩
  · cases h
theorem dHi_false {l : List (Int × Int)} (hl : Nrm l) {j : Nat} {x : Int} (h : dHi l j x = false) : ∀ (k : Nat) (p : Int × Int), j ≤ k → l[k]? = some p → x ≤ p.2 := by
  intro k p hk hp
  have hlt := (List.getElem?_eq_some_iff.1 hp).1
  obtain ⟨q, hq⟩ : ∃ q, l[j]? = some q := ⟨_, List.getElem?_eq_getElem (by omega)⟩
  rw [dHi_some hq] at h
  have h1 := of_decide_eq_false h
  rcases Nat.lt_or_ge j k with h2 | h2
  · have h3 := hl.later h2 hq hp
    have h4 := hl.rng p (List.mem_of_getElem? hp)
    omega
  · have : k = j := by omega
    subst this
    rw [hq] at hp
    cases hp
    omega
theorem dLo_false {l : List (Int × Int)} {j : Nat} {y : Int} (h : dLo l j y = false) : ∀ q, l[j]? = some q → y < q.1 := by
  intro q hq
  rw [dLo_some hq] at h
  have := of_decide_eq_false h
  omega
set_option maxRecDepth 100000 in
set_option maxHeartbeats 4000000 in
theorem diff_walk (a1 : Option Addr) (n1 c1 : Nat) (l1 : List (Int × Int)) (a2 : Option Addr) (n2 c2 : Nat) (l2 : List (Int × Int)) (w : World) (hr1 : IvRow w a1 n1 c1 l1) (hr2 : IvRow w a2 n2 c2 l2) (hN1 : Nrm l1) (hN2 : Nrm l2) (ht1 : Ty67 w a1 n1) :
    Calls Try.prog 47 #[.agg #[.slice a1 n1 c1], .agg #[.slice a2 n2 c2]] w fun e w' => CP (fun x => memB l1 x && !memB l2 x) w e w' := by
  have HR1 := hid hr1
  have HR2 := hid hr2
  have hl1 := hr1.len
  have hl2 := hr2.len
  have hs1 := hN1.short
  have hs2 := hN2.short
  have HY1 := hid ht1
  obtain ⟨i0, hi, hz0, hz1, hz2⟩ := info_ivz
  have HI := hid (And.intro hi (And.intro hz0 (And.intro hz1 hz2)))
  clear hi hz0 hz1 hz2 hr1 hr2 ht1
  obtain ⟨q, hq⟩ : ∃ q, w.heap.size = q := ⟨_, rfl⟩
  have HO0 := hid (Ow.two w (.slice a1 n1 c1) (.slice a2 n2 c2) hq)
  obtain ⟨q2, hq2⟩ : ∃ q2, q + 1 = q2 := ⟨_, rfl⟩
  rw [hq2] at HO0
  obtain ⟨r, hr⟩ : ∃ r, q2 + 1 = r := ⟨_, rfl⟩
  rw [hr] at HO0
  obtain ⟨K, hK⟩ : ∃ K, [(q, [Value.slice a1 n1 c1]), (q2, [.slice a2 n2 c2]), (r, [.slice none 0 0])] = K := ⟨_, rfl⟩
  rw [hK] at HO0
  have Hk1 : Hid ((q, [Value.slice a1 n1 c1]) ∈ K) := hid (by rw [← hK]; simp)
  have Hk2 : Hid ((q2, [Value.slice a2 n2 c2]) ∈ K) := hid (by rw [← hK]; simp)
  have Hk3 : Hid ((r, [Value.slice none 0 0]) ∈ K) := hid (by rw [← hK]; simp)
  have Hq2 := hid hq2
  have Hr := hid hr
  clear hK
  go_enter Try.func47, Try.ntmps47
  go_upto_region 1 with fail
  generalize ((w.alloc (.cells #[Value.slice a1 n1 c1] 30)).alloc (.cells #[Value.slice a2 n2 c2] 30)).alloc (.cells #[Value.slice none 0 0] 30) = w1 at HO0 ⊢
  clear hq2 hr
  have hqr : w.heap.size ≤ r := by have := Hq2.out; have := Hr.out; omega
  have b1 : w1.cell? ⟨q, 0, none⟩ = some (.slice a1 n1 c1) := (HO0.out.keep _ Hk1.out).cell 0
  have b2 : w1.cell? ⟨q2, 0, none⟩ = some (.slice a2 n2 c2) := (HO0.out.keep _ Hk2.out).cell 0
  by_cases hn2 : n2 = 0
  · as_aux_lemma =>
    have hl0 : l2 = [] := List.eq_nil_of_length_eq_zero (by omega)
    have dz2 : ((n2 : Int) == 0) = true := by rw [hn2]; rfl
    have dz2' : (n2 == 0) = true := by rw [hn2]; rfl
    have I0 : Hid ((Try.prog.info? 30).map (·.size) = some [Value.slice a1 n1 c1].length) := hid info_reg
    have HK3 := hid (HO0.out.keep _ Hk3.out)
    go_wp2_with (refine wpList_store_blk rfl 30 _ _ rfl r rfl [.slice a1 n1 c1] rfl HK3.out rfl I0.out (fun v hv => by simp at hv; subst hv; rfl) ?_; intro w9 HB9 HU9)
    have hbe := HO0.out.bel.trans (HU9.out.below hqr HO0.out.bel.size)
    exact bodyPost_ret (results_blk Try.results47 rfl (show AggOf Try.prog 30 (List.length [_]) from AggOf.struct Try.underlying30 info_reg) HB9.out) rfl ⟨⟨_, _, _, l1, rfl, HR1.out.below hbe, hN1, fun x _ _ => (by first | (rw [hl0]; simp [memB]; done) | (simp [memB]; done)), HY1.out.below hbe⟩, hbe⟩
  have dz2 : ((n2 : Int) == 0) = false := by simp; omega
  have dz2' : (n2 == 0) = false := by simp; omega
  go_upto_region 6 with fail
  clear b1 b2 dz2 dz2'
  go_loopw [5, 6, 19] (fun v jj i wr => ∃ (k j : Nat) (ol : List (Int × Int)), k ≤ n1 ∧ j ≤ n2 ∧ jj = .int .i64 j ∧ i = .int .i64 k ∧ Hid (DI l1 l2 k j ol) ∧ Hid (Ow w K v ol wr)) (fun _ _ i _ => n1 - (intOf i).toNat)
  case atStart => exact ⟨0, 0, [], Nat.zero_le _, Nat.zero_le _, rfl, rfl, hid (DI.zero l1 l2), HO0⟩
  case round =>
    clear HO0
    obtain ⟨k, j, ol, hk, hj, rfl, rfl, HDI, HO⟩ := hrel
    by_cases hlt : k < n1
    rotate_left
    · as_aux_lemma =>
      have hsh := HDI.out.nrm.short
      have d1 : decide ((k : Int) < (n1 : Int)) = false := decide_eq_false (by omega)
      have HF : Hid (∀ x, memB ol x = (memB l1 x && !memB l2 x)) := hid (by
        have h := HDI.out
        rw [show k = l1.length by omega] at h
        exact fun x => h.fin x)
      obtain ⟨sa, sc, rfl⟩ := owns_shape HO.out.own
      have I0 : Hid ((Try.prog.info? 30).map (·.size) = some [Value.slice sa ol.length sc].length) := hid info_reg
      go_wp2_with (refine wpList_store_blk rfl 30 _ _ rfl r rfl [.slice sa ol.length sc] rfl (HO.out.keep _ Hk3.out) rfl I0.out (fun v hv => by simp at hv; subst hv; rfl) ?_; intro w9 HB9 HU9)
      obtain ⟨a9, n9, c9, he9, hrow, hbel, hty⟩ := HO.out.cls Hk3.out hqr HU9.out HDI.out.nrm
      cases he9
      exact bodyPost_ret (results_blk Try.results47 rfl (show AggOf Try.prog 30 (List.length [_]) from AggOf.struct Try.underlying30 info_reg) HB9.out) rfl ⟨⟨_, _, _, _, rfl, hrow, HDI.out.nrm, fun x _ _ => HF.out x, hty⟩, hbel⟩
    have d1 : decide ((k : Int) < (n1 : Int)) = true := decide_eq_true (by omega)
    have i1 : (k : Int) < (n1 : Int) := by omega
    obtain ⟨p, hp, f1, f2, bA, offA, rfl, hbA, e1, e2⟩ := (HR1.out.below HO.out.bel).get hlt
    obtain ⟨x, y⟩ := p
    have hrg := hN1.rng _ (List.mem_of_getElem? hp)
    have Hp := hid hp
    dsimp only at e1 e2 hrg
    clear hp
    obtain ⟨p0, hp0⟩ : ∃ p0, wr.heap.size = p0 := ⟨_, rfl⟩
    have hbq := Blk.new wr [.int .i64 x, .int .i64 y] 67
    rw [hp0] at hbq
    have HNe0 : Hid (∀ g', u5.ownBlock = some g' → p0 ≠ g') := hid (fun g' hg' => by have := own_lt2 HO.out.own g' hg'; omega)
    have HO4 : Hid (Ow w K u5 ol (wr.alloc (.cells #[.int .i64 x, .int .i64 y] 67))) := hid (HO.out.below (nbel wr _))
    have HB4 : Hid (Blk (wr.alloc (.cells #[.int .i64 x, .int .i64 y] 67)) p0 67 [.int .i64 x, .int .i64 y]) := hid hbq
    have Hsk : Hid (∀ (j' : Nat) (p : Int × Int), j' < j → l2[j']? = some p → p.2 < x) := hid (fun j' p h1 h2 => HDI.out.skip j' p (x, y) h1 h2 Hp.out)
    clear hbq
    go_upto_region 8 with fail
    generalize wr.alloc (.cells #[.int .i64 x, .int .i64 y] 67) = w4 at HO4 HB4 ⊢
    clear e1 e2 HO
    go_loopw [6] (fun jj wr => ∃ (j : Nat), j ≤ n2 ∧ jj = .int .i64 j ∧ Hid (DI l1 l2 k j ol) ∧ Hid (Ow w K u5 ol wr) ∧ Hid (Blk wr p0 67 [.int .i64 x, .int .i64 y])) (fun jj _ => n2 - (intOf jj).toNat)
    case atStart => exact ⟨j, hj, rfl, HDI, HO4, HB4⟩
    case round =>
      clear HO4 HB4 HDI Hsk hj
      obtain ⟨j2, hj2, rfl, HDI2, HO2, HB2⟩ := hrel
      have b2 : wr.cell? ⟨q2, 0, none⟩ = some (.slice a2 n2 c2) := (HO2.out.keep _ Hk2.out).cell 0
      have b3 : wr.cell? ⟨p0, 0, none⟩ = some (.int .i64 x) := HB2.out.cell 0
      go_upto_region 8 with fail
      go_cut [38] (fun v38 wc => v38 = .bool (dHi l2 j2 x) ∧ Hid (Ow w K u5 ol wc) ∧ Hid (Blk wc p0 67 [.int .i64 x, .int .i64 y]))
      case first =>
        as_aux_lemma =>
        by_cases hj3 : j2 < n2
        · obtain ⟨p', hp', g1, g2, bB, offB, rfl, hbB, e3, e4⟩ := (HR2.out.below HO2.out.bel).get hj3
          obtain ⟨x', y'⟩ := p'
          dsimp only at e3 e4
          have d2 : decide ((j2 : Int) < (n2 : Int)) = true := decide_eq_true (by omega)
          have i2 : (j2 : Int) < (n2 : Int) := by omega
          have Hd : Hid (dHi l2 j2 x = decide (y' < x)) := hid (dHi_some hp')
          have r2 : ∀ nn, (wr.drewN nn).cell? ⟨q2, 0, none⟩ = some (.slice (some ⟨bB, offB, none⟩) n2 c2) := fun nn => b2
          have r3 : ∀ nn, (wr.drewN nn).cell? ⟨p0, 0, none⟩ = some (.int .i64 x) := fun nn => b3
          have r6 : ∀ nn, (wr.drewN nn).cell? ⟨bB, offB + j2 * 2 + 1, none⟩ = some (.int .i64 y') := fun nn => e4
          clear hp'
          obtain ⟨dA, hdA⟩ : ∃ dA, decide (y' < x) = dA := ⟨_, rfl⟩
          cases dA with
          | true =>
            go_quiet (fail)
            go_wp2_with fail
            go_meet
            case rel => exact ⟨by rw [Hd.out, hdA], hid (HO2.out.below (Drew.below ⟨nq, rfl⟩ _)), hid (HB2.out.drewN nq)⟩
          | false =>
            go_quiet (fail)
            go_wp2_with fail
            go_meet
            case rel => exact ⟨by rw [Hd.out, hdA], hid (HO2.out.below (Drew.below ⟨nq, rfl⟩ _)), hid (HB2.out.drewN nq)⟩
        · have d2 : decide ((j2 : Int) < (n2 : Int)) = false := decide_eq_false (by omega)
          have Hd : Hid (dHi l2 j2 x = false) := hid (dHi_none (by omega))
          have r2 : ∀ nn, (wr.drewN nn).cell? ⟨q2, 0, none⟩ = some (.slice a2 n2 c2) := fun nn => b2
          go_quiet (fail)
          go_wp2_with fail
          go_meet
          case rel => exact ⟨by rw [Hd.out], hid (HO2.out.below (Drew.below ⟨nq, rfl⟩ _)), hid (HB2.out.drewN nq)⟩
      case rest =>
      obtain ⟨rfl, HOc, HBc⟩ := hcut
      clear b2 b3 HO2 HB2
      cases hB : dHi l2 j2 x with
      | true =>
        as_aux_lemma =>
        obtain ⟨p', hp', hlt'⟩ := dHi_true hB
        have hj4 := (List.getElem?_eq_some_iff.1 hp').1
        have HDI3 := hid (HDI2.out.over Hp.out hp' hlt')
        clear hp' hB
        go_wp2
        exact ⟨⟨j2 + 1, by omega, by go_num, HDI3, HOc, HBc⟩, by simp [intOf]; omega⟩
      | false =>
      have Hge := hid (dHi_false hN2 hB)
      have Hsk : Hid (∀ (j' : Nat) (p : Int × Int), j' < j2 → l2[j']? = some p → p.2 < x) := hid (fun j' p h1 h2 => HDI2.out.skip j' p (x, y) h1 h2 Hp.out)
      have HJ0 : Hid (DJ l1 l2 k j2 (x, y) x ol) := hid (HDI2.out.enter hN1 Hp.out)
      have b3 : wc.cell? ⟨p0, 0, none⟩ = some (.int .i64 x) := HBc.out.cell 0
      clear hB HDI2
      go_upto_region 12 with fail
      go_loopw [5, 9, 10] (fun v lo kk wr => ∃ (k2 : Nat) (lo' : Int) (ol' : List (Int × Int)), j2 ≤ k2 ∧ k2 ≤ n2 ∧ lo' ≤ 196608 ∧ lo = .int .i64 lo' ∧ kk = .int .i64 k2 ∧ Hid (DJ l1 l2 k k2 (x, y) lo' ol') ∧ Hid (Ow w K v ol' wr) ∧ Hid (Blk wr p0 67 [.int .i64 x, .int .i64 y]) ∧ Hid (∀ g', v.ownBlock = some g' → p0 ≠ g')) (fun _ _ kk _ => n2 - (intOf kk).toNat)
      case atStart => exact ⟨j2, x, ol, Nat.le_refl _, hj2, by omega, rfl, rfl, HJ0, HOc, HBc, HNe0⟩
      case round =>
        clear HJ0 HOc HBc b3 HNe0
        obtain ⟨k2, lo, ol', hjk, hk2, hlo, rfl, rfl, HJ, HO2, HB2, HNe⟩ := hrel
        have hlo0 : x ≤ lo := HJ.out.lo1
        have b2 : wr.cell? ⟨q2, 0, none⟩ = some (.slice a2 n2 c2) := (HO2.out.keep _ Hk2.out).cell 0
        have b4 : wr.cell? ⟨p0, 1, none⟩ = some (.int .i64 y) := HB2.out.cell 1
        go_upto_region 12 with fail
        go_cut [59] (fun v59 wc => v59 = .bool (dLo l2 k2 y) ∧ Hid (Ow w K u5 ol' wc) ∧ Hid (Blk wc p0 67 [.int .i64 x, .int .i64 y]))
        case first =>
          as_aux_lemma =>
          by_cases hj3 : k2 < n2
          · obtain ⟨p', hp', g1, g2, bB, offB, rfl, hbB, e3, e4⟩ := (HR2.out.below HO2.out.bel).get hj3
            obtain ⟨x', y'⟩ := p'
            dsimp only at e3 e4
            have d2 : decide ((k2 : Int) < (n2 : Int)) = true := decide_eq_true (by omega)
            have i2 : (k2 : Int) < (n2 : Int) := by omega
            have Hd : Hid (dLo l2 k2 y = decide (x' ≤ y)) := hid (dLo_some hp')
            have r2 : ∀ nn, (wr.drewN nn).cell? ⟨q2, 0, none⟩ = some (.slice (some ⟨bB, offB, none⟩) n2 c2) := fun nn => b2
            have r3 : ∀ nn, (wr.drewN nn).cell? ⟨p0, 1, none⟩ = some (.int .i64 y) := fun nn => b4
            have r6 : ∀ nn, (wr.drewN nn).cell? ⟨bB, offB + k2 * 2, none⟩ = some (.int .i64 x') := fun nn => e3
            clear hp'
            obtain ⟨dA, hdA⟩ : ∃ dA, decide (x' ≤ y) = dA := ⟨_, rfl⟩
            cases dA with
            | true =>
              go_quiet (fail)
              go_wp2_with fail
              go_meet
              case rel => exact ⟨by rw [Hd.out, hdA], hid (HO2.out.below (Drew.below ⟨nq, rfl⟩ _)), hid (HB2.out.drewN nq)⟩
            | false =>
              go_quiet (fail)
              go_wp2_with fail
              go_meet
              case rel => exact ⟨by rw [Hd.out, hdA], hid (HO2.out.below (Drew.below ⟨nq, rfl⟩ _)), hid (HB2.out.drewN nq)⟩
          · have d2 : decide ((k2 : Int) < (n2 : Int)) = false := decide_eq_false (by omega)
            have Hd : Hid (dLo l2 k2 y = false) := hid (dLo_none (by omega))
            have r2 : ∀ nn, (wr.drewN nn).cell? ⟨q2, 0, none⟩ = some (.slice a2 n2 c2) := fun nn => b2
            go_quiet (fail)
            go_wp2_with fail
            go_meet
            case rel => exact ⟨by rw [Hd.out], hid (HO2.out.below (Drew.below ⟨nq, rfl⟩ _)), hid (HB2.out.drewN nq)⟩
        case rest =>
        obtain ⟨rfl, HOc, HBc⟩ := hcut
        clear b2 b4 HO2 HB2
        have hsh := HJ.out.nrm.short
        have hbb : (ol'.length + 1) * 16 ≤ 140737488355328 := by omega
        have b2 : wc.cell? ⟨q2, 0, none⟩ = some (.slice a2 n2 c2) := (HOc.out.keep _ Hk2.out).cell 0
        have b4 : wc.cell? ⟨p0, 1, none⟩ = some (.int .i64 y) := HBc.out.cell 1
        cases hB : dLo l2 k2 y with
        | true =>
          obtain ⟨p', hp', hle'⟩ := dLo_true hB
          have hj4 := (List.getElem?_eq_some_iff.1 hp').1
          have hrg' := hN2.rng _ (List.mem_of_getElem? hp')
          have HSt := hid (HJ.out.step hN2 hrg hp' hle' (Hge.out k2 p' hjk hp'))
          obtain ⟨p2, hp2, g1, g2, bB, offB, rfl, hbB, e3, e4⟩ := (HR2.out.below HOc.out.bel).get (show k2 < n2 by omega)
          rw [hp'] at hp2
          cases hp2
          have Hcell : Hid (∀ w8 : World, Below w.heap.size w w8 → w8.cell? ⟨bB, offB + k2 * 2 + 1, none⟩ = some (.int .i64 p'.2)) := hid (fun w8 hb8 => by
            obtain ⟨p3, hp3, _, _, bC, offC, hbC, _, _, e6⟩ := (HR2.out.below hb8).get (show k2 < n2 by omega)
            rw [hp'] at hp3
            cases hp3
            cases hbC
            exact e6)
          obtain ⟨x', y'⟩ := p'
          have i2 : (k2 : Int) < (n2 : Int) := by omega
          dsimp only at e3 e4 hrg' hle'
          clear hp' hB
          by_cases hx : lo < x'
          · as_aux_lemma =>
            have dx : decide (lo < x') = true := decide_eq_true hx
            have HSt2 : Hid (DJ l1 l2 k (k2 + 1) (x, y) (y' + 1) (ol' ++ [(lo, x' - 1)])) := hid (by have h := HSt.out; dsimp only at h; rw [if_pos hx] at h; exact h)
            have HOn := hid (HOc.out.own.alloc (.cells #[.int .i64 lo, .int .i64 (x' - 1)] 67))
            have HO3 := hid (HOc.out.below (nbel wc (.cells #[.int .i64 lo, .int .i64 (x' - 1)] 67)))
            have hsz : w.heap.size ≤ (wc.alloc (.cells #[.int .i64 lo, .int .i64 (x' - 1)] 67)).heap.size := HO3.out.bel.size
            have HB3 := hid (HBc.out.alloc (.cells #[.int .i64 lo, .int .i64 (x' - 1)] 67))
            clear HSt
            go_upto_region 16 with (at_builtin; refine wpList_append_row _ rfl (.tmp 70) (.tmp 80) 25 rfl w.heap.size 67 i0 (.agg #[.int .i64 0, .int .i64 0]) 2 16 Try.underlying25 HI.out.1 HI.out.2.1 HI.out.2.2.1 HI.out.2.2.2 rfl (by decide) _ _ _ rfl HOn.out (some ⟨wc.heap.size, 0, none⟩) 1 1 [.int .i64 lo, .int .i64 (x' - 1)] rfl rfl (fun h => by cases h) (newRow _ [.int .i64 lo, .int .i64 (x' - 1)] _ _ rfl) (fun u hu => by simp at hu; rcases hu with rfl | rfl <;> rfl) hbb (by decide) hsz ?_; intro v8 w8 hown8 hb8 hk8 hg8; have HOw8 := hid hown8; have HB8 := hid hb8; have HK8 := hid hk8; have HG8 := hid hg8; clear hown8 hb8 hk8 hg8)
            have HOe := hid (HO3.out.app (p := (lo, x' - 1)) HOw8.out HB8.out HK8.out)
            have HBe : Hid (Blk w8 p0 67 [.int .i64 x, .int .i64 y]) := hid (by
              unfold Blk
              rw [HK8.out p0 HB3.out.lt HNe.out]
              exact HB3.out)
            have HNe8 : Hid (∀ g', v8.ownBlock = some g' → p0 ≠ g') := hid (fun g' hg' => by
              rcases HG8.out g' hg' with h5 | h5
              · exact HNe.out g' h5
              · have := HB3.out.lt; omega)
            have b5 : w8.cell? ⟨q2, 0, none⟩ = some (.slice (some ⟨bB, offB, none⟩) n2 c2) := (HOe.out.keep _ Hk2.out).cell 0
            have e6 : w8.cell? ⟨bB, offB + k2 * 2 + 1, none⟩ = some (.int .i64 y') := Hcell.out w8 HOe.out.bel
            go_wp2
            exact ⟨⟨k2 + 1, y' + 1, ol' ++ [(lo, x' - 1)], by omega, by omega, by omega, by go_num, by go_num, HSt2, HOe, HBe, HNe8⟩, by simp [intOf]; omega⟩
          · as_aux_lemma =>
            have dx : decide (lo < x') = false := decide_eq_false hx
            have HSt2 : Hid (DJ l1 l2 k (k2 + 1) (x, y) (y' + 1) ol') := hid (by have h := HSt.out; dsimp only at h; rw [if_neg hx, List.append_nil] at h; exact h)
            clear HSt
            go_wp2
            exact ⟨⟨k2 + 1, y' + 1, ol', by omega, by omega, by omega, by go_num, by go_num, HSt2, HOc, HBc, HNe⟩, by simp [intOf]; omega⟩
        | false =>
          have HL := hid (HJ.out.leave hN1 hN2 Hp.out (dLo_false hB) Hsk.out)
          clear hB b2
          by_cases hx : lo ≤ y
          · as_aux_lemma =>
            have dx : decide (lo ≤ y) = true := decide_eq_true hx
            have HL2 : Hid (DI l1 l2 (k + 1) j2 (ol' ++ [(lo, y)])) := hid (by have h := HL.out; dsimp only at h; rw [if_pos hx] at h; exact h)
            have HOn := hid (HOc.out.own.alloc (.cells #[.int .i64 lo, .int .i64 y] 67))
            have HO3 := hid (HOc.out.below (nbel wc (.cells #[.int .i64 lo, .int .i64 y] 67)))
            have hsz : w.heap.size ≤ (wc.alloc (.cells #[.int .i64 lo, .int .i64 y] 67)).heap.size := HO3.out.bel.size
            clear HL
            go_wp2_with (at_builtin; refine wpList_append_row _ rfl (.tmp 93) (.tmp 98) 25 rfl w.heap.size 67 i0 (.agg #[.int .i64 0, .int .i64 0]) 2 16 Try.underlying25 HI.out.1 HI.out.2.1 HI.out.2.2.1 HI.out.2.2.2 rfl (by decide) _ _ _ rfl HOn.out (some ⟨wc.heap.size, 0, none⟩) 1 1 [.int .i64 lo, .int .i64 y] rfl rfl (fun h => by cases h) (newRow _ [.int .i64 lo, .int .i64 y] _ _ rfl) (fun u hu => by simp at hu; rcases hu with rfl | rfl <;> rfl) hbb (by decide) hsz ?_; intro v8 w8 hown8 hb8 hk8 hg8; have HOw8 := hid hown8; have HB8 := hid hb8; have HK8 := hid hk8; clear hown8 hb8 hk8 hg8)
            have HOe := hid (HO3.out.app (p := (lo, y)) HOw8.out HB8.out HK8.out)
            exact ⟨⟨k + 1, j2, ol' ++ [(lo, y)], by omega, by omega, rfl, by go_num, HL2, HOe⟩, by simp [intOf]; omega⟩
          · as_aux_lemma =>
            have dx : decide (lo ≤ y) = false := decide_eq_false hx
            have HL2 : Hid (DI l1 l2 (k + 1) j2 ol') := hid (by have h := HL.out; dsimp only at h; rw [if_neg hx, List.append_nil] at h; exact h)
            clear HL
            go_wp2
            exact ⟨⟨k + 1, j2, ol', by omega, by omega, rfl, by go_num, HL2, HOc⟩, by simp [intOf]; omega⟩
end Go.Proofs.Qxb6500884a
