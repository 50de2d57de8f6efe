/- merge over records. -/
import Derived.Test.Qxb6500890aDoorTextKIns
namespace Go.Proofs.Qxb6500890aDoor
open Go.RowKit
set_option linter.unusedSimpArgs false
set_option linter.unusedVariables false

theorem info_keyed : (Tryd.prog.info? 49).map (fun i => (i.zero, i.size, i.bytes)) = some (some (.agg #[.string ByteArray.empty, .int .i64 0]), 2, 24) := by kernel_rfl

theorem info_partsK : ∃ i, Tryd.prog.info? 49 = some i ∧ i.zero = some (.agg #[.string ByteArray.empty, .int .i64 0]) ∧ i.size = 2 ∧ i.bytes = 24 := by
  have h := info_keyed
  obtain ⟨i, hi, hzz⟩ := Option.map_eq_some_iff.1 h
  simp only [Prod.mk.injEq] at hzz
  exact ⟨i, hi, hzz.1, hzz.2.1, hzz.2.2⟩

/-- One more element laid behind those that are done. -/
theorem put_nextK {A D M B : List Rec} {k : Nat} (hk : D.length = k) (v : Rec) (hM : 0 < M.length) : (A ++ (D ++ (M ++ B))).set (A.length + k) v = A ++ ((D ++ [v]) ++ (M.tail ++ B)) := by
  rw [seg_set]
  congr 1
  cases M with
  | nil => simp at hM
  | cons m M =>
    rw [← hk, ← Nat.add_zero D.length, seg_set]
    simp

theorem flat_take (X : List Rec) (k : Nat) : (flat X).take (k * 2) = flat (X.take k) := by
  induction X generalizing k with
  | nil => simp [flat]
  | cons r X ih =>
    cases k with
    | zero => simp [flat]
    | succ k => rw [flat_cons, show (k + 1) * 2 = k * 2 + 1 + 1 by omega, List.take_succ_cons, List.take_succ_cons, ih, List.take_succ_cons, flat_cons]
theorem flat_drop (X : List Rec) (k : Nat) : (flat X).drop (k * 2) = flat (X.drop k) := by
  induction X generalizing k with
  | nil => simp [flat]
  | cons r X ih =>
    cases k with
    | zero => simp [flat]
    | succ k => rw [flat_cons, show (k + 1) * 2 = k * 2 + 1 + 1 by omega, List.drop_succ_cons, List.drop_succ_cons, ih, List.drop_succ_cons]

theorem splice_nextK {A D M B X : List Rec} {k o : Nat} (hk : D.length = k) (ho : (A.length + k) * 2 = o) (hX : X.length ≤ M.length) : splice (flat (A ++ (D ++ (M ++ B)))) o (flat X) = flat (A ++ ((D ++ X) ++ (M.drop X.length ++ B))) := by
  have e1 : A ++ (D ++ (M ++ B)) = (A ++ D) ++ (M ++ B) := by simp
  have e2 : (A ++ D).length = A.length + k := by simp [hk]
  subst ho
  unfold splice
  rw [flat_len, flat_take, ← Nat.add_mul, flat_drop, e1, ← e2, List.take_left, ← List.drop_drop, List.drop_left, List.drop_append_of_le_length hX, ← flat_append, ← flat_append]
  simp

theorem rec_one (X : List Rec) : ∀ v ∈ flat X, v.oneCell' = true := by
  intro v hv
  obtain ⟨x, _, hx⟩ := List.mem_flatMap.1 hv
  simp [recCells] at hx
  rcases hx with rfl | rfl <;> rfl

theorem copyLK {g2 o2 : Nat} {A2 L R B2 : List Rec} {w : World} (ho : A2.length * 2 = o2) (h : BlkK w g2 (A2 ++ (L ++ (R ++ B2)))) (i : Nat) :
    ∀ j v, (flat (L.drop i))[j]? = some v → w.cell? ((⟨g2, o2 + i * 2, none⟩ : Addr).add j) = some v := by
  intro j v hj
  have e : (⟨g2, o2 + i * 2, none⟩ : Addr).add j = ⟨g2, o2 + (i * 2 + j), none⟩ := by unfold Addr.add; split <;> simp_all [Nat.add_assoc]
  rw [e, Blk.cell h]
  rw [← flat_drop, List.getElem?_drop] at hj
  have hlt := (List.getElem?_eq_some_iff.1 hj).1
  rw [flat_append, List.getElem?_append_right (by rw [flat_len]; omega), flat_len, ho, Nat.add_sub_cancel_left, flat_append, List.getElem?_append_left hlt]
  exact hj
theorem copyRK {g2 o3 : Nat} {A2 L R B2 : List Rec} {w : World} (ho : (A2.length + L.length) * 2 = o3) (h : BlkK w g2 (A2 ++ (L ++ (R ++ B2)))) (i : Nat) :
    ∀ j v, (flat (R.drop i))[j]? = some v → w.cell? ((⟨g2, o3 + i * 2, none⟩ : Addr).add j) = some v := by
  have h' : BlkK w g2 ((A2 ++ L) ++ (R ++ ([] ++ B2))) := by simpa using h
  exact copyLK (g2 := g2) (A2 := A2 ++ L) (L := R) (R := []) (B2 := B2) (w := w) (by rw [List.length_append]; exact ho) h' i

def Mid (g1 : Nat) (A B L R : List Rec) (w : World) (nl nr j kk : Nat) (D M : List Rec) (wc : World) : Prop :=
  kk = nl + j ∧ D.length = kk ∧ M.length = nr - j ∧ mrg ltK L R = D ++ R.drop j ∧ Upd g1 w wc ∧ BlkK wc g1 (A ++ (D ++ (M ++ B)))

theorem mrg_doneK {g1 : Nat} {A D M L R B : List Rec} {o1 kk j nl nr : Nat} {w wc w6 : World} (ho : A.length * 2 = o1)
    (h5 : Mid g1 A B L R w nl nr j kk D M wc) (hn : R.length = nr)
    (hb : Blk w6 g1 49 (splice (flat (A ++ (D ++ (M ++ B)))) (o1 + kk * 2) (flat (R.drop j)))) (hu : Upd g1 wc.drew w6) : Upd g1 w w6 ∧ BlkK w6 g1 (A ++ (mrg ltK L R ++ B)) := by
  obtain ⟨_, hD, hM, hm, h1, h2⟩ := h5
  refine ⟨(h1.drew ⟨1, rfl⟩).trans hu, ?_⟩
  rw [splice_nextK hD (by omega) (by rw [List.length_drop, hn, hM]; omega)] at hb
  have e : M.drop (R.drop j).length = [] := List.drop_of_length_le (by rw [List.length_drop, hn, hM]; omega)
  rw [e, List.nil_append] at hb
  rw [hm]
  exact hb

set_option maxRecDepth 100000 in
set_option maxHeartbeats 4000000 in
theorem mergeK_walk (g1 g2 c1 c2 c3 : Nat) (A M B A2 L R B2 : List Rec) (ra : Option Addr) (hne : g1 ≠ g2) (hM : M.length = L.length + R.length) (hL0 : 0 < L.length) (hc1 : L.length + R.length ≤ c1) (hc2 : L.length + R.length ≤ c2) (hc3 : R.length ≤ c3)
    (hra : 0 < R.length → ra = some ⟨g2, (A2.length + L.length) * 2, none⟩) (hs1 : A.length + (L.length + R.length) ≤ 1000000) (hs2 : A2.length ≤ 1000000) (hok : ∀ s ∈ L ++ R, s.1.size ≤ 140737488351232) (w : World)
    (hb1 : BlkK w g1 (A ++ (M ++ B))) (hb2 : BlkK w g2 (A2 ++ (L ++ (R ++ B2)))) :
    Calls Tryd.prog 85 #[.slice (some ⟨g1, A.length * 2, none⟩) (L.length + R.length) c1, .slice (some ⟨g2, A2.length * 2, none⟩) L.length c2, .slice ra R.length c3, .func (.func 63) #[] #[]] w fun e w' =>
      e = .returned (.tuple #[]) ∧ Upd g1 w w' ∧ BlkK w' g1 (A ++ (mrg ltK L R ++ B)) := by
  obtain ⟨i0, hi, hz0, hz1, hz2⟩ := info_partsK
  have HI : Hid (Tryd.prog.info? 49 = some i0 ∧ i0.size = 2) := ⟨hi, hz1⟩
  have HB1 := hid hb1
  have HB2 := hid hb2
  have HOk := hid hok
  have HM := hid hM
  have HRa := hid hra
  clear hb1 hb2 hok hM hra hi hz0 hz1 hz2
  obtain ⟨o1, ho1⟩ : ∃ o, A.length * 2 = o := ⟨_, rfl⟩
  obtain ⟨o2, ho2⟩ : ∃ o, A2.length * 2 = o := ⟨_, rfl⟩
  obtain ⟨o3, ho3⟩ : ∃ o, (A2.length + L.length) * 2 = o := ⟨_, rfl⟩
  obtain ⟨nl, hnl⟩ : ∃ o, L.length = o := ⟨_, rfl⟩
  obtain ⟨nr, hnr⟩ : ∃ o, R.length = o := ⟨_, rfl⟩
  have HLn := hid (⟨ho1, ho2, hnl, hnr, ho3⟩ : A.length * 2 = o1 ∧ A2.length * 2 = o2 ∧ L.length = nl ∧ R.length = nr ∧ (A2.length + L.length) * 2 = o3)
  rw [ho3] at HRa
  rw [ho1, ho2, hnl, hnr]
  rw [hnl, hnr] at hs1
  rw [hnl] at hL0
  rw [hnl, hnr] at hc1 hc2
  rw [hnr] at hc3
  have hs3 : o1 ≤ 2000000 := by omega
  have hs4 : nl + nr ≤ 1000000 := by omega
  have hs5 : o2 ≤ 2000000 := by omega
  have hs6 : o3 ≤ 4000000 := by omega
  clear ho1 ho2 hnl hnr ho3 hs1 hs2
  go_enter Tryd.func85, Tryd.ntmps85
  go_wp2
  go_loopw [8, 9, 10] (fun vi vj vk wr => ∃ (i j k : Nat) (D M' : List Rec), i ≤ nl ∧ j ≤ nr ∧ k = i + j ∧ vi = .int .i64 i ∧ vj = .int .i64 j ∧ vk = .int .i64 k ∧ Hid (D.length = i + j ∧ M'.length = nl + nr - (i + j)) ∧ (i < nl ∨ j < nr) ∧ Hid (mrg ltK L R = D ++ mrg ltK (L.drop i) (R.drop j)) ∧ Hid (Upd g1 w wr) ∧ Hid (BlkK wr g1 (A ++ (D ++ (M' ++ B))))) (fun vi vj _ _ => nl + nr - ((intOf vi).toNat + (intOf vj).toNat))
  case atStart => exact ⟨0, 0, 0, [], M, Nat.zero_le _, Nat.zero_le _, rfl, rfl, rfl, rfl, hid ⟨rfl, by rw [HM.out, HLn.out.2.2.1, HLn.out.2.2.2.1]; rfl⟩, by omega, hid (by simp), hid (Upd.refl _ _), hid (by simpa using HB1.out)⟩
  case round =>
    obtain ⟨i, j, k, D, M', hi, hj, hk, rfl, rfl, rfl, HDM, hij, HMr, HU, HB⟩ := hrel
    have HS := hid (HB2.out.upd HU.out (fun e => hne e.symm))
    have hk1 : k ≤ 1000000 := by omega
    have hk2 : k ≤ i + j := by omega
    have hk3 : i + j ≤ k := by omega
    have HK := hid hk
    clear hk
    by_cases hin : i < nl ∧ j < nr
    · obtain ⟨hin1, hin2⟩ := hin
      obtain rfl := HRa.out (by rw [HLn.out.2.2.2.1]; omega)
      obtain ⟨x, hx⟩ : ∃ x, L[i]? = some x := ⟨_, List.getElem?_eq_getElem (by rw [HLn.out.2.2.1]; exact hin1)⟩
      obtain ⟨y, hy⟩ : ∃ y, R[j]? = some y := ⟨_, List.getElem?_eq_getElem (by rw [HLn.out.2.2.2.1]; exact hin2)⟩
      have sx := HOk.out x (List.mem_append_left _ (List.mem_of_getElem? hx))
      have sy := HOk.out y (List.mem_append_right _ (List.mem_of_getElem? hy))
      have HGx : Hid (∀ wq, BlkK wq g2 (A2 ++ (L ++ (R ++ B2))) → wq.cell? ⟨g2, o2 + i * 2, none⟩ = some (.string x.1) ∧ wq.cell? ⟨g2, o2 + i * 2 + 1, none⟩ = some (.int .i64 x.2)) := hid fun wq hq => BlkK.get (k := A2.length + i) hq (by rw [seg_get, List.getElem?_append_left (by rw [HLn.out.2.2.1]; exact hin1)]; exact hx) (by have := HLn.out.2.1; omega)
      have HGy : Hid (∀ wq, BlkK wq g2 (A2 ++ (L ++ (R ++ B2))) → wq.cell? ⟨g2, o3 + j * 2, none⟩ = some (.string y.1) ∧ wq.cell? ⟨g2, o3 + j * 2 + 1, none⟩ = some (.int .i64 y.2)) := hid fun wq hq => BlkK.get (k := A2.length + (L.length + j)) hq (by rw [seg_get, seg_get, List.getElem?_append_left (by rw [HLn.out.2.2.2.1]; exact hin2)]; exact hy) (by have := HLn.out.2.2.2.2; omega)
      have hMp : 0 < M'.length := by rw [HDM.out.2]; omega
      obtain ⟨h0, hh0⟩ : ∃ h0, h0 = M'[0] := ⟨_, rfl⟩
      have HGk : Hid (∀ wq, BlkK wq g1 (A ++ (D ++ (M' ++ B))) → wq.cell? ⟨g1, o1 + k * 2, none⟩ = some (.string h0.1) ∧ wq.cell? ⟨g1, o1 + k * 2 + 1, none⟩ = some (.int .i64 h0.2)) := hid fun wq hq => BlkK.get (k := A.length + k) hq (by
        rw [seg_get, HK.out, ← HDM.out.1, ← Nat.add_zero D.length, seg_get, List.getElem?_append_left hMp, hh0]
        exact List.getElem?_eq_getElem hMp) (by have := HLn.out.1; omega)
      have HX := hid (⟨hx, hy⟩ : L[i]? = some x ∧ R[j]? = some y)
      clear hx hy hh0
      obtain ⟨cx0, cx1⟩ := HGx.out wr HS.out
      obtain ⟨cy0, cy1⟩ := HGy.out wr HS.out
      have i1 : (i : Int) < (nl : Int) := by omega
      have i2 : (j : Int) < (nr : Int) := by omega
      have i3 : (k : Int) < ((nl + nr : Nat) : Int) := by omega
      have i4 : (k : Int) < (nl : Int) + (nr : Int) := by omega
      go_wp2_with fail
      go_cut [30] (fun v wc => v = .bool (ltK y x) ∧ Hid (Below wr.heap.size wr wc))
      case first =>
        go_region_with (go_at_call 63; refine (lessK_walk y x sy sx _).mono ?_; rintro e w1 ⟨rfl, hb1⟩; have HB1 := hid hb1; clear hb1)
        all_goals (go_wp2_with fail; go_meet)
        all_goals (case rel => exact ⟨rfl, hid ((Drew.below ⟨1, rfl⟩ _).trans HB1.out)⟩)
      case rest =>
        obtain ⟨rfl, HBc⟩ := hcut
        have HB3 := hid (HB.out.below HBc.out)
        have HS3 := hid (HS.out.below HBc.out)
        have HU3 := hid (HU.out.ofBelow HBc.out)
        clear cx0 cx1 cy0 cy1
        obtain ⟨cx0, cx1⟩ := HGx.out wc HS3.out
        obtain ⟨cy0, cy1⟩ := HGy.out wc HS3.out
        obtain ⟨ck0, ck1⟩ := HGk.out wc HB3.out
        have fk0 : wc.frozen? ⟨g1, o1 + k * 2, none⟩ = false := HB3.out.frozen _
        have fk1 : wc.frozen? ⟨g1, o1 + k * 2 + 1, none⟩ = false := HB3.out.frozen _
        cases hxy : ltK y x with
        | true =>
          have HXY := hid hxy
          clear hxy
          go_wp2
          refine ⟨⟨i, j + 1, k + 1, D ++ [y], M'.tail, hi, by omega, by omega, by go_num, by go_num, by go_num, hid ⟨by rw [List.length_append, HDM.out.1]; simp; omega, by rw [List.length_tail, HDM.out.2]; omega⟩, .inl hin1, hid ?_, hid ((HU3.out.setCell rfl _).setCell rfl _), hid ?_⟩, by simp [intOf]; omega⟩
          · rw [HMr.out, mrg_right HX.out.1 HX.out.2 HXY.out]; simp
          · have h1 := HB3.out.set (k := A.length + k) (o := o1 + k * 2) y (by have := HLn.out.1; omega)
            rw [put_nextK (HDM.out.1.trans HK.out.symm) y hMp] at h1
            exact h1
        | false =>
          have HXY := hid hxy
          clear hxy
          go_wp2
          refine ⟨⟨i + 1, j, k + 1, D ++ [x], M'.tail, by omega, hj, by omega, by go_num, by go_num, by go_num, hid ⟨by rw [List.length_append, HDM.out.1]; simp; omega, by rw [List.length_tail, HDM.out.2]; omega⟩, .inr hin2, hid ?_, hid ((HU3.out.setCell rfl _).setCell rfl _), hid ?_⟩, by simp [intOf]; omega⟩
          · rw [HMr.out, mrg_left HX.out.1 HX.out.2 HXY.out]; simp
          · have h1 := HB3.out.set (k := A.length + k) (o := o1 + k * 2) x (by have := HLn.out.1; omega)
            rw [put_nextK (HDM.out.1.trans HK.out.symm) x hMp] at h1
            exact h1
    · have n1 : ¬ c1 = k := by omega
      have n2 : ¬ c2 = i := by omega
      have i3 : (k : Int) ≤ (nl : Int) + (nr : Int) := by omega
      have i1' : (i : Int) ≤ (nl : Int) := by omega
      have HC := hid (copyLK (g2 := g2) (o2 := o2) (A2 := A2) (L := L) (R := R) (B2 := B2) (w := wr.drew) HLn.out.2.1 HS.out i)
      have HNl := hid HLn.out.2.2.1
      have HBd : Hid (Blk wr.drew g1 49 (flat (A ++ (D ++ (M' ++ B))))) := HB.out
      have s1 : Hid ((flat (L.drop i)).length = (nl - i) * 2) := by
        show _ = _
        rw [flat_len, List.length_drop, HNl.out]
      have s2 : Hid (o1 + k * 2 + (flat (L.drop i)).length ≤ (flat (A ++ (D ++ (M' ++ B)))).length) := by
        show _ ≤ _
        have := HLn.out.1
        rw [flat_len, flat_len, List.length_drop, HNl.out, List.length_append, List.length_append, List.length_append, HDM.out.1, HDM.out.2]; omega
      have HMx : Hid (mrg ltK L R = (D ++ L.drop i) ++ R.drop j) := by
        show _ = _
        rw [HMr.out]
        by_cases hi2 : i < nl
        · have e : R.drop j = [] := List.drop_of_length_le (by rw [HLn.out.2.2.2.1]; omega)
          rw [e, mrg_nil, List.append_nil]
        · have e : L.drop i = [] := List.drop_of_length_le (by rw [HLn.out.2.2.1]; omega)
          rw [e, List.append_nil]; rfl
      by_cases hi2 : i < nl
      · have i1 : (i : Int) < (nl : Int) := by omega
        have d2 : decide ((j : Int) < (nr : Int)) = false := decide_eq_false (by omega)
        go_upto_region 8 with fail
        go_cut [10] (fun v wc => ∃ (kk : Nat) (D' M'' : List Rec), v = .int .i64 kk ∧ Mid g1 A B L R w nl nr j kk D' M'' wc)
        case first =>
          go_region_law (refine step_copy_blk _ rfl (.tmp 54) (.tmp 57) 34 34 rfl 49 i0 2 Tryd.underlying34 HI.out.1 HI.out.2 (some ⟨g1, o1 + k * 2, none⟩) (some ⟨g2, o2 + i * 2, none⟩) (nl + nr - k) (c1 - k) (nl - i) (c2 - i) (by simp [Act.eval, Act.put]) (by simp [Act.eval, Act.put]) g1 (o1 + k * 2) 49 _ (flat (L.drop i)) (nl - i) (Nat.min_eq_left (by omega)) HBd.out s1.out (fun _ => ⟨rfl, ⟨_, rfl, HC.out⟩⟩) s2.out (rec_one _) ?_; intro w4 hb4 hu4)
          go_wp2
          go_meet
          case rel =>
            refine ⟨nl + j, D ++ L.drop i, M'.drop (nl - i), congrArg (Value.int .i64) (by rw [IntKind.wrap_i64]; omega), rfl, ?_, ?_, HMx.out, (HU.out.drew ⟨1, rfl⟩).trans hu4.out, ?_⟩
            · rw [List.length_append, List.length_drop, HDM.out.1, HNl.out]; omega
            · rw [List.length_drop, HDM.out.2]; omega
            · have h1 := hb4.out
              rw [splice_nextK (HDM.out.1.trans HK.out.symm) (by have := HLn.out.1; omega) (by rw [List.length_drop, HNl.out, HDM.out.2]; omega), List.length_drop, HNl.out] at h1
              exact h1
        case rest =>
          obtain ⟨kk, D', M'', rfl, h5⟩ := hcut
          have H5 := hid h5
          obtain ⟨hkk, hD', hM'', hmx, hu5, hb5⟩ := h5
          have hkk1 : kk ≤ nl + j := by omega
          have hkk2 : nl + j ≤ kk := by omega
          have i5 : (kk : Int) ≤ (nl : Int) + (nr : Int) := by omega
          have i6 : (j : Int) ≤ (nr : Int) := by omega
          have HBw : Hid (Blk wc.drew g1 49 (flat (A ++ (D' ++ (M'' ++ B))))) := hb5
          have HSw : Hid (BlkK wc.drew g2 (A2 ++ (L ++ (R ++ B2)))) := HB2.out.upd (hu5.drew ⟨1, rfl⟩) (fun e => hne e.symm)
          have t1 : Hid ((flat (R.drop j)).length = (nr - j) * 2) := by
            show _ = _
            rw [flat_len, List.length_drop, HLn.out.2.2.2.1]
          have t2 : Hid (o1 + kk * 2 + (flat (R.drop j)).length ≤ (flat (A ++ (D' ++ (M'' ++ B)))).length) := by
            show _ ≤ _
            have := HLn.out.1
            rw [flat_len, flat_len, List.length_drop, HLn.out.2.2.2.1, List.length_append, List.length_append, List.length_append, hD', hM'']; omega
          have HCr := hid (copyRK (g2 := g2) (A2 := A2) (L := L) (R := R) (B2 := B2) (w := wc.drew) HLn.out.2.2.2.2 HSw.out j)
          clear hkk hD' hM'' hmx hu5 hb5
          by_cases hjr : j < nr
          · obtain rfl := HRa.out (by rw [HLn.out.2.2.2.1]; omega)
            have n3 : ¬ c1 = kk := by omega
            have n4 : ¬ c3 = j := by omega
            go_wp2
            go_region_law (refine step_copy_blk _ rfl (.tmp 62) (.tmp 65) 34 34 rfl 49 i0 2 Tryd.underlying34 HI.out.1 HI.out.2 (some ⟨g1, o1 + kk * 2, none⟩) (some ⟨g2, o3 + j * 2, none⟩) (nl + nr - kk) (c1 - kk) (nr - j) (c3 - j) (by simp [Act.eval, Act.put]) (by simp [Act.eval, Act.put]) g1 (o1 + kk * 2) 49 _ (flat (R.drop j)) (nr - j) (Nat.min_eq_left (by omega)) HBw.out t1.out (fun _ => ⟨rfl, ⟨_, rfl, HCr.out⟩⟩) t2.out (rec_one _) ?_; intro w6 hb6 hu6)
            go_wp2
            go_end0
            exact ⟨rfl, mrg_doneK HLn.out.1 H5.out HLn.out.2.2.2.1 hb6.out hu6.out⟩
          · obtain ⟨dp, hdp⟩ : ∃ dp, (if c1 = kk then some (⟨g1, o1, none⟩ : Addr) else some ⟨g1, o1 + kk * 2, none⟩) = dp := ⟨_, rfl⟩
            cases ra with
            | none =>
              go_wp2
              go_region_law (refine step_copy_blk _ rfl (.tmp 62) (.tmp 65) 34 34 rfl 49 i0 2 Tryd.underlying34 HI.out.1 HI.out.2 dp none (nl + nr - kk) (c1 - kk) (nr - j) (c3 - j) (by simp [Act.eval, Act.put]) (by simp [Act.eval, Act.put]) g1 (o1 + kk * 2) 49 _ (flat (R.drop j)) (nr - j) (Nat.min_eq_left (by omega)) HBw.out t1.out (fun h => absurd h (by omega)) t2.out (rec_one _) ?_; intro w6 hb6 hu6)
              go_wp2
              go_end0
              exact ⟨rfl, mrg_doneK HLn.out.1 H5.out HLn.out.2.2.2.1 hb6.out hu6.out⟩
            | some ad =>
              obtain ⟨sp, hsp⟩ : ∃ sp, (if c3 = j then some ad else some (ad.add (j * 2))) = sp := ⟨_, rfl⟩
              go_wp2
              go_region_law (refine step_copy_blk _ rfl (.tmp 62) (.tmp 65) 34 34 rfl 49 i0 2 Tryd.underlying34 HI.out.1 HI.out.2 dp sp (nl + nr - kk) (c1 - kk) (nr - j) (c3 - j) (by simp [Act.eval, Act.put]) (by simp [Act.eval, Act.put]) g1 (o1 + kk * 2) 49 _ (flat (R.drop j)) (nr - j) (Nat.min_eq_left (by omega)) HBw.out t1.out (fun h => absurd h (by omega)) t2.out (rec_one _) ?_; intro w6 hb6 hu6)
              go_wp2
              go_end0
              exact ⟨rfl, mrg_doneK HLn.out.1 H5.out HLn.out.2.2.2.1 hb6.out hu6.out⟩
      · have d1 : decide ((i : Int) < (nl : Int)) = false := decide_eq_false (by omega)
        go_upto_region 8 with fail
        go_cut [10] (fun v wc => ∃ (kk : Nat) (D' M'' : List Rec), v = .int .i64 kk ∧ Mid g1 A B L R w nl nr j kk D' M'' wc)
        case first =>
          go_region_law (refine step_copy_blk _ rfl (.tmp 54) (.tmp 57) 34 34 rfl 49 i0 2 Tryd.underlying34 HI.out.1 HI.out.2 (some ⟨g1, o1 + k * 2, none⟩) (some ⟨g2, o2 + i * 2, none⟩) (nl + nr - k) (c1 - k) (nl - i) (c2 - i) (by simp [Act.eval, Act.put]) (by simp [Act.eval, Act.put]) g1 (o1 + k * 2) 49 _ (flat (L.drop i)) (nl - i) (Nat.min_eq_left (by omega)) HBd.out s1.out (fun _ => ⟨rfl, ⟨_, rfl, HC.out⟩⟩) s2.out (rec_one _) ?_; intro w4 hb4 hu4)
          go_wp2
          go_meet
          case rel =>
            refine ⟨nl + j, D ++ L.drop i, M'.drop (nl - i), congrArg (Value.int .i64) (by rw [IntKind.wrap_i64]; omega), rfl, ?_, ?_, HMx.out, (HU.out.drew ⟨1, rfl⟩).trans hu4.out, ?_⟩
            · rw [List.length_append, List.length_drop, HDM.out.1, HNl.out]; omega
            · rw [List.length_drop, HDM.out.2]; omega
            · have h1 := hb4.out
              rw [splice_nextK (HDM.out.1.trans HK.out.symm) (by have := HLn.out.1; omega) (by rw [List.length_drop, HNl.out, HDM.out.2]; omega), List.length_drop, HNl.out] at h1
              exact h1
        case rest =>
          obtain ⟨kk, D', M'', rfl, h5⟩ := hcut
          have H5 := hid h5
          obtain ⟨hkk, hD', hM'', hmx, hu5, hb5⟩ := h5
          have hkk1 : kk ≤ nl + j := by omega
          have hkk2 : nl + j ≤ kk := by omega
          have i5 : (kk : Int) ≤ (nl : Int) + (nr : Int) := by omega
          have i6 : (j : Int) ≤ (nr : Int) := by omega
          have HBw : Hid (Blk wc.drew g1 49 (flat (A ++ (D' ++ (M'' ++ B))))) := hb5
          have HSw : Hid (BlkK wc.drew g2 (A2 ++ (L ++ (R ++ B2)))) := HB2.out.upd (hu5.drew ⟨1, rfl⟩) (fun e => hne e.symm)
          have t1 : Hid ((flat (R.drop j)).length = (nr - j) * 2) := by
            show _ = _
            rw [flat_len, List.length_drop, HLn.out.2.2.2.1]
          have t2 : Hid (o1 + kk * 2 + (flat (R.drop j)).length ≤ (flat (A ++ (D' ++ (M'' ++ B)))).length) := by
            show _ ≤ _
            have := HLn.out.1
            rw [flat_len, flat_len, List.length_drop, HLn.out.2.2.2.1, List.length_append, List.length_append, List.length_append, hD', hM'']; omega
          have HCr := hid (copyRK (g2 := g2) (A2 := A2) (L := L) (R := R) (B2 := B2) (w := wc.drew) HLn.out.2.2.2.2 HSw.out j)
          clear hkk hD' hM'' hmx hu5 hb5
          by_cases hjr : j < nr
          · obtain rfl := HRa.out (by rw [HLn.out.2.2.2.1]; omega)
            have n3 : ¬ c1 = kk := by omega
            have n4 : ¬ c3 = j := by omega
            go_wp2
            go_region_law (refine step_copy_blk _ rfl (.tmp 62) (.tmp 65) 34 34 rfl 49 i0 2 Tryd.underlying34 HI.out.1 HI.out.2 (some ⟨g1, o1 + kk * 2, none⟩) (some ⟨g2, o3 + j * 2, none⟩) (nl + nr - kk) (c1 - kk) (nr - j) (c3 - j) (by simp [Act.eval, Act.put]) (by simp [Act.eval, Act.put]) g1 (o1 + kk * 2) 49 _ (flat (R.drop j)) (nr - j) (Nat.min_eq_left (by omega)) HBw.out t1.out (fun _ => ⟨rfl, ⟨_, rfl, HCr.out⟩⟩) t2.out (rec_one _) ?_; intro w6 hb6 hu6)
            go_wp2
            go_end0
            exact ⟨rfl, mrg_doneK HLn.out.1 H5.out HLn.out.2.2.2.1 hb6.out hu6.out⟩
          · obtain ⟨dp, hdp⟩ : ∃ dp, (if c1 = kk then some (⟨g1, o1, none⟩ : Addr) else some ⟨g1, o1 + kk * 2, none⟩) = dp := ⟨_, rfl⟩
            cases ra with
            | none =>
              go_wp2
              go_region_law (refine step_copy_blk _ rfl (.tmp 62) (.tmp 65) 34 34 rfl 49 i0 2 Tryd.underlying34 HI.out.1 HI.out.2 dp none (nl + nr - kk) (c1 - kk) (nr - j) (c3 - j) (by simp [Act.eval, Act.put]) (by simp [Act.eval, Act.put]) g1 (o1 + kk * 2) 49 _ (flat (R.drop j)) (nr - j) (Nat.min_eq_left (by omega)) HBw.out t1.out (fun h => absurd h (by omega)) t2.out (rec_one _) ?_; intro w6 hb6 hu6)
              go_wp2
              go_end0
              exact ⟨rfl, mrg_doneK HLn.out.1 H5.out HLn.out.2.2.2.1 hb6.out hu6.out⟩
            | some ad =>
              obtain ⟨sp, hsp⟩ : ∃ sp, (if c3 = j then some ad else some (ad.add (j * 2))) = sp := ⟨_, rfl⟩
              go_wp2
              go_region_law (refine step_copy_blk _ rfl (.tmp 62) (.tmp 65) 34 34 rfl 49 i0 2 Tryd.underlying34 HI.out.1 HI.out.2 dp sp (nl + nr - kk) (c1 - kk) (nr - j) (c3 - j) (by simp [Act.eval, Act.put]) (by simp [Act.eval, Act.put]) g1 (o1 + kk * 2) 49 _ (flat (R.drop j)) (nr - j) (Nat.min_eq_left (by omega)) HBw.out t1.out (fun h => absurd h (by omega)) t2.out (rec_one _) ?_; intro w6 hb6 hu6)
              go_wp2
              go_end0
              exact ⟨rfl, mrg_doneK HLn.out.1 H5.out HLn.out.2.2.2.1 hb6.out hu6.out⟩
end Go.Proofs.Qxb6500890aDoor
