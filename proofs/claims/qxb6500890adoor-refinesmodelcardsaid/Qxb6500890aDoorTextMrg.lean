/- merge over strings. -/
import Derived.Test.Qxb6500890aDoorTextIns
import Derived.Test.Qxb6500890aDoorCopy
import Derived.Deep.DeepCutAuto
namespace Go.Proofs.Qxb6500890aDoor
open Go.RowKit
set_option linter.unusedSimpArgs false
set_option linter.unusedVariables false

theorem mrg_right {α : Type} {lt : α → α → Bool} {L R : List α} {i j : Nat} {x y : α} (hx : L[i]? = some x) (hy : R[j]? = some y) (h : lt y x = true) : mrg lt (L.drop i) (R.drop j) = y :: mrg lt (L.drop i) (R.drop (j + 1)) := by
  obtain ⟨hi, rfl⟩ := List.getElem?_eq_some_iff.1 hx
  obtain ⟨hj, rfl⟩ := List.getElem?_eq_some_iff.1 hy
  rw [List.drop_eq_getElem_cons hi, List.drop_eq_getElem_cons hj, mrg_cons, if_pos h]
theorem mrg_left {α : Type} {lt : α → α → Bool} {L R : List α} {i j : Nat} {x y : α} (hx : L[i]? = some x) (hy : R[j]? = some y) (h : lt y x = false) : mrg lt (L.drop i) (R.drop j) = x :: mrg lt (L.drop (i + 1)) (R.drop j) := by
  obtain ⟨hi, rfl⟩ := List.getElem?_eq_some_iff.1 hx
  obtain ⟨hj, rfl⟩ := List.getElem?_eq_some_iff.1 hy
  rw [List.drop_eq_getElem_cons hi, List.drop_eq_getElem_cons hj, mrg_cons, if_neg (by simp [h])]

/-- One more element laid behind those that are done. -/
theorem put_next {A D M B : List ByteArray} {k : Nat} (hk : D.length = k) (v : ByteArray) (hM : 0 < M.length) : ((A ++ (D ++ (M ++ B))).map Value.string).set (A.length + k) (.string v) = (A ++ ((D ++ [v]) ++ (M.tail ++ B))).map .string := by
  rw [← List.map_set, seg_set]
  congr 2
  cases M with
  | nil => simp at hM
  | cons m M =>
    rw [← hk, ← Nat.add_zero D.length, seg_set]
    simp

theorem splice_next {A D M B X : List ByteArray} {k : Nat} (hk : D.length = k) (hX : X.length ≤ M.length) : splice ((A ++ (D ++ (M ++ B))).map Value.string) (A.length + k) (X.map .string) = (A ++ ((D ++ X) ++ (M.drop X.length ++ B))).map .string := by
  have e1 : A ++ (D ++ (M ++ B)) = (A ++ D) ++ (M ++ B) := by simp
  have e2 : (A ++ D).length = A.length + k := by simp [hk]
  unfold splice
  rw [List.length_map, ← List.map_take, ← List.map_drop, ← List.map_append, ← List.map_append, e1, ← e2, List.take_left, ← List.drop_drop, List.drop_left, List.drop_append_of_le_length hX]
  simp

theorem str_one (X : List ByteArray) : ∀ v ∈ X.map Value.string, v.oneCell' = true := by
  intro v hv
  obtain ⟨x, _, rfl⟩ := List.mem_map.1 hv
  rfl

theorem copyL {g2 o2 : Nat} {T2 : TypeId} {A2 L R B2 : List ByteArray} {w : World} (ho : A2.length = o2) (h : Blk w g2 T2 ((A2 ++ (L ++ (R ++ B2))).map .string)) (i : Nat) :
    ∀ j v, ((L.drop i).map Value.string)[j]? = some v → w.cell? ((⟨g2, o2 + i, none⟩ : Addr).add j) = some v := by
  intro j v hj
  have e : (⟨g2, o2 + i, none⟩ : Addr).add j = ⟨g2, o2 + (i + j), none⟩ := by unfold Addr.add; split <;> simp_all [Nat.add_assoc]
  rw [e, h.cell]
  rw [List.getElem?_map, List.getElem?_drop] at hj
  rw [List.getElem?_map, ← ho, seg_get]
  cases hx : L[i + j]? with
  | none => rw [hx] at hj; simp at hj
  | some x =>
    obtain ⟨hlt, _⟩ := List.getElem?_eq_some_iff.1 hx
    rw [List.getElem?_append_left hlt, hx]
    rw [hx] at hj
    exact hj
theorem copyR {g2 o2 : Nat} {T2 : TypeId} {A2 L R B2 : List ByteArray} {w : World} (h : Blk w g2 T2 ((A2 ++ (L ++ (R ++ B2))).map .string)) (i : Nat) :
    ∀ j v, ((R.drop i).map Value.string)[j]? = some v → w.cell? ((⟨g2, A2.length + L.length + i, none⟩ : Addr).add j) = some v := by
  have h' : Blk w g2 T2 (((A2 ++ L) ++ (R ++ ([] ++ B2))).map .string) := by simpa using h
  have := copyL (g2 := g2) (T2 := T2) (A2 := A2 ++ L) (L := R) (R := []) (B2 := B2) (w := w) rfl h' i
  simpa using this

theorem mrg_done {g1 : Nat} {T1 : TypeId} {A D M L R B : List ByteArray} {o1 kk j nl nr : Nat} {w wc w6 : World} (ho : A.length = o1)
    (h5 : kk = nl + j ∧ D.length = kk ∧ M.length = nr - j ∧ mrg ltS L R = D ++ R.drop j ∧ Upd g1 w wc ∧ Blk wc g1 T1 ((A ++ (D ++ (M ++ B))).map .string)) (hn : R.length = nr)
    (hb : Blk w6 g1 T1 (splice ((A ++ (D ++ (M ++ B))).map .string) (o1 + kk) ((R.drop j).map .string))) (hu : Upd g1 wc.drew w6) : Upd g1 w w6 ∧ Blk w6 g1 T1 ((A ++ (mrg ltS L R ++ B)).map .string) := by
  obtain ⟨_, hD, hM, hm, h1, h2⟩ := h5
  refine ⟨(h1.drew ⟨1, rfl⟩).trans hu, ?_⟩
  rw [← ho, splice_next hD (by rw [List.length_drop, hn, hM]; omega)] at hb
  have e : M.drop (R.drop j).length = [] := List.drop_of_length_le (by rw [List.length_drop, hn, hM]; omega)
  rw [e, List.nil_append] at hb
  rw [hm]
  exact hb

theorem less_as (a b : ByteArray) (ha : a.size ≤ 9223372036854775807) (hb : b.size ≤ 9223372036854775807) (r : Bool) (h : ltS a b = r) (w : World) :
    Calls Tryd.prog 20 #[.string a, .string b] w fun e w' => e = .returned (.bool r) ∧ ∃ m, w' = w.drewN m := by
  rw [← h]
  exact less_walk a b ha hb w

set_option maxRecDepth 100000 in
set_option maxHeartbeats 2000000 in
theorem merge_walk (g1 g2 c1 c2 c3 : Nat) (T1 T2 : TypeId) (A M B A2 L R B2 : List ByteArray) (ra : Option Addr) (hne : g1 ≠ g2) (hM : M.length = L.length + R.length) (hL0 : 0 < L.length) (hc1 : L.length + R.length ≤ c1) (hc2 : L.length + R.length ≤ c2) (hc3 : R.length ≤ c3)
    (hra : 0 < R.length → ra = some ⟨g2, A2.length + L.length, none⟩) (hs1 : A.length + (L.length + R.length) ≤ 1000000) (hs2 : A2.length ≤ 1000000) (hok : ∀ s ∈ L ++ R, s.size ≤ 140737488351232) (w : World)
    (hb1 : Blk w g1 T1 ((A ++ (M ++ B)).map .string)) (hb2 : Blk w g2 T2 ((A2 ++ (L ++ (R ++ B2))).map .string)) :
    Calls Tryd.prog 83 #[.slice (some ⟨g1, A.length, none⟩) (L.length + R.length) c1, .slice (some ⟨g2, A2.length, none⟩) L.length c2, .slice ra R.length c3, .func (.func 20) #[] #[]] w fun e w' =>
      e = .returned (.tuple #[]) ∧ Upd g1 w w' ∧ Blk w' g1 T1 ((A ++ (mrg ltS L R ++ B)).map .string) := by
  obtain ⟨i0, hi, hz0, hz1, hz2⟩ := info_parts info_str
  have HI : Hid (Tryd.prog.info? 9 = some i0 ∧ i0.size = 1) := ⟨hi, hz1⟩
  have HB1 := hid hb1
  have HB2 := hid hb2
  have HOk := hid hok
  have HM := hid hM
  have HRa := hid hra
  clear hb1 hb2 hok hM hra hi hz0 hz1 hz2
  obtain ⟨o1, ho1⟩ : ∃ o, A.length = o := ⟨_, rfl⟩
  obtain ⟨o2, ho2⟩ : ∃ o, A2.length = o := ⟨_, rfl⟩
  obtain ⟨nl, hnl⟩ : ∃ o, L.length = o := ⟨_, rfl⟩
  obtain ⟨nr, hnr⟩ : ∃ o, R.length = o := ⟨_, rfl⟩
  have HLn := hid (⟨ho1, ho2, hnl, hnr⟩ : A.length = o1 ∧ A2.length = o2 ∧ L.length = nl ∧ R.length = nr)
  rw [ho1, ho2, hnl, hnr]
  rw [ho1, hnl, hnr] at hs1
  rw [ho2] at hs2
  rw [hnl] at hL0
  rw [hnl, hnr] at hc1 hc2
  rw [hnr] at hc3
  clear ho1 ho2 hnl hnr
  go_enter Tryd.func83, Tryd.ntmps83
  go_wp2
  go_loopw [8, 9, 10] (fun vi vj vk wr => ∃ (i j k : Nat) (D M' : List ByteArray), i ≤ nl ∧ j ≤ nr ∧ k = i + j ∧ vi = .int .i64 i ∧ vj = .int .i64 j ∧ vk = .int .i64 k ∧ D.length = i + j ∧ M'.length = nl + nr - (i + j) ∧ (i < nl ∨ j < nr) ∧ mrg ltS L R = D ++ mrg ltS (L.drop i) (R.drop j) ∧ Upd g1 w wr ∧ Blk wr g1 T1 ((A ++ (D ++ (M' ++ B))).map .string)) (fun vi vj _ _ => nl + nr - ((intOf vi).toNat + (intOf vj).toNat))
  case atStart => exact ⟨0, 0, 0, [], M, Nat.zero_le _, Nat.zero_le _, rfl, rfl, rfl, rfl, rfl, by rw [HM.out, HLn.out.2.2.1, HLn.out.2.2.2]; rfl, by omega, by simp, Upd.refl _ _, by simpa using HB1.out⟩
  case round =>
    obtain ⟨i, j, k, D, M', hi, hj, hk, rfl, rfl, rfl, hD, hM', hij, hmr, hu, hb⟩ := hrel
    have HU := hid hu
    have HB := hid hb
    have HMr := hid hmr
    have HDM := hid (⟨hD, hM'⟩ : D.length = i + j ∧ M'.length = nl + nr - (i + j))
    have HS := hid (HB2.out.upd hu (fun e => hne e.symm))
    clear hu hb hmr hD hM'
    have hk1 : k ≤ 1000000 := by omega
    have hk2 : k ≤ i + j := by omega
    have hk3 : i + j ≤ k := by omega
    have HK := hid hk
    clear hk
    by_cases hin : i < nl ∧ j < nr
    · obtain ⟨hin1, hin2⟩ := hin
      obtain rfl := HRa.out (by rw [HLn.out.2.2.2]; omega)
      obtain ⟨x, hx⟩ : ∃ x, L[i]? = some x := ⟨_, List.getElem?_eq_getElem (by rw [HLn.out.2.2.1]; exact hin1)⟩
      obtain ⟨y, hy⟩ : ∃ y, R[j]? = some y := ⟨_, List.getElem?_eq_getElem (by rw [HLn.out.2.2.2]; exact hin2)⟩
      have sx := HOk.out x (List.mem_append_left _ (List.mem_of_getElem? hx))
      have sy := HOk.out y (List.mem_append_right _ (List.mem_of_getElem? hy))
      have cx : wr.cell? ⟨g2, o2 + i, none⟩ = some (.string x) := by
        rw [HS.out.cell]
        refine map_get ?_
        rw [← HLn.out.2.1, seg_get, List.getElem?_append_left (by rw [HLn.out.2.2.1]; exact hin1)]
        exact hx
      have cy : wr.cell? ⟨g2, A2.length + L.length + j, none⟩ = some (.string y) := by
        rw [HS.out.cell]
        refine map_get ?_
        rw [Nat.add_assoc, seg_get, seg_get, List.getElem?_append_left (by rw [HLn.out.2.2.2]; exact hin2)]
        exact hy
      obtain ⟨h0, ck⟩ : ∃ h0, wr.cell? ⟨g1, o1 + k, none⟩ = some (.string h0) := by
        have hMp : 0 < M'.length := by rw [HDM.out.2]; omega
        refine ⟨M'[0], ?_⟩
        rw [HB.out.cell]
        refine map_get ?_
        rw [← HLn.out.1, seg_get, HK.out, ← HDM.out.1, ← Nat.add_zero D.length, seg_get, List.getElem?_append_left hMp]
        exact List.getElem?_eq_getElem hMp
      have fk : wr.frozen? ⟨g1, o1 + k, none⟩ = false := HB.out.frozen _
      have hMp : 0 < M'.length := by rw [HDM.out.2]; omega
      have HX := hid (⟨hx, hy⟩ : L[i]? = some x ∧ R[j]? = some y)
      clear hx hy
      have i1 : (i : Int) < (nl : Int) := by omega
      have i2 : (j : Int) < (nr : Int) := by omega
      have i3 : (k : Int) < ((nl + nr : Nat) : Int) := by omega
      cases hxy : ltS y x with
      | true =>
        have HXY := hid hxy
        clear hxy
        go_wp2
        go_quiet ((go_at_call 20; exact Calls.quiet_of (less_as y x (by omega) (by omega) _ HXY.out _)))
        go_wp2
        refine ⟨⟨i, j + 1, k + 1, D ++ [y], M'.tail, hi, by omega, by omega, by go_num, by go_num, by go_num, by rw [List.length_append, HDM.out.1]; simp; omega, by rw [List.length_tail, HDM.out.2]; omega, .inl hin1, ?_, (HU.out.drewN nq).setCell rfl _, ?_⟩, by simp [intOf]; omega⟩
        · rw [HMr.out, mrg_right HX.out.1 HX.out.2 HXY.out]; simp
        · have h1 := (HB.out.drewN nq).set (o1 + k) (.string y)
          rw [← HLn.out.1, put_next (HDM.out.1.trans HK.out.symm) y hMp, HLn.out.1] at h1
          exact h1
      | false =>
        have HXY := hid hxy
        clear hxy
        go_wp2
        go_quiet ((go_at_call 20; exact Calls.quiet_of (less_as y x (by omega) (by omega) _ HXY.out _)))
        go_wp2
        refine ⟨⟨i + 1, j, k + 1, D ++ [x], M'.tail, by omega, hj, by omega, by go_num, by go_num, by go_num, by rw [List.length_append, HDM.out.1]; simp; omega, by rw [List.length_tail, HDM.out.2]; omega, .inr hin2, ?_, (HU.out.drewN nq).setCell rfl _, ?_⟩, by simp [intOf]; omega⟩
        · rw [HMr.out, mrg_left HX.out.1 HX.out.2 HXY.out]; simp
        · have h1 := (HB.out.drewN nq).set (o1 + k) (.string x)
          rw [← HLn.out.1, put_next (HDM.out.1.trans HK.out.symm) x hMp, HLn.out.1] at h1
          exact h1
    · have n1 : ¬ c1 = k := by omega
      have n2 : ¬ c2 = i := by omega
      have i3 : (k : Int) ≤ (nl : Int) + (nr : Int) := by omega
      have i1' : (i : Int) ≤ (nl : Int) := by omega
      have HC := hid (copyL (g2 := g2) (T2 := T2) (o2 := o2) (A2 := A2) (L := L) (R := R) (B2 := B2) (w := wr.drew) HLn.out.2.1 HS.out i)
      have HNl := hid HLn.out.2.2.1
      have HBd : Hid (Blk wr.drew g1 T1 ((A ++ (D ++ (M' ++ B))).map .string)) := HB.out
      have s1 : Hid (((L.drop i).map Value.string).length = (nl - i) * 1) := by
        show _ = _
        rw [List.length_map, List.length_drop, HNl.out, Nat.mul_one]
      have s2 : Hid (o1 + k + ((L.drop i).map Value.string).length ≤ ((A ++ (D ++ (M' ++ B))).map Value.string).length) := by
        show _ ≤ _
        rw [List.length_map, List.length_map, List.length_drop, HNl.out, List.length_append, List.length_append, List.length_append, HLn.out.1, HDM.out.1, HDM.out.2]; omega
      have HMx : Hid (mrg ltS L R = (D ++ L.drop i) ++ R.drop j) := by
        show _ = _
        rw [HMr.out]
        by_cases hi2 : i < nl
        · have e : R.drop j = [] := List.drop_of_length_le (by rw [HLn.out.2.2.2]; omega)
          rw [e, mrg_nil, List.append_nil]
        · have e : L.drop i = [] := List.drop_of_length_le (by rw [HLn.out.2.2.1]; omega)
          rw [e, List.append_nil]; rfl
      by_cases hi2 : i < nl
      · have i1 : (i : Int) < (nl : Int) := by omega
        have d2 : decide ((j : Int) < (nr : Int)) = false := decide_eq_false (by omega)
        go_upto_region 8 with fail
        go_cut [10] (fun v wc => ∃ (kk : Nat) (D' M'' : List ByteArray), v = .int .i64 kk ∧ kk = nl + j ∧ D'.length = kk ∧ M''.length = nr - j ∧ mrg ltS L R = D' ++ R.drop j ∧ Upd g1 w wc ∧ Blk wc g1 T1 ((A ++ (D' ++ (M'' ++ B))).map .string))
        case first =>
          go_region_law (refine step_copy_blk _ rfl (.tmp 54) (.tmp 57) 33 33 rfl 9 i0 1 Tryd.underlying33 HI.out.1 HI.out.2 (some ⟨g1, o1 + k, none⟩) (some ⟨g2, o2 + i, none⟩) (nl + nr - k) (c1 - k) (nl - i) (c2 - i) (by simp [Act.eval, Act.put]) (by simp [Act.eval, Act.put]) g1 (o1 + k) T1 _ ((L.drop i).map .string) (nl - i) (Nat.min_eq_left (by omega)) HBd.out s1.out (fun _ => ⟨rfl, ⟨_, rfl, HC.out⟩⟩) s2.out (str_one _) ?_; intro w4 hb4 hu4)
          go_wp2
          go_meet
          case rel =>
            refine ⟨nl + j, D ++ L.drop i, M'.drop (nl - i), congrArg (Value.int .i64) (by rw [IntKind.wrap_i64]; omega), rfl, ?_, ?_, HMx.out, (HU.out.drew ⟨1, rfl⟩).trans hu4.out, ?_⟩
            · rw [List.length_append, List.length_drop, HDM.out.1, HNl.out]; omega
            · rw [List.length_drop, HDM.out.2]; omega
            · have h1 := hb4.out
              rw [← HLn.out.1, splice_next (HDM.out.1.trans HK.out.symm) (by rw [List.length_drop, HNl.out, HDM.out.2]; omega), List.length_drop, HNl.out] at h1
              exact h1
        case rest =>
          obtain ⟨kk, D', M'', rfl, hkk, hD', hM'', hmx, hu5, hb5⟩ := hcut
          have H5 := hid (⟨hkk, hD', hM'', hmx, hu5, hb5⟩ : kk = nl + j ∧ D'.length = kk ∧ M''.length = nr - j ∧ mrg ltS L R = D' ++ R.drop j ∧ Upd g1 w wc ∧ Blk wc g1 T1 ((A ++ (D' ++ (M'' ++ B))).map .string))
          have hkk1 : kk ≤ nl + j := by omega
          have hkk2 : nl + j ≤ kk := by omega
          have i5 : (kk : Int) ≤ (nl : Int) + (nr : Int) := by omega
          have i6 : (j : Int) ≤ (nr : Int) := by omega
          have HBw : Hid (Blk wc.drew g1 T1 ((A ++ (D' ++ (M'' ++ B))).map .string)) := hb5
          have HSw : Hid (Blk wc.drew g2 T2 ((A2 ++ (L ++ (R ++ B2))).map .string)) := HB2.out.upd (hu5.drew ⟨1, rfl⟩) (fun e => hne e.symm)
          have t1 : Hid (((R.drop j).map Value.string).length = (nr - j) * 1) := by
            show _ = _
            rw [List.length_map, List.length_drop, HLn.out.2.2.2, Nat.mul_one]
          have t2 : Hid (o1 + kk + ((R.drop j).map Value.string).length ≤ ((A ++ (D' ++ (M'' ++ B))).map Value.string).length) := by
            show _ ≤ _
            rw [List.length_map, List.length_map, List.length_drop, HLn.out.2.2.2, List.length_append, List.length_append, List.length_append, HLn.out.1, hD', hM'']; omega
          have HCr := hid (copyR (g2 := g2) (o2 := o2) (T2 := T2) (A2 := A2) (L := L) (R := R) (B2 := B2) (w := wc.drew) HSw.out j)
          clear hkk hD' hM'' hmx hu5 hb5
          by_cases hjr : j < nr
          · obtain rfl := HRa.out (by rw [HLn.out.2.2.2]; omega)
            have n3 : ¬ c1 = kk := by omega
            have n4 : ¬ c3 = j := by omega
            go_wp2
            go_region_law (refine step_copy_blk _ rfl (.tmp 62) (.tmp 65) 33 33 rfl 9 i0 1 Tryd.underlying33 HI.out.1 HI.out.2 (some ⟨g1, o1 + kk, none⟩) (some ⟨g2, A2.length + L.length + j, none⟩) (nl + nr - kk) (c1 - kk) (nr - j) (c3 - j) (by simp [Act.eval, Act.put]) (by simp [Act.eval, Act.put]) g1 (o1 + kk) T1 _ ((R.drop j).map .string) (nr - j) (Nat.min_eq_left (by omega)) HBw.out t1.out (fun _ => ⟨rfl, ⟨_, rfl, HCr.out⟩⟩) t2.out (str_one _) ?_; intro w6 hb6 hu6)
            go_wp2
            go_end0
            exact ⟨rfl, mrg_done HLn.out.1 H5.out HLn.out.2.2.2 hb6.out hu6.out⟩
          · obtain ⟨dp, hdp⟩ : ∃ dp, (if c1 = kk then some (⟨g1, o1, none⟩ : Addr) else some ⟨g1, o1 + kk, none⟩) = dp := ⟨_, rfl⟩
            cases ra with
            | none =>
              go_wp2
              go_region_law (refine step_copy_blk _ rfl (.tmp 62) (.tmp 65) 33 33 rfl 9 i0 1 Tryd.underlying33 HI.out.1 HI.out.2 dp none (nl + nr - kk) (c1 - kk) (nr - j) (c3 - j) (by simp [Act.eval, Act.put]) (by simp [Act.eval, Act.put]) g1 (o1 + kk) T1 _ ((R.drop j).map .string) (nr - j) (Nat.min_eq_left (by omega)) HBw.out t1.out (fun h => absurd h (by omega)) t2.out (str_one _) ?_; intro w6 hb6 hu6)
              go_wp2
              go_end0
              exact ⟨rfl, mrg_done HLn.out.1 H5.out HLn.out.2.2.2 hb6.out hu6.out⟩
            | some ad =>
              obtain ⟨sp, hsp⟩ : ∃ sp, (if c3 = j then some ad else some (ad.add j)) = sp := ⟨_, rfl⟩
              go_wp2
              go_region_law (refine step_copy_blk _ rfl (.tmp 62) (.tmp 65) 33 33 rfl 9 i0 1 Tryd.underlying33 HI.out.1 HI.out.2 dp sp (nl + nr - kk) (c1 - kk) (nr - j) (c3 - j) (by simp [Act.eval, Act.put]) (by simp [Act.eval, Act.put]) g1 (o1 + kk) T1 _ ((R.drop j).map .string) (nr - j) (Nat.min_eq_left (by omega)) HBw.out t1.out (fun h => absurd h (by omega)) t2.out (str_one _) ?_; intro w6 hb6 hu6)
              go_wp2
              go_end0
              exact ⟨rfl, mrg_done HLn.out.1 H5.out HLn.out.2.2.2 hb6.out hu6.out⟩
      · have d1 : decide ((i : Int) < (nl : Int)) = false := decide_eq_false (by omega)
        go_upto_region 8 with fail
        go_cut [10] (fun v wc => ∃ (kk : Nat) (D' M'' : List ByteArray), v = .int .i64 kk ∧ kk = nl + j ∧ D'.length = kk ∧ M''.length = nr - j ∧ mrg ltS L R = D' ++ R.drop j ∧ Upd g1 w wc ∧ Blk wc g1 T1 ((A ++ (D' ++ (M'' ++ B))).map .string))
        case first =>
          go_region_law (refine step_copy_blk _ rfl (.tmp 54) (.tmp 57) 33 33 rfl 9 i0 1 Tryd.underlying33 HI.out.1 HI.out.2 (some ⟨g1, o1 + k, none⟩) (some ⟨g2, o2 + i, none⟩) (nl + nr - k) (c1 - k) (nl - i) (c2 - i) (by simp [Act.eval, Act.put]) (by simp [Act.eval, Act.put]) g1 (o1 + k) T1 _ ((L.drop i).map .string) (nl - i) (Nat.min_eq_left (by omega)) HBd.out s1.out (fun _ => ⟨rfl, ⟨_, rfl, HC.out⟩⟩) s2.out (str_one _) ?_; intro w4 hb4 hu4)
          go_wp2
          go_meet
          case rel =>
            refine ⟨nl + j, D ++ L.drop i, M'.drop (nl - i), congrArg (Value.int .i64) (by rw [IntKind.wrap_i64]; omega), rfl, ?_, ?_, HMx.out, (HU.out.drew ⟨1, rfl⟩).trans hu4.out, ?_⟩
            · rw [List.length_append, List.length_drop, HDM.out.1, HNl.out]; omega
            · rw [List.length_drop, HDM.out.2]; omega
            · have h1 := hb4.out
              rw [← HLn.out.1, splice_next (HDM.out.1.trans HK.out.symm) (by rw [List.length_drop, HNl.out, HDM.out.2]; omega), List.length_drop, HNl.out] at h1
              exact h1
        case rest =>
          obtain ⟨kk, D', M'', rfl, hkk, hD', hM'', hmx, hu5, hb5⟩ := hcut
          have H5 := hid (⟨hkk, hD', hM'', hmx, hu5, hb5⟩ : kk = nl + j ∧ D'.length = kk ∧ M''.length = nr - j ∧ mrg ltS L R = D' ++ R.drop j ∧ Upd g1 w wc ∧ Blk wc g1 T1 ((A ++ (D' ++ (M'' ++ B))).map .string))
          have hkk1 : kk ≤ nl + j := by omega
          have hkk2 : nl + j ≤ kk := by omega
          have i5 : (kk : Int) ≤ (nl : Int) + (nr : Int) := by omega
          have i6 : (j : Int) ≤ (nr : Int) := by omega
          have HBw : Hid (Blk wc.drew g1 T1 ((A ++ (D' ++ (M'' ++ B))).map .string)) := hb5
          have HSw : Hid (Blk wc.drew g2 T2 ((A2 ++ (L ++ (R ++ B2))).map .string)) := HB2.out.upd (hu5.drew ⟨1, rfl⟩) (fun e => hne e.symm)
          have t1 : Hid (((R.drop j).map Value.string).length = (nr - j) * 1) := by
            show _ = _
            rw [List.length_map, List.length_drop, HLn.out.2.2.2, Nat.mul_one]
          have t2 : Hid (o1 + kk + ((R.drop j).map Value.string).length ≤ ((A ++ (D' ++ (M'' ++ B))).map Value.string).length) := by
            show _ ≤ _
            rw [List.length_map, List.length_map, List.length_drop, HLn.out.2.2.2, List.length_append, List.length_append, List.length_append, HLn.out.1, hD', hM'']; omega
          have HCr := hid (copyR (g2 := g2) (o2 := o2) (T2 := T2) (A2 := A2) (L := L) (R := R) (B2 := B2) (w := wc.drew) HSw.out j)
          clear hkk hD' hM'' hmx hu5 hb5
          by_cases hjr : j < nr
          · obtain rfl := HRa.out (by rw [HLn.out.2.2.2]; omega)
            have n3 : ¬ c1 = kk := by omega
            have n4 : ¬ c3 = j := by omega
            go_wp2
            go_region_law (refine step_copy_blk _ rfl (.tmp 62) (.tmp 65) 33 33 rfl 9 i0 1 Tryd.underlying33 HI.out.1 HI.out.2 (some ⟨g1, o1 + kk, none⟩) (some ⟨g2, A2.length + L.length + j, none⟩) (nl + nr - kk) (c1 - kk) (nr - j) (c3 - j) (by simp [Act.eval, Act.put]) (by simp [Act.eval, Act.put]) g1 (o1 + kk) T1 _ ((R.drop j).map .string) (nr - j) (Nat.min_eq_left (by omega)) HBw.out t1.out (fun _ => ⟨rfl, ⟨_, rfl, HCr.out⟩⟩) t2.out (str_one _) ?_; intro w6 hb6 hu6)
            go_wp2
            go_end0
            exact ⟨rfl, mrg_done HLn.out.1 H5.out HLn.out.2.2.2 hb6.out hu6.out⟩
          · obtain ⟨dp, hdp⟩ : ∃ dp, (if c1 = kk then some (⟨g1, o1, none⟩ : Addr) else some ⟨g1, o1 + kk, none⟩) = dp := ⟨_, rfl⟩
            cases ra with
            | none =>
              go_wp2
              go_region_law (refine step_copy_blk _ rfl (.tmp 62) (.tmp 65) 33 33 rfl 9 i0 1 Tryd.underlying33 HI.out.1 HI.out.2 dp none (nl + nr - kk) (c1 - kk) (nr - j) (c3 - j) (by simp [Act.eval, Act.put]) (by simp [Act.eval, Act.put]) g1 (o1 + kk) T1 _ ((R.drop j).map .string) (nr - j) (Nat.min_eq_left (by omega)) HBw.out t1.out (fun h => absurd h (by omega)) t2.out (str_one _) ?_; intro w6 hb6 hu6)
              go_wp2
              go_end0
              exact ⟨rfl, mrg_done HLn.out.1 H5.out HLn.out.2.2.2 hb6.out hu6.out⟩
            | some ad =>
              obtain ⟨sp, hsp⟩ : ∃ sp, (if c3 = j then some ad else some (ad.add j)) = sp := ⟨_, rfl⟩
              go_wp2
              go_region_law (refine step_copy_blk _ rfl (.tmp 62) (.tmp 65) 33 33 rfl 9 i0 1 Tryd.underlying33 HI.out.1 HI.out.2 dp sp (nl + nr - kk) (c1 - kk) (nr - j) (c3 - j) (by simp [Act.eval, Act.put]) (by simp [Act.eval, Act.put]) g1 (o1 + kk) T1 _ ((R.drop j).map .string) (nr - j) (Nat.min_eq_left (by omega)) HBw.out t1.out (fun h => absurd h (by omega)) t2.out (str_one _) ?_; intro w6 hb6 hu6)
              go_wp2
              go_end0
              exact ⟨rfl, mrg_done HLn.out.1 H5.out HLn.out.2.2.2 hb6.out hu6.out⟩
end Go.Proofs.Qxb6500890aDoor
