/- The records (key, value): their blocks; SortKeyed's order; insertionSort over records. -/
import Derived.Test.Qxb6500890aDoorTextStab
import Derived.Deep.RegionWith
namespace Go.Proofs.Qxb6500890aDoor
open Go.RowKit
set_option linter.unusedSimpArgs false
set_option linter.unusedVariables false

abbrev Rec := ByteArray × Int
def ltK (a b : Rec) : Bool := ltS a.1 b.1
theorem ltK_ord : Ord ltK where
  irr x := ltS_ord.irr x.1
  asym x y h := ltS_ord.asym x.1 y.1 h
  trans x y z h1 h2 := ltS_ord.trans x.1 y.1 z.1 h1 h2

def flat (X : List Rec) : List Value := X.flatMap recCells
theorem flat_cons (r : Rec) (X : List Rec) : flat (r :: X) = .string r.1 :: .int .i64 r.2 :: flat X := by simp [flat, recCells]
theorem flat_append (X Y : List Rec) : flat (X ++ Y) = flat X ++ flat Y := by simp [flat]
theorem flat_len : ∀ X : List Rec, (flat X).length = X.length * 2
  | [] => rfl
  | r :: X => by rw [flat_cons, List.length_cons, List.length_cons, flat_len X, List.length_cons]; omega
theorem flat_get0 : ∀ (X : List Rec) (k : Nat), (flat X)[k * 2]? = (X[k]?).map (fun r => .string r.1)
  | [], k => by simp [flat]
  | r :: X, 0 => by simp [flat_cons]
  | r :: X, k + 1 => by rw [flat_cons, show (k + 1) * 2 = k * 2 + 1 + 1 by omega, List.getElem?_cons_succ, List.getElem?_cons_succ, List.getElem?_cons_succ, flat_get0 X k]
theorem flat_get1 : ∀ (X : List Rec) (k : Nat), (flat X)[k * 2 + 1]? = (X[k]?).map (fun r => .int .i64 r.2)
  | [], k => by simp [flat]
  | r :: X, 0 => by simp [flat_cons]
  | r :: X, k + 1 => by rw [flat_cons, show (k + 1) * 2 + 1 = k * 2 + 1 + 1 + 1 by omega, List.getElem?_cons_succ, List.getElem?_cons_succ, List.getElem?_cons_succ, flat_get1 X k]
theorem flat_set : ∀ (X : List Rec) (k : Nat) (r : Rec), ((flat X).set (k * 2) (.string r.1)).set (k * 2 + 1) (.int .i64 r.2) = flat (X.set k r)
  | [], k, r => by simp [flat]
  | s :: X, 0, r => by simp [flat_cons]
  | s :: X, k + 1, r => by
    rw [flat_cons, show (k + 1) * 2 + 1 = (k * 2 + 1) + 1 + 1 by omega, show (k + 1) * 2 = k * 2 + 1 + 1 by omega]
    simp only [List.set_cons_succ]
    rw [flat_set X k r, flat_cons]

def BlkK (w : World) (g : Nat) (X : List Rec) : Prop := Blk w g 49 (flat X)
theorem BlkK.lt {w : World} {g : Nat} {X : List Rec} (h : BlkK w g X) : g < w.heap.size := Blk.lt h
theorem BlkK.get {w : World} {g k o : Nat} {X : List Rec} {r : Rec} (h : BlkK w g X) (hk : X[k]? = some r) (ho : k * 2 = o) : w.cell? ⟨g, o, none⟩ = some (.string r.1) ∧ w.cell? ⟨g, o + 1, none⟩ = some (.int .i64 r.2) := by
  subst ho
  rw [Blk.cell h, Blk.cell h, flat_get0, flat_get1, hk]
  exact ⟨rfl, rfl⟩
theorem BlkK.frozen {w : World} {g : Nat} {X : List Rec} (h : BlkK w g X) (i : Nat) : w.frozen? ⟨g, i, none⟩ = false := Blk.frozen h i
theorem BlkK.set {w : World} {g k o : Nat} {X : List Rec} (h : BlkK w g X) (r : Rec) (ho : k * 2 = o) : BlkK ((w.setCell ⟨g, o, none⟩ (.string r.1)).setCell ⟨g, o + 1, none⟩ (.int .i64 r.2)) g (X.set k r) := by
  subst ho
  unfold BlkK
  rw [← flat_set]
  exact (Blk.set h _ _).set _ _
theorem BlkK.below {w w' : World} {g : Nat} {X : List Rec} (h : BlkK w g X) (hb : Below w.heap.size w w') : BlkK w' g X := Blk.below h hb
theorem BlkK.upd {w w' : World} {g g' : Nat} {X : List Rec} (h : BlkK w g X) (hu : Upd g' w w') (hne : g ≠ g') : BlkK w' g X := Blk.upd h hu hne
theorem Blk.one {w : World} {p : Nat} {r : Rec} (h : BlkK w p [r]) : w.cell? ⟨p, 0, none⟩ = some (.string r.1) ∧ w.cell? ⟨p, 1, none⟩ = some (.int .i64 r.2) := BlkK.get (k := 0) h rfl rfl

set_option maxRecDepth 100000 in
set_option maxHeartbeats 1000000 in
theorem lessK_walk (a b : Rec) (ha : a.1.size ≤ 140737488351232) (hb : b.1.size ≤ 140737488351232) (w : World) :
    Calls Tryd.prog 63 #[.agg #[.string a.1, .int .i64 a.2], .agg #[.string b.1, .int .i64 b.2]] w fun e w' => e = .returned (.bool (ltK a b)) ∧ Below w.heap.size w w' := by
  obtain ⟨s, v⟩ := a
  obtain ⟨t, u⟩ := b
  go_enter Tryd.func63, Tryd.ntmps63
  go_wp2_with fail
  refine (less_walk s t (by omega) (by omega) _).mono ?_
  rintro e w1 ⟨rfl, hd⟩
  have HD := hid hd
  clear hd
  go_wp2
  go_ret
  exact ⟨rfl, (Below.alloc (Below.alloc (Below.refl _ _) (Nat.le_refl _) _) (Below.alloc (Below.refl _ _) (Nat.le_refl _) _).size _).trans (HD.out.below _)⟩

theorem rest_eqK {A S B P R : List Rec} {x : Rec} {j k : Nat} (he : P.take j ++ x :: P.drop j = ins ltK x P) (hx : S[k]? = some x) (hP : ssort ltK (S.take k) = P) (hR : S.drop (k + 1) ++ B = R) :
    A ++ (P.take j ++ x :: (P.drop j ++ R)) = A ++ (ssort ltK (S.take (k + 1)) ++ (S.drop (k + 1) ++ B)) := by
  rw [hR, List.take_add_one, hx, Option.toList_some, ssort_snoc, hP, ← he]
  simp

set_option maxRecDepth 100000 in
set_option maxHeartbeats 2000000 in
theorem insSortK_walk (g m c : Nat) (A S B : List Rec) (hS : S.length = m) (hm : m ≤ 1000000) (hAl : A.length ≤ 1000000) (hok : ∀ s ∈ S, s.1.size ≤ 140737488351232) (w : World) (hb : BlkK w g (A ++ (S ++ B))) :
    Calls Tryd.prog 84 #[.slice (some ⟨g, A.length * 2, none⟩) m c, .func (.func 63) #[] #[]] w fun e w' => e = .returned (.tuple #[]) ∧ Upd g w w' ∧ BlkK w' g (A ++ (ssort ltK S ++ B)) := by
  have HBk := hid hb
  have HOk := hid hok
  have HSl := hid hS
  clear hb hok hS
  obtain ⟨off, hoff⟩ : ∃ off, A.length * 2 = off := ⟨_, rfl⟩
  rw [hoff]
  have HOff := hid hoff
  have hol : off ≤ 2000000 := by omega
  clear hoff hAl
  go_enter Tryd.func84, Tryd.ntmps84
  go_wp2
  go_loopw [4] (fun i wr => ∃ k : Nat, 1 ≤ k ∧ (k ≤ m ∨ k = 1) ∧ i = .int .i64 k ∧ Upd g w wr ∧ BlkK wr g (A ++ (ssort ltK (S.take k) ++ (S.drop k ++ B)))) (fun i _ => m - (intOf i).toNat)
  case atStart =>
    refine ⟨1, Nat.le_refl _, .inr rfl, rfl, Upd.refl _ _, ?_⟩
    have e : ssort ltK (S.take 1) = S.take 1 := by cases S <;> simp [ssort, ins]
    rw [e, ← List.append_assoc (S.take 1), List.take_append_drop]
    exact HBk.out
  case round =>
    obtain ⟨k, hk1, hk2, rfl, hu, hbk⟩ := hrel
    have HU := hid hu
    have HB := hid hbk
    clear hu hbk
    by_cases hlt : k < m
    · have hkS : k < S.length := by rw [HSl.out]; exact hlt
      obtain ⟨x, hx⟩ : ∃ x, S[k]? = some x := ⟨_, List.getElem?_eq_getElem hkS⟩
      have sx := HOk.out x (List.mem_of_getElem? hx)
      obtain ⟨P, hP⟩ : ∃ P, ssort ltK (S.take k) = P := ⟨_, rfl⟩
      have hPl : P.length = k := by rw [← hP, ssort_length, List.length_take]; omega
      have hPs : Srt ltK P := by rw [← hP]; exact ssort_srt ltK_ord _
      have hPok : ∀ y ∈ P, y.1.size ≤ 140737488351232 := fun y hy => by
        rw [← hP] at hy
        exact HOk.out y (List.mem_of_mem_take ((ssort_perm _).mem_iff.1 hy))
      have hSd : S.drop k = x :: S.drop (k + 1) := by
        rw [List.drop_eq_getElem_cons hkS]; congr 1; rw [List.getElem?_eq_getElem hkS] at hx; exact Option.some.inj hx
      have hB0 := HB.out
      rw [hP, hSd, List.cons_append] at hB0
      have HB0 := hid hB0
      obtain ⟨cx0, cx1⟩ := hB0.get (k := A.length + k) (r := x) (o := off + k * 2) (by rw [seg_get, List.getElem?_append_right (by omega), hPl, Nat.sub_self]; rfl) (by have := HOff.out; omega)
      have HX := hid (⟨hx, hP, hPl, hPs, hPok, hSd⟩ : S[k]? = some x ∧ ssort ltK (S.take k) = P ∧ P.length = k ∧ Srt ltK P ∧ (∀ y ∈ P, y.1.size ≤ 140737488351232) ∧ S.drop k = x :: S.drop (k + 1))
      clear hx hP hPs hPok hSd hB0 HB
      generalize hR : S.drop (k + 1) ++ B = R at *
      obtain ⟨p, hp⟩ : ∃ p, wr.heap.size = p := ⟨_, rfl⟩
      have HGp : Hid (g < p) := hid (by have := HB0.out.lt; omega)
      obtain ⟨wa, hwa⟩ : ∃ wa, wr.alloc (Obj.cells #[.string x.1, .int .i64 x.2] 49) = wa := ⟨_, rfl⟩
      have HWa : Hid (Below wr.heap.size wr wa ∧ BlkK wa p [x]) := by
        subst hwa hp
        exact hid ⟨Below.alloc (Below.refl _ _) (Nat.le_refl _) _, Blk.new wr [_, _] 49⟩
      go_wp2
      go_loopw [6] (fun i wx => ∃ (j : Nat) (h : Rec), j ≤ k ∧ i = .int .i64 j ∧ Hid (Upd g w wx) ∧ Hid (BlkK wx p [x]) ∧ Hid (BlkK wx g (A ++ (P.take j ++ h :: (P.drop j ++ R)))) ∧ Hid (∀ y ∈ P.drop j, ltK x y = true)) (fun i _ => (intOf i).toNat)
      case atStart =>
        refine ⟨k, x, Nat.le_refl _, rfl, hid (HU.out.ofBelow HWa.out.1), hid HWa.out.2, hid ?_, hid ?_⟩
        · have := HB0.out.below HWa.out.1
          rw [List.take_of_length_le (by omega), List.drop_of_length_le (by omega), List.nil_append]
          exact this
        · rw [List.drop_of_length_le (by omega)]; simp
      case round =>
        obtain ⟨j, h, hj, rfl, HU2, HX2, HB2, HG⟩ := hrel
        clear hp hwa cx0 cx1
        obtain ⟨q1, q2, q3, q4, q5, q6⟩ := HX.out
        have HQ := hid (⟨q1, q2, q4, q5, q6⟩ : S[k]? = some x ∧ ssort ltK (S.take k) = P ∧ Srt ltK P ∧ (∀ y ∈ P, y.1.size ≤ 140737488351232) ∧ S.drop k = x :: S.drop (k + 1))
        clear q1 q2 q4 q5 q6 q3
        obtain ⟨cj0, cj1⟩ := HB2.out.get (k := A.length + j) (r := h) (o := off + j * 2) (by
          rw [seg_get, List.getElem?_append_right (by simp; omega)]
          have e : j - (P.take j).length = 0 := by simp; omega
          rw [e]; rfl) (by have := HOff.out; omega)
        obtain ⟨p0, p1⟩ := Blk.one HX2.out
        have fj0 : wr.frozen? ⟨g, off + j * 2, none⟩ = false := HB2.out.frozen _
        have fj1 : wr.frozen? ⟨g, off + j * 2 + 1, none⟩ = false := HB2.out.frozen _
        by_cases hj0 : 0 < j
        · obtain ⟨y, hy⟩ : ∃ y, P[j - 1]? = some y := ⟨_, List.getElem?_eq_getElem (by omega)⟩
          have sy := HQ.out.2.2.2.1 y (List.mem_of_getElem? hy)
          obtain ⟨cy0, cy1⟩ := HB2.out.get (k := A.length + (j - 1)) (r := y) (o := off + (j - 1) * 2) (by
            rw [seg_get, mid_get _ _ _ _ (by omega) (by omega)]
            exact hy) (by have := HOff.out; omega)
          have HY := hid hy
          have dj : decide ((0 : Int) < (j : Int)) = true := decide_eq_true (by omega)
          have i1 : (j : Int) - 1 < (m : Int) := by omega
          have i2 : 0 ≤ (j : Int) - 1 := by omega
          have i3 : ¬ ((j : Int) - 1 < 0) := by omega
          have i4 : ¬ ((m : Int) ≤ (j : Int) - 1) := by omega
          have i5 : ((j : Int) - 1).toNat = j - 1 := by omega
          have i6 : IntKind.i64.wrap ((j : Int) - 1) = (j : Int) - 1 := by rw [IntKind.wrap_i64]; omega
          have i7 : j - 1 < m := by omega
          have i8 : (0 ≤ (j : Int) - 1 ∧ (j : Int) - 1 < (m : Int)) := ⟨i2, i1⟩
          clear hy
          go_wp2_with fail
          go_cut [29] (fun v wc => v = .bool (ltK x y) ∧ Hid (Below wr.heap.size wr wc))
          case first =>
            go_region_with (go_at_call 63; refine (lessK_walk x y sx sy _).mono ?_; rintro e w1 ⟨rfl, hb1⟩; have HB1 := hid hb1; clear hb1)
            all_goals (go_wp2_with fail; go_meet)
            all_goals (case rel => exact ⟨rfl, hid ((Drew.below ⟨1, rfl⟩ _).trans HB1.out)⟩)
          case rest =>
            obtain ⟨rfl, HBc⟩ := hcut
            have HB3 := hid (HB2.out.below HBc.out)
            have HX3 := hid (HX2.out.below HBc.out)
            have HU3 := hid (HU2.out.ofBelow HBc.out)
            clear cj0 cj1 p0 p1 fj0 fj1 cy0 cy1
            obtain ⟨cj0, cj1⟩ := HB3.out.get (k := A.length + j) (r := h) (o := off + j * 2) (by
              rw [seg_get, List.getElem?_append_right (by simp; omega)]
              have e : j - (P.take j).length = 0 := by simp; omega
              rw [e]; rfl) (by have := HOff.out; omega)
            obtain ⟨cy0, cy1⟩ := HB3.out.get (k := A.length + (j - 1)) (r := y) (o := off + (j - 1) * 2) (by
              rw [seg_get, mid_get _ _ _ _ (by omega) (by omega)]
              exact HY.out) (by have := HOff.out; omega)
            obtain ⟨p0, p1⟩ := Blk.one HX3.out
            have fj0 : wc.frozen? ⟨g, off + j * 2, none⟩ = false := HB3.out.frozen _
            have fj1 : wc.frozen? ⟨g, off + j * 2 + 1, none⟩ = false := HB3.out.frozen _
            cases hxy : ltK x y with
            | true =>
              have HXY := hid hxy
              clear hxy
              go_wp2
              refine ⟨⟨j - 1, y, by omega, by go_num, hid ((HU3.out.setCell rfl _).setCell rfl _), hid ?_, hid ?_, hid ?_⟩, by simp [intOf]; omega⟩
              · exact Blk.setOther (Blk.setOther HX3.out (by have := HGp.out; simp; omega) _) (by have := HGp.out; simp; omega) _
              · have h1 := HB3.out.set (k := A.length + j) (o := off + j * 2) y (by have := HOff.out; omega)
                rw [seg_set, mid_set _ _ _ _ _ (by omega), mid_shift P R j (by omega) (by omega) y HY.out] at h1
                exact h1
              · intro z hz
                obtain ⟨i, rfl⟩ : ∃ i, j = i + 1 := ⟨j - 1, by omega⟩
                rw [Nat.add_sub_cancel] at hz
                have hyy := HY.out
                rw [Nat.add_sub_cancel] at hyy
                obtain ⟨hi, hy'⟩ := List.getElem?_eq_some_iff.1 hyy
                rw [List.drop_eq_getElem_cons hi, hy'] at hz
                rcases List.mem_cons.1 hz with rfl | hz
                · exact HXY.out
                · exact HG.out z hz
            | false =>
              have HXY := hid hxy
              clear hxy
              have HE : Hid (P.take j ++ x :: P.drop j = ins ltK x P) := ins_at ltK_ord x P j HQ.out.2.2.1 (by omega) HG.out (fun z hz => by
                obtain ⟨i, rfl⟩ : ∃ i, j = i + 1 := ⟨j - 1, by omega⟩
                have hyy := HY.out
                rw [Nat.add_sub_cancel] at hyy
                obtain ⟨hi, hy'⟩ := List.getElem?_eq_some_iff.1 hyy
                exact srt_take_le ltK_ord x P i hi HQ.out.2.2.1 (by rw [hy']; exact HXY.out) z hz)
              go_wp2
              refine ⟨⟨k + 1, by omega, .inl (by omega), by go_num, (HU3.out.setCell rfl _).setCell rfl _, ?_⟩, by simp [intOf]; omega⟩
              have h1 := HB3.out.set (k := A.length + j) (o := off + j * 2) x (by have := HOff.out; omega)
              rw [seg_set, mid_set _ _ _ _ _ (by omega), rest_eqK HE.out HQ.out.1 HQ.out.2.1 hR] at h1
              exact h1
        · have hj00 : j = 0 := by omega
          have HE : Hid (P.take j ++ x :: P.drop j = ins ltK x P) := ins_at ltK_ord x P j HQ.out.2.2.1 (by omega) HG.out (fun z hz => by rw [hj00] at hz; simp at hz)
          have hd0 : decide ((0 : Int) < (j : Int)) = false := decide_eq_false (by omega)
          clear hj00
          go_wp2
          go_quiet (fail)
          go_wp2
          refine ⟨⟨k + 1, by omega, .inl (by omega), by go_num, ((HU2.out.drewN nq).setCell rfl _).setCell rfl _, ?_⟩, by simp [intOf]; omega⟩
          have h1 := BlkK.set (k := A.length + j) (o := off + j * 2) (HB2.out.below (Drew.below ⟨nq, rfl⟩ _)) x (by have := HOff.out; omega)
          rw [seg_set, mid_set _ _ _ _ _ (by omega), rest_eqK HE.out HQ.out.1 HQ.out.2.1 hR] at h1
          exact h1
    · have e1 : S.take k = S := List.take_of_length_le (by rw [HSl.out]; omega)
      have e2 : S.drop k = [] := List.drop_of_length_le (by rw [HSl.out]; omega)
      have h1 := HB.out
      rw [e1, e2, List.nil_append] at h1
      have HB1 := hid h1
      clear h1 e1 e2
      go_wp2
      go_end0
      exact ⟨rfl, HU.out, HB1.out⟩
end Go.Proofs.Qxb6500890aDoor
