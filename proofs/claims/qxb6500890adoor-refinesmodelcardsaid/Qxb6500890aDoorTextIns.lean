/- text.Less; insertionSort over strings. -/
import Derived.Test.Qxb6500890aDoorTextOrder
import Derived.Test.Qxb6500890aDoorTextSortPlain
import Derived.Test.Qxb6500890aDoorBlk
namespace Go.Proofs.Qxb6500890aDoor
open Go.RowKit
set_option linter.unusedSimpArgs false
set_option linter.unusedVariables false

def ltS (a b : ByteArray) : Bool := decide (cmpL a.data.toList b.data.toList < 0)

theorem ltS_ord : Ord ltS where
  irr x := by simp [ltS, cmp_refl]
  asym x y h := by
    have := cmp_neg x.data.toList y.data.toList
    simp only [ltS, decide_eq_true_eq, decide_eq_false_iff_not] at h ⊢
    omega
  trans x y z h1 h2 := by
    have := cmp_trans z.data.toList y.data.toList x.data.toList
    have e1 := cmp_neg x.data.toList y.data.toList
    have e2 := cmp_neg y.data.toList z.data.toList
    have e3 := cmp_neg x.data.toList z.data.toList
    simp only [ltS, decide_eq_false_iff_not] at h1 h2 ⊢
    omega

theorem less_walk (a b : ByteArray) (ha : a.size ≤ 9223372036854775807) (hb : b.size ≤ 9223372036854775807) (w : World) :
    Calls Tryd.prog 20 #[.string a, .string b] w fun e w' => e = .returned (.bool (ltS a b)) ∧ Drew w w' := by
  go_enter Tryd.func20, Tryd.ntmps20
  go_wp2_with fail
  refine (compare_walk a b ha hb _).mono ?_
  rintro e w1 ⟨rfl, hd⟩
  have HD := hid hd
  clear hd
  go_wp2
  go_ret
  exact ⟨rfl, HD.out⟩

/-- Where the insertion comes to rest. -/
theorem ins_at {α : Type} {lt : α → α → Bool} (ho : Ord lt) (x : α) : ∀ (p : List α) (j : Nat), Srt lt p → j ≤ p.length → (∀ y ∈ p.drop j, lt x y = true) → (∀ y ∈ p.take j, lt x y = false) → p.take j ++ x :: p.drop j = ins lt x p
  | [], j, _, _, _, _ => by simp [ins]
  | y :: p, 0, _, _, h1, _ => by
    have := h1 y (by simp)
    simp [ins, this]
  | y :: p, j + 1, hs, hj, h1, h2 => by
    have hy := h2 y (by simp)
    rw [ins, if_neg (by simp [hy]), List.take_succ_cons, List.drop_succ_cons, List.cons_append]
    rw [ins_at ho x p j hs.2 (by simpa using hj) (by simpa using h1) (fun z hz => h2 z (by simp [hz]))]

theorem srt_take_le {α : Type} {lt : α → α → Bool} (ho : Ord lt) (x : α) : ∀ (p : List α) (j : Nat) (hj : j < p.length), Srt lt p → lt x p[j] = false → ∀ y ∈ p.take (j + 1), lt x y = false
  | y :: p, 0, _, _, h, z, hz => by simp at hz; subst hz; simpa using h
  | y :: p, j + 1, hj, hs, h, z, hz => by
    rw [List.take_succ_cons] at hz
    rcases List.mem_cons.1 hz with rfl | hz
    · have hm : p[j]'(by simpa using hj) ∈ p := List.getElem_mem _
      exact ho.trans _ _ _ (by simpa using h) (hs.1 _ hm)
    · exact srt_take_le ho x p j (by simpa using hj) hs.2 (by simpa using h) z hz

section
variable {α : Type}
theorem seg_get (A Z : List α) (k : Nat) : (A ++ Z)[A.length + k]? = Z[k]? := by
  rw [List.getElem?_append_right (by omega), Nat.add_sub_cancel_left]
theorem seg_set (A Z : List α) (k : Nat) (v : α) : (A ++ Z).set (A.length + k) v = A ++ Z.set k v := by
  rw [List.set_append_right _ _ (by omega), Nat.add_sub_cancel_left]
theorem mid_get (P R : List α) (h : α) (j : Nat) (hj : 1 ≤ j) (hp : j ≤ P.length) : (P.take j ++ h :: R)[j - 1]? = P[j - 1]? := by
  rw [List.getElem?_append_left (by simp; omega), List.getElem?_take, if_pos (by omega)]
theorem mid_set (P R : List α) (h v : α) (j : Nat) (hp : j ≤ P.length) : (P.take j ++ h :: R).set j v = P.take j ++ v :: R := by
  rw [List.set_append_right _ _ (by simp; omega)]
  have : j - (P.take j).length = 0 := by simp; omega
  rw [this]; rfl
theorem mid_shift (P R : List α) (j : Nat) (hj : 1 ≤ j) (hp : j ≤ P.length) (x : α) (hx : P[j - 1]? = some x) : P.take j ++ x :: (P.drop j ++ R) = P.take (j - 1) ++ x :: (P.drop (j - 1) ++ R) := by
  obtain ⟨i, rfl⟩ : ∃ i, j = i + 1 := ⟨j - 1, by omega⟩
  rw [Nat.add_sub_cancel] at hx ⊢
  obtain ⟨hi, hx'⟩ := List.getElem?_eq_some_iff.1 hx
  rw [List.take_succ_eq_append_getElem hi, hx', List.drop_eq_getElem_cons hi, hx']
  simp
end

theorem map_get {α β : Type} {f : α → β} {l : List α} {i : Nat} {x : α} (h : l[i]? = some x) : (l.map f)[i]? = some (f x) := by simp [h]

theorem rest_eq {w : World} {g : Nat} {T : TypeId} {A S B P R : List ByteArray} {x : ByteArray} {j k : Nat} (he : P.take j ++ x :: P.drop j = ins ltS x P) (hx : S[k]? = some x) (hP : ssort ltS (S.take k) = P) (hR : S.drop (k + 1) ++ B = R)
    (h : Blk w g T ((A ++ (P.take j ++ x :: (P.drop j ++ R))).map .string)) : Blk w g T ((A ++ (ssort ltS (S.take (k + 1)) ++ (S.drop (k + 1) ++ B))).map .string) := by
  have e : P.take j ++ x :: (P.drop j ++ R) = ssort ltS (S.take (k + 1)) ++ (S.drop (k + 1) ++ B) := by
    rw [hR, List.take_add_one, hx, Option.toList_some, ssort_snoc, hP, ← he]
    simp
  rw [← e]
  exact h

set_option maxRecDepth 100000 in
set_option maxHeartbeats 2000000 in
theorem insSort_walk (g m c : Nat) (T : TypeId) (A S B : List ByteArray) (hS : S.length = m) (hm : m ≤ 1000000) (hAl : A.length ≤ 1000000) (hok : ∀ s ∈ S, s.size ≤ 140737488351232) (w : World) (hb : Blk w g T ((A ++ (S ++ B)).map .string)) :
    Calls Tryd.prog 82 #[.slice (some ⟨g, A.length, none⟩) m c, .func (.func 20) #[] #[]] w fun e w' => e = .returned (.tuple #[]) ∧ Upd g w w' ∧ Blk w' g T ((A ++ (ssort ltS S ++ B)).map .string) := by
  have HBk := hid hb
  have HOk := hid hok
  have HSl := hid hS
  clear hb hok hS
  obtain ⟨off, hoff⟩ : ∃ off, A.length = off := ⟨_, rfl⟩
  rw [hoff]
  have HOff := hid hoff
  have hol : off ≤ 1000000 := by omega
  clear hoff hAl
  go_enter Tryd.func82, Tryd.ntmps82
  go_wp2
  go_loopw [4] (fun i wr => ∃ k : Nat, 1 ≤ k ∧ (k ≤ m ∨ k = 1) ∧ i = .int .i64 k ∧ Upd g w wr ∧ Blk wr g T ((A ++ (ssort ltS (S.take k) ++ (S.drop k ++ B))).map .string)) (fun i _ => m - (intOf i).toNat)
  case atStart =>
    refine ⟨1, Nat.le_refl _, .inr rfl, rfl, Upd.refl _ _, ?_⟩
    have e : ssort ltS (S.take 1) = S.take 1 := by cases S <;> simp [ssort, ins]
    rw [e, ← List.append_assoc (S.take 1), List.take_append_drop]
    exact HBk.out
  case round =>
    obtain ⟨k, hk1, hk2, rfl, hu, hbk⟩ := hrel
    have HU := hid hu
    have HB := hid hbk
    clear hu hbk
    by_cases hlt : k < m
    · have hkS : k < S.length := by rw [HSl.out]; exact hlt
      obtain ⟨x, hx⟩ : ∃ x, S[k]? = some x := ⟨_, List.getElem?_eq_getElem hkS⟩
      have sx := HOk.out x (List.mem_of_getElem? hx)
      obtain ⟨P, hP⟩ : ∃ P, ssort ltS (S.take k) = P := ⟨_, rfl⟩
      have hPl : P.length = k := by rw [← hP, ssort_length, List.length_take]; omega
      have hPs : Srt ltS P := by rw [← hP]; exact ssort_srt ltS_ord _
      have hPok : ∀ y ∈ P, y.size ≤ 140737488351232 := fun y hy => by
        rw [← hP] at hy
        exact HOk.out y (List.mem_of_mem_take ((ssort_perm _).mem_iff.1 hy))
      have hSd : S.drop k = x :: S.drop (k + 1) := by
        rw [List.drop_eq_getElem_cons hkS]; congr 1; rw [List.getElem?_eq_getElem hkS] at hx; exact Option.some.inj hx
      have hB0 := HB.out
      rw [hP, hSd, List.cons_append] at hB0
      have HB0 := hid hB0
      have cx : wr.cell? ⟨g, off + k, none⟩ = some (.string x) := by
        rw [hB0.cell]
        refine map_get ?_
        rw [← HOff.out, seg_get, List.getElem?_append_right (by omega), hPl, Nat.sub_self]; rfl
      have HX := hid (⟨hx, hP, hPl, hPs, hPok, hSd⟩ : S[k]? = some x ∧ ssort ltS (S.take k) = P ∧ P.length = k ∧ Srt ltS P ∧ (∀ y ∈ P, y.size ≤ 140737488351232) ∧ S.drop k = x :: S.drop (k + 1))
      clear hx hP hPs hPok hSd hB0 HB
      generalize hR : S.drop (k + 1) ++ B = R at *
      go_wp2
      go_loopw [6] (fun i wx => ∃ (j : Nat) (h : ByteArray), j ≤ k ∧ i = .int .i64 j ∧ Upd g w wx ∧ Blk wx g T ((A ++ (P.take j ++ h :: (P.drop j ++ R))).map .string) ∧ ∀ y ∈ P.drop j, ltS x y = true) (fun i _ => (intOf i).toNat)
      case atStart =>
        refine ⟨k, x, Nat.le_refl _, rfl, HU.out, ?_, ?_⟩
        · have := HB0.out
          rw [List.take_of_length_le (by omega), List.drop_of_length_le (by omega), List.nil_append]
          exact this
        · rw [List.drop_of_length_le (by omega)]; simp
      case round =>
        rename_i wx0
        obtain ⟨j, h, hj, rfl, hu2, hb2, hgt⟩ := hrel
        have HU2 := hid hu2
        have HB2 := hid hb2
        have HG := hid hgt
        clear hu2 hb2 hgt
        obtain ⟨q1, q2, q3, q4, q5, q6⟩ := HX.out
        have HQ := hid (⟨q1, q2, q4, q5, q6⟩ : S[k]? = some x ∧ ssort ltS (S.take k) = P ∧ Srt ltS P ∧ (∀ y ∈ P, y.size ≤ 140737488351232) ∧ S.drop k = x :: S.drop (k + 1))
        clear q1 q2 q4 q5 q6 q3
        have cj : wr.cell? ⟨g, off + j, none⟩ = some (.string h) := by
          rw [HB2.out.cell]
          refine map_get ?_
          rw [← HOff.out, seg_get, List.getElem?_append_right (by simp; omega)]
          have e : j - (P.take j).length = 0 := by simp; omega
          rw [e]; rfl
        have fj : wr.frozen? ⟨g, off + j, none⟩ = false := HB2.out.frozen _
        by_cases hj0 : 0 < j
        · obtain ⟨y, hy⟩ : ∃ y, P[j - 1]? = some y := ⟨_, List.getElem?_eq_getElem (by omega)⟩
          have sy := HQ.out.2.2.2.1 y (List.mem_of_getElem? hy)
          have cj1 : wr.cell? ⟨g, off + (j - 1), none⟩ = some (.string y) := by
            rw [HB2.out.cell]
            refine map_get ?_
            rw [← HOff.out, seg_get, mid_get _ _ _ _ (by omega) (by omega)]
            exact hy
          have HY := hid hy
          clear hy
          cases hxy : ltS x y with
          | true =>
            have HXY := hid hxy
            clear hxy
            go_wp2_with fail
            refine (less_walk x y (by omega) (by omega) _).mono ?_
            rw [HXY.out]
            rintro e w2 ⟨rfl, nd, rfl⟩
            go_wp2
            refine ⟨⟨j - 1, y, by omega, by go_num, (HU2.out.drewN nd).setCell rfl _, ?_, ?_⟩, by simp [intOf]; omega⟩
            · have h1 := (HB2.out.drewN nd).set (off + j) (.string y)
              rw [← List.map_set, ← HOff.out, seg_set, mid_set _ _ _ _ _ (by omega), mid_shift P R j (by omega) (by omega) y HY.out, HOff.out] at h1
              exact h1
            · intro z hz
              obtain ⟨i, rfl⟩ : ∃ i, j = i + 1 := ⟨j - 1, by omega⟩
              rw [Nat.add_sub_cancel] at hz
              have hyy := HY.out
              rw [Nat.add_sub_cancel] at hyy
              obtain ⟨hi, hy'⟩ := List.getElem?_eq_some_iff.1 hyy
              rw [List.drop_eq_getElem_cons hi, hy'] at hz
              rcases List.mem_cons.1 hz with rfl | hz
              · exact HXY.out
              · exact HG.out z hz
          | false =>
            have HXY := hid hxy
            clear hxy
            have HE : Hid (P.take j ++ x :: P.drop j = ins ltS x P) := ins_at ltS_ord x P j HQ.out.2.2.1 (by omega) HG.out (fun z hz => by
              obtain ⟨i, rfl⟩ : ∃ i, j = i + 1 := ⟨j - 1, by omega⟩
              have hyy := HY.out
              rw [Nat.add_sub_cancel] at hyy
              obtain ⟨hi, hy'⟩ := List.getElem?_eq_some_iff.1 hyy
              exact srt_take_le ltS_ord x P i hi HQ.out.2.2.1 (by rw [hy']; exact HXY.out) z hz)
            go_wp2_with fail
            refine (less_walk x y (by omega) (by omega) _).mono ?_
            rw [HXY.out]
            rintro e w2 ⟨rfl, nd, rfl⟩
            go_wp2
            refine ⟨⟨k + 1, by omega, .inl (by omega), by go_num, (HU2.out.drewN nd).setCell rfl _, ?_⟩, by simp [intOf]; omega⟩
            have h1 := (HB2.out.drewN nd).set (off + j) (.string x)
            rw [← List.map_set, ← HOff.out, seg_set, mid_set _ _ _ _ _ (by omega), HOff.out] at h1
            exact rest_eq HE.out HQ.out.1 HQ.out.2.1 hR h1
        · have hj00 : j = 0 := by omega
          have HE : Hid (P.take j ++ x :: P.drop j = ins ltS x P) := ins_at ltS_ord x P j HQ.out.2.2.1 (by omega) HG.out (fun z hz => by rw [hj00] at hz; simp at hz)
          have hd0 : decide ((0 : Int) < (j : Int)) = false := decide_eq_false (by omega)
          clear hj00
          go_wp2
          refine ⟨⟨k + 1, by omega, .inl (by omega), by go_num, HU2.out.setCell rfl _, ?_⟩, by simp [intOf]; omega⟩
          have h1 := HB2.out.set (off + j) (.string x)
          rw [← List.map_set, ← HOff.out, seg_set, mid_set _ _ _ _ _ (by omega), HOff.out] at h1
          exact rest_eq HE.out HQ.out.1 HQ.out.2.1 hR h1
    · have e1 : S.take k = S := List.take_of_length_le (by rw [HSl.out]; omega)
      have e2 : S.drop k = [] := List.drop_of_length_le (by rw [HSl.out]; omega)
      have h1 := HB.out
      rw [e1, e2, List.nil_append] at h1
      have HB1 := hid h1
      clear h1 e1 e2
      go_wp2
      go_end0
      exact ⟨rfl, HU.out, HB1.out⟩
end Go.Proofs.Qxb6500890aDoor
