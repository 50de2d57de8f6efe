/- IsSorted, Search; the model's Search. -/
import Derived.Test.Qxb6500890aDoorTxM2
namespace Go.Proofs.Qxb6500890aDoor
open Go.RowKit
set_option linter.unusedSimpArgs false
set_option linter.unusedVariables false

theorem srt_get2 {α : Type} {lt : α → α → Bool} (ho : Ord lt) : ∀ (l : List α), Srt lt l → ∀ (i j : Nat) (x y : α), l[i]? = some x → l[j]? = some y → i ≤ j → lt y x = false
  | [], _, i, j, x, y, hx, _, _ => by simp at hx
  | a :: l, hs, 0, 0, x, y, hx, hy, _ => by
    simp at hx hy
    subst hx hy
    exact ho.irr _
  | a :: l, hs, 0, j + 1, x, y, hx, hy, _ => by
    simp at hx
    subst hx
    exact hs.1 y (List.mem_of_getElem? (by simpa using hy))
  | a :: l, hs, i + 1, 0, x, y, hx, hy, h => by omega
  | a :: l, hs, i + 1, j + 1, x, y, hx, hy, h => srt_get2 ho l hs.2 i j x y (by simpa using hx) (by simpa using hy) (by omega)
def belP (Y : List ByteArray) (k : ByteArray) : Nat := Y.countP fun y => ltS y k
theorem belP_of {Y : List ByteArray} {k : ByteArray} {m : Nat} (hm : m ≤ Y.length) (h1 : ∀ i y, i < m → Y[i]? = some y → ltS y k = true) (h2 : ∀ i y, m ≤ i → Y[i]? = some y → ltS y k = false) : belP Y k = m := by
  unfold belP
  rw [← List.take_append_drop m Y, List.countP_append]
  have e1 : (Y.take m).countP (fun y => ltS y k) = (Y.take m).length := List.countP_eq_length.2 (fun y hy => by
    obtain ⟨i, hi⟩ := List.mem_iff_getElem?.1 hy
    have hl := (List.getElem?_eq_some_iff.1 hi).1
    rw [List.length_take] at hl
    rw [List.getElem?_take, if_pos (by omega)] at hi
    exact h1 i y (by omega) hi)
  have e2 : (Y.drop m).countP (fun y => ltS y k) = 0 := List.countP_eq_zero.2 (fun y hy => by
    obtain ⟨i, hi⟩ := List.mem_iff_getElem?.1 hy
    rw [List.getElem?_drop] at hi
    rw [h2 (m + i) y (by omega) hi]
    simp)
  rw [e1, e2, List.length_take]
  omega
theorem str_eq (x s : ByteArray) : (x.toList == s.toList) = decide (x = s) := by
  by_cases h : x = s
  · subst h; simp
  · rw [str_ne h, decide_eq_false h]
theorem ltS_eq {x y : ByteArray} (h1 : ltS x y = false) (h2 : ltS y x = false) : x = y := by
  have h3 := of_decide_eq_false h1
  have h4 := of_decide_eq_false h2
  have e := cmp_neg x.data.toList y.data.toList
  have := (cmp_zero x.data.toList y.data.toList).1 (by omega)
  exact ByteArray.ext (Array.toList_inj.1 this)
def fndP (Y : List ByteArray) (k : ByteArray) : Bool := Y.any fun y => decide (y = k)
theorem found_of {Y : List ByteArray} {k : ByteArray} {m : Nat} (hs : Srt ltS Y) (h1 : ∀ i y, i < m → Y[i]? = some y → ltS y k = true) (h2 : ∀ i y, m ≤ i → Y[i]? = some y → ltS y k = false) : decide (Y[m]? = some k) = fndP Y k := by
  have e0 : fndP Y k = true ↔ k ∈ Y := by
    unfold fndP
    rw [List.any_eq_true]
    constructor
    · rintro ⟨y, h1, h2⟩
      rw [← of_decide_eq_true h2]
      exact h1
    · exact fun h => ⟨k, h, decide_eq_true rfl⟩
  rw [Bool.eq_iff_iff, e0, decide_eq_true_eq]
  constructor
  · exact fun h => List.mem_of_getElem? h
  · intro h
    obtain ⟨i, hi⟩ := List.mem_iff_getElem?.1 h
    have hl := (List.getElem?_eq_some_iff.1 hi).1
    have hmi : m ≤ i := Classical.byContradiction fun hc => by
      have := h1 i k (by omega) hi
      rw [ltS_ord.irr k] at this
      cases this
    obtain ⟨y, hy⟩ : ∃ y, Y[m]? = some y := ⟨Y[m]'(by omega), List.getElem?_eq_getElem _⟩
    have e1 := srt_get2 ltS_ord Y hs m i y k hy hi hmi
    have e2 := h2 m y (Nat.le_refl _) hy
    rw [hy, ltS_eq e2 e1]
/-- Where the search stands. -/
structure Bin (Y : List ByteArray) (k : ByteArray) (lo hi : Nat) : Prop where
  le : lo ≤ hi
  lt : ∀ i y, i < lo → Y[i]? = some y → ltS y k = true
  ge : ∀ i y, hi ≤ i → Y[i]? = some y → ltS y k = false
theorem Bin.up {Y : List ByteArray} {k y : ByteArray} {lo hi m : Nat} (hs : Srt ltS Y) (h : Bin Y k lo hi) (hm : m < hi) (hy : Y[m]? = some y) (hl : ltS y k = true) : Bin Y k (m + 1) hi := ⟨hm, fun i z hi' hz => by
  have h1 := srt_get2 ltS_ord Y hs i m z y hz hy (by omega)
  by_cases e : ltS z k = true
  · exact e
  · have := ltS_ord.trans _ _ _ h1 (by simpa using e)
    rw [hl] at this
    exact absurd this (by simp), h.ge⟩
theorem Bin.down {Y : List ByteArray} {k y : ByteArray} {lo hi m : Nat} (hs : Srt ltS Y) (h : Bin Y k lo hi) (hm : lo ≤ m) (hy : Y[m]? = some y) (hl : ltS y k = false) : Bin Y k lo m := ⟨hm, h.lt, fun i z hi' hz => ltS_ord.trans _ _ _ (srt_get2 ltS_ord Y hs m i y z hy hz hi') hl⟩
section
variable {w w' : World}
set_option maxRecDepth 100000
set_option maxHeartbeats 1000000
theorem less_b (a b : ByteArray) (ha : a.size ≤ 9223372036854775807) (hb : b.size ≤ 9223372036854775807) (w : World) : Calls Tryd.prog 20 #[.string a, .string b] w fun e w' => e = .returned (.bool (ltS a b)) ∧ Below w.heap.size w w' := by
  refine (less_walk a b ha hb w).mono ?_
  rintro e w1 ⟨rfl, hd⟩
  exact ⟨rfl, hd.below _⟩
theorem strs_cell {w wx : World} {g : Nat} {Y : List ByteArray} (h : Blk w g 9 (Y.map .string)) (hb : Below w.heap.size w wx) {i : Nat} {y : ByteArray} (hy : Y[i]? = some y) : wx.cell? ⟨g, i, none⟩ = some (.string y) := by
  rw [(h.below hb).cell, List.getElem?_map, hy]
  rfl
theorem get_some {α : Type} {Y : List α} {i : Nat} (h : i < Y.length) : ∃ y, Y[i]? = some y := ⟨Y[i], List.getElem?_eq_getElem h⟩
theorem isSorted_walk (g n : Nat) (X : List ByteArray) (hX : (ssort ltS X).length = n) (hn : n ≤ 65536) (hok : ∀ s ∈ ssort ltS X, s.size ≤ 140737488351232) (w : World) (hb : Blk w g 9 ((ssort ltS X).map .string)) :
    Calls Tryd.prog 23 #[.slice (some ⟨g, 0, none⟩) n n] w fun e w' => e = .returned (.bool true) ∧ Below w.heap.size w w' := by
  have HB := hid hb
  have HOk := hid hok
  have HX := hid hX
  have hni : (n : Int) ≤ 65536 := by omega
  have HA := hid (fun (m : Nat) (x y : ByteArray) (hm : 1 ≤ m) => sort_adj (X := X) (m := m) (x := x) (y := y) hm)
  generalize ssort ltS X = Y at HB HOk HX HA
  clear hb hok hX
  have HR : Hid (Below w.heap.size w w) := hid (Below.refl _ _)
  go_enter Tryd.func23, Tryd.ntmps23
  go_wp2_with fail
  go_loopw [3] (fun v wr => ∃ i : Nat, 1 ≤ i ∧ i ≤ n + 1 ∧ v = .int .i64 (i : Int) ∧ Hid (Below w.heap.size w wr)) (fun v _ => n + 1 - (intOf v).toNat)
  case atStart => exact ⟨1, by omega, by omega, rfl, HR⟩
  case round =>
  clear HR
  obtain ⟨i, hi1, hi, rfl, HR⟩ := hrel
  by_cases hin : i < n
  rotate_left
  · have di : decide ((i : Int) < (n : Int)) = false := decide_eq_false (by omega)
    go_wp2
    go_ret
    exact ⟨rfl, HR.out⟩
  have di : decide ((i : Int) < (n : Int)) = true := decide_eq_true (by omega)
  obtain ⟨y, hy⟩ := get_some (Y := Y) (i := i) (by rw [HX.out]; exact hin)
  obtain ⟨x, hx⟩ := get_some (Y := Y) (i := i - 1) (by rw [HX.out]; omega)
  obtain ⟨j, hj⟩ : ∃ j, i - 1 = j := ⟨_, rfl⟩
  rw [hj] at hx
  have hji : (i : Int) - 1 = (j : Int) := by omega
  have hjn : (j : Int) < (n : Int) := by omega
  have HL : Hid (ltS y x = false) := hid (HA.out i x y hi1 (by rw [hj]; exact hx) hy)
  have hys := HOk.out y (List.mem_of_getElem? hy)
  have hxs := HOk.out x (List.mem_of_getElem? hx)
  go_upto_region 4 with fail
  obtain ⟨X', W, HTT, H0, hne, HC⟩ := class_below wr
  have HXX : Hid (∀ z, Below w.heap.size w (W z)) := hid (fun z => HR.out.trans ((HTT.out z).mono HR.out.size))
  have a1 := fun z => strs_cell HB.out (HXX.out z) hy
  have a2 := fun z => strs_cell HB.out (HXX.out z) hx
  have HG : Hid (∀ z, Calls Tryd.prog 20 #[.string y, .string x] (W z) fun e w' => e = .returned (.bool false) ∧ Below (W z).heap.size (W z) w') := hid (fun z => by
    have h := less_b y x (by omega) (by omega) (W z)
    rw [HL.out] at h
    exact h)
  clear hy hx
  refine wp_region_class W (by kernel_rfl) (by kernel_rfl) H0.out ?_
  repeat (go_big_quiet_step ((go_at_call 20; exact Calls.class_of HC.out (HG.out _))))
  refine wpQuiet_nil ?_
  intro z
  have HBz := hid (HXX.out z)
  generalize W z = wz at HBz ⊢
  clear a1 a2 H0 HTT HC hne HXX HG HR
  go_wp2
  exact ⟨⟨i + 1, by omega, by omega, by go_num, HBz⟩, by simp [intOf]; omega⟩
def seV (Y : List ByteArray) (k : ByteArray) : Value := .tuple #[.int .i64 (belP Y k : Int), .bool (fndP Y k)]
theorem search_walk (g n : Nat) (Y : List ByteArray) (hs : Srt ltS Y) (hX : Y.length = n) (hn : n ≤ 65536) (hok : ∀ s ∈ Y, s.size ≤ 140737488351232) (k : ByteArray) (hk : k.size ≤ 140737488351232) (w : World) (hb : Blk w g 9 (Y.map .string)) :
    Calls Tryd.prog 26 #[.slice (some ⟨g, 0, none⟩) n n, .string k] w fun e w' => e = .returned (seV Y k) ∧ Below w.heap.size w w' := by
  have HB := hid hb
  have HOk := hid hok
  have HX := hid hX
  have HSr := hid hs
  have hni : (n : Int) ≤ 65536 := by omega
  obtain ⟨ev, hev⟩ : ∃ v, seV Y k = v := ⟨_, rfl⟩
  rw [hev]
  have Hev := hid hev
  have HR : Hid (Below w.heap.size w w ∧ Bin Y k 0 n) := hid ⟨Below.refl _ _, Nat.zero_le _, fun i y h _ => by omega, fun i y h hy => by
    have := (List.getElem?_eq_some_iff.1 hy).1
    omega⟩
  clear hb hok hX hev hs
  go_enter Tryd.func26, Tryd.ntmps26
  go_wp2_with fail
  go_loopw [6, 7] (fun v u wr => ∃ lo hi : Nat, lo ≤ hi ∧ hi ≤ n ∧ v = .int .i64 (lo : Int) ∧ u = .int .i64 (hi : Int) ∧ Hid (Below w.heap.size w wr ∧ Bin Y k lo hi)) (fun v u _ => (intOf u).toNat - (intOf v).toNat)
  case atStart => exact ⟨0, n, by omega, by omega, rfl, rfl, HR⟩
  case round =>
  clear HR
  obtain ⟨lo, hi, hlh, hhn, rfl, rfl, HR⟩ := hrel
  by_cases hin : lo < hi
  rotate_left
  · have hle : hi = lo := by omega
    subst hle
    have di : decide ((hi : Int) < (hi : Int)) = false := decide_eq_false (by omega)
    have HE1 := hid (belP_of (by rw [HX.out]; exact hhn) HR.out.2.lt HR.out.2.ge)
    have HE2 := hid (found_of HSr.out HR.out.2.lt HR.out.2.ge)
    clear hin hlh
    go_upto_region 7 with fail
    obtain ⟨X', W, HTT, H0, hne, HC⟩ := class_below wr
    have HXX : Hid (∀ z, Below w.heap.size w (W z)) := hid (fun z => HR.out.1.trans ((HTT.out z).mono HR.out.1.size))
    by_cases hl : hi < n
    · have d1 : decide (hi < n) = true := decide_eq_true hl
      have d2 : (hi : Int) < (n : Int) := by omega
      obtain ⟨y, hy⟩ := get_some (Y := Y) (i := hi) (by rw [HX.out]; exact hl)
      have a1 := fun z => strs_cell HB.out (HXX.out z) hy
      obtain ⟨bq, hbq⟩ : ∃ b, (y.toList == k.toList) = b := ⟨_, rfl⟩
      have HE3 : Hid ((.tuple #[.int .i64 (hi : Int), .bool bq] : Value) = ev) := hid (by
        rw [← Hev.out, seV, HE1.out, ← HE2.out, hy, ← hbq, str_eq]
        simp)
      clear hy
      refine wp_region_class W (by kernel_rfl) (by kernel_rfl) H0.out ?_
      repeat (go_big_quiet_step (fail))
      refine wpQuiet_nil ?_
      intro z
      have HBz := hid (HXX.out z)
      generalize W z = wz at HBz ⊢
      clear a1 H0 HTT HC hne HXX HR
      go_wp2
      exact bodyPost_ret (v := .tuple #[.int .i64 (hi : Int), .bool bq]) (by simp [results, Tryd.results26, go_sem]) rfl ⟨by rw [HE3.out], HBz.out⟩
    · have d1 : decide (hi < n) = false := decide_eq_false hl
      have d2 : ¬ ((hi : Int) < (n : Int)) := by omega
      have HE3 : Hid ((.tuple #[.int .i64 (hi : Int), .bool false] : Value) = ev) := hid (by
        rw [← Hev.out, seV, HE1.out, ← HE2.out, List.getElem?_eq_none (by rw [HX.out]; omega)]
        simp)
      refine wp_region_class W (by kernel_rfl) (by kernel_rfl) H0.out ?_
      repeat (go_big_quiet_step (fail))
      refine wpQuiet_nil ?_
      intro z
      have HBz := hid (HXX.out z)
      generalize W z = wz at HBz ⊢
      clear H0 HTT HC hne HXX HR
      go_wp2
      exact bodyPost_ret (v := .tuple #[.int .i64 (hi : Int), .bool false]) (by simp [results, Tryd.results26, go_sem]) rfl ⟨by rw [HE3.out], HBz.out⟩
  have di : decide ((lo : Int) < (hi : Int)) = true := decide_eq_true (by omega)
  obtain ⟨m, hm⟩ : ∃ m, lo + (hi - lo) / 2 = m := ⟨_, rfl⟩
  obtain ⟨d, hd⟩ : ∃ d, hi - lo = d := ⟨_, rfl⟩
  obtain ⟨d2, hd2⟩ : ∃ d2, d / 2 = d2 := ⟨_, rfl⟩
  have i1 : (hi : Int) - (lo : Int) = (d : Int) := by omega
  have i2 : (d : Int).tdiv 2 = (d2 : Int) := by rw [← hd2]; rfl
  have i3 : (lo : Int) + (d2 : Int) = (m : Int) := by omega
  have i4 : m < hi := by omega
  have i5 : lo ≤ m := by omega
  have i6 : (m : Int) < (n : Int) := by omega
  have i7 : (d : Int) ≤ 65536 := by omega
  obtain ⟨y, hy⟩ := get_some (Y := Y) (i := m) (by rw [HX.out]; omega)
  have a1 := strs_cell HB.out HR.out.1 hy
  have hys := HOk.out y (List.mem_of_getElem? hy)
  have HL := hid (less_b y k (by omega) (by omega) wr)
  have HUp := hid (fun hl => HR.out.2.up HSr.out i4 hy hl)
  have HDn := hid (fun hl => HR.out.2.down HSr.out i5 hy hl)
  obtain ⟨bl, hbl⟩ : ∃ b, ltS y k = b := ⟨_, rfl⟩
  rw [hbl] at HL
  have Hbl := hid hbl
  clear hy hm hd hd2 hbl
  go_wp2_with fail
  refine HL.out.mono ?_
  rintro e w2 ⟨rfl, hb2⟩
  have HB2 := hid (HR.out.1.trans (hb2.mono HR.out.1.size))
  clear hb2 HL HR a1
  cases bl with
  | true =>
    have HN : Hid (Below w.heap.size w w2 ∧ Bin Y k (m + 1) hi) := hid ⟨HB2.out, HUp.out Hbl.out⟩
    clear HUp HDn HB2
    go_wp2
    exact ⟨⟨m + 1, hi, by omega, by omega, by go_num, by go_num, HN⟩, by simp [intOf]; omega⟩
  | false =>
    have HN : Hid (Below w.heap.size w w2 ∧ Bin Y k lo m) := hid ⟨HB2.out, HDn.out Hbl.out⟩
    clear HUp HDn HB2
    go_wp2
    exact ⟨⟨lo, m, by omega, by omega, by go_num, by go_num, HN⟩, by simp [intOf]; omega⟩
end
end Go.Proofs.Qxb6500890aDoor
