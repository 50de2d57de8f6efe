/- The text model: SortKeyed walked. -/
import Derived.Test.Qxb6500890aDoorTxM3
namespace Go.Proofs.Qxb6500890aDoor
open Go.RowKit
set_option linter.unusedSimpArgs false
set_option linter.unusedVariables false

section
variable {w w' : World}
def OwKP (w : World) (xs : List Rec) (e : Ending) (w' : World) : Prop := ∃ v, e = .returned v ∧ OwR rtK w.heap.size w' v xs ∧ Below w.heap.size w w'
/-- SortKeyed under way. -/
structure Sk (w : World) (xs : List Rec) (v : Value) (wr : World) : Prop where
  row : OwR rtK w.heap.size wr v xs
  be : Below w.heap.size w wr
theorem Sk.below {w wr w' : World} {xs : List Rec} {v : Value} (h : Sk w xs v wr) (hb : Below wr.heap.size wr w') : Sk w xs v w' := ⟨h.row.below hb, h.be.trans (hb.mono h.be.size)⟩
/-- Behind n1 a new row grows. -/
structure Sn (w : World) (n1 : Nat) (wr : World) (ys : List Rec) (u : Value) (wx : World) : Prop where
  row : OwR rtK n1 wx u ys
  be : Below n1 wr wx
theorem Sn.next {w wr wx w' : World} {n1 : Nat} {ys zs : List Rec} {u u' : Value} (h : Sn w n1 wr ys u wx) (hr : OwR rtK n1 w' u' zs) (hk : Kep wx u w') (hn : n1 ≤ wr.heap.size) : Sn w n1 wr zs u' w' := ⟨hr, h.be.trans (hk.below h.row.hi (Nat.le_trans hn h.be.size))⟩
theorem Sn.below {w wr wx w' : World} {n1 : Nat} {ys : List Rec} {u : Value} (h : Sn w n1 wr ys u wx) (hb : Below wx.heap.size wx w') (hn : n1 ≤ wr.heap.size) : Sn w n1 wr ys u w' := ⟨h.row.below hb, h.be.trans (hb.mono (Nat.le_trans hn h.be.size))⟩
theorem flat_pre {Z : List Rec} {t j : Nat} {u : Value} (h : ((Z.take t).flatMap recCells)[j]? = some u) : (Z.flatMap recCells)[j]? = some u := by
  have e : Z.flatMap recCells = (Z.take t).flatMap recCells ++ (Z.drop t).flatMap recCells := by rw [← List.flatMap_append, List.take_append_drop]
  rw [e, List.getElem?_append_left (List.getElem?_eq_some_iff.1 h).1]
  exact h
theorem flat_suf {Z : List Rec} {t j : Nat} {u : Value} (ht : t ≤ Z.length) (h : ((Z.drop t).flatMap recCells)[j]? = some u) : (Z.flatMap recCells)[t * 2 + j]? = some u := by
  have e : Z.flatMap recCells = (Z.take t).flatMap recCells ++ (Z.drop t).flatMap recCells := by rw [← List.flatMap_append, List.take_append_drop]
  have e2 : ((Z.take t).flatMap recCells).length = t * 2 := by
    have := flat_len (Z.take t)
    unfold flat at this
    rw [this, List.length_take]
    omega
  rw [e, List.getElem?_append_right (by omega), e2, Nat.add_sub_cancel_left]
  exact h
theorem addr0 (g j : Nat) : (⟨g, 0, none⟩ : Addr).add j = ⟨g, j, none⟩ := by
  unfold Addr.add
  split
  · rename_i h; rw [h]
  · simp
theorem OwR.srcTake {w w' : World} {n0 n1 n q : Nat} {a : Option Addr} {Z : List Rec} (h : OwR rtK n0 w (.slice a n q) Z) (hb : Below n1 w w') (hl : ∀ g, (Value.slice a n q).ownBlock = some g → g < n1) (t : Nat) : ∀ ad, a = some ad → ∀ j u, ((Z.take t).flatMap rtK.f)[j]? = some u → w'.cell? (ad.add j) = some u := fun ad had j u hu => by
  rcases h.shp.1 with ⟨h1, _⟩ | ⟨g3, h1⟩
  · rw [h1] at had; cases had
  · rw [h1] at had
    cases had
    rw [addr0]
    exact h.cellsAt hb hl h1 j u (flat_pre hu)
theorem OwR.srcDrop {w w' : World} {n0 n1 n q : Nat} {a : Option Addr} {Z : List Rec} (h : OwR rtK n0 w (.slice a n q) Z) (hb : Below n1 w w') (hl : ∀ g, (Value.slice a n q).ownBlock = some g → g < n1) (t : Nat) (ht : t ≤ n) : ∀ ad, tlK a t q = some ad → ∀ j u, ((Z.drop t).flatMap rtK.f)[j]? = some u → w'.cell? (ad.add j) = some u := fun ad had j u hu => by
  obtain ⟨h0, h2, h3⟩ := h.shp
  have hlt : t < n := Classical.byContradiction fun hc => by
    rw [List.drop_of_length_le (by omega)] at hu
    simp at hu
  unfold tlK at had
  rw [if_neg (by omega)] at had
  rcases h0 with ⟨h1, _⟩ | ⟨g3, h1⟩
  · rw [h1] at had; cases had
  · have had2 : ad = (⟨g3, 0, none⟩ : Addr).add (t * 2) := by
      rw [h1] at had
      exact (Option.some.inj had).symm
    rw [had2, addr_add_add, addr0]
    exact h.cellsAt hb hl h1 _ u (flat_suf (by omega) hu)
theorem OwR.none0 {w : World} {n0 n q t : Nat} {a : Option Addr} {Z : List Rec} (h : OwR rtK n0 w (.slice a n q) Z) (ht : t ≤ n) (ha : a = none) : t = 0 ∧ q = 0 := by
  obtain ⟨h0, h2, h3⟩ := h.shp
  rcases h0 with ⟨_, h1⟩ | ⟨g3, h1⟩
  · omega
  · rw [h1] at ha; cases ha
theorem OwR.none1 {w : World} {n0 n q t k : Nat} {a : Option Addr} {Z : List Rec} (h : OwR rtK n0 w (.slice a n q) Z) (ht : t + k = n) (ha : tlK a t q = none) : k = 0 ∧ q - t = 0 := by
  obtain ⟨h0, h2, h3⟩ := h.shp
  rcases h0 with ⟨_, h1⟩ | ⟨g3, h1⟩
  · omega
  · rw [h1] at ha
    unfold tlK at ha
    split at ha <;> cases ha
theorem bnd1 {Z : List Rec} {t n : Nat} (h : Z.length = n) (hn : n ≤ 65536) : (([] ++ Z.take t).length + 1) * rtK.b ≤ 140737488355328 := by
  have e : rtK.b = 24 := rfl
  rw [e, List.nil_append, List.length_take]
  omega
theorem bnd2 {Z : List Rec} {x : Rec} {t n k : Nat} (h : Z.length = n) (hn : n ≤ 65536) (hk : t + k = n) : (([] ++ Z.take t ++ [x]).length + k) * rtK.b ≤ 140737488355328 := by
  have e : rtK.b = 24 := rfl
  rw [e, List.nil_append, List.length_append, List.length_take, List.length_singleton]
  omega
theorem ssort_next {X : List Rec} {i : Nat} {x : Rec} (h : X[i]? = some x) : ssort ltK (X.take (i + 1)) = ins ltK x (ssort ltK (X.take i)) := by
  rw [List.take_add_one, h]
  exact ssort_snoc _ _
theorem ssort_len (X : List Rec) (i : Nat) (h : i ≤ X.length) : (ssort ltK (X.take i)).length = i := by rw [ssort_length, List.length_take]; omega
set_option maxRecDepth 100000
set_option maxHeartbeats 2000000
theorem msortKeyed_walk (a : Option Addr) (n c : Nat) (X : List Rec) (w : World) (hr : RowOf w 2 recCells a n c X) (hn : n ≤ 65536) :
    Calls Tryd.prog 45 #[.slice a n c] w fun e w' => OwKP w (ssort ltK X) e w' := by
  have HR := hid hr
  have HX := hid hr.len
  have hni : (n : Int) ≤ 65536 := by omega
  obtain ⟨p0, hp0⟩ : ∃ p, w.heap.size = p := ⟨_, rfl⟩
  have HS0 : Hid (Sk w (ssort ltK (X.take 0)) (.slice (some ⟨p0, 0, none⟩) 0 0) (w.alloc (.cells #[] 49))) := hid ⟨by rw [← hp0]; exact OwR.made0 rtK w, nbel _ _⟩
  clear hr
  go_enter Tryd.func45, Tryd.ntmps45
  go_wp2_with fail
  generalize hw1 : w.alloc (.cells #[] 49) = w1 at HS0 ⊢
  clear hw1
  go_loopw [3, 11] (fun v t wr => ∃ (i : Nat) (a3 : Option Addr) (q3 : Nat), i ≤ n ∧ v = .slice a3 i q3 ∧ t = .int .i64 (i : Int) ∧ Hid (Sk w (ssort ltK (X.take i)) (.slice a3 i q3) wr)) (fun _ t _ => n - (intOf t).toNat)
  case atStart => exact ⟨0, _, _, by omega, rfl, rfl, HS0⟩
  case round =>
  clear HS0
  obtain ⟨i, a3, q3, hi, rfl, rfl, HS⟩ := hrel
  by_cases hin : i < n
  rotate_left
  · have hie : i = n := by omega
    subst hie
    have di : decide ((i : Int) < (i : Int)) = false := decide_eq_false (by omega)
    have HE : Hid (OwKP w (ssort ltK X) (.returned (.slice a3 i q3)) wr) := hid (by
      have h1 := HS.out
      rw [List.take_of_length_le (by rw [HX.out]; omega)] at h1
      exact ⟨_, rfl, h1.row, h1.be⟩)
    clear HS hin hi
    go_wp2
    go_ret
    exact HE.out
  have di : decide ((i : Int) < (n : Int)) = true := decide_eq_true (by omega)
  have ii : (i : Int) < (n : Int) := by omega
  obtain ⟨⟨xk, xv⟩, hx⟩ := get_some (Y := X) (i := i) (by rw [HX.out]; exact hin)
  obtain ⟨g, off, rfl, c1, c2⟩ := rowK_at (HR.out.below HS.out.be) hx
  dsimp only at c1 c2
  have HNx := hid (ssort_next hx)
  have HLn := hid (ssort_len X i (by rw [HX.out]; exact hi))
  obtain ⟨Z, hZ⟩ : ∃ Z, ssort ltK (X.take i) = Z := ⟨_, rfl⟩
  rw [hZ] at HNx HLn HS
  obtain ⟨p, hp⟩ : ∃ p, wr.heap.size = p := ⟨_, rfl⟩
  clear hx hZ
  go_upto_region 5 with fail
  have HS5 : Hid (Sk w Z (.slice a3 i q3) (wr.alloc (.cells #[.string xk, .int .i64 xv] 49)) ∧ Blk (wr.alloc (.cells #[.string xk, .int .i64 xv] 49)) p 49 [.string xk, .int .i64 xv]) := hid ⟨HS.out.below (nbel _ _), by rw [← hp]; exact Blk.new wr [.string xk, .int .i64 xv] 49⟩
  generalize hw5 : wr.alloc (.cells #[.string xk, .int .i64 xv] 49) = w5 at HS5 ⊢
  clear hw5 hp c1 c2 HS
  have HI0 : Hid (Below w5.heap.size w5 w5 ∧ ∀ y ∈ Z.take 0, ltK (xk, xv) y = false) := hid ⟨Below.refl _ _, fun y hy => by simp at hy⟩
  go_wp2_with fail
  go_loopw [6] (fun v wr => ∃ t : Nat, t ≤ i ∧ v = .int .i64 (t : Int) ∧ Hid (Below w5.heap.size w5 wr ∧ ∀ y ∈ Z.take t, ltK (xk, xv) y = false)) (fun v _ => i - (intOf v).toNat)
  case atStart => exact ⟨0, by omega, rfl, HI0⟩
  case round =>
  clear HI0
  obtain ⟨t, ht, rfl, HI⟩ := hrel
  obtain ⟨b6, hb6⟩ : ∃ b, (match Z[t]? with | none => false | some y => !(ltK (xk, xv) y)) = b := ⟨_, rfl⟩
  have Hb6 := hid hb6
  clear hb6
  go_upto_region 6 with fail
  go_cut [28] from 15 to 28 (fun v wc => v = .bool b6 ∧ Hid (Below w5.heap.size w5 wc))
  case first =>
    obtain ⟨X', W, HTT, H0, hne, HC⟩ := class_below wr
    have HXX : Hid (∀ z, Below w5.heap.size w5 (W z)) := hid (fun z => HI.out.1.trans ((HTT.out z).mono HI.out.1.size))
    have b1 : ∀ z, (W z).cell? ⟨p, 0, none⟩ = some (.string xk) := fun z => (HS5.out.2.below (HXX.out z)).cell 0
    by_cases htn : t < i
    · have dt : decide ((t : Int) < (i : Int)) = true := decide_eq_true (by omega)
      have dt2 : decide (t < i) = true := decide_eq_true (by omega)
      have it : (t : Int) < (i : Int) := by omega
      obtain ⟨⟨yk, yv⟩, hy⟩ := get_some (Y := Z) (i := t) (by rw [HLn.out]; exact htn)
      have hax : ∃ g3, a3 = some ⟨g3, 0, none⟩ := by
        rcases HS5.out.1.row.shp with ⟨h1 | h1, h2, h3⟩
        · omega
        · exact h1
      obtain ⟨g3, rfl⟩ := hax
      have b2 : ∀ z, (W z).cell? ⟨g3, t * 2, none⟩ = some (.string yk) := fun z => HS5.out.1.row.cellsAt (HXX.out z) HS5.out.1.row.lt rfl (t * 2) (.string yk) (by
        have := flat_get0 Z t
        rw [hy] at this
        exact this)
      have q1 := str_leq xk yk
      have HE : Hid ((!(ltS xk yk)) = b6) := hid (by rw [← Hb6.out, hy]; rfl)
      rw [HE.out] at q1
      clear hy
      refine wp_region_class W (by kernel_rfl) (by kernel_rfl) H0.out ?_
      repeat (go_big_quiet_step (fail))
      refine wpQuiet_nil ?_
      intro z
      have HBz := hid (HXX.out z)
      generalize W z = wz at HBz ⊢
      clear b1 b2 H0 HTT HC hne HXX HI
      go_wp2
      go_meet
      exact ⟨rfl, HBz⟩
    · have dt : decide ((t : Int) < (i : Int)) = false := decide_eq_false (by omega)
      have dt2 : decide (t < i) = false := decide_eq_false (by omega)
      have HE : Hid (false = b6) := hid (by rw [← Hb6.out, List.getElem?_eq_none (by rw [HLn.out]; omega)])
      refine wp_region_class W (by kernel_rfl) (by kernel_rfl) H0.out ?_
      repeat (go_big_quiet_step (fail))
      refine wpQuiet_nil ?_
      intro z
      have HBz := hid (HXX.out z)
      generalize W z = wz at HBz ⊢
      clear b1 H0 HTT HC hne HXX HI
      go_wp2
      go_meet
      exact ⟨by rw [HE.out], HBz⟩
  case rest =>
  obtain ⟨rfl, HBc⟩ := hcut
  cases b6 with
  | true =>
    have htn : t < i := Classical.byContradiction fun hc => by
      have := Hb6.out
      rw [List.getElem?_eq_none (by rw [HLn.out]; omega)] at this
      cases this
    have HBz : Hid (Below w5.heap.size w5 wc ∧ ∀ y ∈ Z.take (t + 1), ltK (xk, xv) y = false) := hid ⟨HBc.out, fun y hy => by
      obtain ⟨y0, hy0⟩ := get_some (Y := Z) (i := t) (by rw [HLn.out]; exact htn)
      have h6 := Hb6.out
      rw [hy0] at h6
      rw [List.take_add_one, hy0] at hy
      rcases List.mem_append.1 hy with h1 | h1
      · exact HI.out.2 y h1
      · have : y = y0 := by simpa using h1
        rw [this]
        simpa using h6⟩
    clear HI Hb6 HBc
    go_wp2
    exact ⟨⟨t + 1, by omega, by go_num, HBz⟩, by simp [intOf]; omega⟩
  | false =>
    have HSp : Hid (Z.take t ++ (xk, xv) :: Z.drop t = ins ltK (xk, xv) Z) := hid (ins_split _ Z t HI.out.2 (fun y hy => by
      have h6 := Hb6.out
      rw [hy] at h6
      simpa using h6))
    have HS8 : Hid (Sk w Z (.slice a3 i q3) wc ∧ Blk wc p 49 [.string xk, .int .i64 xv]) := hid ⟨HS5.out.1.below HBc.out, HS5.out.2.below HBc.out⟩
    clear HI Hb6 HBc HS5
    obtain ⟨n1, hn1⟩ : ∃ x, wc.heap.size = x := ⟨_, rfl⟩
    have HN0 : Hid (Sn w n1 wc [] (.slice (some ⟨n1, 0, none⟩) 0 0) (wc.alloc (.cells #[] 49))) := hid ⟨by rw [← hn1]; exact OwR.made0 rtK wc, by rw [← hn1]; exact nbel _ _⟩
    have Hn1 : Hid (n1 ≤ wc.heap.size) := hid (by omega)
    obtain ⟨k, hk⟩ : ∃ k, t + k = i := ⟨i - t, by omega⟩
    have HSh := hid HS8.out.1.row.shp
    have r1 := cutK_run (n := i) (m := t) HSh.out.1 (by have := HSh.out.2.1; omega)
    have r2 := tailK_run (a := a3) (q := q3) hk
    have HLt : Hid (∀ g, (Value.slice a3 i q3).ownBlock = some g → g < n1) := hid (fun g hg => by have := HS8.out.1.row.lt g hg; omega)
    have HT1 : Hid (∀ wx, Below n1 wc wx → ∀ ad, a3 = some ad → ∀ j u, ((Z.take t).flatMap rtK.f)[j]? = some u → wx.cell? (ad.add j) = some u) := hid (fun wx hb => HS8.out.1.row.srcTake hb HLt.out t)
    have HT2 : Hid (∀ wx, Below n1 wc wx → ∀ ad, tlK a3 t q3 = some ad → ∀ j u, ((Z.drop t).flatMap rtK.f)[j]? = some u → wx.cell? (ad.add j) = some u) := hid (fun wx hb => HS8.out.1.row.srcDrop hb HLt.out t ht)
    have HZ1 : Hid (a3 = none → t = 0 ∧ q3 = 0) := hid (fun h => HS8.out.1.row.none0 ht h)
    have HZ2 : Hid (tlK a3 t q3 = none → k = 0 ∧ q3 - t = 0) := hid (fun h => HS8.out.1.row.none1 hk h)
    have HL1 : Hid ((Z.take t).length = t ∧ (Z.drop t).length = k) := hid ⟨by rw [List.length_take, HLn.out]; omega, by rw [List.length_drop, HLn.out]; omega⟩
    have HBd : Hid ((([] : List Rec).length + t) * rtK.b ≤ 140737488355328 ∧ (([] ++ Z.take t).length + 1) * rtK.b ≤ 140737488355328 ∧ (([] ++ Z.take t ++ [(xk, xv)]).length + k) * rtK.b ≤ 140737488355328) := hid ⟨by show (0 + t) * 24 ≤ _; omega, bnd1 HLn.out (by omega), bnd2 HLn.out (by omega) hk⟩
    have Hk := hid hk
    have Hbl := hid HS8.out.2
    have Hpl : Hid (p < n1) := hid (by have := HS8.out.2.lt; omega)
    clear hk
    go_wp2_with (at_builtin; refine stopHere ?_)
    intro _
    generalize hwb : wc.alloc (.cells #[] 49) = wb at HN0 ⊢
    clear hwb
    refine wpList_app_l okK rfl _ _ HN0.out.row rfl (Z.take t) rfl a3 t q3 rfl HL1.out.1 HZ1.out (HT1.out _ HN0.out.be) HBd.out.1 (Nat.le_trans Hn1.out HN0.out.be.size) ?_
    intro v9 w9 hr9 hk9 hg9
    have HN1 := hid (HN0.out.next hr9.out hk9.out Hn1.out)
    clear hr9 hk9 hg9 HN0
    have Hb9 := hid (Hbl.out.of (HN1.out.be.block p Hpl.out))
    have y1 : w9.cell? ⟨p, 0, none⟩ = some (.string xk) := Hb9.out.cell 0
    have y2 : w9.cell? ⟨p, 1, none⟩ = some (.int .i64 xv) := Hb9.out.cell 1
    obtain ⟨k9, hk9⟩ : ∃ k, w9.heap.size = k := ⟨_, rfl⟩
    go_wp2_with (at_builtin; refine stopHere ?_)
    intro _
    have HNw : Hid (∀ ad, some (⟨k9, 0, none⟩ : Addr) = some ad → ∀ j u, ([(xk, xv)].flatMap rtK.f)[j]? = some u → (w9.alloc (.cells #[.string xk, .int .i64 xv] 49)).cell? (ad.add j) = some u) := hid (newX rtK w9 (xk, xv) _ hk9.symm)
    have HN2 := hid (HN1.out.below (nbel w9 (.cells #[.string xk, .int .i64 xv] 49)) Hn1.out)
    generalize hwf : w9.alloc (.cells #[.string xk, .int .i64 xv] 49) = wf at HN2 HNw ⊢
    clear hwf y1 y2 HN1 Hb9 hk9
    refine wpList_app_l okK rfl _ _ HN2.out.row rfl [(xk, xv)] rfl (some ⟨k9, 0, none⟩) 1 1 rfl rfl (fun h => by cases h) HNw.out HBd.out.2.1 (Nat.le_trans Hn1.out HN2.out.be.size) ?_
    intro v10 w10 hr10 hk10 hg10
    have HN3 := hid (HN2.out.next hr10.out hk10.out Hn1.out)
    clear hr10 hk10 hg10 HN2 HNw
    go_wp2_with (at_builtin; refine stopHere ?_)
    intro _
    refine wpList_app_l okK rfl _ _ HN3.out.row rfl (Z.drop t) rfl (tlK a3 t q3) k (q3 - t) rfl HL1.out.2 HZ2.out (HT2.out _ HN3.out.be) HBd.out.2.2 (Nat.le_trans Hn1.out HN3.out.be.size) ?_
    intro v11 w11 hr11 hk11 hg11
    have HN4 := hid (HN3.out.next hr11.out hk11.out Hn1.out)
    clear hr11 hk11 hg11 HN3
    have el : ([] ++ Z.take t ++ [(xk, xv)] ++ Z.drop t) = ssort ltK (X.take (i + 1)) := by
      rw [HNx.out, ← HSp.out]
      simp
    rw [el] at HN4
    have el2 : (ssort ltK (X.take (i + 1))).length = i + 1 := ssort_len X (i + 1) (by rw [HX.out]; exact hin)
    obtain ⟨a12, q12, hv⟩ := HN4.out.row.shape
    rw [el2] at hv
    subst hv
    have HZ : Hid (Sk w (ssort ltK (X.take (i + 1))) (.slice a12 (i + 1) q12) w11) := hid ⟨HN4.out.row.mono (Nat.le_trans HS8.out.1.be.size (by omega)), HS8.out.1.be.trans (HN4.out.be.mono (Nat.le_trans HS8.out.1.be.size (by omega)))⟩
    clear HN4 HS8 HSh HT1 HT2 HZ1 HZ2 HL1 HBd HLt Hbl Hpl el el2 r1 r2
    go_wp2
    exact ⟨⟨i + 1, a12, q12, by omega, rfl, by go_num, HZ⟩, by simp [intOf]; omega⟩
end
end Go.Proofs.Qxb6500890aDoor
