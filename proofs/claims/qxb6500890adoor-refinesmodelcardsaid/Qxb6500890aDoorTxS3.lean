/- api.Same. -/
import Derived.Test.Qxb6500890aDoorTxS2
namespace Go.Proofs.Qxb6500890aDoor
open Go.RowKit
set_option linter.unusedSimpArgs false
set_option linter.unusedVariables false

def ouC (c : Int) (f : Bool) (i j : Int) (s : ByteArray) (lv rv : Value) : List Value := [.int .i64 c, .bool f, .int .i64 i, .int .i64 j, .string s, lv, rv]
theorem aggOu : AggOf Tryd.prog 39 7 := AggOf.struct Tryd.underlying39 (by kernel_rfl)
theorem info_ou : (Tryd.prog.info? 39).map (·.size) = some 7 := by kernel_rfl
section
variable {w w' : World}
theorem rowK_at {w : World} {a : Option Addr} {n c : Nat} {X : List Rec} (h : RowOf w 2 recCells a n c X) {i : Nat} {r : Rec} (hy : X[i]? = some r) : ∃ g off, a = some ⟨g, off, none⟩ ∧ w.cell? ⟨g, off + i * 2, none⟩ = some (.string r.1) ∧ w.cell? ⟨g, off + i * 2 + 1, none⟩ = some (.int .i64 r.2) := by
  have hi := (List.getElem?_eq_some_iff.1 hy).1
  obtain ⟨x, hx, b, off, ha, _, hc⟩ := h.cell (k := i) (by rw [← h.len]; exact hi)
  rw [hy] at hx
  cases hx
  exact ⟨b, off, ha, hc 0 (by omega), hc 1 (by omega)⟩
/-- Same's two blocks. -/
structure Sm (w : World) (p : Nat) (A B : List Value) (wr : World) : Prop where
  be : Below w.heap.size w wr
  b1 : Blk wr p 39 A
  b2 : Blk wr (p + 1) 39 B
theorem Sm.below {w wr w' : World} {p : Nat} {A B : List Value} (h : Sm w p A B wr) (hb : Below wr.heap.size wr w') : Sm w p A B w' := ⟨h.be.trans (hb.mono h.be.size), h.b1.below hb, h.b2.below hb⟩
theorem Sm.new (w : World) (A B : List Value) : Sm w w.heap.size A B ((w.alloc (.cells A.toArray 39)).alloc (.cells B.toArray 39)) := by
  have n1 := nbel w (.cells A.toArray 39)
  have k1 := Blk.new w A 39
  have s1 : (w.alloc (.cells A.toArray 39)).heap.size = w.heap.size + 1 := by simp
  generalize w.alloc (.cells A.toArray 39) = w1 at n1 k1 s1
  have n2 := nbel w1 (.cells B.toArray 39)
  have k2 := Blk.new w1 B 39
  rw [s1] at k2
  exact ⟨n1.trans (n2.mono n1.size), k1.below n2, k2⟩
set_option maxRecDepth 100000
set_option maxHeartbeats 2000000
theorem same_walk (c : Int) (f : Bool) (i j : Int) (s : ByteArray) (la lb ra rb : Option Addr) (ln lc ld rn rc rd : Nat) (Y : List ByteArray) (X : List Rec) (hl : ln ≤ 65536) (hr : rn ≤ 65536) (w : World)
    (h1 : RowOf w 1 strCell la ln lc Y) (h2 : RowOf w 1 strCell lb ln ld Y) (h3 : RowOf w 2 recCells ra rn rc X) (h4 : RowOf w 2 recCells rb rn rd X) :
    Calls Tryd.prog 8 #[.agg (ouC c f i j s (.slice la ln lc) (.slice ra rn rc)).toArray, .agg (ouC c f i j s (.slice lb ln ld) (.slice rb rn rd)).toArray] w fun e w' => e = .returned (.bool true) ∧ Below w.heap.size w w' := by
  have HS0 := hid (Sm.new w (ouC c f i j s (.slice la ln lc) (.slice ra rn rc)) (ouC c f i j s (.slice lb ln ld) (.slice rb rn rd)))
  obtain ⟨p, hp⟩ : ∃ p, w.heap.size = p := ⟨_, rfl⟩
  rw [hp] at HS0
  have H1 := hid h1
  have H2 := hid h2
  have H3 := hid h3
  have H4 := hid h4
  have HLn := hid h1.len
  have HRn := hid h3.len
  have hli : (ln : Int) ≤ 65536 := by omega
  have hri : (rn : Int) ≤ 65536 := by omega
  have HC1 : Hid (∀ wx, Sm w p (ouC c f i j s (.slice la ln lc) (.slice ra rn rc)) (ouC c f i j s (.slice lb ln ld) (.slice rb rn rd)) wx → (wx.cell? ⟨p, 0, none⟩ = some (.int .i64 c) ∧ wx.cell? ⟨p, 1, none⟩ = some (.bool f) ∧ wx.cell? ⟨p, 2, none⟩ = some (.int .i64 i) ∧ wx.cell? ⟨p, 3, none⟩ = some (.int .i64 j) ∧ wx.cell? ⟨p, 4, none⟩ = some (.string s) ∧ wx.cell? ⟨p, 5, none⟩ = some (.slice la ln lc) ∧ wx.cell? ⟨p, 6, none⟩ = some (.slice ra rn rc)) ∧ (wx.cell? ⟨p + 1, 0, none⟩ = some (.int .i64 c) ∧ wx.cell? ⟨p + 1, 1, none⟩ = some (.bool f) ∧ wx.cell? ⟨p + 1, 2, none⟩ = some (.int .i64 i) ∧ wx.cell? ⟨p + 1, 3, none⟩ = some (.int .i64 j) ∧ wx.cell? ⟨p + 1, 4, none⟩ = some (.string s) ∧ wx.cell? ⟨p + 1, 5, none⟩ = some (.slice lb ln ld) ∧ wx.cell? ⟨p + 1, 6, none⟩ = some (.slice rb rn rd))) := hid (fun wx h => ⟨⟨h.b1.cell 0, h.b1.cell 1, h.b1.cell 2, h.b1.cell 3, h.b1.cell 4, h.b1.cell 5, h.b1.cell 6⟩, h.b2.cell 0, h.b2.cell 1, h.b2.cell 2, h.b2.cell 3, h.b2.cell 4, h.b2.cell 5, h.b2.cell 6⟩)
  clear h1 h2 h3 h4
  have e0 : (ouC c f i j s (.slice la ln lc) (.slice ra rn rc)).toArray = #[.int .i64 c, .bool f, .int .i64 i, .int .i64 j, .string s, .slice la ln lc, .slice ra rn rc] := rfl
  have e1 : (ouC c f i j s (.slice lb ln ld) (.slice rb rn rd)).toArray = #[.int .i64 c, .bool f, .int .i64 i, .int .i64 j, .string s, .slice lb ln ld, .slice rb rn rd] := rfl
  rw [e0, e1] at HS0 ⊢
  clear e0 e1
  go_enter Tryd.func8, Tryd.ntmps8
  go_upto_region 1 with fail
  generalize hwr : ((w.alloc (Obj.cells #[.int .i64 c, .bool f, .int .i64 i, .int .i64 j, .string s, .slice la ln lc, .slice ra rn rc] 39)).alloc (Obj.cells #[.int .i64 c, .bool f, .int .i64 i, .int .i64 j, .string s, .slice lb ln ld, .slice rb rn rd] 39)) = w0 at HS0 ⊢
  clear hwr
  obtain ⟨⟨x0, x1, x2, x3, x4, x5, x6⟩, y0, y1, y2, y3, y4, y5, y6⟩ := HC1.out _ HS0.out
  have q1 : (!(c == c)) = false := by simp
  have q2 : (!(f == f)) = false := by simp
  have q3 : (!(i == i)) = false := by simp
  have q4 : (!(j == j)) = false := by simp
  have q5 : (!(s.toList == s.toList)) = false := by simp
  have q6 : (!((ln : Int) == (ln : Int))) = false := by simp
  have q7 : (!((rn : Int) == (rn : Int))) = false := by simp
  go_wp2_with fail
  go_loopw [59] (fun v wr => ∃ k : Nat, k ≤ ln ∧ v = .int .i64 (k : Int) ∧ Hid (Sm w p (ouC c f i j s (.slice la ln lc) (.slice ra rn rc)) (ouC c f i j s (.slice lb ln ld) (.slice rb rn rd)) wr)) (fun v _ => ln - (intOf v).toNat)
  case atStart => exact ⟨0, by omega, rfl, HS0⟩
  case round =>
  clear HS0 x0 x1 x2 x3 x4 x5 x6 y0 y1 y2 y3 y4 y5 y6
  obtain ⟨k, hk, rfl, HS⟩ := hrel
  by_cases hkn : k < ln
  · have dk : decide ((k : Int) < (ln : Int)) = true := decide_eq_true (by omega)
    have ik : (k : Int) < (ln : Int) := by omega
    obtain ⟨y, hy⟩ := get_some (Y := Y) (i := k) (by rw [HLn.out]; exact hkn)
    obtain ⟨g1, o1, rfl, _⟩ := rowS_at H1.out hy
    obtain ⟨g2, o2, rfl, _⟩ := rowS_at H2.out hy
    go_upto_region 8 with fail
    obtain ⟨X', W, HTT, H0, hne, HC⟩ := class_below wr
    have HXX : Hid (∀ z, Sm w p (ouC c f i j s (.slice (some ⟨g1, o1, none⟩) ln lc) (.slice ra rn rc)) (ouC c f i j s (.slice (some ⟨g2, o2, none⟩) ln ld) (.slice rb rn rd)) (W z)) := hid (fun z => HS.out.below (HTT.out z))
    have a1 := fun z => (HC1.out _ (HXX.out z)).1.2.2.2.2.2.1
    have a2 := fun z => (HC1.out _ (HXX.out z)).2.2.2.2.2.2.1
    have a3 : ∀ z, (W z).cell? ⟨g1, o1 + k, none⟩ = some (.string y) := fun z => by
      obtain ⟨g', o', e, h⟩ := rowS_at (H1.out.below (HXX.out z).be) hy
      cases e
      exact h
    have a4 : ∀ z, (W z).cell? ⟨g2, o2 + k, none⟩ = some (.string y) := fun z => by
      obtain ⟨g', o', e, h⟩ := rowS_at (H2.out.below (HXX.out z).be) hy
      cases e
      exact h
    have q8 : (!(y.toList == y.toList)) = false := by simp
    refine wp_region_class W (by kernel_rfl) (by kernel_rfl) H0.out ?_
    repeat (go_big_quiet_step (fail))
    refine wpQuiet_nil ?_
    intro z
    have HBz := hid (HXX.out z)
    generalize W z = wz at HBz ⊢
    clear a1 a2 a3 a4 H0 HTT HC hne HXX hy HS
    go_wp2
    exact ⟨⟨k + 1, by omega, by go_num, HBz⟩, by simp [intOf]; omega⟩
  have dk : decide ((k : Int) < (ln : Int)) = false := decide_eq_false (by omega)
  obtain ⟨⟨x0, x1, x2, x3, x4, x5, x6⟩, y0, y1, y2, y3, y4, y5, y6⟩ := HC1.out _ HS.out
  go_wp2_with fail
  go_loopw [77] (fun v wr => ∃ k : Nat, k ≤ rn ∧ v = .int .i64 (k : Int) ∧ Hid (Sm w p (ouC c f i j s (.slice la ln lc) (.slice ra rn rc)) (ouC c f i j s (.slice lb ln ld) (.slice rb rn rd)) wr)) (fun v _ => rn - (intOf v).toNat)
  case atStart => exact ⟨0, by omega, rfl, HS⟩
  case round =>
  clear HS x0 x1 x2 x3 x4 x5 x6 y0 y1 y2 y3 y4 y5 y6
  obtain ⟨m, hm, rfl, HS⟩ := hrel
  by_cases hmn : m < rn
  · have dm : decide ((m : Int) < (rn : Int)) = true := decide_eq_true (by omega)
    have im : (m : Int) < (rn : Int) := by omega
    obtain ⟨⟨ys, yv⟩, hy⟩ := get_some (Y := X) (i := m) (by rw [HRn.out]; exact hmn)
    obtain ⟨g1, o1, rfl, _⟩ := rowK_at H3.out hy
    obtain ⟨g2, o2, rfl, _⟩ := rowK_at H4.out hy
    go_upto_region 14 with fail
    obtain ⟨X', W, HTT, H0, hne, HC⟩ := class_below wr
    have HXX : Hid (∀ z, Sm w p (ouC c f i j s (.slice la ln lc) (.slice (some ⟨g1, o1, none⟩) rn rc)) (ouC c f i j s (.slice lb ln ld) (.slice (some ⟨g2, o2, none⟩) rn rd)) (W z)) := hid (fun z => HS.out.below (HTT.out z))
    have a1 := fun z => (HC1.out _ (HXX.out z)).1.2.2.2.2.2.2
    have a2 := fun z => (HC1.out _ (HXX.out z)).2.2.2.2.2.2.2
    have a3 : ∀ z, (W z).cell? ⟨g1, o1 + m * 2, none⟩ = some (.string ys) ∧ (W z).cell? ⟨g1, o1 + m * 2 + 1, none⟩ = some (.int .i64 yv) := fun z => by
      obtain ⟨g', o', e, h⟩ := rowK_at (H3.out.below (HXX.out z).be) hy
      cases e
      exact h
    have a4 : ∀ z, (W z).cell? ⟨g2, o2 + m * 2, none⟩ = some (.string ys) ∧ (W z).cell? ⟨g2, o2 + m * 2 + 1, none⟩ = some (.int .i64 yv) := fun z => by
      obtain ⟨g', o', e, h⟩ := rowK_at (H4.out.below (HXX.out z).be) hy
      cases e
      exact h
    have b1 := fun z => (a3 z).1
    have b2 := fun z => (a3 z).2
    have b3 := fun z => (a4 z).1
    have b4 := fun z => (a4 z).2
    clear a3 a4
    have q8 : (!(ys.toList == ys.toList)) = false := by simp
    have q9 : (!(yv == yv)) = false := by simp
    refine wp_region_class W (by kernel_rfl) (by kernel_rfl) H0.out ?_
    repeat (go_big_quiet_step (fail))
    refine wpQuiet_nil ?_
    intro z
    have HBz := hid (HXX.out z)
    generalize W z = wz at HBz ⊢
    clear a1 a2 b1 b2 b3 b4 H0 HTT HC hne HXX hy HS
    go_wp2
    exact ⟨⟨m + 1, by omega, by go_num, HBz⟩, by simp [intOf]; omega⟩
  have dm : decide ((m : Int) < (rn : Int)) = false := decide_eq_false (by omega)
  have HB := hid HS.out.be
  go_wp2
  go_ret
  exact ⟨rfl, HB.out⟩
end
end Go.Proofs.Qxb6500890aDoor
