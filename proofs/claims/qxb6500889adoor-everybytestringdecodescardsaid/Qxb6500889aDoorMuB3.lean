/- The law's holder: a live handle to an object with a reference. -/
import Derived.Test.Qxb6500889aDoorMuB2
namespace Go.Proofs.Qxb6500889aDoor
open Go.RowKit
set_option linter.unusedSimpArgs false
set_option linter.unusedVariables false
def Good (H : HS) (X : XS) (m h : Nat) : Prop := h ∈ lvK X m ∧ ∃ a x, lookX X m h = some a ∧ a ∈ (X.tb m).ad ∧ H.objs a = some x ∧ 0 < x.refs.length
section
variable {w w' w0 : World} {wB m : Nat} {S : WSt}
theorem look_of {X : XS} {n h : Nat} (hn : XN X n) (hb : n ≤ 100000000000) (hm : m < 4) (hh : h ∈ lvK X m) : ∃ a, a ∈ (X.tb m).ad ∧ lookX X m h = some a ∧ tgtX X m h = (a, 0) ∧ h < 18446744073709551616 := by
  obtain ⟨a, h1, h2, h3⟩ := tgt_live hn hb hm hh
  refine ⟨a, h1, ?_, h2, h3⟩
  rcases tgt_of X m h with ⟨_, e⟩ | ⟨_, _, e⟩ | ⟨b, _, e1, e2⟩
  · rw [h2] at e; injection e with t1 t2; cases t2
  · rw [h2] at e; injection e with t1 t2; cases t2
  · rw [h2] at e2; injection e2 with t1 t2; rw [e1, t1]
set_option maxRecDepth 1000000 in
set_option maxHeartbeats 4000000 in
theorem holder_walk (hL : LWs w0 wB S w) (hk : S.k ≤ 100000000000) (hm : m < 4) :
    Calls Tryd.prog 10 #[.pointer (some ⟨wB, 0, none⟩), .int .i64 (m : Int)] w fun e w' => ∃ (best : Nat) (b : Bool), e = .returned (.tuple #[.int .u64 (best : Int), .bool b]) ∧ Below w.heap.size w w' ∧ (b = true → Good S.H S.X m best) := by
  have HL := hid hL
  have im : (m : Int) < 4 := by omega
  obtain ⟨lm, hlm⟩ : ∃ g, S.V.lm m = g := ⟨_, rfl⟩
  obtain ⟨hB, hhB⟩ : ∃ b, S.L.hB = b := ⟨_, rfl⟩
  obtain ⟨xB, hxB⟩ : ∃ b, S.T.xB = b := ⟨_, rfl⟩
  have cl : w.cell? ⟨wB, 2 + m, none⟩ = some (.map (some lm)) := by have := hL.wm.lcell hm; rw [hL.hv, hlm] at this; exact this
  obtain ⟨E, hpn, hev, hek⟩ : LvM w lm (lvK S.X m) := by rw [← hlm]; exact hL.wm.lv m hm
  have HPn := hid hpn
  have HEk : Hid (∀ e ∈ E, e.k ∈ lvK S.X m) := hid (fun e he => by rw [← hek]; exact List.mem_map_of_mem he)
  have HXB : Hid (XB S.X) := hid (hL.xn.xb hk)
  have HCw : Hid (∀ wz, Below w.heap.size w wz → wz.cell? ⟨wB, 0, none⟩ = some (.pointer (some ⟨hB, 0, none⟩)) ∧ wz.cell? ⟨wB, 1, none⟩ = some (.pointer (some ⟨xB, 0, none⟩))) := hid (fun wz hz => by
    have h1 := hL.below hz
    have cw := h1.wm.cells
    rw [h1.hv, hhB, hxB] at cw
    exact ⟨cw.1, cw.2.1⟩)
  have HAd : Hid (∀ (wz : World) (h : Nat), Below w.heap.size w wz → h ∈ lvK S.X m → ∃ (a : Nat) (x : Ob), lookX S.X m h = some a ∧ a ∈ (S.X.tb m).ad ∧ S.H.objs a = some x ∧ h < 18446744073709551616 ∧ x.refs.length + x.data.length ≤ 8192 ∧ (Calls Tryd.prog 11 #[.pointer (some ⟨xB, 0, none⟩), .int .i64 (m : Int), .int .u64 (h : Int)] wz fun e w'' => e = .returned (.tuple #[.int .u64 (a : Int), .int .u8 0]) ∧ w'' = wz) ∧ Calls Tryd.prog 24 #[.pointer (some ⟨hB, 0, none⟩), .int .u64 (a : Int)] wz fun e w' => e = .returned (.tuple #[.int .i64 (x.refs.length : Int), .int .i64 (x.data.length : Int)]) ∧ Below wz.heap.size wz w') := hid (fun wz h hz hh => by
    obtain ⟨a, h1, h2, h3, h4⟩ := look_of hL.xn hk hm hh
    have hL2 := hL.below hz
    have c1 := address_walk hL2.wm.mm hm HXB.out h h4
    rw [hxB, h3] at c1
    obtain ⟨⟨x, hx⟩, _⟩ := hL.hi.nm a (.hand m a hm h1 (fun e => hL.hi.nz m hm (by rw [← e]; exact h1)))
    have c2 := shape_walk hL2.wm.mm.hm hx
    rw [hhB] at c2
    exact ⟨a, x, h2, h1, hx, h4, hL.szs a x hx, c1, c2⟩)
  obtain ⟨r, hr⟩ : ∃ r, w.heap.size = r := ⟨_, rfl⟩
  have Hr := hid hr
  have Hlm : Hid (lm < w.heap.size) := hid hpn.lt
  clear hL hlm hhB hxB hpn hev hek
  go_enter Tryd.func10, Tryd.ntmps10
  go_wp2_with (at_range; refine wpList_range_pn rfl (.tmp 17) 43 rfl Tryd.underlying43 lm E rfl HPn.out ?_; intro w9 hit9 hbe9 hsz9)
  go_frame
  have HI9 : Hid (IT w9 r lm E (E.map (·.k)) ∧ PN w9 lm E ∧ Below w.heap.size w w9) := hid ⟨by rw [← hr]; exact hit9, HPn.out.below hbe9, hbe9⟩
  simp only [hr]
  clear hit9 hbe9 hsz9 HPn cl hr
  go_wp2_with fail
  go_loopw [6] (fun v wq => ∃ (best : Nat) (T : List Nat), v = .int .u64 (best : Int) ∧ Hid (best = 0 ∨ Good S.H S.X m best) ∧ Hid (IT wq r lm E T ∧ PN wq lm E ∧ Below w.heap.size w wq)) (fun _ wq => World.rangeLeft wq lm r)
  case atStart => exact ⟨0, _, rfl, hid (.inl rfl), HI9⟩
  case round =>
  clear HI9
  obtain ⟨best, T, rfl, HG, HI⟩ := hrel
  go_upto_region 3 with fail
  refine wp_region_lit ?_
  refine wpList_next_pn rfl (.tmp 18) rfl r lm E T rfl HI.out.2.1 HI.out.1 ?_ ?_
  · as_aux_lemma =>
    intro hT
    have HBe := hid HI.out.2.2
    clear HI hT
    go_frame
    by_cases hb0 : best = 0
    · have dn : ((best : Int) != 0) = false := by simp [hb0]
      clear hb0
      go_wp2
      go_ret2
      exact ⟨best, false, rfl, HBe.out, fun h => by cases h⟩
    · have dn : ((best : Int) != 0) = true := by simp [hb0]
      have HG2 := hid (HG.out.resolve_left hb0)
      clear hb0
      go_wp2
      go_ret2
      exact ⟨best, true, rfl, HBe.out, fun _ => HG2.out⟩
  · as_aux_lemma =>
    intro e wz he hkT hpz hiz huz hsz hent
    have hbz : Below w.heap.size w wz := HI.out.2.2.trans (huz.below (by rw [Hr.out]; omega) HI.out.2.2.size)
    obtain ⟨a, x, x1, x2, x3, x4, x5, x6, x7⟩ := HAd.out wz e.k hbz (HEk.out e he)
    have hleft : World.rangeLeft wz lm r < World.rangeLeft wr lm r := by
      rw [hiz.left, HI.out.1.left]
      exact left_less he hkT
    have hgood : 0 < x.refs.length → Good S.H S.X m e.k := fun hp => ⟨HEk.out e he, a, x, x1, x2, x3, hp⟩
    have HAc := hid x6
    have HSc := hid x7
    obtain ⟨rn, hrn⟩ : ∃ n, x.refs.length = n := ⟨_, rfl⟩
    rw [hrn] at HSc hgood
    have rn9 : (rn : Int) ≤ 8192 := by omega
    generalize x.data.length = dn at HSc x5
    obtain ⟨h, hh⟩ : ∃ h, e.k = h := ⟨_, rfl⟩
    obtain ⟨ev, hev⟩ : ∃ v, e.v = v := ⟨_, rfl⟩
    rw [hh] at hent HAc hgood x4 hiz ⊢
    rw [hev] at hent ⊢
    have cx := (HCw.out wz hbz).2
    have HNx : Hid (∀ wq, Below wz.heap.size wz wq → (IT wq r lm E (T.filter fun k => decide (k ≠ h)) ∧ PN wq lm E ∧ Below w.heap.size w wq) ∧ World.rangeLeft wq lm r < World.rangeLeft wr lm r) := hid (fun wq hq => by
      have h1 := hiz.of (hq.block r hiz.lt) (hq.block lm hpz.lt)
      exact ⟨⟨h1, hpz.below hq, hbz.trans (hq.mono hbz.size)⟩, by rw [h1.left, ← hiz.left]; exact hleft⟩)
    have HGd := hid hgood
    have HBz := hid hbz
    have hb64 : (h : Int) < 18446744073709551616 := by omega
    clear he hkT hpz hiz huz hsz hbz x1 x2 x3 x4 x5 x6 x7 hleft hgood hrn hh hev HI
    go_frame
    go_wp2_with fail
    refine HAc.out.mono ?_
    rintro y wy ⟨rfl, rfl⟩
    have cw := (HCw.out wy HBz.out).1
    clear HAc cx hent
    go_wp2_with fail
    refine HSc.out.mono ?_
    rintro y w2 ⟨rfl, hb2⟩
    obtain ⟨hN1, hN2⟩ := HNx.out w2 hb2
    have HN1 := hid hN1
    have HN2 := hid hN2
    clear hN1 hN2 hb2 HSc cw HNx
    by_cases hr0 : 0 < rn
    rotate_left
    · as_aux_lemma =>
      have d1 : decide ((0 : Int) < (rn : Int)) = false := decide_eq_false (by omega)
      have d2 : decide (0 < rn) = false := decide_eq_false (by omega)
      clear hr0
      go_wp2
      exact ⟨⟨best, _, rfl, HG, HN1⟩, HN2.out⟩
    have d1 : decide ((0 : Int) < (rn : Int)) = true := decide_eq_true (by omega)
    have d2 : decide (0 < rn) = true := decide_eq_true (by omega)
    have HGh : Hid (h = 0 ∨ Good S.H S.X m h) := hid (.inr (HGd.out hr0))
    by_cases hb0 : best = 0
    · as_aux_lemma =>
      have d3 : ((best : Int) == 0) = true := by simp [hb0]
      clear hb0 hr0
      go_wp2
      exact ⟨⟨h, _, rfl, HGh, HN1⟩, HN2.out⟩
    have d3 : ((best : Int) == 0) = false := by simp [hb0]
    by_cases hlt : h < best
    · as_aux_lemma =>
      have d4 : decide ((h : Int) < (best : Int)) = true := decide_eq_true (by omega)
      have d5 : decide (h < best) = true := decide_eq_true hlt
      clear hb0 hr0 hlt
      go_wp2
      exact ⟨⟨h, _, rfl, HGh, HN1⟩, HN2.out⟩
    as_aux_lemma =>
    have d4 : decide ((h : Int) < (best : Int)) = false := decide_eq_false (by omega)
    have d5 : decide (h < best) = false := decide_eq_false hlt
    clear hb0 hr0 hlt
    go_wp2
    exact ⟨⟨best, _, rfl, HG, HN1⟩, HN2.out⟩
end
end Go.Proofs.Qxb6500889aDoor
