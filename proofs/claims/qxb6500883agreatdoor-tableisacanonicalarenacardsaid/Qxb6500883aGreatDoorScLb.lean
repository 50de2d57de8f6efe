/- appendRef, appendFull (written by tools/mk_sclb.py). -/
import Derived.Test.Qxb6500883aGreatDoorScLa
namespace Go.Proofs.Qxb6500883aGreatDoor
open Go.RowKit
set_option linter.unusedSimpArgs false
set_option linter.unusedVariables false
/-- What the printer reads, at the world w0. -/
structure TRd (w0 : World) (τ : Rl) (tB : Nat) (V : TV) (T : TS) (ga : Nat) (al : Nat → Int) : Prop where
  tb : TbM τ w0 tB V T
  va : V.al = .slice (some ⟨ga, 0, none⟩) T.types.length T.types.length
  ar : RwJ ga T.types.length al 62 τ w0
  ab : ∀ i, al i = -1 ∨ ∃ j : Nat, al i = (j : Int) ∧ j < T.decls.length
  st : TStr T
  lt : T.types.length ≤ 200000
  lo : T.opts.length ≤ 200000
  ld : T.decls.length ≤ 200000
  ln : ∀ x ∈ T.types, x.length < 18446744073709551616
def RfC (w0 : World) (tB : Nat) (T : TS) (al : Nat → Int) (id : Nat) : Prop := ∀ (w : World) (ax : Option Addr) (m q : Nat) (bs : List UInt8), OwR rtB w0.heap.size w (.slice ax m q) bs → Below w0.heap.size w0 w → bs.length + (rf T al id).length ≤ 70368744177664 → Calls Tryz.prog 52 #[.pointer (some ⟨tB, 0, none⟩), .slice ax m q, .int .i32 (id : Int)] w fun e w' => ∃ v, e = .returned v ∧ Hid (OwR rtB w0.heap.size w' v (bs ++ rf T al id) ∧ Below w0.heap.size w0 w')
def FuC (w0 : World) (tB : Nat) (T : TS) (al : Nat → Int) (id : Nat) (x : TR) : Prop := ∀ (w : World) (ax : Option Addr) (m q : Nat) (bs : List UInt8), OwR rtB w0.heap.size w (.slice ax m q) bs → Below w0.heap.size w0 w → bs.length + (fl T al x).length ≤ 70368744177664 → Calls Tryz.prog 51 #[.pointer (some ⟨tB, 0, none⟩), .slice ax m q, .int .i32 (id : Int)] w fun e w' => ∃ v, e = .returned v ∧ Hid (OwR rtB w0.heap.size w' v (bs ++ fl T al x) ∧ Below w0.heap.size w0 w')
theorem basicWordW (i : Nat) (h : i < 8) (w : World) : Calls Tryz.prog 77 #[.int .i32 (i : Int)] w fun e w' => e = .returned (.string (bwB i)) ∧ w' = w := by
  rcases (by omega : i = 0 ∨ i = 1 ∨ i = 2 ∨ i = 3 ∨ i = 4 ∨ i = 5 ∨ i = 6 ∨ i = 7) with rfl | rfl | rfl | rfl | rfl | rfl | rfl | rfl
  all_goals (
    go_enter Tryz.func77, Tryz.ntmps77
    go_wp2
    go_ret
    exact ⟨rfl, rfl⟩)
section
variable {τ τ' : Rl} {w w' w0 w1 w2 : World} {tB ga : Nat} {V V' : TV} {T T' : TS} {al : Nat → Int}
theorem TRd.ty (h : TRd w0 τ tB V T ga al) {i : Nat} {x : TR} (hx : T.types[i]? = some x) : ∃ gt q, ∀ wz, Below w0.heap.size w0 wz → wz.cell? ⟨tB, 0, none⟩ = some (.slice (some ⟨gt, 0, none⟩) T.types.length q) ∧ ∀ j, j < 12 → wz.cell? ⟨gt, i * 12 + j, none⟩ = (trC x)[j]? := by
  obtain ⟨gt, q, hv, hgl, _, hc⟩ := h.tb.ty hx
  exact ⟨gt, q, fun wz hz => ⟨by rw [← hv]; exact (h.tb.below hz).b.cell 0, fun j hj => by rw [keepCell _ (hz.block gt hgl)]; exact hc j hj⟩⟩
set_option maxRecDepth 100000 in
set_option maxHeartbeats 4000000 in
theorem refBasic {id : Nat} (hid8 : id < 8) : RfC w0 tB T al id := by
  intro w ax m q bs hr hb hl
  rw [rf_basic hid8] at hl ⊢
  have HA := hid (basicWordW id hid8 w)
  have d1 : decide ((id : Int) < 8) = true := decide_eq_true (by omega)
  have d2 : decide (id < 8) = true := decide_eq_true hid8
  obtain ⟨s, hs⟩ : ∃ s, bwB id = s := ⟨_, rfl⟩
  rw [hs] at HA hl ⊢
  have hsl : s.data.toList.length = s.size := ba_len _
  rw [hsl] at hl
  have HR := hid hr
  have HB := hid hb
  clear hr hb hs
  go_enter Tryz.func52, Tryz.ntmps52
  go_wp2_with fail
  refine HA.out.mono ?_
  rintro e w2 ⟨rfl, rfl⟩
  clear HA
  go_wp2_with (at_builtin; refine stopHere ?_)
  intro _
  refine wpList_app_s rfl _ _ HR.out rfl rfl s rfl (by omega) HB.out.size ?_
  intro v8 w8 hr8 hk8
  obtain ⟨a8, q8, h8⟩ := hr8.out.shape
  obtain ⟨n8, hn8⟩ : ∃ k, (bs ++ s.data.toList).length = k := ⟨_, rfl⟩
  rw [hn8] at h8
  clear hn8
  have HF := hid (And.intro hr8.out (HB.out.trans (hk8.out.below HR.out.hi HB.out.size)))
  subst h8
  clear hr8 hk8
  go_wp2
  go_ret
  exact ⟨_, rfl, HF⟩
set_option maxRecDepth 100000 in
set_option maxHeartbeats 4000000 in
theorem refOther (h : TRd w0 τ tB V T ga al) {id : Nat} {x : TR} (hid8 : ¬ id < 8) (hx : T.types[id]? = some x) (hfu : x.kind ≠ 7 → FuC w0 tB T al id x) : RfC w0 tB T al id := by
  intro w ax m q bs hr hb hl
  obtain ⟨gt, qt, hC⟩ := h.ty hx
  have hlt := (List.getElem?_eq_some_iff.1 hx).1
  have hb32 : T.types.length ≤ 200000 := h.lt
  obtain ⟨nt, hnt⟩ : ∃ n, T.types.length = n := ⟨_, rfl⟩
  rw [hnt] at hC hlt
  have i1 : (id : Int) < (nt : Int) := by omega
  have d1 : decide ((id : Int) < 8) = false := decide_eq_false (by omega)
  have d2 : decide (id < 8) = false := decide_eq_false hid8
  obtain ⟨c0, hc⟩ := hC w hb
  have k0 : w.cell? ⟨gt, id * 12, none⟩ = some (.int .u8 (x.kind : Int)) := hc 0 (by decide)
  have k7 : w.cell? ⟨gt, id * 12 + 7, none⟩ = some (.string x.name) := hc 7 (by decide)
  have HR := hid hr
  have HB := hid hb
  by_cases hk : x.kind = 7
  · rw [rf_con hid8 hx hk] at hl ⊢
    rw [hk] at k0
    obtain ⟨s, hs⟩ : ∃ s, x.name = s := ⟨_, rfl⟩
    rw [hs] at k7 hl ⊢
    have hsl : s.data.toList.length = s.size := ba_len _
    rw [hsl] at hl
    clear hr hb hs hfu hx h hC hc hk hnt
    go_enter Tryz.func52, Tryz.ntmps52
    go_wp2_with (at_builtin; refine stopHere ?_)
    intro _
    refine wpList_app_s rfl _ _ HR.out rfl rfl s rfl (by omega) HB.out.size ?_
    intro v8 w8 hr8 hk8
    obtain ⟨a8, q8, h8⟩ := hr8.out.shape
    obtain ⟨n8, hn8⟩ : ∃ k, (bs ++ s.data.toList).length = k := ⟨_, rfl⟩
    rw [hn8] at h8
    clear hn8
    have HF := hid (And.intro hr8.out (HB.out.trans (hk8.out.below HR.out.hi HB.out.size)))
    subst h8
    clear hr8 hk8
    go_wp2
    go_ret
    exact ⟨_, rfl, HF⟩
  have t1 : ((x.kind : Int) == 7) = false := by simp; omega
  have c6 : w.cell? ⟨tB, 6, none⟩ = some (.slice (some ⟨ga, 0, none⟩) nt nt) := by rw [← hnt, ← h.va]; exact (h.tb.below hb).b.cell 6
  have ca : w.cell? ⟨ga, id, none⟩ = some (.int .i32 (al id)) := by rw [keepCell _ (hb.block ga h.ar.1.lt)]; exact h.ar.get (by rw [hnt]; exact hlt)
  rcases h.ab id with ha | ⟨j, ha, hj⟩
  · have hfc := hfu hk
    rw [rf_full h.st hid8 hx hk (by omega)] at hl ⊢
    rw [ha] at ca
    have HA := hid (hfc w ax m q bs hr hb hl)
    clear hr hb hfu hfc hx h hC hc hk hnt
    go_enter Tryz.func52, Tryz.ntmps52
    go_wp2_with fail
    refine HA.out.mono ?_
    rintro e w8 ⟨v8, rfl, h8⟩
    obtain ⟨a8, q8, hv8⟩ := h8.out.1.shape
    obtain ⟨n8, hn8⟩ : ∃ k, (bs ++ fl T al x).length = k := ⟨_, rfl⟩
    rw [hn8] at hv8
    clear hn8
    subst hv8
    clear HA
    go_wp2
    go_ret
    exact ⟨_, rfl, h8⟩
  · have hjj : 0 ≤ al id := by omega
    rw [rf_alias hid8 hx hk hjj] at hl ⊢
    rw [ha] at ca hl ⊢
    obtain ⟨y, hy⟩ : ∃ y, T.decls[j]? = some y := ⟨_, List.getElem?_eq_getElem hj⟩
    have hdn : dnm T ((j : Int)).toNat = y.name.data.toList := by unfold dnm; rw [Int.toNat_natCast, hy]
    rw [hdn] at hl ⊢
    obtain ⟨gd, qd, hvd, hgd, hcd⟩ := h.tb.d.get (by decide) (fun _ => rfl) hy
    obtain ⟨nd, hnd⟩ : ∃ n, T.decls.length = n := ⟨_, rfl⟩
    rw [hnd] at hvd hj
    have c3 : w.cell? ⟨tB, 3, none⟩ = some (.slice (some ⟨gd, 0, none⟩) nd qd) := by rw [← hvd]; exact (h.tb.below hb).b.cell 3
    have cn : w.cell? ⟨gd, j * 4 + 1, none⟩ = some (.string y.name) := by rw [keepCell _ (hb.block gd hgd)]; exact hcd 1 (show 1 < 4 by decide)
    have i3 : (j : Int) < (nd : Int) := by omega
    have t3 : decide ((j : Int) ≥ 0) = true := decide_eq_true (by omega)
    obtain ⟨s, hs⟩ : ∃ s, y.name = s := ⟨_, rfl⟩
    rw [hs] at cn hl ⊢
    have hsl : s.data.toList.length = s.size := ba_len _
    rw [hsl] at hl
    clear hr hb hs hfu hx h hC hc hk hnt hnd hvd hcd hdn hy ha hjj hgd
    go_enter Tryz.func52, Tryz.ntmps52
    go_wp2_with (at_builtin; refine stopHere ?_)
    intro _
    refine wpList_app_s rfl _ _ HR.out rfl rfl s rfl (by omega) HB.out.size ?_
    intro v8 w8 hr8 hk8
    obtain ⟨a8, q8, h8⟩ := hr8.out.shape
    obtain ⟨n8, hn8⟩ : ∃ k, (bs ++ s.data.toList).length = k := ⟨_, rfl⟩
    rw [hn8] at h8
    clear hn8
    have HF := hid (And.intro hr8.out (HB.out.trans (hk8.out.below HR.out.hi HB.out.size)))
    subst h8
    clear hr8 hk8
    go_wp2
    go_ret
    exact ⟨_, rfl, HF⟩
end
end Go.Proofs.Qxb6500883aGreatDoor
