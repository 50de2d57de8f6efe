/- DivModIdentity. -/
import Derived.Test.Qxb6500890aTextWideAddW
import Derived.Test.Qxb6500890aTextSmall
import Derived.Test.Qxb6500890aTextStrs
import Derived.Test.Qxb6500890aLast2
import Derived.Test.Qxb6500890aEqA
namespace Go.Proofs.Qxb6500890a
open Go.RowKit
set_option linter.unusedSimpArgs false
set_option linter.unusedVariables false

theorem mod_laws (a b : Int) (hb : b ≠ 0) : a.tdiv b * b + a.tmod b = a ∧ ¬ (0 < a.tmod b ∧ a < 0) ∧ ¬ (a.tmod b < 0 ∧ 0 < a) ∧ (a.tmod b).natAbs < b.natAbs := by
  have h1 := Int.mul_tdiv_add_tmod a b
  have h2 : (a.tmod b).natAbs = a.natAbs % b.natAbs := Int.natAbs_tmod a b
  have h3 : a.natAbs % b.natAbs < b.natAbs := Nat.mod_lt _ (by omega)
  refine ⟨by rw [Int.mul_comm]; exact h1, ?_, ?_, by omega⟩
  · rintro ⟨x, y⟩
    have : 0 ≤ (-a).tmod b := Int.tmod_nonneg b (by omega)
    rw [Int.neg_tmod] at this; omega
  · rintro ⟨x, y⟩
    have : 0 ≤ a.tmod b := Int.tmod_nonneg b (by omega)
    omega

/-- The quotient exists: quotient and remainder. -/
theorem div_cases (a b : Int) (ha : I64 a) (hb : I64 b) : (divOut a b).2 ≠ 0 ∨ ∃ q r : Int, divOut a b = (q, 0) ∧ modOut a b = (r, 0) ∧ I64 q ∧ I64 r ∧ q * b + r = a ∧ ¬ (0 < r ∧ a < 0) ∧ ¬ (r < 0 ∧ 0 < a) ∧ r.natAbs < b.natAbs := by
  by_cases hb0 : b = 0
  · left; simp [divOut, hb0]
  by_cases hm : a = -9223372036854775808 ∧ b = -1
  · left; simp [divOut, hm]
  right
  obtain ⟨l1, l2, l3, l4⟩ := mod_laws a b hb0
  refine ⟨a.tdiv b, a.tmod b, by simp [divOut, hb0, hm], ?_, tdiv_I64 ha hb0 hm, ?_, l1, l2, l3, l4⟩
  · by_cases h1 : b = -1
    · subst h1; simp [modOut]
    · simp [modOut, hb0, h1]
  · obtain ⟨b0, b1⟩ := hb
    unfold I64
    omega

def negAbsI (v : Int) : Int := if 0 < v then -v else v
theorem negAbs_walk (v : Int) (hv : I64 v) (w : World) :
    Calls Try.prog 24 #[.int .i64 v] w fun e w' => e = .returned (.int .i64 (negAbsI v)) ∧ w' = w := by
  obtain ⟨h0, h1⟩ := hv
  unfold negAbsI
  by_cases h : 0 < v
  · rw [if_pos h]
    go_enter Try.func24, Try.ntmps24
    go_wp2
    go_ret
    exact ⟨rfl, rfl⟩
  · rw [if_neg h]
    go_enter Try.func24, Try.ntmps24
    go_wp2
    go_ret
    exact ⟨rfl, rfl⟩

theorem mag_eq (x0 x1 x2 x3 : Int) (w : World) :
    (Op.equalIn 9999 40 (.agg #[.int .u32 x0, .int .u32 x1, .int .u32 x2, .int .u32 x3]) (.agg #[.int .u32 x0, .int .u32 x1, .int .u32 x2, .int .u32 x3])).run Try.prog w = .ok true w := by
  have e := run_equalIn_ints (P := Try.prog) w 9997 40 39 .u32 [x0, x1, x2, x3] [x0, x1, x2, x3] rfl Try.underlying40 Try.underlying39 (fun w => by simp [go_sem])
  rw [decide_eq_true rfl] at e
  exact e

structure Rd (w0 : World) (p : Nat) (oa ob : Int) (wr : World) : Prop where
  bel : Below w0.heap.size w0 wr
  ge : w0.heap.size ≤ p
  lt : p < wr.heap.size
  ca : wr.cell? ⟨p, 1, none⟩ = some (.int .i64 oa)
  cb : wr.cell? ⟨p, 2, none⟩ = some (.int .i64 ob)
theorem Rd.below {w0 wr w' : World} {p : Nat} {oa ob : Int} (f : Rd w0 p oa ob wr) (hb : Below wr.heap.size wr w') : Rd w0 p oa ob w' :=
  ⟨f.bel.trans (hb.mono f.bel.size), f.ge, by have := hb.size; have := f.lt; omega, by rw [hb.cell f.lt]; exact f.ca, by rw [hb.cell f.lt]; exact f.cb⟩
theorem Upd.cell {g : Nat} {w w' : World} (h : Upd g w w') {q : Addr} (hq : q.block < w.heap.size) (hn : q.block ≠ g) : w'.cell? q = w.cell? q := by
  simp only [World.cell?, h.block q.block hq hn]
theorem Rd.upd {w0 wr w' : World} {p g : Nat} {oa ob : Int} (f : Rd w0 p oa ob wr) (hu : Upd g wr w') (hg : p + 1 ≤ g) : Rd w0 p oa ob w' :=
  ⟨f.bel.trans (hu.below (by have := f.ge; omega) f.bel.size), f.ge, by have := hu.size; have := f.lt; omega, by rw [hu.cell f.lt (by simp; omega)]; exact f.ca, by rw [hu.cell f.lt (by simp; omega)]; exact f.cb⟩
/-- .. and the wide number in block g. -/
structure Rg (w0 : World) (p g : Nat) (oa ob : Int) (wr : World) : Prop where
  rd : Rd w0 p oa ob wr
  bl : Blk wr g 42 (wideL oa)
theorem Rg.below {w0 wr w' : World} {p g : Nat} {oa ob : Int} (f : Rg w0 p g oa ob wr) (hb : Below wr.heap.size wr w') : Rg w0 p g oa ob w' := ⟨f.rd.below hb, f.bl.below hb⟩

set_option maxRecDepth 100000 in
set_option maxHeartbeats 1000000 in
theorem divLaw_walk (a : Option Addr) (n c : Nat) (l : List TOp) (w : World) (hs : Script w a n c l) :
    Calls Try.prog 5 #[.slice a n c] w fun e w' => e = .returned (.bool true) ∧ Below w.heap.size w w' := by
  have HS := hid hs
  clear hs
  go_enter Try.func5, Try.ntmps5
  go_wp2_with fail
  refine (small_walk a n c l _ HS.out).mono ?_
  rintro e w' ⟨r, rfl, rfl, hr⟩
  cases r with
  | false =>
    go_wp2
    go_ret
    exact ⟨rfl, Below.refl _ _⟩
  | true =>
    have hsm := hr rfl
    have hn : n ≤ 65536 := by omega
    clear hr hsm
    go_wp2
    go_loopw [15] (fun i wr => ∃ k : Nat, k ≤ n ∧ i = .int .i64 k ∧ Hid (Below w'.heap.size w' wr)) (fun i _ => n - (intOf i).toNat)
    case atStart => exact ⟨0, Nat.zero_le _, rfl, hid (Below.refl _ _)⟩
    case round =>
      obtain ⟨k, hk, rfl, HB⟩ := hrel
      by_cases hlt : k < n
      · obtain ⟨o, ho, hok, b, off, rfl, hb, c0, c1, c2, c3, c4, c5, c6, c7⟩ := (HS.out.below HB.out).at hlt
        have hfa : I64 o.a := hok.fa
        have hfb : I64 o.b := hok.fb
        clear ho hok
        obtain ⟨kind, oa, ob, oc, s, t, la, ln, lc, list, ra, rn, rc, recs⟩ := o
        dsimp only at hfa hfb
        obtain ⟨wa, hwa⟩ : ∃ wa, wr.alloc (Obj.cells #[Value.int IntKind.i64 kind, Value.int IntKind.i64 oa, Value.int IntKind.i64 ob, Value.int IntKind.i64 oc, Value.string s, Value.string t, Value.slice la ln lc, Value.slice ra rn rc] 37) = wa := ⟨_, rfl⟩
        obtain ⟨p, hp⟩ : ∃ p, wr.heap.size = p := ⟨_, rfl⟩
        have HR : Hid (Rd w' p oa ob wa) := by
          subst hwa hp
          have hb := Blk.new wr [Value.int IntKind.i64 kind, Value.int IntKind.i64 oa, Value.int IntKind.i64 ob, Value.int IntKind.i64 oc, Value.string s, Value.string t, Value.slice la ln lc, Value.slice ra rn rc] 37
          exact hid ⟨HB.out.trans ((Below.alloc (Below.refl _ _) (Nat.le_refl _) _).mono HB.out.size), HB.out.size, hb.lt, hb.cell 1, hb.cell 2⟩
        have HD := hid (fun w => div_walk oa ob hfa w)
        have HM := hid (fun w => mod_walk oa ob w)
        have ka := HR.out.ca
        have kb := HR.out.cb
        rcases div_cases oa ob hfa hfb with hq | ⟨q, r, hq, hr, fq, fr, l1, l2, l3, l4⟩
        · have hq' : ((divOut oa ob).2 == 0) = false := by simpa using hq
          generalize divOut oa ob = dv at *
          generalize modOut oa ob = mv at *
          clear hq
          go_upto_region 6 with fail
          clear hwa c0 c1 c2 c3 c4 c5 c6 c7 hp
          go_wp2_with (first
            | (go_at_call 19; refine (HD.out _).mono ?_; rintro e w1 ⟨rfl, rfl⟩)
            | (go_at_call 20; refine (HM.out _).mono ?_; rintro e w1 ⟨rfl, rfl⟩))
          exact ⟨⟨k + 1, by omega, by go_num, hid HR.out.bel⟩, by simp [intOf]; omega⟩
        · rw [hq] at HD
          rw [hr] at HM
          go_upto_region 6 with fail
          clear hwa c0 c1 c2 c3 c4 c5 c6 c7 hp
          go_wp2_with (first
            | (go_at_call 19; refine (HD.out _).mono ?_; rintro e w1 ⟨rfl, rfl⟩)
            | (go_at_call 20; refine (HM.out _).mono ?_; rintro e w1 ⟨rfl, rfl⟩))
          have hq1 : q.natAbs < 18446744073709551616 := by obtain ⟨x, y⟩ := fq; omega
          have hb1 : ob.natAbs < 18446744073709551616 := by obtain ⟨x, y⟩ := hfb; omega
          have hqb : (q * ob).natAbs < 170141183460469231731687303715884105728 := by
            have e : q * ob = oa - r := by omega
            rw [e]
            obtain ⟨x, y⟩ := hfa
            obtain ⟨x', y'⟩ := fr
            omega
          have hrb : r.natAbs < 170141183460469231731687303715884105728 := by obtain ⟨x', y'⟩ := fr; omega
          have HM1 := hid (fun w => mulWide_walk q ob hq1 hb1 w)
          have HA1 : Hid (∀ w, Calls Try.prog 21 #[wideV (q * ob), wideV r] w fun e w' => e = .returned (wideX oa) ∧ Below w.heap.size w w') := hid (fun w => by
            rw [wideX_eq]
            have := addWide_walk (q * ob) r hqb hrb w
            rw [l1] at this
            exact this)
          have HFq := hid (fun w => fromInt64_walk q fq w)
          have HFb := hid (fun w => fromInt64_walk ob hfb w)
          have HFr := hid (fun w => fromInt64_walk r fr w)
          have HFa : Hid (∀ w, Calls Try.prog 23 #[.int .i64 oa] w fun e w' => e = .returned (wideX oa) ∧ Below w.heap.size w w') := hid (fun w => fromInt64_walk oa hfa w)
          clear hq1 hb1 hqb hrb hq hr
          refine wp_region_alloc (C := Rd w' p oa ob) (n := 9) (B := p + 1) (t := 42) (zs := zeroL) rfl rfl (by kernel_rfl) (by kernel_rfl) (by kernel_rfl) (by kernel_rfl) ?hr (fun _ _ h hb => h.below hb) (fun _ h => h.lt) HR.out ?hx
          case hr =>
            intro a w
            simp [go_sem, zeroL]
          apply Exists.intro
          refine ⟨?_, ?_⟩
          · intro X W hne hX hI
            have kb' := fun x => (hX x).cb
            have HI := hid hI
            clear hI hX
            dsimp only [List.take]
            repeat (go_big_quiet_step (first
              | (go_at_call 23; first | with_reducible exact Calls.class_of HI.out (HFq.out _) | with_reducible exact Calls.class_of HI.out (HFb.out _) | with_reducible exact Calls.class_of HI.out (HFr.out _))
              | (go_at_call 22; exact Calls.class_of HI.out (HM1.out _))
              | (go_at_call 21; exact Calls.class_of HI.out (HA1.out _))))
            exact wpQuiet_nil rfl
          · intro g wx hg HX hbl
            dsimp only [List.drop]
            have e0 : wx.cell? ⟨g, 0, none⟩ = some (.bool false) := hbl.cell 0
            have e1 : wx.cell? ⟨g, 1, none⟩ = some (.int .u32 0) := hbl.cell 1
            have e2 : wx.cell? ⟨g, 2, none⟩ = some (.int .u32 0) := hbl.cell 2
            have e3 : wx.cell? ⟨g, 3, none⟩ = some (.int .u32 0) := hbl.cell 3
            have e4 : wx.cell? ⟨g, 4, none⟩ = some (.int .u32 0) := hbl.cell 4
            have f0 := hbl.frozen 0
            have f1 := hbl.frozen 1
            have f2 := hbl.frozen 2
            have f3 := hbl.frozen 3
            have f4 := hbl.frozen 4
            obtain ⟨wy, hwy⟩ : ∃ wy, set5 wx g (.bool (decide (oa < 0))) (dgV oa.natAbs 0) (dgV oa.natAbs 1) (dgV oa.natAbs 2) (dgV oa.natAbs 3) = wy := ⟨_, rfl⟩
            have HG : Hid (Rg w' p g oa ob wy) := by
              subst hwy
              exact hid ⟨HX.upd (set5_upd ..) hg, set5_blk hbl ..⟩
            have HX := hid HX
            have HL := hid (And.intro hbl hg)
            clear hbl ka kb
            unfold wideX
            go_upto_region 12 with fail
            have hwy' : (((((wx.setCell ⟨g, 0, none⟩ (Value.bool (decide (oa < 0)))).setCell ⟨g, 1, none⟩ (Value.int IntKind.u32 (dg oa.natAbs 0 : Nat))).setCell ⟨g, 2, none⟩ (Value.int IntKind.u32 (dg oa.natAbs 1 : Nat))).setCell ⟨g, 3, none⟩ (Value.int IntKind.u32 (dg oa.natAbs 2 : Nat))).setCell ⟨g, 4, none⟩ (Value.int IntKind.u32 (dg oa.natAbs 3 : Nat))) = wy := hwy
            rw [hwy']
            clear hwy hwy' e0 e1 e2 e3 e4 f0 f1 f2 f3 f4
            obtain ⟨X, W, hT, hI⟩ := class_mk (Rg w' p g oa ob)
            have HI : Hid (∀ q w', Below (W q).heap.size (W q) w' → ∃ y, w' = W y) := hid (fun q w' hb => hI _ ((hT q).below hb))
            have H0 : Hid (∃ q, wy.drew = W q) := hid (hI _ (HG.out.below (Drew.below ⟨1, rfl⟩ _)))
            have hne : Nonempty X := ⟨H0.out.choose⟩
            have ka := fun q => (hT q).rd.ca
            have e0 : ∀ q, (W q).cell? ⟨g, 0, none⟩ = some (.bool (decide (oa < 0))) := fun q => (hT q).bl.cell 0
            have e1 : ∀ q, (W q).cell? ⟨g, 1, none⟩ = some (.int .u32 (dg oa.natAbs 0 : Nat)) := fun q => (hT q).bl.cell 1
            have e2 : ∀ q, (W q).cell? ⟨g, 2, none⟩ = some (.int .u32 (dg oa.natAbs 1 : Nat)) := fun q => (hT q).bl.cell 2
            have e3 : ∀ q, (W q).cell? ⟨g, 3, none⟩ = some (.int .u32 (dg oa.natAbs 2 : Nat)) := fun q => (hT q).bl.cell 3
            have e4 : ∀ q, (W q).cell? ⟨g, 4, none⟩ = some (.int .u32 (dg oa.natAbs 3 : Nat)) := fun q => (hT q).bl.cell 4
            have HT := hid hT
            clear hT hI
            refine wp_region_class W (by kernel_rfl) (by kernel_rfl) H0.out ?_
            unfold wideX at HFa
            have hs : Try.prog.stoodInHeld 42 = false := by kernel_rfl
            have hgd : Try.prog.eqGuardType Try.prog.depth 42 = false := by kernel_rfl
            have heq : ∀ w, (Op.equalIn 9999 40 (.agg #[.int .u32 (dg oa.natAbs 0 : Nat), .int .u32 (dg oa.natAbs 1 : Nat), .int .u32 (dg oa.natAbs 2 : Nat), .int .u32 (dg oa.natAbs 3 : Nat)]) (.agg #[.int .u32 (dg oa.natAbs 0 : Nat), .int .u32 (dg oa.natAbs 1 : Nat), .int .u32 (dg oa.natAbs 2 : Nat), .int .u32 (dg oa.natAbs 3 : Nat)])).run Try.prog w = .ok true w := fun w => mag_eq _ _ _ _ w
            repeat (go_big_quiet_step ((go_at_call 23; exact Calls.class_of HI.out (HFa.out _))))
            refine wpQuiet_nil ?_
            intro q'
            have HG2 := hid (HT.out q')
            generalize W q' = wz at *
            clear HI H0 hne ka e0 e1 e2 e3 e4 HT HG HX HL hs hgd heq
            have ka := HG2.out.rd.ca
            have kb := HG2.out.rd.cb
            have HNr := hid (fun w => negAbs_walk r fr w)
            have HNb := hid (fun w => negAbs_walk ob hfb w)
            have dle : decide (negAbsI r ≤ negAbsI ob) = false := decide_eq_false (by unfold negAbsI; split <;> split <;> omega)
            generalize negAbsI r = nr at *
            generalize negAbsI ob = nb at *
            have HE : Hid (Below w'.heap.size w' wz) := hid HG2.out.rd.bel
            rcases Int.lt_trichotomy r 0 with hr0 | hr0 | hr0
            · have d1 : decide (0 < r) = false := decide_eq_false (by omega)
              have d2 : decide (r < 0) = true := decide_eq_true hr0
              have d3 : decide (0 < oa) = false := decide_eq_false (fun h => l3 ⟨hr0, h⟩)
              clear l1 l2 l3 l4 hr0
              go_wp2
              go_quiet ((go_at_call 24; first | with_reducible exact Calls.quiet_of_same (HNr.out _) | with_reducible exact Calls.quiet_of_same (HNb.out _)))
              go_wp2
              exact ⟨⟨k + 1, by omega, by go_num, hid (HE.out.trans (Drew.below ⟨nq, rfl⟩ _))⟩, by simp [intOf]; omega⟩
            · have d1 : decide (0 < r) = false := decide_eq_false (by omega)
              have d2 : decide (r < 0) = false := decide_eq_false (by omega)
              clear l1 l2 l3 l4 hr0
              go_wp2
              go_quiet ((go_at_call 24; first | with_reducible exact Calls.quiet_of_same (HNr.out _) | with_reducible exact Calls.quiet_of_same (HNb.out _)))
              go_wp2
              exact ⟨⟨k + 1, by omega, by go_num, hid (HE.out.trans (Drew.below ⟨nq, rfl⟩ _))⟩, by simp [intOf]; omega⟩
            · have d1 : decide (0 < r) = true := decide_eq_true hr0
              have d2 : decide (r < 0) = false := decide_eq_false (by omega)
              have d3 : decide (oa < 0) = false := decide_eq_false (fun h => l2 ⟨hr0, h⟩)
              clear l1 l2 l3 l4 hr0
              go_wp2
              go_quiet ((go_at_call 24; first | with_reducible exact Calls.quiet_of_same (HNr.out _) | with_reducible exact Calls.quiet_of_same (HNb.out _)))
              go_wp2
              exact ⟨⟨k + 1, by omega, by go_num, hid (HE.out.trans (Drew.below ⟨nq, rfl⟩ _))⟩, by simp [intOf]; omega⟩
      · have hkn : k = n := by omega
        subst hkn
        go_wp2
        go_ret
        exact ⟨rfl, HB.out⟩
end Go.Proofs.Qxb6500890a
