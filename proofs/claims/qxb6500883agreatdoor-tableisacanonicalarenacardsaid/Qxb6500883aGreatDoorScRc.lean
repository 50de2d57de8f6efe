/- The law NothingAcceptedCanOverflow: the walk. -/
import Derived.Test.Qxb6500883aGreatDoorScRb
namespace Go.Proofs.Qxb6500883aGreatDoor
open Go.RowKit
set_option linter.unusedSimpArgs false
set_option linter.unusedVariables false
section
variable {N mg : Nat} {w w' : World} {a : Option Addr} {n c : Nat} {l : List OpT}
set_option maxRecDepth 100000 in
set_option maxHeartbeats 8000000 in
theorem overflowLawW (hs : ScrT w a n c l) (hg : Gl N mg w) : Calls Tryz.prog 5 #[.slice a n c] w fun e w' => e = .returned (.bool true) ∧ Below w.heap.size w w' := by
  have HZ := hid (zzSmall1W hs)
  have HS := hid hs
  have HG := hid hg
  clear hs hg
  go_enter Tryz.func5, Tryz.ntmps5
  go_wp2_with fail
  refine HZ.out.mono ?_
  rintro e w1 ⟨r, rfl, rfl, hr⟩
  clear HZ
  cases r with
  | false =>
    go_wp2
    go_ret
    exact ⟨rfl, Below.refl _ _⟩
  | true =>
  have HT := hid (textW HS.out HG.out (hr rfl))
  clear hr
  go_wp2_with fail
  refine HT.out.mono ?_
  rintro e w2 ⟨v, rfl, HI⟩
  clear HT
  obtain ⟨a2, n2, c2, bs, rfl, hsrc, hgd⟩ := HI.out.src (by decide)
  have HB2 := hid HI.out.bel
  have HC := hid (compileW hsrc (HG.out.below (HI.out.bel.mono HG.out.sz)) hgd)
  clear hsrc hgd HI
  go_wp2_with fail
  refine HC.out.mono ?_
  clear HC
  rintro e w3 (⟨tB, rfl, HQ⟩ | ⟨q, rfl, HQ⟩)
  rotate_left
  · have HB3 := hid (HB2.out.trans (HQ.out.1.mono HB2.out.size))
    clear HQ HB2
    go_wp2
    go_ret
    exact ⟨rfl, HB3.out⟩
  obtain ⟨⟨S, n0, τ, V, T, ga, mn, mf, al, bn, _, _, _, hT, hn0, hA⟩, hb3⟩ := HQ.out
  have HB3 := hid (HB2.out.trans (hb3.mono HB2.out.size))
  have HTb := hid hT.tb
  obtain ⟨vf, rk, B, vd, _, hBt, hP, _⟩ := hA.m
  have hall := hP.b
  have HAll := hid hall
  have hlen : T.types.length = B.T.types.length := hP.s.n
  have hsz : B.T.types.length + B.T.opts.length + B.T.flds.length ≤ 200000 := hBt.sz
  have h8 := hBt.ti.ok.t
  obtain ⟨nt, hnt⟩ : ∃ x, T.types.length = x := ⟨_, rfl⟩
  have hnt2 : nt ≤ 200000 := by omega
  have hnt0 : 0 < nt := by omega
  have Hnt := hid hnt
  have HLen := hid (lenTW hT.tb (by omega))
  rw [hnt] at HLen
  clear hb3 hT hA hP hall hBt hn0 hlen hsz h8 hnt HQ HB2 HS HG
  go_upto_region 7 with fail
  go_loopw [5] (fun t wr => wr = w3 ∧ ∃ (i : Nat), t = .int .i64 (i : Int) ∧ i ≤ nt) (fun t _ => nt - (intOf t).toNat)
  case atStart => exact ⟨rfl, 0, rfl, Nat.zero_le _⟩
  case round =>
  obtain ⟨rfl, i, rfl, hi⟩ := hrel
  by_cases hin : i < nt
  rotate_left
  · have d2 : decide ((i : Int) < (nt : Int)) = false := decide_eq_false (by omega)
    go_wp2_with fail
    refine HLen.out.mono ?_
    rintro e w4 ⟨rfl, rfl⟩
    go_wp2
    go_ret
    exact ⟨rfl, HB3.out⟩
  have d2 : decide ((i : Int) < (nt : Int)) = true := decide_eq_true (by omega)
  have ew : IntKind.i32.wrap (i : Int) = (i : Int) := by rw [IntKind.wrap_i32]; omega
  obtain ⟨x, hx⟩ : ∃ x, T.types[i]? = some x := ⟨_, List.getElem?_eq_getElem (by rw [Hnt.out]; exact hin)⟩
  have hxm := List.mem_of_getElem? hx
  have hb := HAll.out.b x hxm
  have hf := HAll.out.f x hxm
  have hz := HAll.out.z x hxm
  have hck := HAll.out.c x hxm
  have H1 := hid (minSizeW HTb.out hx)
  have H2 := hid (maxSizeW HTb.out hx)
  have H3 := hid (depthW HTb.out hx (by have := hb.depth; omega))
  have H4 := hid (isFixedW HTb.out hx)
  have H5 := hid (fixedSizeW HTb.out hx)
  have H6 := hid (chunkCountW HTb.out hx)
  obtain ⟨b1, b2, b3, b4, b5, b6, b7⟩ := hb
  obtain ⟨mnv, hmn⟩ : ∃ z, x.mn = z := ⟨_, rfl⟩
  obtain ⟨mxv, hmx⟩ : ∃ z, x.mx = z := ⟨_, rfl⟩
  obtain ⟨dp, hdp⟩ : ∃ z, x.depth = z := ⟨_, rfl⟩
  obtain ⟨fx, hfx⟩ : ∃ z, x.fixed = z := ⟨_, rfl⟩
  obtain ⟨sz, hsz⟩ : ∃ z, x.size = z := ⟨_, rfl⟩
  obtain ⟨ch, hch⟩ : ∃ z, x.chunks = z := ⟨_, rfl⟩
  rw [hmn] at H1 b2 b7 hf
  rw [hmx] at H2 b3 b7 hf
  rw [hdp] at H3 b4 hck
  rw [hfx] at H4 hf hz
  rw [hsz] at H5 b1 hf hz
  rw [hch] at H6 hck
  clear hmn hmx hdp hfx hsz hch b5 b6 hxm
  have w1_ : IntKind.u64.wrap (mnv : Int) = (mnv : Int) := by rw [IntKind.wrap_u64]; omega
  have w2_ : IntKind.u64.wrap (mxv : Int) = (mxv : Int) := by rw [IntKind.wrap_u64]; omega
  have w3_ : IntKind.u64.wrap (sz : Int) = (sz : Int) := by rw [IntKind.wrap_u64]; omega
  have d3 : decide ((mxv : Int) < (mnv : Int)) = false := decide_eq_false (by omega)
  have d3n : ¬ mxv < mnv := by omega
  have d4 : decide ((4294967295 : Int) < (mxv : Int)) = false := decide_eq_false (by omega)
  have d5 : decide ((dp : Int) < 0) = false := decide_eq_false (by omega)
  have d6 : decide ((63 : Int) < (dp : Int)) = false := decide_eq_false (by omega)
  obtain ⟨p2, hp2, hpl⟩ : ∃ p2 : Nat, 2 ^ dp = p2 ∧ p2 ≤ 9223372036854775808 := ⟨_, rfl, Nat.le_trans (Nat.pow_le_pow_right (by decide) b4) (by decide)⟩
  have ep : (2 : Int) ^ dp = (p2 : Int) := by rw [← hp2]; exact (Int.natCast_pow 2 dp).symm
  have e7 : IntKind.u64.wrap ((2 : Int) ^ dp) = (p2 : Int) := by rw [ep, IntKind.wrap_u64]; omega
  rw [hp2] at hck
  have e8 : IntKind.u64.wrap (ch : Int) = (ch : Int) := by rw [IntKind.wrap_u64]; omega
  have d7 : decide ((p2 : Int) < (ch : Int)) = false := decide_eq_false (by omega)
  have d7n : ¬ p2 < ch := by omega
  clear ep hp2
  go_wp2_with fail
  refine HLen.out.mono ?_
  rintro e w4 ⟨rfl, rfl⟩
  go_wp2_with fail
  refine H1.out.mono ?_
  rintro e w4 ⟨rfl, rfl⟩
  go_wp2_with fail
  refine H2.out.mono ?_
  rintro e w4 ⟨rfl, rfl⟩
  go_wp2_with fail
  refine H3.out.mono ?_
  rintro e w4 ⟨rfl, rfl⟩
  go_wp2_with fail
  refine H3.out.mono ?_
  rintro e w4 ⟨rfl, rfl⟩
  go_wp2_with fail
  refine H4.out.mono ?_
  rintro e w4 ⟨rfl, rfl⟩
  cases fx with
  | true =>
    obtain ⟨f1, f2⟩ := hf rfl
    have g1 : ((sz : Int) != (mnv : Int)) = false := by simp; omega
    have g2 : ((mnv : Int) != (mxv : Int)) = false := by simp; omega
    clear f1 f2 hf hz
    go_wp2_with fail
    refine H5.out.mono ?_
    rintro e w4 ⟨rfl, rfl⟩
    go_wp2_with fail
    refine H4.out.mono ?_
    rintro e w4 ⟨rfl, rfl⟩
    go_wp2_with fail
    refine H6.out.mono ?_
    rintro e w4 ⟨rfl, rfl⟩
    go_wp2_with fail
    refine H3.out.mono ?_
    rintro e w4 ⟨rfl, rfl⟩
    go_wp2
    exact ⟨⟨trivial, i + 1, by go_num, by omega⟩, by simp [intOf]; omega⟩
  | false =>
    have f1 := hz rfl
    have g1 : ((sz : Int) != 0) = false := by simp; omega
    clear f1 hf hz
    go_wp2_with fail
    refine H4.out.mono ?_
    rintro e w4 ⟨rfl, rfl⟩
    go_wp2_with fail
    refine H5.out.mono ?_
    rintro e w4 ⟨rfl, rfl⟩
    go_wp2_with fail
    refine H6.out.mono ?_
    rintro e w4 ⟨rfl, rfl⟩
    go_wp2_with fail
    refine H3.out.mono ?_
    rintro e w4 ⟨rfl, rfl⟩
    go_wp2
    exact ⟨⟨trivial, i + 1, by go_num, by omega⟩, by simp [intOf]; omega⟩
end
end Go.Proofs.Qxb6500883aGreatDoor
