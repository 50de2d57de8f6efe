/- ..Between, CountedInLines, Header, exactly (written by tools/mk_ax7.py). -/
import Derived.Test.Qxb6500887aGreatAx6
namespace Go.Proofs.Qxb6500887aGreat
open Go.RowKit
set_option linter.unusedSimpArgs false
set_option linter.unusedVariables false
section
variable {t b n wd per len : Nat} {X : Nat → Nat} {w w' w0 : World}
set_option maxRecDepth 100000 in
set_option maxHeartbeats 1000000 in
theorem TB.countGranX (h : TB t b 16384 wd per len X w) (x y : Int) : Calls Tryz.prog 229 #[.pointer (some ⟨t, 0, none⟩), .int .u64 x, .int .u64 y] w fun e w' => ∃ m : Nat, ∃ c : Int, e = .returned (.tuple #[.int .i64 (m : Int), .int .u8 c]) ∧ m ≤ 32768 ∧ Hid ((c = stC x y true ∧ (c = 0 → m = cnt (fun i => nzP wd per X (wIx x / 2 + i)) (wIx y / 2 - wIx x / 2))) ∧ Below w.heap.size w w') := by
  by_cases hc : stC x y true = 0
  · have HS := hid (stretch_g hc w)
    obtain ⟨b1, b2, hz⟩ := stC_ok hc
    clear hz
    have HN : Hid (Calls Tryz.prog 214 #[.pointer (some ⟨t, 0, none⟩), .int .i64 (((wIx x : Nat) : Int) / 2), .int .i64 (((wIx y : Nat) : Int) / 2)] w fun e w' => ∃ c : Nat, e = .returned (.tuple #[.int .i64 (c : Int), .bool true]) ∧ c ≤ 32768 ∧ Hid (c = cnt (fun i => nzP wd per X (wIx x / 2 + i)) (wIx y / 2 - wIx x / 2) ∧ Below w.heap.size w w')) := hid (by
      have := h.countNz (wIx x / 2) (wIx y / 2) (by omega) (by omega)
      rw [show ((wIx x / 2 : Nat) : Int) = ((wIx x : Nat) : Int) / 2 by omega, show ((wIx y / 2 : Nat) : Int) = ((wIx y : Nat) : Int) / 2 by omega] at this
      exact this)
    generalize wIx x = p at *
    generalize wIx y = q at *
    have Hc := hid hc
    clear h hc
    go_enter Tryz.func229, Tryz.ntmps229
    (go_wp2_with fail; refine (HS.out).mono ?_; rintro e_ w_ ⟨he_, hw_⟩; subst he_; have hs_ := hw_.symm; clear hw_; subst hs_)
    go_wp2_with fail
    refine HN.out.mono ?_
    rintro e w2 ⟨m, rfl, hm, HB⟩
    go_wp2
    go_ret2
    exact ⟨m, 0, rfl, hm, hid ⟨⟨Hc.out.symm, fun _ => HB.out.1⟩, HB.out.2⟩⟩
  · have HS := hid (stretch_b hc w)
    have dc : (stC x y true == 0) = false := by simpa using hc
    have dc2 : (stC x y true != 0) = true := by simp [bne, dc]
    generalize stC x y true = c at *
    have Hc := hid hc
    clear h hc
    go_enter Tryz.func229, Tryz.ntmps229
    (go_wp2_with fail; refine (HS.out).mono ?_; rintro e_ w_ ⟨he_, hw_⟩; subst he_; have hs_ := hw_.symm; clear hw_; subst hs_)
    go_wp2
    go_ret2
    exact ⟨0, c, rfl, by omega, hid ⟨⟨rfl, fun h => absurd h Hc.out⟩, Below.refl _ _⟩⟩
end
section
variable {l : AL} {S : AS} {w w' w0 : World} {p q : Nat} {cs : List Value} {o : Ob}
set_option maxRecDepth 100000 in
theorem countedBetweenX (h : AM l S w) (x y : Int) : Calls Tryz.prog 182 #[.pointer (some ⟨l.a, 0, none⟩), .int .u64 x, .int .u64 y] w fun e w' => ∃ m : Nat, ∃ c : Int, e = .returned (.tuple #[.int .i64 (m : Int), .int .u8 c]) ∧ m ≤ 32768 ∧ Hid ((c = stC x y true ∧ (c = 0 → m = cnt (fun i => nzP 2 32 S.C (wIx x / 2 + i)) (wIx y / 2 - wIx x / 2))) ∧ Below w.heap.size w w') := by
  have HN := hid (h.tc.countGranX x y)
  have k1 := h.cells.2.1
  clear h
  go_enter Tryz.func182, Tryz.ntmps182
  go_wp2_with fail
  refine HN.out.mono ?_
  rintro e w2 ⟨v, c, rfl, hm, HB⟩
  go_wp2
  go_ret2
  exact ⟨v, c, rfl, hm, HB⟩
set_option maxRecDepth 100000 in
theorem markedBetweenX (h : AM l S w) (x y : Int) : Calls Tryz.prog 183 #[.pointer (some ⟨l.a, 0, none⟩), .int .u64 x, .int .u64 y] w fun e w' => ∃ m : Nat, ∃ c : Int, e = .returned (.tuple #[.int .i64 (m : Int), .int .u8 c]) ∧ m ≤ 32768 ∧ Hid ((c = stC x y true ∧ (c = 0 → m = cnt (fun i => nzP 1 64 S.M (wIx x / 2 + i)) (wIx y / 2 - wIx x / 2))) ∧ Below w.heap.size w w') := by
  have HN := hid (h.tm.countGranX x y)
  have k1 := h.cells.2.2.1
  clear h
  go_enter Tryz.func183, Tryz.ntmps183
  go_wp2_with fail
  refine HN.out.mono ?_
  rintro e w2 ⟨v, c, rfl, hm, HB⟩
  go_wp2
  go_ret2
  exact ⟨v, c, rfl, hm, HB⟩
set_option maxRecDepth 100000 in
set_option maxHeartbeats 1000000 in
theorem loggedBetweenX (h : AM l S w) (x y : Int) : Calls Tryz.prog 184 #[.pointer (some ⟨l.a, 0, none⟩), .int .u64 x, .int .u64 y] w fun e w' => ∃ m : Nat, ∃ c : Int, e = .returned (.tuple #[.int .i64 (m : Int), .int .u8 c]) ∧ m ≤ 32768 ∧ Hid ((c = stC x y false ∧ (c = 0 → m = cnt (fun i => nzP 1 64 S.L (wIx x + i)) (wIx y - wIx x))) ∧ Below w.heap.size w w') := by
  have k1 := h.cells.2.2.2.1
  by_cases hc : stC x y false = 0
  · have HS := hid (stretch_g hc w)
    obtain ⟨b1, b2, hz⟩ := stC_ok hc
    clear hz
    have HN := hid (h.tl.countNz (wIx x) (wIx y) b1 b2)
    generalize wIx x = p at *
    generalize wIx y = q at *
    have Hc := hid hc
    clear h hc
    go_enter Tryz.func184, Tryz.ntmps184
    (go_wp2_with fail; refine (HS.out).mono ?_; rintro e_ w_ ⟨he_, hw_⟩; subst he_; have hs_ := hw_.symm; clear hw_; subst hs_)
    go_wp2_with fail
    refine HN.out.mono ?_
    rintro e w2 ⟨m, rfl, hm, HB⟩
    go_wp2
    go_ret2
    exact ⟨m, 0, rfl, hm, hid ⟨⟨Hc.out.symm, fun _ => HB.out.1⟩, HB.out.2⟩⟩
  · have HS := hid (stretch_b hc w)
    have dc : (stC x y false == 0) = false := by simpa using hc
    have dc2 : (stC x y false != 0) = true := by simp [bne, dc]
    generalize stC x y false = c at *
    have Hc := hid hc
    clear h hc
    go_enter Tryz.func184, Tryz.ntmps184
    (go_wp2_with fail; refine (HS.out).mono ?_; rintro e_ w_ ⟨he_, hw_⟩; subst he_; have hs_ := hw_.symm; clear hw_; subst hs_)
    go_wp2
    go_ret2
    exact ⟨0, c, rfl, by omega, hid ⟨⟨rfl, fun h => absurd h Hc.out⟩, Below.refl _ _⟩⟩
set_option maxRecDepth 100000 in
theorem countedInLinesX (h : AM l S w) (a n : Int) : Calls Tryz.prog 236 #[.pointer (some ⟨l.a, 0, none⟩), .int .i64 a, .int .i64 n] w fun e w' => ∃ m : Nat, ∃ c : Int, e = .returned (.tuple #[.int .i64 (m : Int), .int .u8 c]) ∧ m ≤ 32768 ∧ Hid ((c = lrC a n ∧ (c = 0 → m = cnt (fun i => nzP 2 32 S.C (a.toNat * 8 + i)) ((a.toNat + n.toNat) * 8 - a.toNat * 8))) ∧ Below w.heap.size w w') := by
  have HR := hid (lineRangeZ a n w)
  by_cases hc : lrC a n = 0
  · rw [hc] at HR
    obtain ⟨b1, b2, b3, b4⟩ := lrC_ok hc
    obtain ⟨an, rfl⟩ : ∃ an : Nat, a = (an : Int) := ⟨a.toNat, by omega⟩
    obtain ⟨nn, rfl⟩ : ∃ nn : Nat, n = (nn : Int) := ⟨n.toNat, by omega⟩
    have c2 : an + nn ≤ 2048 := by omega
    have HN : Hid (Calls Tryz.prog 214 #[.pointer (some ⟨l.tc, 0, none⟩), .int .i64 ((an : Int) * 8), .int .i64 (((an : Int) + (nn : Int)) * 8)] w fun e w' => ∃ c : Nat, e = .returned (.tuple #[.int .i64 (c : Int), .bool true]) ∧ c ≤ 32768 ∧ Hid (c = cnt (fun i => nzP 2 32 S.C (an * 8 + i)) ((an + nn) * 8 - an * 8) ∧ Below w.heap.size w w')) := hid (by
      have := h.tc.countNz (an * 8) ((an + nn) * 8) (by omega) (by omega)
      rw [show ((an * 8 : Nat) : Int) = (an : Int) * 8 by omega, show (((an + nn) * 8 : Nat) : Int) = ((an : Int) + (nn : Int)) * 8 by omega] at this
      exact this)
    have k1 := h.cells.2.1
    rw [show ((an : Int)).toNat = an by omega, show ((nn : Int)).toNat = nn by omega]
    have Hc := hid hc
    clear h hc b1 b2 b3 b4
    go_enter Tryz.func236, Tryz.ntmps236
    (go_wp2_with fail; refine (HR.out).mono ?_; rintro e_ w_ ⟨he_, hw_⟩; subst he_; have hs_ := hw_.symm; clear hw_; subst hs_)
    go_wp2_with fail
    refine HN.out.mono ?_
    rintro e w2 ⟨m, rfl, hm, HB⟩
    go_wp2
    go_ret2
    exact ⟨m, 0, rfl, hm, hid ⟨⟨Hc.out.symm, fun _ => HB.out.1⟩, HB.out.2⟩⟩
  · have dc : (lrC a n == 0) = false := by simpa using hc
    have dc2 : (lrC a n != 0) = true := by simp [bne, dc]
    generalize lrC a n = c at *
    have Hc := hid hc
    clear h hc
    go_enter Tryz.func236, Tryz.ntmps236
    (go_wp2_with fail; refine (HR.out).mono ?_; rintro e_ w_ ⟨he_, hw_⟩; subst he_; have hs_ := hw_.symm; clear hw_; subst hs_)
    go_wp2
    go_ret2
    exact ⟨0, c, rfl, by omega, hid ⟨⟨rfl, fun h => absurd h Hc.out⟩, Below.refl _ _⟩⟩
set_option maxRecDepth 100000 in
theorem arHeaderX (h : AM l S w) (x : Int) : Calls Tryz.prog 67 #[.pointer (some ⟨l.a, 0, none⟩), .int .u64 x] w fun e w' => ∃ s r : Int, e = .returned (.tuple #[.agg #[.int .i64 s, .int .i64 r], .int .u8 (onC S x)]) ∧ 0 ≤ s ∧ s ≤ 8192 ∧ 0 ≤ r ∧ r ≤ 8192 ∧ Hid ((onC S x = 0 → s = decSize (S.W (2 * gIx x)) ∧ r = decRefs (S.W (2 * gIx x))) ∧ Below w.heap.size w w') := by
  have HO := hid (openZ h x)
  have hs : ∃ (ap : Option Addr) (k s r : Int) (u : Int), onL l S x = [.pointer ap, .int .i64 k, .int .u64 u, .int .i64 s, .int .i64 r] ∧ 0 ≤ s ∧ s ≤ 8192 ∧ 0 ≤ r ∧ r ≤ 8192 ∧ (onC S x = 0 → s = decSize (S.W (2 * gIx x)) ∧ r = decRefs (S.W (2 * gIx x))) := by
    by_cases hc : onC S x = 0
    · obtain ⟨_, _, e1, ho⟩ := onC_ok h hc
      rw [e1]
      have := ho.s2
      have := ho.rf
      have ek := onE_ok (W := S.W) hc
      exact ⟨_, _, _, _, _, rfl, by omega, by omega, by omega, by omega, fun _ => ⟨by show (((decSize (S.W (2 * gIx x))).toNat : Nat) : Int) = _; omega, by show (((decRefs (S.W (2 * gIx x))).toNat : Nat) : Int) = _; omega⟩⟩
    · rw [onC_no hc]
      exact ⟨_, _, _, _, _, rfl, by decide, by decide, by decide, by decide, fun h => absurd h hc⟩
  obtain ⟨ap, k, s, r, u, he, h1, h2, h3, h4, h5⟩ := hs
  have H5 := hid h5
  clear h5
  rw [he] at HO
  have HO' : Hid (Calls Tryz.prog 22 #[.pointer (some ⟨l.a, 0, none⟩), .int .u64 x] w fun e w' => e = .returned (.tuple #[.agg #[.pointer ap, .int .i64 k, .int .u64 u, .int .i64 s, .int .i64 r], .int .u8 (onC S x)]) ∧ Below w.heap.size w w') := HO
  obtain ⟨c, hcx⟩ : ∃ c, onC S x = c := ⟨_, rfl⟩
  rw [hcx] at HO' H5 ⊢
  have HOP := hid (fun (wz : World) (hz : Below w.heap.size w wz) => openZ (h.below hz) x)
  clear h HO
  rw [he, hcx] at HOP
  clear he
  obtain ⟨p, hp⟩ : ∃ p, w.heap.size = p := ⟨_, rfl⟩
  have I0 : Hid ((Tryz.prog.info? 59).map (·.size) = some 2) := hid (by kernel_rfl)
  have Ag : Hid (AggOf Tryz.prog 59 2) := hid (AggOf.struct Tryz.underlying59 (by kernel_rfl))
  have HB : Hid (Below w.heap.size w (w.alloc (.cells #[.int .i64 0, .int .i64 0] 59)) ∧ Blk (w.alloc (.cells #[.int .i64 0, .int .i64 0] 59)) p 59 [.int .i64 0, .int .i64 0] ∧ w.heap.size ≤ p) := hid (by
    have k := Blk.new w [.int .i64 0, .int .i64 0] 59
    rw [hp] at k
    exact ⟨nbel w _, k, by omega⟩)
  have HO2 : Hid (∀ wz, Below w.heap.size w wz → Calls Tryz.prog 22 #[.pointer (some ⟨l.a, 0, none⟩), .int .u64 x] wz fun e w' => e = .returned (.tuple #[.agg #[.pointer ap, .int .i64 k, .int .u64 u, .int .i64 s, .int .i64 r], .int .u8 c]) ∧ Below wz.heap.size wz w') := HOP
  clear HO'
  go_enter Tryz.func67, Tryz.ntmps67
  go_upto_region 1 with fail
  (try simp only [hp])
  generalize hw1 : w.alloc _ = w1 at HB ⊢
  clear hw1 hp
  go_wp2_with fail
  refine (HO2.out _ HB.out.1).mono ?_
  rintro e w2 ⟨rfl, hb2⟩
  have HB2 : Hid (Below w.heap.size w w2 ∧ Blk w2 p 59 [.int .i64 0, .int .i64 0] ∧ w.heap.size ≤ p) := hid ⟨HB.out.1.trans (hb2.mono HB.out.1.size), HB.out.2.1.below hb2, HB.out.2.2⟩
  clear hb2 HB HO2
  obtain ⟨q, hq⟩ : ∃ q, w2.heap.size = q := ⟨_, rfl⟩
  have HB3 : Hid (Below w.heap.size w (w2.alloc (.cells #[.pointer ap, .int .i64 k, .int .u64 u, .int .i64 s, .int .i64 r] 61)) ∧ Blk (w2.alloc (.cells #[.pointer ap, .int .i64 k, .int .u64 u, .int .i64 s, .int .i64 r] 61)) p 59 [.int .i64 0, .int .i64 0] ∧ Blk (w2.alloc (.cells #[.pointer ap, .int .i64 k, .int .u64 u, .int .i64 s, .int .i64 r] 61)) q 61 [.pointer ap, .int .i64 k, .int .u64 u, .int .i64 s, .int .i64 r] ∧ w.heap.size ≤ p) := hid (by
    have kk := Blk.new w2 [.pointer ap, .int .i64 k, .int .u64 u, .int .i64 s, .int .i64 r] 61
    rw [hq] at kk
    exact ⟨HB2.out.1.trans ((nbel w2 _).mono HB2.out.1.size), HB2.out.2.1.below (nbel w2 _), kk, HB2.out.2.2⟩)
  go_upto_region 2 with fail
  (try simp only [hq])
  generalize hw3 : w2.alloc _ = w3 at HB3 ⊢
  clear hw3 hq HB2
  have p3 := HB3.out.2.2.1.cell 3
  have p4 := HB3.out.2.2.1.cell 4
  simp only [List.getElem?_cons_zero, List.getElem?_cons_succ] at p3 p4
  have one : ∀ u ∈ ([.int .i64 s, .int .i64 r] : List Value), u.oneCell' = true := by
    intro u hu
    simp only [List.mem_cons, List.not_mem_nil, or_false] at hu
    rcases hu with rfl | rfl <;> rfl
  go_wp2_with (refine wpList_store_blk rfl 59 _ _ rfl p rfl [.int .i64 s, .int .i64 r] rfl HB3.out.2.1 rfl I0.out one ?_; intro w9 HB9 HU9)
  refine bodyPost_ret (results_cell_tmp (cs := [.int .i64 s, .int .i64 r]) Tryz.results67 rfl Ag.out HB9.out) rfl ?_
  exact ⟨s, r, rfl, h1, h2, h3, h4, hid ⟨H5.out, HB3.out.1.trans (HU9.out.below HB3.out.2.2.2 HB3.out.1.size)⟩⟩
end
end Go.Proofs.Qxb6500887aGreat
