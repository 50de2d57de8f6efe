/- BlockInfo (written by tools/mk_azye.py). -/
import Derived.Test.Qxb6500887aGreatAzYd
namespace Go.Proofs.Qxb6500887aGreat
open Go.RowKit
set_option linter.unusedSimpArgs false
set_option linter.unusedVariables false

/-- A record of a class and six integers. -/
def biL (c : Int) (xs : List Int) : List Value := .int .u8 c :: xs.map inV
def BIk (g : Nat) (w : World) : Prop := ∃ (c : Int) (xs : List Int), xs.length = 6 ∧ Blk w g 41 (biL c xs)
theorem biL_one (c : Int) (xs : List Int) : ∀ u ∈ biL c xs, u.oneCell' = true := by
  intro u hu
  rcases List.mem_cons.1 hu with rfl | hu
  · rfl
  · exact inV_one xs u hu
/-- Inside BlockInfo: the record g, the result r. -/
structure BI (l : AL) (S : AS) (w0 : World) (g r : Nat) (w : World) : Prop where
  am0 : AM l S w0
  bel : Below w0.heap.size w0 w
  b : BIk g w
  rb : BIk r w
  lo : w0.heap.size ≤ g
  lr : w0.heap.size ≤ r
  ne : g ≠ r
section
variable {l : AL} {S : AS} {w w' w0 : World} {g r : Nat}
theorem BIk.below {g : Nat} (h : BIk g w) (hb : Below w.heap.size w w') : BIk g w' := by
  obtain ⟨c, xs, h1, h2⟩ := h
  exact ⟨c, xs, h1, h2.below hb⟩
theorem BIk.upd {g k : Nat} (h : BIk g w) (hu : Upd k w w') (hk : g ≠ k) : BIk g w' := by
  obtain ⟨c, xs, h1, h2⟩ := h
  exact ⟨c, xs, h1, h2.upd hu hk⟩
theorem BI.am (h : BI l S w0 g r w) : AM l S w := h.am0.below h.bel
theorem BI.below (h : BI l S w0 g r w) (hb : Below w.heap.size w w') : BI l S w0 g r w' := ⟨h.am0, h.bel.trans (hb.mono h.bel.size), h.b.below hb, h.rb.below hb, h.lo, h.lr, h.ne⟩
theorem BI.icell (h : BI l S w0 g r w) {i : Nat} (h0 : 0 < i) (hi : i < 7) : (∃ x : Int, w.cell? ⟨g, i, none⟩ = some (.int .i64 x)) ∧ w.frozen? ⟨g, i, none⟩ = false := by
  obtain ⟨c, xs, h1, h2⟩ := h.b
  refine ⟨⟨xs[i - 1]'(by omega), ?_⟩, h2.frozen i⟩
  rw [h2.cell i]
  obtain ⟨j, rfl⟩ : ∃ j, i = j + 1 := ⟨i - 1, by omega⟩
  show (xs.map inV)[j]? = _
  rw [List.getElem?_map, List.getElem?_eq_getElem (by omega)]
  rfl
theorem BI.ccell (h : BI l S w0 g r w) : (∃ x : Int, w.cell? ⟨g, 0, none⟩ = some (.int .u8 x)) ∧ w.frozen? ⟨g, 0, none⟩ = false := by
  obtain ⟨c, xs, h1, h2⟩ := h.b
  exact ⟨⟨c, h2.cell 0⟩, h2.frozen 0⟩
theorem BI.put (h : BI l S w0 g r w) (i : Nat) (x : Int) (h0 : 0 < i) : BI l S w0 g r (w.setCell ⟨g, i, none⟩ (.int .i64 x)) := by
  have hu : Upd g w (w.setCell ⟨g, i, none⟩ (.int .i64 x)) := (Upd.refl g w).setCell rfl _
  refine ⟨h.am0, h.bel.trans (hu.below h.lo h.bel.size), ?_, h.rb.upd hu (Ne.symm h.ne), h.lo, h.lr, h.ne⟩
  obtain ⟨c, xs, h1, h2⟩ := h.b
  obtain ⟨j, rfl⟩ : ∃ j, i = j + 1 := ⟨i - 1, by omega⟩
  refine ⟨c, xs.set j x, by simpa using h1, ?_⟩
  have := h2.set (j + 1) (.int .i64 x)
  unfold biL at this ⊢
  rw [List.set_cons_succ] at this
  rw [List.map_set]
  exact this
theorem BI.putC (h : BI l S w0 g r w) (x : Int) : BI l S w0 g r (w.setCell ⟨g, 0, none⟩ (.int .u8 x)) := by
  have hu : Upd g w (w.setCell ⟨g, 0, none⟩ (.int .u8 x)) := (Upd.refl g w).setCell rfl _
  refine ⟨h.am0, h.bel.trans (hu.below h.lo h.bel.size), ?_, h.rb.upd hu (Ne.symm h.ne), h.lo, h.lr, h.ne⟩
  obtain ⟨c, xs, h1, h2⟩ := h.b
  exact ⟨x, xs, h1, h2.set 0 (.int .u8 x)⟩
set_option maxRecDepth 100000 in
set_option maxHeartbeats 8000000 in
theorem blockInfoZ (h : AM l S w) (x : Int) : Calls Tryz.prog 241 #[.pointer (some ⟨l.a, 0, none⟩), .int .i64 x] w fun e w' => ∃ (k : Int) (xs : List Int) (c : Int), xs.length = 6 ∧ e = .returned (.tuple #[.agg (biL k xs).toArray, .int .u8 c]) ∧ Hid (Below w.heap.size w w') := by
  have I0 := hid info_bi
  obtain ⟨r, hr⟩ : ∃ r, w.heap.size = r := ⟨_, rfl⟩
  have HR0 : Hid (Below w.heap.size w (w.alloc (.cells #[.int .u8 0, .int .i64 0, .int .i64 0, .int .i64 0, .int .i64 0, .int .i64 0, .int .i64 0] 41)) ∧ Blk (w.alloc (.cells #[.int .u8 0, .int .i64 0, .int .i64 0, .int .i64 0, .int .i64 0, .int .i64 0, .int .i64 0] 41)) r 41 (biL 0 [0, 0, 0, 0, 0, 0]) ∧ w.heap.size ≤ r) := hid (by
    have kk := Blk.new w (biL 0 [0, 0, 0, 0, 0, 0]) 41
    rw [hr] at kk
    exact ⟨nbel w _, kk, by omega⟩)
  by_cases hx : BkI x
  rotate_left
  · as_aux_lemma =>
    have HF := hid (fun wz => firstLn_b hx wz)
    clear h hx
    go_enter Tryz.func241, Tryz.ntmps241
    go_upto_region 1 with fail
    (try simp only [hr])
    generalize hw1 : w.alloc _ = w1 at HR0 ⊢
    clear hw1 hr
    (go_wp2_with fail; refine (HF.out w1).mono ?_; rintro e_ w_ ⟨he_, hw_⟩; subst he_; have hs_ := hw_.symm; clear hw_; subst hs_)
    go_wp2_with (refine wpList_store_blk rfl 41 _ _ rfl r rfl (biL 0 [0, 0, 0, 0, 0, 0]) rfl HR0.out.2.1 rfl I0.out (biL_one _ _) ?_; intro w9 HB9 HU9)
    refine bodyPost_ret (results_cell_tmp (cs := biL 0 [0, 0, 0, 0, 0, 0]) Tryz.results241 rfl agg_bi HB9.out) rfl ?_
    exact ⟨0, [0, 0, 0, 0, 0, 0], _, rfl, rfl, hid (HR0.out.1.trans (HU9.out.below HR0.out.2.2 HR0.out.1.size))⟩
  as_aux_lemma =>
  obtain ⟨b, rfl, hb⟩ := hx.nat
  have HF := hid (fun wz => firstLn_g hb wz)
  have HA := hid h
  have hm : 32 * b + 32 ≤ 2048 := by omega
  obtain ⟨m, hmm⟩ : ∃ m, 32 * b = m := ⟨_, rfl⟩
  rw [hmm] at HF hm
  clear h hx hmm
  go_enter Tryz.func241, Tryz.ntmps241
  go_upto_region 1 with fail
  (try simp only [hr])
  generalize hw1 : w.alloc _ = w1 at HR0 ⊢
  clear hw1 hr
  (go_wp2_with fail; refine (HF.out w1).mono ?_; rintro e_ w_ ⟨he_, hw_⟩; subst he_; have hs_ := hw_.symm; clear hw_; subst hs_)
  go_upto_region 4 with fail
  obtain ⟨g, hg⟩ : ∃ g, w1.heap.size = g := ⟨_, rfl⟩
  have H1 : Hid (BI l S w g r (w1.alloc (.cells #[.int .u8 0, .int .i64 0, .int .i64 0, .int .i64 0, .int .i64 0, .int .i64 0, .int .i64 0] 41))) := hid (by
    have kk := Blk.new w1 (biL 0 [0, 0, 0, 0, 0, 0]) 41
    rw [hg] at kk
    have h1 := HR0.out.2.1.lt
    have h2 := HR0.out.1.size
    have hb := HR0.out.1.trans ((nbel w1 (.cells #[.int .u8 0, .int .i64 0, .int .i64 0, .int .i64 0, .int .i64 0, .int .i64 0, .int .i64 0] 41)).mono HR0.out.1.size)
    exact ⟨HA.out, hb, ⟨0, [0, 0, 0, 0, 0, 0], rfl, kk⟩, ⟨0, [0, 0, 0, 0, 0, 0], rfl, HR0.out.2.1.below (nbel w1 _)⟩, by omega, HR0.out.2.2, by omega⟩)
  go_upto_region 5 with fail
  (try simp only [hg])
  generalize hw2 : w1.alloc _ = w2 at H1 ⊢
  clear hw2 hg HR0
  go_upto_region 7 with fail
  go_loopw [10] (fun u wr => ∃ a : Nat, u = .int .i64 (a : Int) ∧ m ≤ a ∧ a ≤ m + 32 ∧ Hid (BI l S w g r wr)) (fun u _ => m + 32 - (intOf u).toNat)
  case atStart => exact ⟨m, rfl, Nat.le_refl _, by omega, H1⟩
  case round =>
  clear H1
  obtain ⟨a, rfl, ha1, ha2, HK⟩ := hrel
  by_cases hah : a < m + 32
  rotate_left
  · as_aux_lemma =>
    have dq : decide ((a : Int) < (m : Int) + 32) = false := decide_eq_false (by omega)
    have dq' : decide (a < m + 32) = false := decide_eq_false (by omega)
    go_upto_region 15 with fail
    obtain ⟨⟨xf, cf⟩, zf⟩ := HK.out.icell (i := 1) (by decide) (by decide)
    have HCl := hid (fun wz => classOfZ xf wz)
    generalize clV xf = ck at HCl
    (go_wp2_with fail; refine (HCl.out wr).mono ?_; rintro e_ w_ ⟨he_, hw_⟩; subst he_; have hs_ := hw_.symm; clear hw_; subst hs_)
    obtain ⟨⟨xc, cc⟩, zc⟩ := HK.out.ccell
    go_upto_region 16 with fail
    have HP_ := hid (fun y => HK.out.putC y)
    generalize hz_ : World.setCell _ (⟨g, 0, none⟩ : Addr) _ = w_T0
    have T0 : Hid (BI l S w g r w_T0) := hid (by rw [← hz_]; exact HP_.out _)
    clear hz_ HP_ cf zf cc zc HK HCl
    have k1 := T0.out.am.cells.2.1
    have HN : Hid (Calls Tryz.prog 214 #[.pointer (some ⟨l.tc, 0, none⟩), .int .i64 ((b : Int) * 256), .int .i64 (((b : Int) + 1) * 256)] w_T0 fun e w' => ∃ c : Nat, e = .returned (.tuple #[.int .i64 (c : Int), .bool true]) ∧ c ≤ 16777216 ∧ Hid (Below w_T0.heap.size w_T0 w')) := hid (by
      have := T0.out.am.tc.countNonzero (b * 256) ((b + 1) * 256) (by omega) (by omega)
      rw [show ((b * 256 : Nat) : Int) = (b : Int) * 256 by omega, show (((b + 1) * 256 : Nat) : Int) = ((b : Int) + 1) * 256 by omega] at this
      exact this)
    go_wp2_with fail
    refine HN.out.mono ?_
    rintro e w_T1a ⟨c_, rfl, hc_, HB_⟩
    have T1a := hid (T0.out.below HB_.out)
    clear HN HB_ T0 k1
    obtain ⟨⟨x_, cx_⟩, zx_⟩ := T1a.out.icell (i := 4) (by decide) (by decide)
    go_upto_region 17 with fail
    have HP_ := hid (fun y => T1a.out.put 4 y (by decide))
    generalize hz_ : World.setCell _ (⟨g, 4, none⟩ : Addr) _ = w_T1
    have T1 : Hid (BI l S w g r w_T1) := hid (by rw [← hz_]; exact HP_.out _)
    clear hz_ HP_ cx_ zx_ T1a
    have k1 := T1.out.am.cells.2.2.1
    have HN : Hid (Calls Tryz.prog 214 #[.pointer (some ⟨l.tm, 0, none⟩), .int .i64 ((b : Int) * 256), .int .i64 (((b : Int) + 1) * 256)] w_T1 fun e w' => ∃ c : Nat, e = .returned (.tuple #[.int .i64 (c : Int), .bool true]) ∧ c ≤ 16777216 ∧ Hid (Below w_T1.heap.size w_T1 w')) := hid (by
      have := T1.out.am.tm.countNonzero (b * 256) ((b + 1) * 256) (by omega) (by omega)
      rw [show ((b * 256 : Nat) : Int) = (b : Int) * 256 by omega, show (((b + 1) * 256 : Nat) : Int) = ((b : Int) + 1) * 256 by omega] at this
      exact this)
    go_wp2_with fail
    refine HN.out.mono ?_
    rintro e w_T2a ⟨c_, rfl, hc_, HB_⟩
    have T2a := hid (T1.out.below HB_.out)
    clear HN HB_ T1 k1
    obtain ⟨⟨x_, cx_⟩, zx_⟩ := T2a.out.icell (i := 5) (by decide) (by decide)
    go_upto_region 18 with fail
    have HP_ := hid (fun y => T2a.out.put 5 y (by decide))
    generalize hz_ : World.setCell _ (⟨g, 5, none⟩ : Addr) _ = w_T2
    have T2 : Hid (BI l S w g r w_T2) := hid (by rw [← hz_]; exact HP_.out _)
    clear hz_ HP_ cx_ zx_ T2a
    have k1 := T2.out.am.cells.2.2.2.1
    have HN : Hid (Calls Tryz.prog 214 #[.pointer (some ⟨l.tl, 0, none⟩), .int .i64 ((b : Int) * 512), .int .i64 (((b : Int) + 1) * 512)] w_T2 fun e w' => ∃ c : Nat, e = .returned (.tuple #[.int .i64 (c : Int), .bool true]) ∧ c ≤ 16777216 ∧ Hid (Below w_T2.heap.size w_T2 w')) := hid (by
      have := T2.out.am.tl.countNonzero (b * 512) ((b + 1) * 512) (by omega) (by omega)
      rw [show ((b * 512 : Nat) : Int) = (b : Int) * 512 by omega, show (((b + 1) * 512 : Nat) : Int) = ((b : Int) + 1) * 512 by omega] at this
      exact this)
    go_wp2_with fail
    refine HN.out.mono ?_
    rintro e w_T3a ⟨c_, rfl, hc_, HB_⟩
    have T3a := hid (T2.out.below HB_.out)
    clear HN HB_ T2 k1
    obtain ⟨⟨x_, cx_⟩, zx_⟩ := T3a.out.icell (i := 6) (by decide) (by decide)
    go_upto_region 19 with fail
    have HP_ := hid (fun y => T3a.out.put 6 y (by decide))
    generalize hz_ : World.setCell _ (⟨g, 6, none⟩ : Addr) _ = w_T3
    have T3 : Hid (BI l S w g r w_T3) := hid (by rw [← hz_]; exact HP_.out _)
    clear hz_ HP_ cx_ zx_ T3a
    obtain ⟨c1, xs, hl, hbx⟩ := T3.out.b
    obtain ⟨c2, ys, hl2, hby⟩ := T3.out.rb
    have Hx := hid hbx
    have Hy := hid hby
    have Hl := hid (show (biL c1 xs).length = 7 by unfold biL; rw [List.length_cons, List.length_map, hl])
    have Hl2 := hid (show (biL c2 ys).length = 7 by unfold biL; rw [List.length_cons, List.length_map, hl2])
    have Hone := hid (biL_one c1 xs)
    have Hxs := hid hl
    clear hbx hby hl hl2
    generalize hcs : biL c1 xs = cs_ at *
    have Hcs := hid hcs
    clear hcs
    go_wp2_with (first | (refine wpList_load_blk rfl 41 _ rfl g rfl cs_ Hx.out _ Tryz.underlying41 rfl (by rw [Hl.out]; exact I0.out) ?_) | (refine wpList_store_blk rfl 41 _ _ rfl r rfl cs_ rfl Hy.out (by rw [Hl.out, Hl2.out]) (by rw [Hl.out]; exact I0.out) Hone.out ?_; intro w9 HB9 HU9))
    refine bodyPost_ret (results_cell_tmp (cs := cs_) Tryz.results241 rfl (by rw [Hl.out]; exact agg_bi) HB9.out) rfl ?_
    exact ⟨c1, xs, _, Hxs.out, by rw [Hcs.out]; rfl, hid (T3.out.bel.trans (HU9.out.below T3.out.lr T3.out.bel.size))⟩
  as_aux_lemma =>
  have dq : decide ((a : Int) < (m : Int) + 32) = true := decide_eq_true (by omega)
  have dq' : decide (a < m + 32) = true := decide_eq_true (by omega)
  have HZ : Hid (Calls Tryz.prog 165 #[.pointer (some ⟨l.tt, 0, none⟩), .int .i64 (a : Int), .int .i64 ((m : Int) + 32)] wr fun e w' => ∃ s k : Int, e = .returned (.tuple #[.int .i64 s, .int .i64 k, .bool true]) ∧ Hid (Zr (zrP 4 16 S.T) a (m + 32) s k ∧ Below wr.heap.size wr w')) := hid (by
    have := HK.out.am.tt.zeroRun a (m + 32) (by omega) (by omega)
    rw [show ((m + 32 : Nat) : Int) = (m : Int) + 32 by omega] at this
    exact this)
  have k4 := HK.out.am.cells.2.2.2.2.1
  go_wp2_with fail
  refine HZ.out.mono ?_
  rintro e w3 ⟨s, n, rfl, HB⟩
  have H3 := hid (HK.out.below HB.out.2)
  have hbd := HB.out.1.bounds
  clear HB HZ k4 HK
  rcases hbd with ⟨rfl, rfl⟩ | ⟨k, n, rfl, rfl, hn1, hk1, hk2⟩
  · as_aux_lemma =>
    go_upto_region 15 with fail
    obtain ⟨⟨xf, cf⟩, zf⟩ := H3.out.icell (i := 1) (by decide) (by decide)
    have HCl := hid (fun wz => classOfZ xf wz)
    generalize clV xf = ck at HCl
    (go_wp2_with fail; refine (HCl.out w3).mono ?_; rintro e_ w_ ⟨he_, hw_⟩; subst he_; have hs_ := hw_.symm; clear hw_; subst hs_)
    obtain ⟨⟨xc, cc⟩, zc⟩ := H3.out.ccell
    go_upto_region 16 with fail
    have HP_ := hid (fun y => H3.out.putC y)
    generalize hz_ : World.setCell _ (⟨g, 0, none⟩ : Addr) _ = w_T0
    have T0 : Hid (BI l S w g r w_T0) := hid (by rw [← hz_]; exact HP_.out _)
    clear hz_ HP_ cf zf cc zc H3 HCl
    have k1 := T0.out.am.cells.2.1
    have HN : Hid (Calls Tryz.prog 214 #[.pointer (some ⟨l.tc, 0, none⟩), .int .i64 ((b : Int) * 256), .int .i64 (((b : Int) + 1) * 256)] w_T0 fun e w' => ∃ c : Nat, e = .returned (.tuple #[.int .i64 (c : Int), .bool true]) ∧ c ≤ 16777216 ∧ Hid (Below w_T0.heap.size w_T0 w')) := hid (by
      have := T0.out.am.tc.countNonzero (b * 256) ((b + 1) * 256) (by omega) (by omega)
      rw [show ((b * 256 : Nat) : Int) = (b : Int) * 256 by omega, show (((b + 1) * 256 : Nat) : Int) = ((b : Int) + 1) * 256 by omega] at this
      exact this)
    go_wp2_with fail
    refine HN.out.mono ?_
    rintro e w_T1a ⟨c_, rfl, hc_, HB_⟩
    have T1a := hid (T0.out.below HB_.out)
    clear HN HB_ T0 k1
    obtain ⟨⟨x_, cx_⟩, zx_⟩ := T1a.out.icell (i := 4) (by decide) (by decide)
    go_upto_region 17 with fail
    have HP_ := hid (fun y => T1a.out.put 4 y (by decide))
    generalize hz_ : World.setCell _ (⟨g, 4, none⟩ : Addr) _ = w_T1
    have T1 : Hid (BI l S w g r w_T1) := hid (by rw [← hz_]; exact HP_.out _)
    clear hz_ HP_ cx_ zx_ T1a
    have k1 := T1.out.am.cells.2.2.1
    have HN : Hid (Calls Tryz.prog 214 #[.pointer (some ⟨l.tm, 0, none⟩), .int .i64 ((b : Int) * 256), .int .i64 (((b : Int) + 1) * 256)] w_T1 fun e w' => ∃ c : Nat, e = .returned (.tuple #[.int .i64 (c : Int), .bool true]) ∧ c ≤ 16777216 ∧ Hid (Below w_T1.heap.size w_T1 w')) := hid (by
      have := T1.out.am.tm.countNonzero (b * 256) ((b + 1) * 256) (by omega) (by omega)
      rw [show ((b * 256 : Nat) : Int) = (b : Int) * 256 by omega, show (((b + 1) * 256 : Nat) : Int) = ((b : Int) + 1) * 256 by omega] at this
      exact this)
    go_wp2_with fail
    refine HN.out.mono ?_
    rintro e w_T2a ⟨c_, rfl, hc_, HB_⟩
    have T2a := hid (T1.out.below HB_.out)
    clear HN HB_ T1 k1
    obtain ⟨⟨x_, cx_⟩, zx_⟩ := T2a.out.icell (i := 5) (by decide) (by decide)
    go_upto_region 18 with fail
    have HP_ := hid (fun y => T2a.out.put 5 y (by decide))
    generalize hz_ : World.setCell _ (⟨g, 5, none⟩ : Addr) _ = w_T2
    have T2 : Hid (BI l S w g r w_T2) := hid (by rw [← hz_]; exact HP_.out _)
    clear hz_ HP_ cx_ zx_ T2a
    have k1 := T2.out.am.cells.2.2.2.1
    have HN : Hid (Calls Tryz.prog 214 #[.pointer (some ⟨l.tl, 0, none⟩), .int .i64 ((b : Int) * 512), .int .i64 (((b : Int) + 1) * 512)] w_T2 fun e w' => ∃ c : Nat, e = .returned (.tuple #[.int .i64 (c : Int), .bool true]) ∧ c ≤ 16777216 ∧ Hid (Below w_T2.heap.size w_T2 w')) := hid (by
      have := T2.out.am.tl.countNonzero (b * 512) ((b + 1) * 512) (by omega) (by omega)
      rw [show ((b * 512 : Nat) : Int) = (b : Int) * 512 by omega, show (((b + 1) * 512 : Nat) : Int) = ((b : Int) + 1) * 512 by omega] at this
      exact this)
    go_wp2_with fail
    refine HN.out.mono ?_
    rintro e w_T3a ⟨c_, rfl, hc_, HB_⟩
    have T3a := hid (T2.out.below HB_.out)
    clear HN HB_ T2 k1
    obtain ⟨⟨x_, cx_⟩, zx_⟩ := T3a.out.icell (i := 6) (by decide) (by decide)
    go_upto_region 19 with fail
    have HP_ := hid (fun y => T3a.out.put 6 y (by decide))
    generalize hz_ : World.setCell _ (⟨g, 6, none⟩ : Addr) _ = w_T3
    have T3 : Hid (BI l S w g r w_T3) := hid (by rw [← hz_]; exact HP_.out _)
    clear hz_ HP_ cx_ zx_ T3a
    obtain ⟨c1, xs, hl, hbx⟩ := T3.out.b
    obtain ⟨c2, ys, hl2, hby⟩ := T3.out.rb
    have Hx := hid hbx
    have Hy := hid hby
    have Hl := hid (show (biL c1 xs).length = 7 by unfold biL; rw [List.length_cons, List.length_map, hl])
    have Hl2 := hid (show (biL c2 ys).length = 7 by unfold biL; rw [List.length_cons, List.length_map, hl2])
    have Hone := hid (biL_one c1 xs)
    have Hxs := hid hl
    clear hbx hby hl hl2
    generalize hcs : biL c1 xs = cs_ at *
    have Hcs := hid hcs
    clear hcs
    go_wp2_with (first | (refine wpList_load_blk rfl 41 _ rfl g rfl cs_ Hx.out _ Tryz.underlying41 rfl (by rw [Hl.out]; exact I0.out) ?_) | (refine wpList_store_blk rfl 41 _ _ rfl r rfl cs_ rfl Hy.out (by rw [Hl.out, Hl2.out]) (by rw [Hl.out]; exact I0.out) Hone.out ?_; intro w9 HB9 HU9))
    refine bodyPost_ret (results_cell_tmp (cs := cs_) Tryz.results241 rfl (by rw [Hl.out]; exact agg_bi) HB9.out) rfl ?_
    exact ⟨c1, xs, _, Hxs.out, by rw [Hcs.out]; rfl, hid (T3.out.bel.trans (HU9.out.below T3.out.lr T3.out.bel.size))⟩
  as_aux_lemma =>
  have d9 : decide ((k : Int) < 0) = false := decide_eq_false (by omega)
  obtain ⟨⟨x_, cx_⟩, zx_⟩ := H3.out.icell (i := 2) (by decide) (by decide)
  go_upto_region 11 with fail
  have HP_ := hid (fun y => H3.out.put 2 y (by decide))
  generalize hz_ : World.setCell _ (⟨g, 2, none⟩ : Addr) _ = w_H4
  have H4 : Hid (BI l S w g r w_H4) := hid (by rw [← hz_]; exact HP_.out _)
  clear hz_ HP_ cx_ zx_ H3
  obtain ⟨⟨x_, cx_⟩, zx_⟩ := H4.out.icell (i := 1) (by decide) (by decide)
  go_upto_region 12 with fail
  have HP_ := hid (fun y => H4.out.put 1 y (by decide))
  generalize hz_ : World.setCell _ (⟨g, 1, none⟩ : Addr) _ = w_H5
  have H5 : Hid (BI l S w g r w_H5) := hid (by rw [← hz_]; exact HP_.out _)
  clear hz_ HP_ cx_ zx_ H4
  obtain ⟨⟨y, cy⟩, zy⟩ := H5.out.icell (i := 3) (by decide) (by decide)
  by_cases hy : y < (n : Int)
  · as_aux_lemma =>
    have d1 : decide (y < (n : Int)) = true := decide_eq_true hy
    go_upto_region 14 with fail
    have HP_ := hid (fun y => H5.out.put 3 y (by decide))
    generalize hz_ : World.setCell _ (⟨g, 3, none⟩ : Addr) _ = w_6
    have H6 : Hid (BI l S w g r w_6) := hid (by rw [← hz_]; exact HP_.out _)
    clear hz_ HP_ cy zy H5
    go_wp2
    exact ⟨⟨k + n, by go_num, by omega, by omega, H6⟩, by simp [intOf]; omega⟩
  · as_aux_lemma =>
    have d1 : decide (y < (n : Int)) = false := decide_eq_false hy
    go_wp2
    exact ⟨⟨k + n, by go_num, by omega, by omega, H5⟩, by simp [intOf]; omega⟩
end
end Go.Proofs.Qxb6500887aGreat
