/- Census, exactly (written by tools/mk_at4.py). -/
import Derived.Test.Qxb6500887aGreatAt3
namespace Go.Proofs.Qxb6500887aGreat
open Go.RowKit
set_option linter.unusedSimpArgs false
set_option linter.unusedVariables false
/-- Census' records. -/
def ceG (l : AL) (gc rr bx : Nat) (y0 y1 y2 y3 : Nat) (s : CeT) : List (Nat × TypeId × List Value) := [(gc, 44, [.int .i64 (y0 : Int), .int .i64 (y1 : Int), .int .i64 (y2 : Int), .int .i64 (y3 : Int), .int .i64 (s.ob : Int), .int .i64 (s.wd : Int), .int .i64 (s.fl : Int), .int .i64 (s.lk : Int)]), (rr, 44, [.int .i64 0, .int .i64 0, .int .i64 0, .int .i64 0, .int .i64 0, .int .i64 0, .int .i64 0, .int .i64 0]), (bx, 24, [.pointer (some ⟨l.a, 0, none⟩)])]
section
variable {l : AL} {S : AS} {w w' w0 : World} {p q : Nat} {cs : List Value} {o : Ob}
theorem lnF_le (W : Nat → Nat) (k n : Nat) : lnF W k n ≤ n := cnt_bound _ _
set_option maxRecDepth 100000 in
set_option maxHeartbeats 8000000 in
theorem census1X {gc rr bx y0 y1 y2 y3 ob wd fl lk : Nat} (H2 : Hid (OwV (AM l S) w0 [(gc, 44, [.int .i64 (y0 : Int), .int .i64 (y1 : Int), .int .i64 (y2 : Int), .int .i64 (y3 : Int), .int .i64 (ob : Int), .int .i64 (wd : Int), .int .i64 (fl : Int), .int .i64 (lk : Int)]), (rr, 44, [.int .i64 0, .int .i64 0, .int .i64 0, .int .i64 0, .int .i64 0, .int .i64 0, .int .i64 0, .int .i64 0]), (bx, 24, [.pointer (some ⟨l.a, 0, none⟩)])] w)) (k : Nat) (v : Int) (hk : k < 16384) (hC : eN 2 32 S.C k ≠ 0) (h1 : ob ≤ k) (h2 : wd ≤ 8193 * k) (h3 : fl ≤ 8192 * k) (h4 : lk ≤ 8192 * k) : Calls Tryz.prog 266 #[.int .i64 (k : Int), .int .u64 v, .pointer (some ⟨bx, 0, none⟩), .pointer (some ⟨gc, 0, none⟩)] w (fun e w' => e = .returned (.bool true) ∧ OwV (AM l S) w0 (ceG l gc rr bx y0 y1 y2 y3 (ceStep (abE S) k ⟨ob, wd, fl, lk⟩)) w') := by
  have I0 := hid info_ob
  have k2 : w.cell? ⟨bx, 0, none⟩ = some (.pointer (some ⟨l.a, 0, none⟩)) := H2.out.cell (k := 2) rfl 0
  have HO := hid (openGranuleZ H2.out.b k hk)
  have Hlen := hid (opL_len l S k)
  have Hone := hid (opL_one l S k)
  have HOk := hid (fun (hc : opC S k = 0) => (opC_ok hk (H2.out.b.wl _) hc).2.1)
  have HC0 := hid hC
  clear hC
  go_enter Tryz.func266, Tryz.ntmps266
  go_wp2_with fail
  refine HO.out.mono ?_
  rintro e w3 ⟨rfl, hb3⟩
  have H3 := hid (H2.out.below hb3)
  clear hb3 H2 HO k2
  obtain ⟨q, hq⟩ : ∃ q, w3.heap.size = q := ⟨_, rfl⟩
  have HN : Hid (Blk (w3.alloc (.cells #[.pointer none, .int .i64 0, .int .u64 0, .int .i64 0, .int .i64 0] 61)) q 61 ob0) := hid (by
    have kk := Blk.new w3 ob0 61
    rw [hq] at kk
    exact kk)
  (try simp only [hq])
  go_upto_region 2 with (refine wpList_store_blk rfl 61 _ _ rfl q rfl (opL l S k) rfl HN.out (by rw [Hlen.out]; rfl) (by rw [Hlen.out]; exact I0.out) Hone.out ?_; intro w4 HB4 HU4)
  by_cases hc : opC S k = 0
  rotate_left
  · as_aux_lemma =>
    have H4 := hid ((H3.out.newSet (cs := ob0) hq HU4.out HB4.out).drop)
    have HR : Hid (ceStep (abE S) k ⟨ob, wd, fl, lk⟩ = ⟨ob, wd, fl, lk⟩) := hid (by
      unfold ceStep
      rw [if_neg (show ¬ (abE S).C k = 0 from HC0.out), if_neg (show ¬ opW (abE S).W k = 0 from hc)])
    have dc : (opC S k == 0) = false := by simpa using hc
    have dc2 : (opC S k != 0) = true := by simp [bne, dc]
    generalize opC S k = c at *
    clear hc HB4 HU4 H3 HN hq
    go_wp2
    go_ret
    exact ⟨rfl, by rw [HR.out]; exact H4.out⟩
  as_aux_lemma =>
  have hob := HOk.out hc
  have e1 : opL l S k = obL l (opO S k) := by unfold opL; rw [if_pos hc]
  rw [e1] at HB4
  rw [hc]
  have H4 : Hid (OwV (AM l S) w0 [(q, 61, obL l (opO S k)), (gc, 44, [.int .i64 (y0 : Int), .int .i64 (y1 : Int), .int .i64 (y2 : Int), .int .i64 (y3 : Int), .int .i64 (ob : Int), .int .i64 (wd : Int), .int .i64 (fl : Int), .int .i64 (lk : Int)]), (rr, 44, [.int .i64 0, .int .i64 0, .int .i64 0, .int .i64 0, .int .i64 0, .int .i64 0, .int .i64 0, .int .i64 0]), (bx, 24, [.pointer (some ⟨l.a, 0, none⟩)])] w4) := hid (H3.out.newSet (cs := ob0) hq HU4.out HB4.out)
  have HR0 : Hid (ceStep (abE S) k ⟨ob, wd, fl, lk⟩ = ⟨ob + 1, wd + (1 + (opO S k).sz), fl + (opO S k).rf, lk + lnF S.W ((opO S k).k + 1) (opO S k).rf⟩) := hid (by
    unfold ceStep
    rw [if_neg (show ¬ (abE S).C k = 0 from HC0.out), if_pos (show opW (abE S).W k = 0 from hc)]
    rfl)
  clear HB4 HU4 H3 HN hq HOk Hlen Hone e1 hc HC0
  have hs2 := hob.s2
  have hs3 := hob.rf
  have HLk := hid (fun wz (hz : AM l S wz) => linksX hz hob)
  have HWd := hid (fun wz => hdWordsZ (opO S k).sz (opO S k).rf hs2 wz)
  have hkb := hob.k
  have hlb := lnF_le S.W ((opO S k).k + 1) (opO S k).rf
  generalize hoo : opO S k = o at *
  clear hoo hob
  generalize hL : lnF S.W (o.k + 1) o.rf = nl at *
  clear hL
  have HLk2 : Hid (∀ wz, AM l S wz → Calls Tryz.prog 267 #[.agg #[.pointer (some ⟨l.a, 0, none⟩), .int .i64 (o.k : Int), .int .u64 (o.raw : Int), .int .i64 (o.sz : Int), .int .i64 (o.rf : Int)]] wz fun e w' => e = .returned (.int .i64 (nl : Int)) ∧ Below wz.heap.size wz w') := hid (fun wz hz => (HLk.out wz hz).mono (by rintro e w1 ⟨rfl, h⟩; exact ⟨rfl, h.out⟩))
  obtain ⟨ob1, hob1⟩ : ∃ x, ob + 1 = x := ⟨_, rfl⟩
  have eo1 : (ob : Int) + 1 = (ob1 : Int) := by omega
  obtain ⟨wd1, hwd1⟩ : ∃ x, wd + (1 + o.sz) = x := ⟨_, rfl⟩
  have ew1 : (wd : Int) + (1 + (o.sz : Int)) = (wd1 : Int) := by omega
  have ew2 : (wd : Int) + ((o.sz : Int) + 1) = (wd1 : Int) := by omega
  obtain ⟨fl1, hfl1⟩ : ∃ x, fl + o.rf = x := ⟨_, rfl⟩
  have ef1 : (fl : Int) + (o.rf : Int) = (fl1 : Int) := by omega
  obtain ⟨lk1, hlk1⟩ : ∃ x, lk + nl = x := ⟨_, rfl⟩
  have el1 : (lk : Int) + (nl : Int) = (lk1 : Int) := by omega
  have hbd : ob1 ≤ 20000 ∧ wd1 ≤ 200000000 ∧ fl1 ≤ 200000000 ∧ lk1 ≤ 200000000 := by omega
  have HR : Hid (ceStep (abE S) k ⟨ob, wd, fl, lk⟩ = ⟨ob1, wd1, fl1, lk1⟩) := hid (by rw [HR0.out, hob1, hwd1, hfl1, hlk1])
  clear HR0 hob1 hwd1 hfl1 hlk1 HLk
  have cx_ : w4.cell? ⟨gc, 4, none⟩ = some (.int .i64 (ob : Int)) := H4.out.cell (k := 1) rfl 4
  have zx_ := H4.out.frozen (k := 1) rfl 4
  go_upto_region 5 with fail
  have HP_ := hid (fun y => H4.out.put (k := 1) rfl 4 y)
  generalize hz_ : World.setCell _ (⟨gc, 4, none⟩ : Addr) _ = w_H5
  have H5 : Hid (OwV (AM l S) w0 [(q, 61, obL l o), (gc, 44, [.int .i64 (y0 : Int), .int .i64 (y1 : Int), .int .i64 (y2 : Int), .int .i64 (y3 : Int), .int .i64 (ob1 : Int), .int .i64 (wd : Int), .int .i64 (fl : Int), .int .i64 (lk : Int)]), (rr, 44, [.int .i64 0, .int .i64 0, .int .i64 0, .int .i64 0, .int .i64 0, .int .i64 0, .int .i64 0, .int .i64 0]), (bx, 24, [.pointer (some ⟨l.a, 0, none⟩)])] w_H5) := hid (by rw [← hz_]; exact HP_.out _)
  clear hz_ HP_ cx_ zx_ H4
  go_upto_region 5 with fail
  obtain ⟨X, W, HTT, HH0, hne, HCl⟩ := class_below w_H5
  have y9 : ∀ y, (W y).cell? ⟨gc, 5, none⟩ = some (.int .i64 (wd : Int)) := fun y => (H5.out.below (HTT.out y)).cell (k := 1) rfl 5
  have z0 : ∀ y, (W y).cell? ⟨q, 0, none⟩ = some (.pointer (some ⟨l.a, 0, none⟩)) := fun y => (H5.out.below (HTT.out y)).cell (k := 0) rfl 0
  have z1 : ∀ y, (W y).cell? ⟨q, 1, none⟩ = some (.int .i64 (o.k : Int)) := fun y => (H5.out.below (HTT.out y)).cell (k := 0) rfl 1
  have z2 : ∀ y, (W y).cell? ⟨q, 2, none⟩ = some (.int .u64 (o.raw : Int)) := fun y => (H5.out.below (HTT.out y)).cell (k := 0) rfl 2
  have z3 : ∀ y, (W y).cell? ⟨q, 3, none⟩ = some (.int .i64 (o.sz : Int)) := fun y => (H5.out.below (HTT.out y)).cell (k := 0) rfl 3
  have z4 : ∀ y, (W y).cell? ⟨q, 4, none⟩ = some (.int .i64 (o.rf : Int)) := fun y => (H5.out.below (HTT.out y)).cell (k := 0) rfl 4
  have HCt := hid (fun y => HWd.out (W y))
  refine wp_region_class_lastT W rfl (by kernel_rfl) (by kernel_rfl) (by kernel_rfl) HH0.out ?_
  dsimp only [List.dropLast, List.getLast]
  repeat (go_big_quiet_step (first | (go_at_call 42; with_reducible exact Calls.class_of HCl.out (HCt.out _))))
  refine wpQuiet_nil ?_
  intro y
  have Hq := hid (H5.out.below (HTT.out y))
  generalize W y = wq at Hq ⊢
  clear z0 z1 z2 z3 z4 y9 HCt HH0 HTT HCl hne H5
  have cx_ : wq.cell? ⟨gc, 5, none⟩ = some (.int .i64 (wd : Int)) := Hq.out.cell (k := 1) rfl 5
  have zx_ := Hq.out.frozen (k := 1) rfl 5
  go_upto_region 6 with fail
  have HP_ := hid (fun y => Hq.out.put (k := 1) rfl 5 y)
  generalize hz_ : World.setCell _ (⟨gc, 5, none⟩ : Addr) _ = w_H6
  have H6 : Hid (OwV (AM l S) w0 [(q, 61, obL l o), (gc, 44, [.int .i64 (y0 : Int), .int .i64 (y1 : Int), .int .i64 (y2 : Int), .int .i64 (y3 : Int), .int .i64 (ob1 : Int), .int .i64 (wd1 : Int), .int .i64 (fl : Int), .int .i64 (lk : Int)]), (rr, 44, [.int .i64 0, .int .i64 0, .int .i64 0, .int .i64 0, .int .i64 0, .int .i64 0, .int .i64 0, .int .i64 0]), (bx, 24, [.pointer (some ⟨l.a, 0, none⟩)])] w_H6) := hid (by rw [← hz_]; exact HP_.out _)
  clear hz_ HP_ cx_ zx_ Hq
  have q0 := H6.out.cell (k := 0) rfl 0
  have q1 := H6.out.cell (k := 0) rfl 1
  have q2 := H6.out.cell (k := 0) rfl 2
  have q3 := H6.out.cell (k := 0) rfl 3
  have q4 := H6.out.cell (k := 0) rfl 4
  simp only [obL, List.getElem?_cons_zero, List.getElem?_cons_succ] at q0 q1 q2 q3 q4
  have cx_ : w_H6.cell? ⟨gc, 6, none⟩ = some (.int .i64 (fl : Int)) := H6.out.cell (k := 1) rfl 6
  have zx_ := H6.out.frozen (k := 1) rfl 6
  go_upto_region 7 with fail
  have HP_ := hid (fun y => H6.out.put (k := 1) rfl 6 y)
  generalize hz_ : World.setCell _ (⟨gc, 6, none⟩ : Addr) _ = w_H7
  have H7 : Hid (OwV (AM l S) w0 [(q, 61, obL l o), (gc, 44, [.int .i64 (y0 : Int), .int .i64 (y1 : Int), .int .i64 (y2 : Int), .int .i64 (y3 : Int), .int .i64 (ob1 : Int), .int .i64 (wd1 : Int), .int .i64 (fl1 : Int), .int .i64 (lk : Int)]), (rr, 44, [.int .i64 0, .int .i64 0, .int .i64 0, .int .i64 0, .int .i64 0, .int .i64 0, .int .i64 0, .int .i64 0]), (bx, 24, [.pointer (some ⟨l.a, 0, none⟩)])] w_H7) := hid (by rw [← hz_]; exact HP_.out _)
  clear hz_ HP_ cx_ zx_ H6
  clear q0 q1 q2 q3 q4
  go_upto_region 7 with fail
  obtain ⟨X, W, HTT, HH0, hne, HCl⟩ := class_below w_H7
  have y9 : ∀ y, (W y).cell? ⟨gc, 7, none⟩ = some (.int .i64 (lk : Int)) := fun y => (H7.out.below (HTT.out y)).cell (k := 1) rfl 7
  have z0 : ∀ y, (W y).cell? ⟨q, 0, none⟩ = some (.pointer (some ⟨l.a, 0, none⟩)) := fun y => (H7.out.below (HTT.out y)).cell (k := 0) rfl 0
  have z1 : ∀ y, (W y).cell? ⟨q, 1, none⟩ = some (.int .i64 (o.k : Int)) := fun y => (H7.out.below (HTT.out y)).cell (k := 0) rfl 1
  have z2 : ∀ y, (W y).cell? ⟨q, 2, none⟩ = some (.int .u64 (o.raw : Int)) := fun y => (H7.out.below (HTT.out y)).cell (k := 0) rfl 2
  have z3 : ∀ y, (W y).cell? ⟨q, 3, none⟩ = some (.int .i64 (o.sz : Int)) := fun y => (H7.out.below (HTT.out y)).cell (k := 0) rfl 3
  have z4 : ∀ y, (W y).cell? ⟨q, 4, none⟩ = some (.int .i64 (o.rf : Int)) := fun y => (H7.out.below (HTT.out y)).cell (k := 0) rfl 4
  have HCt := hid (fun y => HLk2.out (W y) (H7.out.below (HTT.out y)).b)
  refine wp_region_class_lastT W rfl (by kernel_rfl) (by kernel_rfl) (by kernel_rfl) HH0.out ?_
  dsimp only [List.dropLast, List.getLast]
  repeat (go_big_quiet_step (first | (go_at_call 267; with_reducible exact Calls.class_of HCl.out (HCt.out _))))
  refine wpQuiet_nil ?_
  intro y
  have Hq := hid (H7.out.below (HTT.out y))
  generalize W y = wq at Hq ⊢
  clear z0 z1 z2 z3 z4 y9 HCt HH0 HTT HCl hne H7
  have cx_ : wq.cell? ⟨gc, 7, none⟩ = some (.int .i64 (lk : Int)) := Hq.out.cell (k := 1) rfl 7
  have zx_ := Hq.out.frozen (k := 1) rfl 7
  go_upto_region 8 with fail
  have HP_ := hid (fun y => Hq.out.put (k := 1) rfl 7 y)
  generalize hz_ : World.setCell _ (⟨gc, 7, none⟩ : Addr) _ = w_H8
  have H8 : Hid (OwV (AM l S) w0 [(q, 61, obL l o), (gc, 44, [.int .i64 (y0 : Int), .int .i64 (y1 : Int), .int .i64 (y2 : Int), .int .i64 (y3 : Int), .int .i64 (ob1 : Int), .int .i64 (wd1 : Int), .int .i64 (fl1 : Int), .int .i64 (lk1 : Int)]), (rr, 44, [.int .i64 0, .int .i64 0, .int .i64 0, .int .i64 0, .int .i64 0, .int .i64 0, .int .i64 0, .int .i64 0]), (bx, 24, [.pointer (some ⟨l.a, 0, none⟩)])] w_H8) := hid (by rw [← hz_]; exact HP_.out _)
  clear hz_ HP_ cx_ zx_ Hq
  go_wp2
  go_ret
  exact ⟨rfl, by rw [HR.out]; exact H8.out.drop⟩
/-- What a visit to all counted granules keeps. -/
def CeI (l : AL) (S : AS) (w0 : World) (gc rr bx y0 y1 y2 y3 : Nat) (q : Option Nat) (w : World) : Prop := ∃ n, q = some n ∧ n ≤ 16384 ∧ OwV (AM l S) w0 (ceG l gc rr bx y0 y1 y2 y3 (ceS (abE S) n)) w
theorem ceS_skip {S : AS} {q : Nat} (h : eN 2 32 S.C q = 0) : ceS (abE S) (q + 1) = ceS (abE S) q := by
  show ceStep (abE S) q (ceS (abE S) q) = _
  unfold ceStep
  rw [if_pos (show (abE S).C q = 0 from h)]
theorem censusEach {gc rr bx y0 y1 y2 y3 : Nat} (h : OwV (AM l S) w0 (ceG l gc rr bx y0 y1 y2 y3 ⟨0, 0, 0, 0⟩) w) : Calls Tryz.prog 230 #[.pointer (some ⟨l.tc, 0, none⟩), .int .i64 ((0 : Nat) : Int), .int .i64 ((16384 : Nat) : Int), .func (.func 266) #[] #[.pointer (some ⟨bx, 0, none⟩), .pointer (some ⟨gc, 0, none⟩)]] w fun e w' => e = .returned (.bool true) ∧ OwV (AM l S) w0 (ceG l gc rr bx y0 y1 y2 y3 (ceS (abE S) 16384)) w' := by
  refine (TB.eachX (n := 16384) (wd := 2) (per := 32) (len := 512) (X := S.C) (b := l.bc) (t := l.tc) (w := w) 266 #[.pointer (some ⟨bx, 0, none⟩), .pointer (some ⟨gc, 0, none⟩)] (CeI l S w0 gc rr bx y0 y1 y2 y3) 0 16384 ⟨0, rfl, Nat.zero_le _, h⟩ (fun q w1 ⟨_, _, _, h1⟩ => h1.b.tc) (fun q w1 w2 ⟨n, h1, h2, h3⟩ hb => ⟨n, h1, h2, h3.below hb⟩) (by omega) (by omega) ?_ ?_ ent_ce).mono ?_
  · rintro k w1 k1 k2 k3 ⟨n, hn, h1, h2⟩
    cases hn
    obtain ⟨b1, b2, b3, b4⟩ := ceS_le (abE S) k h1
    refine (census1X (hid h2) k _ k2 k3 b1 b2 b3 b4).mono ?_
    rintro e w' ⟨he, h3⟩
    exact ⟨true, he, k + 1, rfl, k2, h3⟩
  · rintro q w1 q1 q2 q3 ⟨n, hn, h1, h2⟩
    cases hn
    refine ⟨q + 1, rfl, q2, ?_⟩
    rw [ceS_skip q3]
    exact h2
  · rintro e w' ⟨he, q, hq, n, hn, h1, h2⟩
    rcases hq with rfl | rfl
    · cases hn
    · cases hn
      exact ⟨he, h2⟩
def cN (E : ES) (b i : Nat) : Nat := if i < b then byN E i 16384 else 0
set_option maxRecDepth 100000 in
set_option maxHeartbeats 8000000 in
theorem censusX (h : AM l S w) : Calls Tryz.prog 240 #[.pointer (some ⟨l.a, 0, none⟩)] w fun e w' => ∃ xs : List Int, xs.length = 8 ∧ e = .returned (.agg (xs.map inV).toArray) ∧ Hid (xs = nI (ceL (abE S)) ∧ Below w.heap.size w w') := by
  obtain ⟨bx, hbx⟩ : ∃ r, w.heap.size = r := ⟨_, rfl⟩
  obtain ⟨rr, hrr⟩ : ∃ r, bx + 1 = r := ⟨_, rfl⟩
  have H0 : Hid (OwV (AM l S) w [(rr, 44, [.int .i64 0, .int .i64 0, .int .i64 0, .int .i64 0, .int .i64 0, .int .i64 0, .int .i64 0, .int .i64 0]), (bx, 24, [.pointer (some ⟨l.a, 0, none⟩)])] ((w.alloc (.cells #[.pointer (some ⟨l.a, 0, none⟩)] 24)).alloc (.cells #[.int .i64 0, .int .i64 0, .int .i64 0, .int .i64 0, .int .i64 0, .int .i64 0, .int .i64 0, .int .i64 0] 44))) := hid (((OwV.start h AM.stays).new hbx 24 [.pointer (some ⟨l.a, 0, none⟩)]).new (by rw [World.size_alloc]; omega) 44 [.int .i64 0, .int .i64 0, .int .i64 0, .int .i64 0, .int .i64 0, .int .i64 0, .int .i64 0, .int .i64 0])
  clear h
  have en1 : ∀ args w, (callFunc 266 args).run Tryz.prog w = .ok (.enter 266 args) w := ent_ce
  go_enter Tryz.func240, Tryz.ntmps240
  go_upto_region 1 with fail
  (try simp only [World.size_alloc, hbx, hrr])
  generalize hw1 : World.alloc (w.alloc _) _ = w1 at H0 ⊢
  clear hw1 hbx hrr
  obtain ⟨gc, hgc⟩ : ∃ u, w1.heap.size = u := ⟨_, rfl⟩
  have H1 : Hid (OwV (AM l S) w (ceG l gc rr bx (cN (abE S) 0 0) (cN (abE S) 0 1) (cN (abE S) 0 2) (cN (abE S) 0 3) ⟨0, 0, 0, 0⟩) (w1.alloc (.cells #[.int .i64 0, .int .i64 0, .int .i64 0, .int .i64 0, .int .i64 0, .int .i64 0, .int .i64 0, .int .i64 0] 44))) := hid (H0.out.new hgc 44 [.int .i64 0, .int .i64 0, .int .i64 0, .int .i64 0, .int .i64 0, .int .i64 0, .int .i64 0, .int .i64 0])
  go_upto_region 2 with fail
  (try simp only [hgc])
  generalize hw2 : w1.alloc _ = w2 at H1 ⊢
  clear hw2 hgc H0
  go_upto_region 3 with fail
  go_loopw [5] (fun u wr => ∃ b : Nat, u = .int .i64 (b : Int) ∧ b ≤ 4 ∧ Hid (OwV (AM l S) w (ceG l gc rr bx (cN (abE S) b 0) (cN (abE S) b 1) (cN (abE S) b 2) (cN (abE S) b 3) ⟨0, 0, 0, 0⟩) wr)) (fun u _ => 4 - (intOf u).toNat)
  case atStart => exact ⟨0, rfl, by omega, H1⟩
  case round =>
  clear H1
  obtain ⟨b, rfl, hb, HK⟩ := hrel
  have k1 := HK.out.b.cells.2.1
  have k2 : wr.cell? ⟨bx, 0, none⟩ = some (.pointer (some ⟨l.a, 0, none⟩)) := HK.out.cell (k := 2) rfl 0
  by_cases hbn : b < 4
  · as_aux_lemma =>
    have dq : decide ((b : Int) < 4) = true := decide_eq_true (by omega)
    have dq' : decide (b < 4) = true := decide_eq_true (by omega)
    have HN := hid (HK.out.b.tc.nEq 0 16384 b (by omega) (by omega) (by have : 2 ^ 2 - 1 = 3 := rfl; omega))
    obtain ⟨m, hm⟩ : ∃ m, cnt (fun i => eqP 2 32 S.C b (0 + i)) (16384 - 0) = m := ⟨_, rfl⟩
    rw [hm] at HN
    have HM : Hid (m = byN (abE S) b 16384) := hid (by rw [← hm]; simp only [Nat.zero_add, Nat.sub_zero]; rfl)
    clear hm
    go_wp2_with fail
    refine HN.out.mono ?_
    rintro e w3 ⟨rfl, hb_⟩
    have HR := hid (HK.out.below hb_)
    have cx_ : ∃ v, w3.cell? ⟨gc, b, none⟩ = some v := by
      have hc := HR.out.cell (k := 0) rfl b
      refine ⟨_, hc.trans (List.getElem?_eq_getElem (by show b < 8; omega))⟩
    obtain ⟨x_, cx_⟩ := cx_
    have zx_ := HR.out.frozen (k := 0) rfl b
    clear hb_ HK HN k1 k2
    go_upto_region 6 with fail
    have HP_ := hid (fun y => HR.out.put (k := 0) rfl b y)
    generalize hz_ : World.setCell _ (⟨gc, b, none⟩ : Addr) _ = w_4
    have HF : Hid (OwV (AM l S) w (ceG l gc rr bx (cN (abE S) (b + 1) 0) (cN (abE S) (b + 1) 1) (cN (abE S) (b + 1) 2) (cN (abE S) (b + 1) 3) ⟨0, 0, 0, 0⟩) w_4) := hid (by
      rw [← hz_]
      have hp := HP_.out (.int .i64 (m : Int))
      rw [HM.out] at hp ⊢
      have hb4 : b = 0 ∨ b = 1 ∨ b = 2 ∨ b = 3 := by omega
      rcases hb4 with rfl | rfl | rfl | rfl <;> exact hp)
    clear hz_ HP_ cx_ zx_ HR HM
    go_wp2
    exact ⟨⟨b + 1, by go_num, by omega, HF⟩, by simp [intOf]; omega⟩
  as_aux_lemma =>
  have dq : decide ((b : Int) < 4) = false := decide_eq_false (by omega)
  have dq' : decide (b < 4) = false := decide_eq_false (by omega)
  have eb : b = 4 := by omega
  subst eb
  have HE := hid (censusEach HK.out)
  go_wp2_with fail
  refine HE.out.mono ?_
  rintro e w4 ⟨rfl, h4⟩
  have H4 := hid h4
  clear h4 HK k1 k2 HE
  obtain ⟨cs_, hcs⟩ : ∃ cs : List Value, (nI (ceL (abE S))).map inV = cs := ⟨_, rfl⟩
  have Hx : Hid (Blk w4 gc 44 cs_) := hid (by rw [← hcs]; exact H4.out.blk (k := 0) rfl)
  have Hy := hid (H4.out.blk (k := 1) rfl)
  have Hl : Hid (cs_.length = 8) := hid (by rw [← hcs]; rfl)
  have Hone : Hid (∀ u ∈ cs_, u.oneCell' = true) := hid (by rw [← hcs]; exact inV_one _)
  have Hcs := hid hcs
  clear hcs
  go_wp2_with (first | (refine wpList_load_blk rfl 44 _ rfl gc rfl cs_ Hx.out _ Tryz.underlying44 rfl (by rw [Hl.out]; exact info_ce) ?_) | (refine wpList_store_blk rfl 44 _ _ rfl rr rfl cs_ rfl Hy.out (by rw [Hl.out]; rfl) (by rw [Hl.out]; exact info_ce) Hone.out ?_; intro w9 HB9 HU9))
  refine bodyPost_ret (results_blk (cs := cs_) Tryz.results240 rfl (by rw [Hl.out]; exact agg_ce) HB9.out) rfl ?_
  exact ⟨nI (ceL (abE S)), rfl, by rw [Hcs.out], hid ⟨rfl, H4.out.out (k := 1) rfl HU9.out⟩⟩
end
end Go.Proofs.Qxb6500887aGreat
