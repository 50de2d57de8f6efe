/- sameWorld: two worlds of one plain state. -/
import Derived.Test.Qxb6500888aBaQ7
import Derived.Test.Qxb6500888aBaQ2
namespace Go.Proofs.Qxb6500888a
open Go.RowKit
set_option linter.unusedSimpArgs false
set_option linter.unusedVariables false
attribute [local irreducible] wdC

theorem OwR.rdW {w : World} {n0 : Nat} {a : Option Addr} {n q : Nat} {xs : List Nat} (h : OwR rtA n0 w (.slice a n q) xs) : ∀ wx : World, Below w.heap.size w wx → ∀ (i x : Nat), xs[i]? = some x → ∃ g, a = some ⟨g, 0, none⟩ ∧ wx.cell? ⟨g, i, none⟩ = some (.int .u64 (x : Int)) := fun wx hx i x hix => by
  obtain ⟨a', q', e, hget⟩ := (h.below hx).rdA
  injection e with e1 e2 e3
  subst e1
  obtain ⟨g, e4, _, _, e5⟩ := hget i x hix
  exact ⟨g, e4, e5⟩
theorem OwR.rdV {w : World} {n0 : Nat} {a : Option Addr} {n q : Nat} {xs : List (Nat × Nat)} (h : OwR rtE n0 w (.slice a n q) xs) : ∀ wx : World, Below w.heap.size w wx → ∀ (i : Nat) (x : Nat × Nat), xs[i]? = some x → ∃ g, a = some ⟨g, 0, none⟩ ∧ wx.cell? ⟨g, i * 2, none⟩ = some (.int .u64 (x.1 : Int)) ∧ wx.cell? ⟨g, i * 2 + 1, none⟩ = some (.int .u64 (x.2 : Int)) := fun wx hx i x hix => by
  obtain ⟨a', q', e, hget⟩ := (h.below hx).rdE
  injection e with e1 e2 e3
  subst e1
  obtain ⟨g, e4, _, _, e5, e6⟩ := hget i x hix
  exact ⟨g, e4, e5, e6⟩
set_option maxRecDepth 1000000 in
set_option maxHeartbeats 8000000 in
theorem sameWorld_walk {w : World} {ρ1 ρ2 : Rl} {L1 L2 : GL} {T1 T2 : BL} {G : GS} {B : BS} {wB1 wB2 N : Nat} (h1 : WM w ρ1 L1 T1 G B wB1) (h2 : WM w ρ2 L2 T2 G B wB2) (hB : BOk B N) (hN : N ≤ 100000000) :
    Calls Try.prog 36 #[.pointer (some ⟨wB1, 0, none⟩), .pointer (some ⟨wB2, 0, none⟩)] w fun e w' => e = .returned (.bool true) ∧ Below w.heap.size w w' := by
  have H1 := hid h1
  have H2 := hid h2
  have HB := hid hB
  have HN := hid hN
  clear h1 h2 hB hN
  go_enter Try.func36, Try.ntmps36
  go_upto_region 1 with fail
  obtain ⟨X, W, HTT, H0, hne, HC⟩ := class_below w
  have y1 : ∀ y, (W y).cell? ⟨wB1, 3, none⟩ = some (.pointer (some ⟨T1.bB, 0, none⟩)) := fun y => (H1.out.below (HTT.out y)).cells.2.2.2
  have y2 : ∀ y, (W y).cell? ⟨wB2, 3, none⟩ = some (.pointer (some ⟨T2.bB, 0, none⟩)) := fun y => (H2.out.below (HTT.out y)).cells.2.2.2
  have HS1 : Hid (∀ y, Calls Try.prog 38 #[.pointer (some ⟨T1.bB, 0, none⟩)] (W y) fun e w' => e = .returned (.agg (stC B 4 4 4).toArray) ∧ Below (W y).heap.size (W y) w') := hid (fun y => stats_walk (H1.out.below (HTT.out y)).bm HB.out (by have := HN.out; omega))
  have HS2 : Hid (∀ y, Calls Try.prog 38 #[.pointer (some ⟨T2.bB, 0, none⟩)] (W y) fun e w' => e = .returned (.agg (stC B 4 4 4).toArray) ∧ Below (W y).heap.size (W y) w') := hid (fun y => stats_walk (H2.out.below (HTT.out y)).bm HB.out (by have := HN.out; omega))
  obtain ⟨x0, x1, x2, x3, x4, x5, est⟩ : ∃ x0 x1 x2 x3 x4 x5 : Nat, (stC B 4 4 4).toArray = #[.int .u64 (x0 : Int), .int .i64 (x1 : Int), .int .i64 (x2 : Int), .int .i64 (x3 : Int), .int .i64 (x4 : Int), .int .i64 (x5 : Int)] := ⟨_, _, _, _, _, _, rfl⟩
  rw [est] at HS1 HS2
  clear est
  refine wp_region_class W (by kernel_rfl) (by kernel_rfl) H0.out ?_
  repeat (go_big_quiet_step (first
    | (go_at_call 38; with_reducible exact Calls.class_of HC.out (HS1.out _))
    | (go_at_call 38; with_reducible exact Calls.class_of HC.out (HS2.out _))))
  refine wpQuiet_nil ?_
  intro z
  have HBz := hid (HTT.out z)
  generalize W z = wz at HBz ⊢
  clear y1 y2 HS1 HS2 H0 HTT HC hne
  go_wp2_with fail
  go_loopw [5] (fun v wr => ∃ m : Nat, m ≤ 4 ∧ v = .int .i64 (m : Int) ∧ Hid (Below w.heap.size w wr)) (fun v _ => 4 - (intOf v).toNat)
  case atStart => exact ⟨0, by omega, rfl, HBz⟩
  case round =>
  clear HBz
  obtain ⟨m, hm, rfl, HBm⟩ := hrel
  by_cases hm4 : m < 4
  rotate_left
  · as_aux_lemma =>
    have dm : decide ((m : Int) < 4) = false := decide_eq_false (by omega)
    go_upto_region 31 with fail
    obtain ⟨X, W, HTT, H0, hne, HC⟩ := class_below wr
    have HX : Hid (∀ y, Below w.heap.size w (W y)) := hid (fun y => HBm.out.trans ((HTT.out y).mono HBm.out.size))
    have a1 : ∀ y, (W y).cell? ⟨wB1, 0, none⟩ = some (.pointer (some ⟨L1.hB, 0, none⟩)) := fun y => (H1.out.below (HX.out y)).cells.1
    have a2 : ∀ y, (W y).cell? ⟨wB2, 0, none⟩ = some (.pointer (some ⟨L2.hB, 0, none⟩)) := fun y => (H2.out.below (HX.out y)).cells.1
    have a3 : ∀ y, (W y).cell? ⟨wB1, 1, none⟩ = some (.pointer (some ⟨L1.sB, 0, none⟩)) := fun y => (H1.out.below (HX.out y)).cells.2.1
    have a4 : ∀ y, (W y).cell? ⟨wB2, 1, none⟩ = some (.pointer (some ⟨L2.sB, 0, none⟩)) := fun y => (H2.out.below (HX.out y)).cells.2.1
    have a5 : ∀ y, (W y).cell? ⟨wB1, 2, none⟩ = some (.pointer (some ⟨L1.cB, 0, none⟩)) := fun y => (H1.out.below (HX.out y)).cells.2.2.1
    have a6 : ∀ y, (W y).cell? ⟨wB2, 2, none⟩ = some (.pointer (some ⟨L2.cB, 0, none⟩)) := fun y => (H2.out.below (HX.out y)).cells.2.2.1
    have HG : Hid (∀ y, Calls Try.prog 20 #[.pointer (some ⟨L1.hB, 0, none⟩), .pointer (some ⟨L2.hB, 0, none⟩), .pointer (some ⟨L1.sB, 0, none⟩), .pointer (some ⟨L2.sB, 0, none⟩), .pointer (some ⟨L1.cB, 0, none⟩), .pointer (some ⟨L2.cB, 0, none⟩), .bool true] (W y) fun e w' => e = .returned (.bool true) ∧ Below (W y).heap.size (W y) w') := hid (fun y => sameGround_walk (H1.out.below (HX.out y)).bm.gm (H2.out.below (HX.out y)).bm.gm true ⟨rfl, fun _ _ => rfl, fun _ _ => rfl, fun _ _ _ => rfl, rfl, rfl, rfl⟩)
    refine wp_region_class W (by kernel_rfl) (by kernel_rfl) H0.out ?_
    repeat (go_big_quiet_step ((go_at_call 20; exact Calls.class_of HC.out (HG.out _))))
    refine wpQuiet_nil ?_
    intro z
    have HBz := hid (HX.out z)
    generalize W z = wz at HBz ⊢
    clear a1 a2 a3 a4 a5 a6 H0 HTT HC hne HX HG
    go_wp2
    go_ret
    exact ⟨rfl, HBz.out⟩
  have dm : decide ((m : Int) < 4) = true := decide_eq_true (by omega)
  have im : (m : Int) < 4 := by omega
  have Hm := hid hm4
  have HNn : Hid ((B.logs m).length ≤ 1000000000 ∧ (B.fresh m).length ≤ 1000000000 ∧ (B.roots m).length ≤ 64) := hid (by
    have h1 := HB.out.nl m
    have h2 := HB.out.nf m
    have h3 := HB.out.nr m
    have h4 := HN.out
    exact ⟨by omega, by omega, h3⟩)
  have HC1 := hid (roots_walk (H1.out.below HBm.out) hm4)
  go_wp2_with fail
  refine HC1.out.mono ?_
  rintro e wa ⟨va, rfl, ha, hba⟩
  have HBa := hid (HBm.out.trans (hba.mono HBm.out.size))
  have HC2 := hid (roots_walk (H2.out.below HBa.out) Hm.out)
  have Ha := hid ha
  clear HC1 ha hba
  go_wp2_with fail
  refine HC2.out.mono ?_
  rintro e wb ⟨vb, rfl, hbb, hbb2⟩
  have HBb := hid (HBa.out.trans (hbb2.mono HBa.out.size))
  have Hr : Hid (OwR rtA wr.heap.size wb va (B.roots m) ∧ OwR rtA wa.heap.size wb vb (B.roots m)) := hid ⟨Ha.out.below hbb2, hbb⟩
  have c1 := (H1.out.below HBb.out).cells.2.2.2
  have HC3 := hid (log_walk (H1.out.below HBb.out).bm Hm.out HNn.out.1)
  clear HC2 hbb hbb2 Ha HBa
  go_wp2_with fail
  refine HC3.out.mono ?_
  rintro e wc ⟨vc, rfl, hc, hbc⟩
  have HBc := hid (HBb.out.trans (hbc.mono HBb.out.size))
  have Hr2 : Hid (OwR rtA wr.heap.size wc va (B.roots m) ∧ OwR rtA wa.heap.size wc vb (B.roots m) ∧ OwR rtE wb.heap.size wc vc (B.logs m)) := hid ⟨Hr.out.1.below hbc, Hr.out.2.below hbc, hc⟩
  have c2 := (H2.out.below HBc.out).cells.2.2.2
  have HC4 := hid (log_walk (H2.out.below HBc.out).bm Hm.out HNn.out.1)
  clear HC3 hc hbc Hr HBb c1
  go_wp2_with fail
  refine HC4.out.mono ?_
  rintro e wd ⟨vd, rfl, hd, hbd⟩
  have HBd := hid (HBc.out.trans (hbd.mono HBc.out.size))
  have Hr3 : Hid (OwR rtA wr.heap.size wd va (B.roots m) ∧ OwR rtA wa.heap.size wd vb (B.roots m) ∧ OwR rtE wb.heap.size wd vc (B.logs m) ∧ OwR rtE wc.heap.size wd vd (B.logs m)) := hid ⟨Hr2.out.1.below hbd, Hr2.out.2.1.below hbd, Hr2.out.2.2.below hbd, hd⟩
  have c3 := (H1.out.below HBd.out).cells.2.2.2
  have HC5 := hid (fresh_walk (H1.out.below HBd.out).bm Hm.out HNn.out.2.1)
  clear HC4 hd hbd Hr2 HBc c2
  go_wp2_with fail
  refine HC5.out.mono ?_
  rintro e we1 ⟨ve, rfl, he, hbe⟩
  have HBe1 := hid (HBd.out.trans (hbe.mono HBd.out.size))
  have Hr4 : Hid (OwR rtA wr.heap.size we1 va (B.roots m) ∧ OwR rtA wa.heap.size we1 vb (B.roots m) ∧ OwR rtE wb.heap.size we1 vc (B.logs m) ∧ OwR rtE wc.heap.size we1 vd (B.logs m) ∧ OwR rtA wd.heap.size we1 ve (B.fresh m)) := hid ⟨Hr3.out.1.below hbe, Hr3.out.2.1.below hbe, Hr3.out.2.2.1.below hbe, Hr3.out.2.2.2.below hbe, he⟩
  have c4 := (H2.out.below HBe1.out).cells.2.2.2
  have HC6 := hid (fresh_walk (H2.out.below HBe1.out).bm Hm.out HNn.out.2.1)
  clear HC5 he hbe Hr3 HBd c3
  go_wp2_with fail
  refine HC6.out.mono ?_
  rintro e we ⟨vf, rfl, hf, hbf⟩
  have HBe := hid (HBe1.out.trans (hbf.mono HBe1.out.size))
  obtain ⟨a1, q1, ea⟩ := Hr4.out.1.shape
  obtain ⟨a2, q2, eb⟩ := Hr4.out.2.1.shape
  obtain ⟨a3, q3, ec⟩ := Hr4.out.2.2.1.shape
  obtain ⟨a4, q4, ed⟩ := Hr4.out.2.2.2.1.shape
  obtain ⟨a5, q5, ee⟩ := Hr4.out.2.2.2.2.shape
  obtain ⟨a6, q6, ef⟩ := hf.shape
  subst ea eb ec ed ee ef
  have HR1 := hid (Hr4.out.1.below hbf).rdW
  have HR2 := hid (Hr4.out.2.1.below hbf).rdW
  have HR3 := hid (Hr4.out.2.2.1.below hbf).rdV
  have HR4 := hid (Hr4.out.2.2.2.1.below hbf).rdV
  have HR5 := hid (Hr4.out.2.2.2.2.below hbf).rdW
  have HR6 := hid hf.rdW
  obtain ⟨n1, hn1⟩ : ∃ x, (B.roots m).length = x := ⟨_, rfl⟩
  obtain ⟨n3, hn3⟩ : ∃ x, (B.logs m).length = x := ⟨_, rfl⟩
  obtain ⟨n5, hn5⟩ : ∃ x, (B.fresh m).length = x := ⟨_, rfl⟩
  rw [hn1, hn3, hn5]
  have Hn1 := hid hn1
  have Hn3 := hid hn3
  have Hn5 := hid hn5
  have in1 : (n1 : Int) ≤ 1000000000 := by have := HNn.out; omega
  have in3 : (n3 : Int) ≤ 1000000000 := by have := HNn.out; omega
  have in5 : (n5 : Int) ≤ 1000000000 := by have := HNn.out; omega
  have HBr : Hid (Below we.heap.size we we) := hid (Below.refl _ _)
  have e1 : (!((n1 : Int) == (n1 : Int))) = false := by simp
  have e3 : (!((n3 : Int) == (n3 : Int))) = false := by simp
  have e5 : (!((n5 : Int) == (n5 : Int))) = false := by simp
  clear HC6 hf hbf Hr4 HBe1 c4 hn1 hn3 hn5 HNn
  as_aux_lemma =>
  go_wp2_with fail
  go_loopw [97] (fun v wr => ∃ j : Nat, j ≤ n1 ∧ v = .int .i64 (j : Int) ∧ Hid (Below we.heap.size we wr)) (fun v _ => n1 - (intOf v).toNat)
  case atStart => exact ⟨0, by omega, rfl, HBr⟩
  case round =>
  clear HBr
  obtain ⟨j, hj, rfl, HBr⟩ := hrel
  by_cases hjn : j < n1
  · as_aux_lemma =>
    have dj : decide ((j : Int) < (n1 : Int)) = true := decide_eq_true (by omega)
    have hij : (j : Int) < (n1 : Int) := by omega
    obtain ⟨x, hx⟩ : ∃ x, (B.roots m)[j]? = some x := ⟨(B.roots m)[j]'(by rw [Hn1.out]; exact hjn), List.getElem?_eq_getElem _⟩
    obtain ⟨g1, rfl, _⟩ := HR1.out _ HBr.out j x hx
    obtain ⟨g2, rfl, _⟩ := HR2.out _ HBr.out j x hx
    go_upto_region 16 with fail
    obtain ⟨X, W, HTT, H0, hne, HC⟩ := class_below wr
    have HX : Hid (∀ y, Below we.heap.size we (W y)) := hid (fun y => HBr.out.trans ((HTT.out y).mono HBr.out.size))
    have y1 : ∀ y, (W y).cell? ⟨g1, j, none⟩ = some (.int .u64 (x : Int)) := fun y => by
      obtain ⟨g', e, h⟩ := HR1.out _ (HX.out y) j x hx
      cases e
      exact h
    have y2 : ∀ y, (W y).cell? ⟨g2, j, none⟩ = some (.int .u64 (x : Int)) := fun y => by
      obtain ⟨g', e, h⟩ := HR2.out _ (HX.out y) j x hx
      cases e
      exact h
    have dd : (!((x : Int) == (x : Int))) = false := by simp
    refine wp_region_class W (by kernel_rfl) (by kernel_rfl) H0.out ?_
    repeat (go_big_quiet_step (fail))
    refine wpQuiet_nil ?_
    intro z
    have HBz := hid (HX.out z)
    generalize W z = wz at HBz ⊢
    clear y1 y2 H0 HTT HC hne HX hx
    go_wp2
    exact ⟨⟨j + 1, by omega, by go_num, HBz⟩, by simp [intOf]; omega⟩
  have dj : decide ((j : Int) < (n1 : Int)) = false := decide_eq_false (by omega)
  as_aux_lemma =>
  go_wp2_with fail
  go_loopw [112] (fun v wr => ∃ j : Nat, j ≤ n3 ∧ v = .int .i64 (j : Int) ∧ Hid (Below we.heap.size we wr)) (fun v _ => n3 - (intOf v).toNat)
  case atStart => exact ⟨0, by omega, rfl, HBr⟩
  case round =>
  clear HBr
  obtain ⟨j, hj, rfl, HBr⟩ := hrel
  by_cases hjn : j < n3
  · as_aux_lemma =>
    have dj : decide ((j : Int) < (n3 : Int)) = true := decide_eq_true (by omega)
    have hij : (j : Int) < (n3 : Int) := by omega
    obtain ⟨⟨x, x'⟩, hx⟩ : ∃ x, (B.logs m)[j]? = some x := ⟨(B.logs m)[j]'(by rw [Hn3.out]; exact hjn), List.getElem?_eq_getElem _⟩
    obtain ⟨g1, rfl, _, _⟩ := HR3.out _ HBr.out j _ hx
    obtain ⟨g2, rfl, _, _⟩ := HR4.out _ HBr.out j _ hx
    go_upto_region 22 with fail
    obtain ⟨X, W, HTT, H0, hne, HC⟩ := class_below wr
    have HX : Hid (∀ y, Below we.heap.size we (W y)) := hid (fun y => HBr.out.trans ((HTT.out y).mono HBr.out.size))
    have y1 : ∀ y, (W y).cell? ⟨g1, j * 2, none⟩ = some (.int .u64 (x : Int)) := fun y => by
      obtain ⟨g', e, h, h'⟩ := HR3.out _ (HX.out y) j _ hx
      cases e
      exact h
    have y2 : ∀ y, (W y).cell? ⟨g2, j * 2, none⟩ = some (.int .u64 (x : Int)) := fun y => by
      obtain ⟨g', e, h, h'⟩ := HR4.out _ (HX.out y) j _ hx
      cases e
      exact h
    have y3 : ∀ y, (W y).cell? ⟨g1, j * 2 + 1, none⟩ = some (.int .u64 (x' : Int)) := fun y => by
      obtain ⟨g', e, h, h'⟩ := HR3.out _ (HX.out y) j _ hx
      cases e
      exact h'
    have y4 : ∀ y, (W y).cell? ⟨g2, j * 2 + 1, none⟩ = some (.int .u64 (x' : Int)) := fun y => by
      obtain ⟨g', e, h, h'⟩ := HR4.out _ (HX.out y) j _ hx
      cases e
      exact h'
    have dd : (!((x : Int) == (x : Int))) = false := by simp
    refine wp_region_class W (by kernel_rfl) (by kernel_rfl) H0.out ?_
    repeat (go_big_quiet_step (fail))
    refine wpQuiet_nil ?_
    intro z
    have HBz := hid (HX.out z)
    generalize W z = wz at HBz ⊢
    clear y1 y2 y3 y4 H0 HTT HC hne HX hx
    go_wp2
    exact ⟨⟨j + 1, by omega, by go_num, HBz⟩, by simp [intOf]; omega⟩
  have dj : decide ((j : Int) < (n3 : Int)) = false := decide_eq_false (by omega)
  as_aux_lemma =>
  go_wp2_with fail
  go_loopw [127] (fun v wr => ∃ j : Nat, j ≤ n5 ∧ v = .int .i64 (j : Int) ∧ Hid (Below we.heap.size we wr)) (fun v _ => n5 - (intOf v).toNat)
  case atStart => exact ⟨0, by omega, rfl, HBr⟩
  case round =>
  clear HBr
  obtain ⟨j, hj, rfl, HBr⟩ := hrel
  by_cases hjn : j < n5
  · as_aux_lemma =>
    have dj : decide ((j : Int) < (n5 : Int)) = true := decide_eq_true (by omega)
    have hij : (j : Int) < (n5 : Int) := by omega
    obtain ⟨x, hx⟩ : ∃ x, (B.fresh m)[j]? = some x := ⟨(B.fresh m)[j]'(by rw [Hn5.out]; exact hjn), List.getElem?_eq_getElem _⟩
    obtain ⟨g1, rfl, _⟩ := HR5.out _ HBr.out j x hx
    obtain ⟨g2, rfl, _⟩ := HR6.out _ HBr.out j x hx
    go_upto_region 28 with fail
    obtain ⟨X, W, HTT, H0, hne, HC⟩ := class_below wr
    have HX : Hid (∀ y, Below we.heap.size we (W y)) := hid (fun y => HBr.out.trans ((HTT.out y).mono HBr.out.size))
    have y1 : ∀ y, (W y).cell? ⟨g1, j, none⟩ = some (.int .u64 (x : Int)) := fun y => by
      obtain ⟨g', e, h⟩ := HR5.out _ (HX.out y) j x hx
      cases e
      exact h
    have y2 : ∀ y, (W y).cell? ⟨g2, j, none⟩ = some (.int .u64 (x : Int)) := fun y => by
      obtain ⟨g', e, h⟩ := HR6.out _ (HX.out y) j x hx
      cases e
      exact h
    have dd : (!((x : Int) == (x : Int))) = false := by simp
    refine wp_region_class W (by kernel_rfl) (by kernel_rfl) H0.out ?_
    repeat (go_big_quiet_step (fail))
    refine wpQuiet_nil ?_
    intro z
    have HBz := hid (HX.out z)
    generalize W z = wz at HBz ⊢
    clear y1 y2 H0 HTT HC hne HX hx
    go_wp2
    exact ⟨⟨j + 1, by omega, by go_num, HBz⟩, by simp [intOf]; omega⟩
  have dj : decide ((j : Int) < (n5 : Int)) = false := decide_eq_false (by omega)
  as_aux_lemma =>
  have HBm : Hid (Below w.heap.size w wr) := hid (HBe.out.trans (HBr.out.mono HBe.out.size))
  go_wp2
  exact ⟨⟨m + 1, by omega, by go_num, HBm⟩, by simp [intOf]; omega⟩
end Go.Proofs.Qxb6500888a
