/- sameTally, sameGround. -/
import Derived.Test.Qxb6500888aBaL7
namespace Go.Proofs.Qxb6500888a
open Go.RowKit
set_option linter.unusedSimpArgs false
set_option linter.unusedVariables false
attribute [local irreducible] wdC

theorem Cn.ents {w : World} {m : Nat} {c : Nat → Nat} (h : Cn w m c) : ∃ E, PN w m E ∧ ∀ e ∈ E, e.v = .int .i64 (c e.k : Int) := by
  obtain ⟨f, ⟨E, h1, h2, h3⟩, h4⟩ := h
  refine ⟨E, h1, fun e he => ?_⟩
  have := h4 e.k
  rw [h2 e he] at this
  exact this
theorem GMh.cnC {w : World} {ρ : Rl} {L : GL} {G : GS} (h : GM w ρ L G) : Cn w L.mC G.cnt := ⟨_, h.mc rfl, fun a => ctF_get _ _⟩
theorem GMh.cnP {w : World} {ρ : Rl} {L : GL} {G : GS} (h : GM w ρ L G) : Cn w L.mP G.pend := ⟨_, h.mp rfl, fun a => ctF_get _ _⟩
set_option maxRecDepth 1000000 in
set_option maxHeartbeats 4000000 in
theorem sameTally_walk {w : World} {m1 m2 : Nat} {c : Nat → Nat} (h1 : Cn w m1 c) (h2 : Cn w m2 c) :
    Calls Try.prog 33 #[.map (some m1), .map (some m2)] w fun e w' => e = .returned (.bool true) ∧ Below w.heap.size w w' := by
  have H1 := hid h1
  have H2 := hid h2
  obtain ⟨E1, p1, v1⟩ := h1.ents
  obtain ⟨E2, p2, v2⟩ := h2.ents
  have HP1 := hid p1
  have HP2 := hid p2
  have HV1 := hid v1
  have HV2 := hid v2
  clear h1 h2 p1 p2 v1 v2
  obtain ⟨r, hr⟩ : ∃ x, w.heap.size = x := ⟨_, rfl⟩
  go_enter Try.func33, Try.ntmps33
  go_wp2_with (at_range; refine wpList_range_pn rfl (.tmp 9) 71 rfl Try.underlying71 m1 E1 rfl HP1.out ?_; intro w2 hit2 hbe2 hsz2)
  go_frame
  have HI2 : Hid (HdI w m1 E1 r (E1.map (·.k)) w2) := hid ⟨by rw [← hr]; exact hit2, hbe2, by omega, HP1.out.lt⟩
  simp only [hr]
  clear hit2 hbe2 hsz2 hr
  go_loopw [] (fun wr => ∃ Tk, Hid (HdI w m1 E1 r Tk wr)) (fun wr => World.rangeLeft wr m1 r)
  case atStart => exact ⟨_, HI2⟩
  case round =>
  clear HI2
  obtain ⟨Tk, HI⟩ := hrel
  have Hpn : Hid (PN wr m1 E1) := hid (HP1.out.below HI.out.bel)
  go_upto_region 2 with fail
  refine wp_region_lit ?_
  refine wpList_next_pn rfl (.tmp 10) rfl r m1 E1 Tk rfl Hpn.out HI.out.it ?_ ?_
  rotate_left
  · intro e w3 he heT hpn3 hit3 hu3 hsz3 hent
    have hev := HV1.out e he
    have HI3 : Hid (HdI w m1 E1 r (Tk.filter fun k => decide (k ≠ e.k)) w3) := hid ⟨hit3, HI.out.bel.trans (hu3.below HI.out.lo HI.out.bel.size), HI.out.lo, HI.out.ml⟩
    have HMs : Hid (World.rangeLeft w3 m1 r < World.rangeLeft wr m1 r) := hid (HI.out.ms he heT HI3.out)
    rw [hev] at hent
    rw [hev]
    obtain ⟨x, hx⟩ : ∃ x, e.k = x := ⟨_, rfl⟩
    rw [hx] at hent HI3
    rw [hx]
    have hl := (H2.out.of (HI3.out.bel.block m2 H2.out.lt)).look x
    generalize c x = cv at hl hent
    have dd : (!((cv : Int) == (cv : Int))) = false := by simp
    clear he heT hpn3 hit3 hu3 hsz3 hev hx HI Hpn
    as_aux_lemma =>
    go_frame
    go_wp2
    exact ⟨⟨_, HI3⟩, HMs.out⟩
  intro hT
  have HB := hid HI.out.bel
  clear HI Hpn hT
  as_aux_lemma =>
  go_frame
  have HP2r := hid (HP2.out.below HB.out)
  obtain ⟨r2, hr⟩ : ∃ x, wr.heap.size = x := ⟨_, rfl⟩
  go_wp2_with (at_range; refine wpList_range_pn rfl (.tmp 21) 71 rfl Try.underlying71 m2 E2 rfl HP2r.out ?_; intro w2 hit2 hbe2 hsz2)
  go_frame
  have HI2 : Hid (HdI w m2 E2 r2 (E2.map (·.k)) w2) := hid ⟨by rw [← hr]; exact hit2, HB.out.trans (hbe2.mono HB.out.size), by have := HB.out.size; omega, HP2.out.lt⟩
  simp only [hr]
  clear hit2 hbe2 hsz2 hr HB HP2r
  go_loopw [] (fun wr => ∃ Tk, Hid (HdI w m2 E2 r2 Tk wr)) (fun wr => World.rangeLeft wr m2 r2)
  case atStart => exact ⟨_, HI2⟩
  case round =>
  clear HI2
  obtain ⟨Tk, HI⟩ := hrel
  have Hpn : Hid (PN wr m2 E2) := hid (HP2.out.below HI.out.bel)
  go_upto_region 7 with fail
  refine wp_region_lit ?_
  refine wpList_next_pn rfl (.tmp 22) rfl r2 m2 E2 Tk rfl Hpn.out HI.out.it ?_ ?_
  rotate_left
  · intro e w3 he heT hpn3 hit3 hu3 hsz3 hent
    have hev := HV2.out e he
    have HI3 : Hid (HdI w m2 E2 r2 (Tk.filter fun k => decide (k ≠ e.k)) w3) := hid ⟨hit3, HI.out.bel.trans (hu3.below HI.out.lo HI.out.bel.size), HI.out.lo, HI.out.ml⟩
    have HMs : Hid (World.rangeLeft w3 m2 r2 < World.rangeLeft wr m2 r2) := hid (HI.out.ms he heT HI3.out)
    rw [hev] at hent
    rw [hev]
    obtain ⟨x, hx⟩ : ∃ x, e.k = x := ⟨_, rfl⟩
    rw [hx] at hent HI3
    rw [hx]
    have hl := (H1.out.of (HI3.out.bel.block m1 H1.out.lt)).look x
    generalize c x = cv at hl hent
    have dd : (!((cv : Int) == (cv : Int))) = false := by simp
    clear he heT hpn3 hit3 hu3 hsz3 hev hx HI Hpn
    as_aux_lemma =>
    go_frame
    go_wp2
    exact ⟨⟨_, HI3⟩, HMs.out⟩
  intro hT
  have HB := hid HI.out.bel
  clear HI Hpn hT
  as_aux_lemma =>
  go_frame
  go_wp2
  go_ret
  exact ⟨rfl, HB.out⟩
theorem MF.lens {w : World} {m1 m2 : Nat} {f : Nat → Option Value} (h1 : MF w m1 f) (h2 : MF w m2 f) : ∃ E1 E2, PN w m1 E1 ∧ PN w m2 E2 ∧ E1.length = E2.length := by
  obtain ⟨E1, p1, a1, b1⟩ := h1
  obtain ⟨E2, p2, a2, b2⟩ := h2
  refine ⟨E1, E2, p1, p2, ?_⟩
  have hp : (E1.map (·.k)).Perm (E2.map (·.k)) := by
    rw [List.perm_ext_iff_of_nodup p1.nek p2.nek]
    intro k
    constructor
    · intro hk
      obtain ⟨e, he, rfl⟩ := List.mem_map.1 hk
      obtain ⟨e', he', hk'⟩ := b2 _ _ (a1 e he)
      exact List.mem_map.2 ⟨e', he', hk'⟩
    · intro hk
      obtain ⟨e, he, rfl⟩ := List.mem_map.1 hk
      obtain ⟨e', he', hk'⟩ := b1 _ _ (a2 e he)
      exact List.mem_map.2 ⟨e', he', hk'⟩
  have := hp.length_eq
  rw [List.length_map, List.length_map] at this
  exact this
/-- Two grounds are alike. -/
structure GEq (lo : Bool) (G G' : GS) : Prop where
  hd : G'.head = G.head
  wd : ∀ i, i < 32768 → G'.word i = G.word i
  tk : ∀ i, i < 32768 → G'.tk i = G.tk i
  lg : lo = true → ∀ i, i < 32768 → G'.lg i = G.lg i
  cn : G'.cnt = G.cnt
  pd : G'.pend = G.pend
  er : G'.errs = G.errs
set_option maxRecDepth 1000000 in
set_option maxHeartbeats 8000000 in
theorem sameGround_walk {w : World} {ρ1 ρ2 : Rl} {L1 L2 : GL} {G1 G2 : GS} (h1 : GM w ρ1 L1 G1) (h2 : GM w ρ2 L2 G2) (lo : Bool) (hq : GEq lo G1 G2) :
    Calls Try.prog 20 #[.pointer (some ⟨L1.hB, 0, none⟩), .pointer (some ⟨L2.hB, 0, none⟩), .pointer (some ⟨L1.sB, 0, none⟩), .pointer (some ⟨L2.sB, 0, none⟩), .pointer (some ⟨L1.cB, 0, none⟩), .pointer (some ⟨L2.cB, 0, none⟩), .bool lo] w fun e w' => e = .returned (.bool true) ∧ Below w.heap.size w w' := by
  have H1 := hid h1
  have H2 := hid h2
  have HQ := hid hq
  have hm2 := h2.mh rfl
  rw [hq.hd] at hm2
  obtain ⟨E1, E2, p1, p2, hlen⟩ := MF.lens (h1.mh rfl) hm2
  have HL1 : Hid (∀ wx, Below w.heap.size w wx → ∀ ty, (Builtin.len_ #[63] ty #[.map (some L1.mH)]).run Try.prog wx = .ok (.int .i64 (E1.length : Int)) wx) := hid (fun wx hx ty => (p1.below hx).len Try.underlying63 ty)
  have HL2 : Hid (∀ wx, Below w.heap.size w wx → ∀ ty, (Builtin.len_ #[63] ty #[.map (some L2.mH)]).run Try.prog wx = .ok (.int .i64 (E1.length : Int)) wx) := hid (fun wx hx ty => by rw [hlen]; exact (p2.below hx).len Try.underlying63 ty)
  generalize E1.length = ne at HL1 HL2
  clear h1 h2 hq hm2 p1 p2 hlen E1 E2
  go_enter Try.func20, Try.ntmps20
  go_upto_region 1 with fail
  obtain ⟨X, W, HTT, H0, hne, HC⟩ := class_below w
  have y1 : ∀ y, (W y).cell? ⟨L1.hB, 0, none⟩ = some (.map (some L1.mH)) := fun y => (H1.out.below (HTT.out y)).hcells.1
  have y2 : ∀ y, (W y).cell? ⟨L2.hB, 0, none⟩ = some (.map (some L2.mH)) := fun y => (H2.out.below (HTT.out y)).hcells.1
  have z1 : ∀ y ty, (Builtin.len_ #[63] ty #[.map (some L1.mH)]).run Try.prog (W y) = .ok (.int .i64 (ne : Int)) (W y) := fun y => HL1.out _ (HTT.out y)
  have z2 : ∀ y ty, (Builtin.len_ #[63] ty #[.map (some L2.mH)]).run Try.prog (W y) = .ok (.int .i64 (ne : Int)) (W y) := fun y => HL2.out _ (HTT.out y)
  have dd : (!((ne : Int) == (ne : Int))) = false := by simp
  refine wp_region_class W (by kernel_rfl) (by kernel_rfl) H0.out ?_
  repeat (go_big_quiet_step (fail))
  refine wpQuiet_nil ?_
  intro z
  have HBz := hid (HTT.out z)
  generalize W z = wz at HBz ⊢
  clear y1 y2 z1 z2 H0 HTT HC hne HL1 HL2 dd
  have HG1 := hid (H1.out.below HBz.out)
  have c1 := HG1.out.hcells.1
  obtain ⟨E, hE1, hE2, hE3⟩ := HG1.out.mh rfl
  have HPn := hid hE1
  have HEn := hid hE2
  have HPn5 : Hid (PN w L1.mH E ∧ L1.mH < w.heap.size) := hid (by
    have hlt := MF.lt (H1.out.mh rfl)
    exact ⟨HPn.out.of (HBz.out.block _ hlt).symm, hlt⟩)
  clear hE1 hE2 hE3
  obtain ⟨r, hr⟩ : ∃ x, wz.heap.size = x := ⟨_, rfl⟩
  go_wp2_with (at_range; refine wpList_range_pn rfl (.tmp 34) 63 rfl Try.underlying63 L1.mH E rfl HPn.out ?_; intro w2 hit2 hbe2 hsz2)
  go_frame
  have HI2 : Hid (HdI w L1.mH E r (E.map (·.k)) w2) := hid ⟨by rw [← hr]; exact hit2, HBz.out.trans (hbe2.mono HBz.out.size), by have := HBz.out.size; omega, HPn5.out.2⟩
  simp only [hr]
  clear hit2 hbe2 hsz2 c1 hr HG1 HPn HBz
  go_loopw [] (fun wr => ∃ Tk, Hid (HdI w L1.mH E r Tk wr)) (fun wr => World.rangeLeft wr L1.mH r)
  case atStart => exact ⟨_, HI2⟩
  case round =>
  clear HI2
  obtain ⟨Tk, HI⟩ := hrel
  have Hpn : Hid (PN wr L1.mH E) := hid (HPn5.out.1.below HI.out.bel)
  go_upto_region 4 with fail
  refine wp_region_lit ?_
  refine wpList_next_pn rfl (.tmp 35) rfl r L1.mH E Tk rfl Hpn.out HI.out.it ?_ ?_
  rotate_left
  · intro e w3 he heT hpn3 hit3 hu3 hsz3 hent
    obtain ⟨n, q, hhd, hev⟩ := hd_ent (HEn.out e he)
    have HI3 : Hid (HdI w L1.mH E r (Tk.filter fun k => decide (k ≠ e.k)) w3) := hid ⟨hit3, HI.out.bel.trans (hu3.below HI.out.lo HI.out.bel.size), HI.out.lo, HI.out.ml⟩
    have HMs : Hid (∀ w', HdI w L1.mH E r (Tk.filter fun k => decide (k ≠ e.k)) w' → World.rangeLeft w' L1.mH r < World.rangeLeft wr L1.mH r) := hid (fun w' h' => HI.out.ms he heT h')
    rw [hev] at hent
    rw [hev]
    obtain ⟨x, hx⟩ : ∃ x, e.k = x := ⟨_, rfl⟩
    rw [hx] at hent hhd HI3 HMs
    rw [hx]
    have Hhd := hid hhd
    have I0 : Hid ((Try.prog.info? 73).map (·.size) = some 2) := hid info_sh
    have HOne : Hid (∀ u ∈ [(.int .i64 (n : Int) : Value), .int .i64 (q : Int)], u.oneCell' = true) := hid (fun u hu => by
      simp only [List.mem_cons, List.not_mem_nil, or_false] at hu
      rcases hu with rfl | rfl <;> rfl)
    obtain ⟨sB, hsB⟩ : ∃ x, w3.heap.size = x := ⟨_, rfl⟩
    have hbz := Blk.new w3 [.int .i64 0, .int .i64 0] 73
    rw [hsB] at hbz
    have HZ := hid hbz
    clear he heT hpn3 hit3 hu3 hsz3 hhd hev hx hbz HI Hpn
    as_aux_lemma =>
    go_frame
    go_upto_region 6 with (refine wpList_store_blk rfl 73 _ _ rfl sB rfl [.int .i64 (n : Int), .int .i64 (q : Int)] rfl HZ.out rfl I0.out HOne.out ?_; intro w9 HB9 HU9)
    have HD9 : Hid (HdI w L1.mH E r (Tk.filter fun k => decide (k ≠ x)) w9 ∧ Blk w9 sB 73 [.int .i64 (n : Int), .int .i64 (q : Int)]) := hid (by
      have h1 := nbel w3 (.cells #[.int .i64 0, .int .i64 0] 73)
      have h2 := HU9.out.below (B := w3.heap.size) (by omega) h1.size
      exact ⟨HI3.out.below (h1.trans h2), HB9.out⟩)
    clear HB9 HU9 HZ HI3 hsB hent
    have hg2 := H2.out.below HD9.out.1.bel
    have c2 := hg2.hcells.1
    have hl := hg2.lookHT x
    rw [HQ.out.hd, Hhd.out] at hl
    have e0 : shV ((some (n, q)).getD (0, 0)) = .agg #[.int .i64 (n : Int), .int .i64 (q : Int)] := rfl
    rw [e0, Option.isSome_some] at hl
    clear hg2 e0
    obtain ⟨tB, htB⟩ : ∃ x, w9.heap.size = x := ⟨_, rfl⟩
    have hbz := Blk.new w9 [.int .i64 0, .int .i64 0] 73
    rw [htB] at hbz
    have HZ := hid hbz
    clear hbz
    go_upto_region 7 with (refine wpList_store_blk rfl 73 _ _ rfl tB rfl [.int .i64 (n : Int), .int .i64 (q : Int)] rfl HZ.out rfl I0.out HOne.out ?_; intro w10 HB10 HU10)
    have HD10 : Hid (HdI w L1.mH E r (Tk.filter fun k => decide (k ≠ x)) w10 ∧ Blk w10 sB 73 [.int .i64 (n : Int), .int .i64 (q : Int)] ∧ Blk w10 tB 73 [.int .i64 (n : Int), .int .i64 (q : Int)]) := hid (by
      have h1 := nbel w9 (.cells #[.int .i64 0, .int .i64 0] 73)
      have h2 := HU10.out.below (B := w9.heap.size) (by omega) h1.size
      exact ⟨HD9.out.1.below (h1.trans h2), HD9.out.2.below (h1.trans h2), HB10.out⟩)
    clear HB10 HU10 HZ HD9 htB HOne I0 c2 hl
    have s0 : w10.cell? ⟨sB, 0, none⟩ = some (.int .i64 (n : Int)) := HD10.out.2.1.cell 0
    have s1 : w10.cell? ⟨sB, 1, none⟩ = some (.int .i64 (q : Int)) := HD10.out.2.1.cell 1
    have t0 : w10.cell? ⟨tB, 0, none⟩ = some (.int .i64 (n : Int)) := HD10.out.2.2.cell 0
    have t1 : w10.cell? ⟨tB, 1, none⟩ = some (.int .i64 (q : Int)) := HD10.out.2.2.cell 1
    go_wp2
    exact ⟨⟨_, hid HD10.out.1⟩, HMs.out _ HD10.out.1⟩
  intro hT
  have HB := hid HI.out.bel
  clear HI Hpn hT HPn5 HEn
  as_aux_lemma =>
  go_frame
  have c1 := (H1.out.below HB.out).hcells.2.1
  go_wp2_with fail
  clear c1
  go_loopw [62] (fun v wr => ∃ j : Nat, j ≤ 32768 ∧ v = .int .i64 (j : Int) ∧ Hid (Below w.heap.size w wr)) (fun v _ => 32768 - (intOf v).toNat)
  case atStart => exact ⟨0, by omega, rfl, HB⟩
  case round =>
  clear HB
  obtain ⟨j, hj, rfl, HB⟩ := hrel
  by_cases hjn : j < 32768
  · as_aux_lemma =>
    have dj : decide ((j : Int) < 32768) = true := decide_eq_true (by omega)
    have hij : (j : Int) < 32768 := by omega
    go_upto_region 12 with fail
    obtain ⟨X, W, HTT, H0, hne, HC⟩ := class_below wr
    have HX : Hid (∀ y, Below w.heap.size w (W y)) := hid (fun y => HB.out.trans ((HTT.out y).mono HB.out.size))
    have a1 : ∀ y, (W y).cell? ⟨L1.hB, 1, none⟩ = some (.slice (some ⟨L1.wB, 0, none⟩) 32768 32768) := fun y => (H1.out.below (HX.out y)).hcells.2.1
    have a2 : ∀ y, (W y).cell? ⟨L2.hB, 1, none⟩ = some (.slice (some ⟨L2.wB, 0, none⟩) 32768 32768) := fun y => (H2.out.below (HX.out y)).hcells.2.1
    have a3 : ∀ y, (W y).cell? ⟨L1.wB, j, none⟩ = some (.int .u64 (G1.word j : Int)) := fun y => (H1.out.below (HX.out y)).wcell hjn
    have a4 : ∀ y, (W y).cell? ⟨L2.wB, j, none⟩ = some (.int .u64 (G1.word j : Int)) := fun y => by rw [← HQ.out.wd j hjn]; exact (H2.out.below (HX.out y)).wcell hjn
    have b1 : ∀ y, (W y).cell? ⟨L1.sB, 0, none⟩ = some (.slice (some ⟨L1.tB, 0, none⟩) 32768 32768) := fun y => (H1.out.below (HX.out y)).scell
    have b2 : ∀ y, (W y).cell? ⟨L2.sB, 0, none⟩ = some (.slice (some ⟨L2.tB, 0, none⟩) 32768 32768) := fun y => (H2.out.below (HX.out y)).scell
    have b3 : ∀ y, (W y).cell? ⟨L1.tB, j, none⟩ = some (.bool (G1.tk j)) := fun y => (H1.out.below (HX.out y)).tcell hjn
    have b4 : ∀ y, (W y).cell? ⟨L2.tB, j, none⟩ = some (.bool (G1.tk j)) := fun y => by rw [← HQ.out.tk j hjn]; exact (H2.out.below (HX.out y)).tcell hjn
    have d1 : ∀ y, (W y).cell? ⟨L1.hB, 2, none⟩ = some (.slice (some ⟨L1.lB, 0, none⟩) 32768 32768) := fun y => (H1.out.below (HX.out y)).hcells.2.2
    have d2 : ∀ y, (W y).cell? ⟨L2.hB, 2, none⟩ = some (.slice (some ⟨L2.lB, 0, none⟩) 32768 32768) := fun y => (H2.out.below (HX.out y)).hcells.2.2
    have d3 : ∀ y, (W y).cell? ⟨L1.lB, j, none⟩ = some (.bool (G1.lg j)) := fun y => (H1.out.below (HX.out y)).lcell hjn
    have HD4 : Hid (lo = true → ∀ y, (W y).cell? ⟨L2.lB, j, none⟩ = some (.bool (G1.lg j))) := hid (fun hlo y => by rw [← HQ.out.lg hlo j hjn]; exact (H2.out.below (HX.out y)).lcell hjn)
    generalize G1.word j = wv at a3 a4
    generalize G1.tk j = tv at b3 b4
    generalize G1.lg j = lv at d3 HD4
    have e1 : (!((wv : Int) == (wv : Int))) = false := by simp
    have e2 : (!(tv == tv)) = false := by simp
    have e3 : (!(lv == lv)) = false := by simp
    cases lo with
    | false =>
      as_aux_lemma =>
      clear HD4 d1 d2 d3 e3
      refine wp_region_class W (by kernel_rfl) (by kernel_rfl) H0.out ?_
      repeat (go_big_quiet_step (fail))
      refine wpQuiet_nil ?_
      intro z
      have HBz := hid (HX.out z)
      generalize W z = wz at HBz ⊢
      clear a1 a2 a3 a4 b1 b2 b3 b4 H0 HTT HC hne HX
      go_wp2
      exact ⟨⟨j + 1, by omega, by go_num, HBz⟩, by simp [intOf]; omega⟩
    | true =>
      as_aux_lemma =>
      have d4 := HD4.out rfl
      clear HD4
      refine wp_region_class W (by kernel_rfl) (by kernel_rfl) H0.out ?_
      repeat (go_big_quiet_step (fail))
      refine wpQuiet_nil ?_
      intro z
      have HBz := hid (HX.out z)
      generalize W z = wz at HBz ⊢
      clear a1 a2 a3 a4 b1 b2 b3 b4 d1 d2 d3 d4 H0 HTT HC hne HX
      go_wp2
      exact ⟨⟨j + 1, by omega, by go_num, HBz⟩, by simp [intOf]; omega⟩
  as_aux_lemma =>
  have dj : decide ((j : Int) < 32768) = false := decide_eq_false (by omega)
  go_upto_region 15 with fail
  obtain ⟨X, W, HTT, H0, hne, HC⟩ := class_below wr
  have HX : Hid (∀ y, Below w.heap.size w (W y)) := hid (fun y => HB.out.trans ((HTT.out y).mono HB.out.size))
  have a1 : ∀ y, (W y).cell? ⟨L1.cB, 2, none⟩ = some (.map (some L1.mC)) := fun y => (H1.out.below (HX.out y)).ccells.2.2.1
  have a2 : ∀ y, (W y).cell? ⟨L2.cB, 2, none⟩ = some (.map (some L2.mC)) := fun y => (H2.out.below (HX.out y)).ccells.2.2.1
  have b1 : ∀ y, (W y).cell? ⟨L1.cB, 3, none⟩ = some (.map (some L1.mP)) := fun y => (H1.out.below (HX.out y)).ccells.2.2.2.1
  have b2 : ∀ y, (W y).cell? ⟨L2.cB, 3, none⟩ = some (.map (some L2.mP)) := fun y => (H2.out.below (HX.out y)).ccells.2.2.2.1
  have d1 : ∀ y, (W y).cell? ⟨L1.cB, 6, none⟩ = some (.int .i64 (G1.errs : Int)) := fun y => (H1.out.below (HX.out y)).ccells.2.2.2.2.2.2
  have d2 : ∀ y, (W y).cell? ⟨L2.cB, 6, none⟩ = some (.int .i64 (G1.errs : Int)) := fun y => by rw [← HQ.out.er]; exact (H2.out.below (HX.out y)).ccells.2.2.2.2.2.2
  have HT1 : Hid (∀ y, Calls Try.prog 33 #[.map (some L1.mC), .map (some L2.mC)] (W y) fun e w' => e = .returned (.bool true) ∧ Below (W y).heap.size (W y) w') := hid (fun y => sameTally_walk (c := G1.cnt) (H1.out.below (HX.out y)).cnC (by rw [← HQ.out.cn]; exact (H2.out.below (HX.out y)).cnC))
  have HT2 : Hid (∀ y, Calls Try.prog 33 #[.map (some L1.mP), .map (some L2.mP)] (W y) fun e w' => e = .returned (.bool true) ∧ Below (W y).heap.size (W y) w') := hid (fun y => sameTally_walk (c := G1.pend) (H1.out.below (HX.out y)).cnP (by rw [← HQ.out.pd]; exact (H2.out.below (HX.out y)).cnP))
  generalize G1.errs = ev at d1 d2
  have e1 : ((ev : Int) == (ev : Int)) = true := by simp
  refine wp_region_class W (by kernel_rfl) (by kernel_rfl) H0.out ?_
  repeat (go_big_quiet_step (first
    | (go_at_call 33; with_reducible exact Calls.class_of HC.out (HT1.out _))
    | (go_at_call 33; with_reducible exact Calls.class_of HC.out (HT2.out _))))
  refine wpQuiet_nil ?_
  intro z
  have HBz := hid (HX.out z)
  generalize W z = wz at HBz ⊢
  clear a1 a2 b1 b2 d1 d2 H0 HTT HC hne HX HT1 HT2
  go_wp2
  go_ret
  exact ⟨rfl, HBz.out⟩
end Go.Proofs.Qxb6500888a
