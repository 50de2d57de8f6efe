/- The law ErrorsArePlaced (written by tools/mk_sd.py). -/
import Derived.Test.Qxb6500883aGreatDoorScSc
import Derived.Test.Qxb6500883aGreatDoorScQe
import Derived.Test.Qxb6500883aGreatDoorScRb
namespace Go.Proofs.Qxb6500883aGreatDoor
open Go.RowKit
set_option linter.unusedSimpArgs false
set_option linter.unusedVariables false
section
variable {N mg : Nat} {w w' wr : World} {a : Option Addr} {n c : Nat} {l : List OpT} {bs : List UInt8}
theorem slice_hi64 (a : Option Addr) (n c k : Nat) (hk : k ≤ c) (hs : ∀ ad, a = some ad → ad.spot = none) (w : World) : (Instr.sliceAt 28 (.slice a n c) none (some (.int .i64 (k : Int))) none).run Tryz.prog w = .ok (.slice a k c) w := by
  have e1 : ¬ (c < k) := by omega
  have e2 : (k : Int) ≤ (c : Int) := by omega
  cases a with
  | none => simp [Instr.sliceAt, go_sem, Instr.sliceBounds, e1, e2, Addr.add]
  | some ad =>
    obtain ⟨b, o, sp⟩ := ad
    have : sp = none := hs _ rfl
    subst this
    simp [Instr.sliceAt, go_sem, Instr.sliceBounds, e1, e2, Addr.add]
theorem Src.spot {w : World} {a : Option Addr} {n c : Nat} {bs : List UInt8} (h : Go.Proofs.Qxb6500883aGreatDoor.Src w a n c bs) (hn : 0 < n) : ∀ ad, a = some ad → ad.spot = none := fun ad ha => by
  obtain ⟨b, off, h1, _⟩ := h.cell hn
  rw [h1] at ha
  cases ha
  rfl
theorem place_snoc (bs : List UInt8) {j : Nat} (hj : j < bs.length) : placeP (bs.take (j + 1)) = curS (placeP (bs.take j)) bs[j] := by
  unfold placeP
  rw [List.take_add_one, List.getElem?_eq_getElem hj, List.foldl_append]
  rfl
theorem cN_get (bs : List UInt8) {j : Nat} (hj : j < bs.length) : bs[j].toNat = cN bs j := by unfold cN; rw [List.getD_eq_getElem?_getD, List.getElem?_eq_getElem hj]; rfl
/-- The rows of an excerpt, in memory. -/
structure RwM (wz : World) (g c : Nat) (r0 : List UInt8) (k : Nat) : Prop where
  c0 : wz.cell? ⟨g, 0, none⟩ = some (.string (mkB r0))
  c1 : wz.cell? ⟨g, 1, none⟩ = some (.string (mkB (List.replicate k 32 ++ [94])))
  c2 : wz.cell? ⟨g, 2, none⟩ = some (.string (mkB []))
theorem RwI.open {n0 k : Nat} {r0 : List UInt8} {v : Value} (h : RwI n0 w [r0, List.replicate k 32 ++ [94], []] v wr) : ∃ g c, v = .slice (some ⟨g, 0, none⟩) 3 c ∧ RwM wr g c r0 k := by
  obtain ⟨g, c, hv⟩ := h.r.blkS (by simp)
  have hv : v = .slice (some ⟨g, 0, none⟩) 3 c := hv
  subst hv
  exact ⟨g, c, rfl, ⟨h.r.cellS rfl, h.r.cellS rfl, h.r.cellS rfl⟩⟩
theorem mkB_get (l : List UInt8) (i : Nat) (h : i < (mkB l).size) (x : UInt8) (hx : l[i]? = some x) : (mkB l)[i] = x := by
  have hl : i < l.length := (List.getElem?_eq_some_iff.1 hx).1
  show l.toArray[i] = x
  have := (List.getElem?_eq_some_iff.1 hx).2
  simpa using this
theorem mkB_size (l : List UInt8) : (mkB l).size = l.length := by show l.toArray.size = l.length; simp

set_option maxRecDepth 100000 in
set_option maxHeartbeats 16000000 in
theorem errorsLawW (hs : ScrT w a n c l) (hg : Gl N mg w) : Calls Tryz.prog 4 #[.slice a n c] w fun e w' => e = .returned (.bool true) ∧ Below w.heap.size w w' := by
  have HZ := hid (zzSmall1W hs)
  have HS := hid hs
  have HG := hid hg
  clear hs hg
  go_enter Tryz.func4, Tryz.ntmps4
  go_wp2_with fail
  refine HZ.out.mono ?_
  rintro e w1 ⟨r, rfl, rfl, hr⟩
  clear HZ
  cases r with
  | false =>
    go_wp2
    go_ret
    exact ⟨rfl, Below.refl _ _⟩
  | true =>
  have HT := hid (textW HS.out HG.out (hr rfl))
  clear hr
  go_wp2_with fail
  refine HT.out.mono ?_
  rintro e w2 ⟨v, rfl, HI⟩
  clear HT
  obtain ⟨a2, n2, c2, bs, rfl, hsrc, hgd⟩ := HI.out.src (by decide)
  have HB2 := hid HI.out.bel
  have HSpot : Hid (∀ ad, a2 = some ad → ad.spot = none) := hid (by
    obtain ⟨ds, h1, _, _⟩ := HI.out.row
    exact h1.cap.2.1)
  have HSrc := hid hsrc
  have HGd := hid hgd
  have HP := hid (parseW hsrc (HG.out.below (HI.out.bel.mono HG.out.sz)))
  clear hsrc hgd HI
  go_wp2_with fail
  refine HP.out.mono ?_
  clear HP
  intro e w3 hPQ
  obtain ⟨vf, oe, he, HPQ⟩ : ∃ (vf : Value) (oe : Option Addr), e = .returned (.tuple #[vf, .pointer oe]) ∧ Hid (PaQ N mg w2 a2 n2 c2 bs (.returned (.tuple #[vf, .pointer oe])) w3) := by
    rcases id hPQ with ⟨_, _, _, rfl, _⟩ | ⟨_, _, _, rfl, _⟩
    · exact ⟨_, _, rfl, hid hPQ⟩
    · exact ⟨_, _, rfl, hid hPQ⟩
  subst he
  clear hPQ
  obtain ⟨bE, hbE⟩ : ∃ b : Bool, (oe != none) = b := ⟨_, rfl⟩
  go_upto_if 29 with fail
  go_cut [4] (fun v wc => ∃ (oa : Option Addr) (m qa : Nat), v = .slice oa m qa ∧ m ≤ 200000000000 ∧ Hid (Below w1.heap.size w1 wc ∧ Src wc a2 n2 c2 bs ∧ ∀ j, j < m → ∃ ga q k pos, oa = some ⟨ga, 0, none⟩ ∧ ga < wc.heap.size ∧ wc.cell? ⟨ga, j, none⟩ = some (.pointer (some ⟨q, 0, none⟩)) ∧ ErM wc q bs k pos ∧ pos ≤ n2))
  case first =>
    rcases HPQ.out with ⟨l', ρ, S, he, HLn, HF, HR⟩ | ⟨q0, k0, p0, he, hp0, hq0, HF, HE0⟩
    · cases he
      clear HPQ
      obtain ⟨hla, hln, hlc⟩ := HLn.out
      have hdc := first_dgc HSrc.out.len HGd.out HF.out.1 HF.out.2.2.1 HF.out.2.2.2
      have HD := hid (diagnoseW HR.out.1 (by rw [hln]; exact hdc))
      have Hlnn := hid hln
      have HB3 : Hid (Below w1.heap.size w1 w3) := hid (HB2.out.trans (HR.out.2.2.mono HB2.out.size))
      have HS3 := hid (HSrc.out.below HR.out.2.2)
      clear hdc hla hln hlc HLn HB2 HSrc HR HF HGd
      go_wp2_with fail
      refine HD.out.mono ?_
      clear HD
      rintro e w4 (⟨tB, rfl, HQ⟩ | ⟨ga, m, qa, rfl, hm, hm2, HQ⟩)
      · have HB4 : Hid (Below w1.heap.size w1 w4) := hid (HB3.out.trans (HQ.out.2.mono HB3.out.size))
        have HSr := hid (HS3.out.below HQ.out.2)
        clear HQ HB3 HS3
        go_wp2
        go_meet
        exact ⟨none, 0, 0, rfl, by decide, hid ⟨HB4.out, HSr.out, fun j hj => absurd hj (Nat.not_lt_zero _)⟩⟩
      · have HB4 : Hid (Below w1.heap.size w1 w4) := hid (HB3.out.trans (HQ.out.2.2.1.mono HB3.out.size))
        have HSr := hid (HS3.out.below HQ.out.2.2.1)
        have HEr : Hid (∀ j, j < m → ∃ g q k pos, some (⟨ga, 0, none⟩ : Addr) = some ⟨g, 0, none⟩ ∧ g < w4.heap.size ∧ w4.cell? ⟨g, j, none⟩ = some (.pointer (some ⟨q, 0, none⟩)) ∧ ErM w4 q bs k pos ∧ pos ≤ n2) := hid (fun j hj => by
          obtain ⟨q, k, pos, h1, h2, h3⟩ := HQ.out.1 j hj
          rw [Hlnn.out] at h3
          exact ⟨ga, q, k, pos, rfl, HQ.out.2.1, h1, h2, h3⟩)
        clear HQ HB3 HS3 Hlnn
        go_wp2
        go_meet
        exact ⟨some ⟨ga, 0, none⟩, m, qa, rfl, hm2, hid ⟨HB4.out, HSr.out, HEr.out⟩⟩
    · cases he
      clear HPQ
      have HB3 : Hid (Below w1.heap.size w1 w3) := hid (HB2.out.trans (HE0.out.2.mono HB2.out.size))
      have HS3 := hid (HSrc.out.below HE0.out.2)
      have HE1 := hid HE0.out.1
      clear HB2 HSrc HE0 HF HGd
      go_wp2_with (at_builtin; refine stopHere ?_)
      intro _
      have hA := newX rtQ w3 q0 _ rfl
      refine wpList_app_l okQ rfl _ _ (OwR.nil rtQ w3.heap.size _) rfl [q0] rfl (some ⟨w3.heap.size, 0, none⟩) 1 1 rfl rfl (fun h => by cases h) hA (by decide) (nbel w3 _).size ?_
      clear hA
      intro v4 w4 HR HK _
      obtain ⟨ga, qa, hv4, hg1, hg2, _, _⟩ := HR.out.some1 (Nat.zero_lt_one)
      have hv4 : v4 = .slice (some ⟨ga, 0, none⟩) 1 qa := hv4
      subst hv4
      have HBk : Hid (Below w3.heap.size w3 w4) := hid ((nbel w3 _).trans (HK.out.below (fun g hg => by cases hg) (nbel w3 _).size))
      have HB4 : Hid (Below w1.heap.size w1 w4) := hid (HB3.out.trans (HBk.out.mono HB3.out.size))
      have HSr := hid (HS3.out.below HBk.out)
      have HEr : Hid (∀ j, j < 1 → ∃ g q k pos, some (⟨ga, 0, none⟩ : Addr) = some ⟨g, 0, none⟩ ∧ g < w4.heap.size ∧ w4.cell? ⟨g, j, none⟩ = some (.pointer (some ⟨q, 0, none⟩)) ∧ ErM w4 q bs k pos ∧ pos ≤ n2) := hid (fun j hj => by
        obtain rfl : j = 0 := by omega
        exact ⟨ga, q0, k0, p0, rfl, hg2, HR.out.at1 rfl (fun _ => rfl) rfl, HE1.out.below HBk.out, hp0⟩)
      clear HR HK HBk HB3 HS3 HE1
      go_wp2
      go_meet
      exact ⟨some ⟨ga, 0, none⟩, 1, qa, rfl, by decide, hid ⟨HB4.out, HSr.out, HEr.out⟩⟩
  case rest =>
  obtain ⟨oa, m, qa, rfl, hm2, HW⟩ := hcut
  clear HPQ HSrc HB2 HGd HS HG hbE
  have HB4 := hid HW.out.1
  have HSr := hid HW.out.2.1
  have HEr := hid HW.out.2.2
  clear HW
  go_upto_region 10 with fail
  go_loopw [41] (fun t wr => ∃ (i : Nat), t = .int .i64 (i : Int) ∧ i ≤ m ∧ Hid (Below wc.heap.size wc wr)) (fun t _ => m - (intOf t).toNat)
  case atStart => exact ⟨0, rfl, Nat.zero_le _, hid (Below.refl _ _)⟩
  case round =>
  obtain ⟨i, rfl, hi, HL⟩ := hrel
  by_cases hin : i < m
  rotate_left
  · have d1 : decide ((i : Int) < (m : Int)) = false := decide_eq_false (by omega)
    have HQ : Hid (Below w1.heap.size w1 wr) := hid (HB4.out.trans (HL.out.mono HB4.out.size))
    clear HL
    go_wp2
    go_ret
    exact ⟨rfl, HQ.out⟩
  have d1 : decide ((i : Int) < (m : Int)) = true := decide_eq_true (by omega)
  have i1 : (i : Int) < (m : Int) := by omega
  obtain ⟨ga, q, k, pos, hoa, hgal, hcq, hEr, hpn⟩ := HEr.out i hin
  subst hoa
  have hcq : wr.cell? ⟨ga, i, none⟩ = some (.pointer (some ⟨q, 0, none⟩)) := (keepCell _ (HL.out.block ga hgal)).trans hcq
  have hEr := hEr.below HL.out
  obtain ⟨ms, hm1, hm2, hBq⟩ := hEr.e
  have q1 : wr.cell? ⟨q, 1, none⟩ = some (.int .i64 (pos : Int)) := hBq.cell 1
  have q4 : wr.cell? ⟨q, 4, none⟩ = some (.string ms) := hBq.cell 4
  have HEq := hid hEr
  have Hsr := hid (HSr.out.below HL.out)
  have hle := Hsr.out.le
  have hbl : bs.length = n2 := Hsr.out.len
  have Hbl := hid hbl
  have HErr := hid (errorW hEr (by rw [hbl]; omega))
  have dm2 : (ms.data.toList == ([] : List UInt8)) = false := by
    rw [beq_eq_false_iff_ne]
    intro e
    have : ms.size = 0 := by show ms.data.toList.length = 0; rw [e]; rfl
    omega
  have dm3 : ¬ ms.toList = [] := by
    rw [ByteArray.toList_eq]
    intro e
    rw [e] at dm2
    cases dm2
  have dm4 : ms.toList.isEmpty = false := by cases h : ms.toList with | nil => exact absurd h dm3 | cons _ _ => rfl
  have d2 : decide ((pos : Int) < 0) = false := decide_eq_false (by omega)
  have d3 : decide ((n2 : Int) < (pos : Int)) = false := decide_eq_false (by omega)
  have d3n : ¬ n2 < pos := by omega
  clear hEr hBq hbl
  go_wp2_with fail
  refine HErr.out.mono ?_
  rintro ee w5 ⟨se, rfl, hse, HBe⟩
  clear HErr
  have dse : ¬ se.toList = [] := by
    rw [ByteArray.toList_eq]
    intro e
    have : se.size = 0 := by show se.data.toList.length = 0; rw [e]; rfl
    omega
  have dse2 : se.toList.isEmpty = false := by cases h : se.toList with | nil => exact absurd h dse | cons _ _ => rfl
  have HL5 := hid (HL.out.trans (HBe.out.mono HL.out.size))
  have HEq5 := hid (HEq.out.below HBe.out)
  have Hsr5 := hid (Hsr.out.below HBe.out)
  clear HL HEq Hsr HBe q1 q4 hcq
  obtain ⟨ms5, _, _, hBq⟩ := HEq5.out.e
  have HBq := hid hBq
  obtain ⟨pl, hpl⟩ : ∃ p, placeP (bs.take pos) = p := ⟨_, rfl⟩
  rw [hpl] at hBq
  have Hpl := hid hpl
  have q1 : w5.cell? ⟨q, 1, none⟩ = some (.int .i64 (pos : Int)) := hBq.cell 1
  have q2 : w5.cell? ⟨q, 2, none⟩ = some (.int .i64 (pl.1 : Int)) := hBq.cell 2
  have q3 : w5.cell? ⟨q, 3, none⟩ = some (.int .i64 (pl.2 : Int)) := hBq.cell 3
  clear hBq hpl
  obtain ⟨hcap, _, _⟩ := Hsr5.out.cap
  have hsp : ∀ wz : World, (Instr.sliceAt 28 (.slice a2 n2 c2) none (some (.int .i64 (pos : Int))) none).run Tryz.prog wz = .ok (.slice a2 pos c2) wz := fun wz => slice_hi64 a2 n2 c2 pos (by omega) HSpot.out wz
  go_upto_region 16 with fail
  clear hsp q1
  go_loopw [9, 10, 78] (fun s t u wr => w5 = wr ∧ ∃ (j : Nat), u = .int .i64 (j : Int) ∧ s = .int .i64 ((placeP (bs.take j)).1 : Int) ∧ t = .int .i64 ((placeP (bs.take j)).2 : Int) ∧ j ≤ pos) (fun _ _ u _ => pos - (intOf u).toNat)
  case atStart => exact ⟨rfl, 0, rfl, rfl, rfl, Nat.zero_le _⟩
  case round =>
  obtain ⟨rfl, j, rfl, rfl, rfl, hj⟩ := hrel
  by_cases hjp : j < pos
  · have d5 : decide ((j : Int) < (pos : Int)) = true := decide_eq_true (by omega)
    have i5 : (j : Int) < (pos : Int) := by omega
    obtain ⟨b, off, rfl, hbl2, hc⟩ := Hsr5.out.cell (show j < n2 by omega)
    have hjl : j < bs.length := by rw [Hbl.out]; omega
    have hps := place_snoc bs hjl
    have hple := place_le (bs.take j)
    rw [List.length_take] at hple
    have hxx := cN_get bs hjl
    obtain ⟨p0, hp0⟩ : ∃ p, placeP (bs.take j) = p := ⟨_, rfl⟩
    rw [hp0] at hps hple
    (try simp only [hp0])
    obtain ⟨pa, pb⟩ := p0
    dsimp only at hple ⊢
    have hbl3 : bs.length = n2 := Hbl.out
    by_cases h10 : cN bs j = 10
    · have d6 : ((cN bs j : Int) == 10) = true := by simp; omega
      have HQ : Hid (placeP (bs.take (j + 1)) = (pa + 1, 1)) := hid (by rw [hps]; unfold curS; rw [if_pos (by rw [hxx]; exact h10)])
      clear h10 hps hp0 hxx
      generalize cN bs j = x at hc d6
      go_wp2
      exact ⟨⟨trivial, j + 1, by go_num, by rw [HQ.out]; go_num, by rw [HQ.out]; rfl, by omega⟩, by simp [intOf]; omega⟩
    · have d6 : ((cN bs j : Int) == 10) = false := by simp; omega
      have HQ : Hid (placeP (bs.take (j + 1)) = (pa, pb + 1)) := hid (by rw [hps]; unfold curS; rw [if_neg (by rw [hxx]; exact h10)])
      clear h10 hps hp0 hxx
      generalize cN bs j = x at hc d6
      go_wp2
      exact ⟨⟨trivial, j + 1, by go_num, by rw [HQ.out], by rw [HQ.out]; go_num, by omega⟩, by simp [intOf]; omega⟩
  have d5 : decide ((j : Int) < (pos : Int)) = false := decide_eq_false (by omega)
  obtain rfl : j = pos := by omega
  have hplo := Hpl.out
  (try simp only [hplo])
  have d7 : ((pl.1 : Int) != (pl.1 : Int)) = false := by simp
  have d8 : ((pl.2 : Int) != (pl.2 : Int)) = false := by simp
  have HEx := hid (excerptW Hsr5.out HEq5.out hpn)
  go_wp2_with fail
  refine HEx.out.mono ?_
  rintro ee w6 ⟨sx, r0, at_, rfl, HX⟩
  have hsxz : sx.size ≤ 1000 := by
    have h1 : sx.data.toList.length = sx.size := rfl
    have h2 := HX.out.2.1.sm
    have h3 := HX.out.2.1.le
    rw [HX.out.1] at h1
    simp at h1
    omega
  have HRo := hid (rowsOfW (w := w6) sx hsxz)
  clear HEx
  go_wp2_with fail
  refine HRo.out.mono ?_
  rintro ee w7 ⟨vr, rfl, HRw⟩
  clear HRo
  have HB7 : Hid (Below wc.heap.size wc w7) := hid ((HL5.out.trans (HX.out.2.2.mono HL5.out.size)).trans (HRw.out.b.mono (Nat.le_trans HL5.out.size HX.out.2.2.size)))
  have hBq7 := (HEq5.out.below HX.out.2.2).below HRw.out.b
  have Hsr7 := hid ((Hsr5.out.below HX.out.2.2).below HRw.out.b)
  obtain ⟨ms7, _, _, hBq7⟩ := hBq7.e
  have p1 : w7.cell? ⟨q, 1, none⟩ = some (.int .i64 (j : Int)) := hBq7.cell 1
  have hrw := HRw.out
  rw [HX.out.1, rwF_excerpt r0 at_ HX.out.2.1.ne] at hrw
  obtain ⟨g7, c7, rfl, hM⟩ := hrw.open
  have HXp := hid HX.out.2.1
  obtain ⟨b0, hb0⟩ : ∃ b, mkB r0 = b := ⟨_, rfl⟩
  obtain ⟨b1, hb1⟩ : ∃ b, mkB (List.replicate at_ 32 ++ [94]) = b := ⟨_, rfl⟩
  obtain ⟨b2, hb2⟩ : ∃ b, mkB [] = b := ⟨_, rfl⟩
  obtain ⟨m0, m1, m2⟩ := hM
  rw [hb0] at m0
  rw [hb1] at m1
  rw [hb2] at m2
  obtain ⟨rl, hrl⟩ : ∃ x, r0.length = x := ⟨_, rfl⟩
  have z0 : b0.size = rl := by rw [← hb0, mkB_size, hrl]
  have z1 : b1.size = at_ + 1 := by rw [← hb1, mkB_size]; simp
  have z2 : b2.size = 0 := by rw [← hb2]; rfl
  have hal : at_ ≤ rl := by rw [← hrl]; exact HXp.out.le
  have hrl2 : rl ≤ 200 := by rw [← hrl]; exact HXp.out.sm
  have l1 : at_ < b1.size := by omega
  have e94 : b1[at_] = 94 := by
    subst hb1
    exact mkB_get _ _ _ 94 (by rw [List.getElem?_append_right (by simp)]; simp)
  have Hsp : Hid (∀ (i : Nat) (h : i < b1.size), i < at_ → b1[i] = 32) := hid (fun i h hi => by
    subst hb1
    exact mkB_get _ _ _ 32 (by rw [List.getElem?_append_left (by simpa using hi), List.getElem?_replicate, if_pos hi]))
  have Hr0 : Hid (∀ (h : at_ < b0.size) (x : UInt8), r0[at_]? = some x → b0[at_] = x) := hid (fun h x hx => by
    subst hb0
    exact mkB_get _ _ _ x hx)
  have Hen : Hid ((j = n2 ∨ cN bs j = 10) ↔ at_ = rl) := hid (by rw [← hrl]; exact HXp.out.en)
  have Hch := hid HXp.out.ch
  clear hb0 hb1 hb2 hrl HXp HRw HX hBq7 HEq5 Hsr5 HL5 HBq hplo d7 d8 q2 q3 hsxz hrw
  have y1 : ((at_ + 1 : Nat) : Int) - 1 = (at_ : Int) := by omega
  have y2 : (((at_ + 1 : Nat) : Int) == 0) = false := by simp; omega
  have y3 : decide ((rl : Int) < (at_ : Int)) = false := decide_eq_false (by omega)
  have y3n : ¬ rl < at_ := by omega
  go_upto_region 31 with fail
  go_loopw [15] (fun t wr => w7 = wr ∧ ∃ (i2 : Nat), t = .int .i64 (i2 : Int) ∧ i2 ≤ at_) (fun t _ => at_ - (intOf t).toNat)
  case atStart => exact ⟨rfl, 0, rfl, Nat.zero_le _⟩
  case round =>
  obtain ⟨rfl, i2, rfl, hi2⟩ := hrel
  by_cases hia : i2 < at_
  · have d9 : decide ((i2 : Int) < (at_ : Int)) = true := decide_eq_true (by omega)
    have l2 : i2 < b1.size := by omega
    have l3 : (i2 : Int) < (b1.size : Int) := by omega
    have e32 : b1[i2] = 32 := Hsp.out i2 l2 hia
    go_wp2
    exact ⟨⟨trivial, i2 + 1, by go_num, by omega⟩, by simp [intOf]; omega⟩
  have d9 : decide ((i2 : Int) < (at_ : Int)) = false := decide_eq_false (by omega)
  obtain ⟨be, hbe⟩ : ∃ b : Bool, (decide (j = n2) || decide (cN bs j = 10)) = b := ⟨_, rfl⟩
  have hbe2 : ((at_ : Int) == (rl : Int)) = be := by
    rw [← hbe]
    have h := Hen.out
    apply Bool.eq_iff_iff.2
    simp
    omega
  go_upto_region 35 with fail
  go_cut [16, 41] from 41 to 203 (fun v t wc => v = .bool be ∧ t = .int .i64 (i : Int) ∧ w7 = wc)
  case first =>
    by_cases hjn : j = n2
    · have f1 : ((j : Int) == (n2 : Int)) = true := by simp; omega
      obtain rfl : be = true := by rw [← hbe, decide_eq_true hjn]; rfl
      clear hbe hjn
      go_wp2
      go_meet
      exact ⟨rfl, rfl, rfl⟩
    · have f1 : ((j : Int) == (n2 : Int)) = false := by simp; omega
      obtain ⟨bx, ox, ha2, hbl4, hc4⟩ := Hsr7.out.cell (show j < n2 by omega)
      subst ha2
      have f2 : ((cN bs j : Int) == 10) = be := by
        rw [← hbe, decide_eq_false hjn, Bool.false_or]
        exact Bool.eq_iff_iff.2 (by simp; omega)
      have f3 : (j : Int) < (n2 : Int) := by omega
      clear hbe
      generalize cN bs j = x at hc4 f2
      go_wp2
      go_meet
      exact ⟨rfl, rfl, rfl⟩
  case rest =>
  obtain ⟨rfl, rfl, rfl⟩ := hcut
  cases be with
  | true =>
    clear hbe Hen Hch Hr0 Hsp
    go_wp2
    go_roundw
    case rel => exact ⟨i + 1, by go_num, by omega, HB7⟩
    case measure => simp [intOf]; omega
  | false =>
  have hjn : j < n2 := by
    have h1 := (Bool.or_eq_false_iff.1 hbe).1
    have := of_decide_eq_false h1
    omega
  have hat : at_ < b0.size := by
    have h1 := ne_of_beq_false hbe2
    rw [z0]
    omega
  have f3 : (j : Int) < (n2 : Int) := by omega
  have f4 : (at_ : Int) < (b0.size : Int) := by omega
  obtain ⟨bx, ox, ha2, hbl4, hc4⟩ := Hsr7.out.cell hjn
  subst ha2
  have Hch2 : Hid (32 < cN bs j → cN bs j < 127 → (b0[at_].toNat : Int) = (cN bs j : Int)) := hid (fun h1 h2 => by
    obtain ⟨x, hx, hx2⟩ := Hch.out hjn h1 h2
    rw [Hr0.out hat x hx, hx2])
  clear hbe Hen Hch Hr0 Hsp
  generalize cN bs j = x at hc4 Hch2
  by_cases h32 : 32 < x
  · have g1 : decide ((32 : Int) < (x : Int)) = true := decide_eq_true (by omega)
    by_cases h127 : x < 127
    · have g2 : decide ((x : Int) < 127) = true := decide_eq_true (by omega)
      have g3 : ((b0[at_].toNat : Int) != (x : Int)) = false := by rw [Hch2.out h32 h127]; simp
      have g4 := Hch2.out h32 h127
      go_wp2
      go_roundw
      case rel => exact ⟨i + 1, by go_num, by omega, HB7⟩
      case measure => simp [intOf]; omega
    · have g2 : decide ((x : Int) < 127) = false := decide_eq_false (by omega)
      go_wp2
      go_roundw
      case rel => exact ⟨i + 1, by go_num, by omega, HB7⟩
      case measure => simp [intOf]; omega
  · have g1 : decide ((32 : Int) < (x : Int)) = false := decide_eq_false (by omega)
    go_wp2
    go_roundw
    case rel => exact ⟨i + 1, by go_num, by omega, HB7⟩
    case measure => simp [intOf]; omega
end
end Go.Proofs.Qxb6500883aGreatDoor
