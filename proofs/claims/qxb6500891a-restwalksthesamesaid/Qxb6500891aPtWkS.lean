/- sameWalk. -/
import Derived.Test.Qxb6500891aPtWkF
import Derived.Lib.SlBytesConst
namespace Go.Proofs.Qxb6500891a
open Go.RowKit
set_option linter.unusedSimpArgs false
set_option linter.unusedVariables false

/-- Two walks side by side. -/
structure Sw (w0 : World) (SA SB : WS) (pA pB : Nat) (w : World) : Prop where
  bel : Below w0.heap.size w0 w
  a : ∃ cs, Blk w pA 68 cs ∧ WOk cs SA
  b : ∃ cs, Blk w pB 68 cs ∧ WOk cs SB
  ia : WInv SA
  ib : WInv SB
section
variable {w0 w w' : World} {SA SB S' : WS} {pA pB p : Nat}
theorem Sw.below (h : Sw w0 SA SB pA pB w) (hb : Below w.heap.size w w') : Sw w0 SA SB pA pB w' :=
  ⟨h.bel.trans (hb.mono h.bel.size), by obtain ⟨cs, h1, h2⟩ := h.a; exact ⟨cs, h1.below hb, h2⟩, by obtain ⟨cs, h1, h2⟩ := h.b; exact ⟨cs, h1.below hb, h2⟩, h.ia, h.ib⟩
theorem Sw.upd (h : Sw w0 SA SB pA pB w) (hu : Upd p w w') (hp : w0.heap.size ≤ p) (ha : pA ≠ p) (hb : pB ≠ p) : Sw w0 SA SB pA pB w' :=
  ⟨h.bel.trans (hu.below hp h.bel.size), by obtain ⟨cs, h1, h2⟩ := h.a; exact ⟨cs, h1.upd hu ha, h2⟩, by obtain ⟨cs, h1, h2⟩ := h.b; exact ⟨cs, h1.upd hu hb, h2⟩, h.ia, h.ib⟩
theorem Sw.nextA (h : Sw w0 SA SB pA pB w) (hu : Upd pA w w') (hd : ∃ ds, Blk w' pA 68 ds ∧ WOk ds S') (hi : WInv S') (hp : w0.heap.size ≤ pA) (hb : pB ≠ pA) : Sw w0 S' SB pA pB w' :=
  ⟨h.bel.trans (hu.below hp h.bel.size), hd, by obtain ⟨cs, h1, h2⟩ := h.b; exact ⟨cs, h1.upd hu hb, h2⟩, hi, h.ib⟩
theorem Sw.nextB (h : Sw w0 SA SB pA pB w) (hu : Upd pB w w') (hd : ∃ ds, Blk w' pB 68 ds ∧ WOk ds S') (hi : WInv S') (hp : w0.heap.size ≤ pB) (hb : pA ≠ pB) : Sw w0 SA S' pA pB w' :=
  ⟨h.bel.trans (hu.below hp h.bel.size), by obtain ⟨cs, h1, h2⟩ := h.a; exact ⟨cs, h1.upd hu hb, h2⟩, hd, h.ia, hi⟩
theorem Sw.linksA (h : Sw w0 SA SB pA pB w) : Calls Try.prog 34 #[.pointer (some ⟨pA, 0, none⟩)] w fun e w' => e = .returned (.int .i64 (SA.links : Int)) ∧ w' = w := by obtain ⟨cs, h1, h2⟩ := h.a; exact links_walk _ _ cs SA w h1 h2
theorem Sw.linksB (h : Sw w0 SA SB pA pB w) : Calls Try.prog 34 #[.pointer (some ⟨pB, 0, none⟩)] w fun e w' => e = .returned (.int .i64 (SB.links : Int)) ∧ w' = w := by obtain ⟨cs, h1, h2⟩ := h.b; exact links_walk _ _ cs SB w h1 h2
theorem Sw.stepsA (h : Sw w0 SA SB pA pB w) : Calls Try.prog 35 #[.pointer (some ⟨pA, 0, none⟩)] w fun e w' => e = .returned (.int .i64 (SA.steps : Int)) ∧ w' = w := by obtain ⟨cs, h1, h2⟩ := h.a; exact steps_walk _ _ cs SA w h1 h2
theorem Sw.stepsB (h : Sw w0 SA SB pA pB w) : Calls Try.prog 35 #[.pointer (some ⟨pB, 0, none⟩)] w fun e w' => e = .returned (.int .i64 (SB.steps : Int)) ∧ w' = w := by obtain ⟨cs, h1, h2⟩ := h.b; exact steps_walk _ _ cs SB w h1 h2
theorem Sw.leftA (h : Sw w0 SA SB pA pB w) : Calls Try.prog 31 #[.pointer (some ⟨pA, 0, none⟩)] w fun e w' => e = .returned (.int .i64 (leftL SA.lv : Int)) ∧ Below w.heap.size w w' := by obtain ⟨cs, h1, h2⟩ := h.a; exact left_walk _ _ cs SA w h1 h2 h.ia.d9
theorem Sw.leftB (h : Sw w0 SA SB pA pB w) : Calls Try.prog 31 #[.pointer (some ⟨pB, 0, none⟩)] w fun e w' => e = .returned (.int .i64 (leftL SB.lv : Int)) ∧ Below w.heap.size w w' := by obtain ⟨cs, h1, h2⟩ := h.b; exact left_walk _ _ cs SB w h1 h2 h.ib.d9
theorem Sw.doneA (h : Sw w0 SA SB pA pB w) : Calls Try.prog 33 #[.pointer (some ⟨pA, 0, none⟩)] w fun e w' => e = .returned (.bool SA.lv.isEmpty) ∧ w' = w := by obtain ⟨cs, h1, h2⟩ := h.a; exact done_walk _ _ cs SA w h1 h2
theorem Sw.doneB (h : Sw w0 SA SB pA pB w) : Calls Try.prog 33 #[.pointer (some ⟨pB, 0, none⟩)] w fun e w' => e = .returned (.bool SB.lv.isEmpty) ∧ w' = w := by obtain ⟨cs, h1, h2⟩ := h.b; exact done_walk _ _ cs SB w h1 h2
end
theorem row_t (w : World) (fz : Nat × Nat) : ByteRow (w.alloc (.cells #[.int .u8 116] 5 fz)) (some ⟨w.heap.size, 0, none⟩) 1 1 [116] := by
  refine ⟨⟨rfl, Nat.le_refl _, ⟨by omega, by unfold maxLen; omega, fun h => by cases h⟩, fun i hi => ?_⟩, fun x hx => by simp at hx; omega⟩
  simp at hi
  subst hi
  refine ⟨w.heap.size, 0, rfl, by simp, fun j hj => ?_⟩
  have : j = 0 := by omega
  subst this
  have hb : (w.alloc (.cells #[Value.int .u8 116] 5 fz)).heap[w.heap.size]? = some (.cells #[Value.int .u8 116] 5 fz) := by
    show (w.heap.push _)[w.heap.size]? = _
    simp
  simp only [World.cell?, hb]
  rfl
def xCode (S : WS) : Int := if S.tk = false then 8 else if S.links = 8 then 9 else 0
theorem ExpP.code {g : Nat} {t : TypeId} {S : WS} {w w' : World} {e : Ending} (h : ExpP g t S [116] w e w') : ∃ ab, e = .returned (.tuple #[.bool ab, .int .u8 (xCode S)]) := by
  obtain ⟨ab, code, ds, S', he, _, _, hc⟩ := h.out
  refine ⟨ab, ?_⟩
  rw [he]
  have : code = xCode S := by
    unfold xCode
    rcases hc with ⟨h1, h2, _⟩ | ⟨h1, h2, h3, _⟩ | ⟨h1, h2, h3, h4, h5, _⟩ | ⟨h1, h2, h3, _⟩
    · rw [if_pos h1]; exact h2
    · rw [if_neg (by rw [h1]; simp), if_pos h2]; exact h3
    · exact absurd (GoodP.small (by simp) (by simp) (fun x hx => by simp at hx; omega)) h5
    · rw [if_neg (by rw [h1]; simp), if_neg (by omega)]; exact h3
  rw [this]
def cellN (w : World) (p : Nat) : Nat := match w.cell? ⟨p, 8093, none⟩ with
  | some (.int _ n) => n.toNat
  | _ => 0
theorem cellN_eq {w : World} {p : Nat} {t : TypeId} {cs : List Value} {S : WS} (hb : Blk w p t cs) (hk : WOk cs S) : cellN w p = S.steps := by
  unfold cellN
  rw [(hk.cells hb).2.2.1]
  simp
set_option maxRecDepth 1000000 in
set_option maxHeartbeats 4000000 in
theorem sameWalk_walk (csA csB : List Value) (S : WS) (hA : WOk csA S) (hB : WOk csB S) (hi : WInv S) (w : World) :
    Calls Try.prog 39 #[.agg csA.toArray, .agg csB.toArray] w fun e w' => e = .returned (.bool true) ∧ Below w.heap.size w w' := by
  obtain ⟨pA, hpA⟩ : ∃ pA, w.heap.size = pA := ⟨_, rfl⟩
  obtain ⟨b1, b2, hbel⟩ := blk2 w csA csB 68 68
  rw [hpA] at b1 b2
  have HS0 : Hid (Sw w S S pA (pA + 1) ((w.alloc (.cells csA.toArray 68)).alloc (.cells csB.toArray 68))) := hid ⟨hbel, ⟨_, b1, hA⟩, ⟨_, b2, hB⟩, hi, hi⟩
  have HI := hid hi
  clear b1 b2 hbel hA hB hi
  go_enter Try.func39, Try.ntmps39
  go_upto_region 1 with fail
  generalize (w.alloc (.cells csA.toArray 68)).alloc (.cells csB.toArray 68) = w1 at HS0 ⊢
  have hAB : pA ≠ pA + 1 := by omega
  generalize hpB : pA + 1 = pB at HS0 hAB ⊢
  have hwA : w.heap.size ≤ pA := by omega
  have hwB : w.heap.size ≤ pB := by omega
  obtain ⟨em, hem⟩ : ∃ em, S.lv.isEmpty = em := ⟨_, rfl⟩
  obtain ⟨lf, hlf⟩ : ∃ lf, leftL S.lv = lf := ⟨_, rfl⟩
  have HLA := hid (HS0.out.leftA)
  go_wp2_with fail
  refine (HS0.out.linksA).mono ?_
  rintro e w2 ⟨rfl, rfl⟩
  go_wp2_with fail
  refine (HS0.out.linksB).mono ?_
  rintro e w3 ⟨rfl, rfl⟩
  go_wp2_with fail
  refine (HS0.out.stepsA).mono ?_
  rintro e w4 ⟨rfl, rfl⟩
  go_wp2_with fail
  refine (HS0.out.stepsB).mono ?_
  rintro e w5 ⟨rfl, rfl⟩
  go_wp2_with fail
  refine (HLA.out).mono ?_
  rintro e w6 ⟨rfl, hb6⟩
  have HS6 := hid (HS0.out.below hb6)
  clear hb6 HLA HS0
  go_wp2_with fail
  refine (HS6.out.leftB).mono ?_
  rintro e w7 ⟨rfl, hb7⟩
  have HS7 := hid (HS6.out.below hb7)
  clear hb7 HS6
  rw [hlf]
  go_wp2_with fail
  refine (HS7.out.doneA).mono ?_
  rintro e w8 ⟨rfl, rfl⟩
  go_wp2_with fail
  refine (HS7.out.doneB).mono ?_
  rintro e w9 ⟨rfl, rfl⟩
  rw [hem]
  clear hem hlf
  obtain ⟨cA, hcA, hkA⟩ := HS7.out.a
  obtain ⟨cB, hcB, hkB⟩ := HS7.out.b
  obtain ⟨pC, hpC⟩ : ∃ pC, w9.heap.size = pC := ⟨_, rfl⟩
  have HZ1 : Hid (Blk ((w9.alloc (.cells zWalk.toArray 68)).alloc (.cells zWalk.toArray 68)) pC 68 zWalk) := hid (by have := (blk2 w9 zWalk zWalk 68 68).1; rw [hpC] at this; exact this)
  have HZ2 : Hid (Blk ((w9.alloc (.cells zWalk.toArray 68)).alloc (.cells zWalk.toArray 68)) (pC + 1) 68 zWalk) := hid (by have := (blk2 w9 zWalk zWalk 68 68).2.1; rw [hpC] at this; exact this)
  have HBz : Hid (Below w9.heap.size w9 ((w9.alloc (.cells zWalk.toArray 68)).alloc (.cells zWalk.toArray 68))) := hid (blk2 w9 zWalk zWalk 68 68).2.2
  have hz := zero_walk
  have hzl := zWalk_len
  have LA : Hid (zWalk.length = cA.length) := hid (by rw [hkA.len, hzl])
  have LB : Hid (zWalk.length = cB.length) := hid (by rw [hkB.len, hzl])
  generalize zWalk = Z at *
  have IA : Hid ((Try.prog.info? 68).map (·.size) = some cA.length) := hid (by rw [hkA.len]; exact info_walk)
  have IB : Hid ((Try.prog.info? 68).map (·.size) = some cB.length) := hid (by rw [hkB.len]; exact info_walk)
  have OA := hid hkA.one
  have OB := hid hkB.one
  have HcA := hid hcA
  have HcB := hid hcB
  have HkA := hid hkA
  have HkB := hid hkB
  have hCD : pC + 1 ≠ pC := by omega
  have hAC : pA < pC := by have := hcA.lt; omega
  have hBC : pB < pC := by have := hcB.lt; omega
  clear hcA hcB hkA hkB hzl
  go_upto_region 4 with (first
    | (refine wpList_load_blk rfl 68 _ rfl pA rfl cA HcA.out _ Try.underlying68 rfl IA.out ?_)
    | (refine wpList_load_blk rfl 68 _ rfl pB rfl cB HcB.out _ Try.underlying68 rfl IB.out ?_)
    | (refine wpList_store_blk rfl 68 _ _ rfl pC rfl cA rfl HZ1.out LA.out IA.out OA.out ?_; intro w10 HB10 HU10)
    | (refine wpList_store_blk rfl 68 _ _ rfl (pC + 1) rfl cB rfl (HZ2.out.upd HU10.out hCD) LB.out IB.out OB.out ?_; intro w11 HB11 HU11))
  have HS11 : Hid (Sw w S S pA pB w11) := hid (((HS7.out.below HBz.out).upd HU10.out (by have := HS7.out.bel.size; omega) (by omega) (by omega)).upd HU11.out (by have := HS7.out.bel.size; omega) (by omega) (by omega))
  have HC11 : Hid (Blk w11 pC 68 cA) := hid (HB10.out.upd HU11.out (by omega))
  have hp11 : pC + 1 < w11.heap.size := HB11.out.lt
  have hw9 : w.heap.size ≤ pC := by have := HS7.out.bel.size; omega
  generalize hpD : pC + 1 = pD at HB11 hp11 ⊢
  clear HS7 HBz HB10 HU10 HU11 HZ1 HZ2 LA LB IA IB OA OB HcA HcB hz
  have kc := fun (w : World) (n c : Nat) => Lib.run_convert_bytes_const (P := Try.prog) w 26 5 #[.int .u8 116] n c Try.underlying26 Try.underlying5
  have HE1 := hid (expand_walk pC 68 cA S (w11.alloc (.cells #[.int .u8 116] 5 (1, 2))) (HC11.out.alloc _) HkA.out HI.out (some ⟨w11.heap.size, 0, none⟩) 1 1 [116] (row_t w11 _) (fun _ b off e => by cases e; omega))
  go_wp2_with fail
  refine (HE1.out).mono ?_
  rintro e w12 hx12
  obtain ⟨ab1, rfl⟩ := hx12.code
  have HS12 : Hid (Sw w S S pA pB w12) := hid ((HS11.out.below (nbel w11 _)).upd hx12.upd hw9 (by omega) (by omega))
  have HD12 : Hid (Blk w12 pD 68 cB) := hid ((HB11.out.alloc _).upd hx12.upd (by omega))
  have hp12 : pD < w12.heap.size := HD12.out.lt
  clear hx12 HE1 HS11 HC11 HB11
  obtain ⟨xc, hxc⟩ : ∃ xc, xCode S = xc := ⟨_, rfl⟩
  rw [hxc]
  have HE2 := hid (expand_walk pD 68 cB S (w12.alloc (.cells #[.int .u8 116] 5 (1, 2))) (HD12.out.alloc _) HkB.out HI.out (some ⟨w12.heap.size, 0, none⟩) 1 1 [116] (row_t w12 _) (fun _ b off e => by cases e; omega))
  go_wp2_with fail
  refine (HE2.out).mono ?_
  rintro e w13 hx13
  obtain ⟨ab2, rfl⟩ := hx13.code
  have HS13 : Hid (Sw w S S pA pB w13) := hid ((HS12.out.below (nbel w12 _)).upd hx13.upd (by omega) (by omega) (by omega))
  clear hx13 HE2 HS12 HD12
  rw [hxc]
  clear hxc
  go_wp2_with fail
  go_loopw [12] (fun v wr => ∃ S', Hid (Sw w S' S' pA pB wr)) (fun _ wr => 1153 - cellN wr pA)
  case atStart => exact ⟨S, HS13⟩
  case round =>
    clear HS13 HkA HkB HI
    obtain ⟨S1, HS⟩ := hrel
    obtain ⟨c0, hc0, hk0⟩ := HS.out.a
    have hst : S1.steps ≤ 1152 := by have := HS.out.ia.sum; have := HS.out.ia.l8; omega
    have hcn := cellN_eq hc0 hk0
    obtain ⟨C, b, S2, la, nd, HF, hN⟩ := next_any hk0 HS.out.ia
    have HNA := hid (hN pA 68 c0 wr hc0 hk0).1
    have HNB : Hid (∀ w', Sw w S2 S1 pA pB w' → Calls Try.prog 37 #[.pointer (some ⟨pB, 0, none⟩)] w' (fun e w'' => NextP pB 68 C b S2 w' e w'')) := hid (fun w' h => by obtain ⟨cs, h1, h2⟩ := h.b; exact (hN pB _ cs w' h1 h2).1)
    have HFF := hid HF
    have hC37 := HF.len
    have hneq := HF.neq
    have I2 : Hid ((Try.prog.info? 40).map (·.size) = some C.length) := hid (by rw [hC37]; exact info_comp)
    have L2 : Hid ((compC [] 0 0 false false).length = C.length) := hid (by rw [hC37]; rfl)
    have Hcn := hid hcn
    clear hc0 hk0 hN HF hcn
    go_wp2_with fail
    refine (HNA.out).mono ?_
    rintro e w2 hp2
    obtain ⟨rfl, hu2, hd2⟩ := hp2
    have HS2 := hid (HS.out.nextA hu2 hd2 HFF.out.inv hwA (by omega))
    clear hu2 hd2 HNA
    obtain ⟨q, hq⟩ : ∃ q, w2.heap.size = q := ⟨_, rfl⟩
    have hbn := Blk.new w2 (compC [] 0 0 false false) 40
    rw [hq] at hbn
    have HBn := hid hbn
    clear hbn
    go_upto_region 9 with (refine wpList_store_blk rfl 40 _ _ rfl q rfl C rfl HBn.out L2.out I2.out HFF.out.one ?_; intro w3 HB3 HU3)
    have hqA : pA < q := by obtain ⟨_, h, _⟩ := HS2.out.a; have := h.lt; omega
    have hqB : pB < q := by obtain ⟨_, h, _⟩ := HS2.out.b; have := h.lt; omega
    have HS3 := hid ((HS2.out.below (nbel w2 _)).upd HU3.out (by omega) (by omega) (by omega))
    clear HU3 HBn HS2
    go_wp2_with fail
    refine (HNB.out _ HS3.out).mono ?_
    rintro e w4 hp4
    obtain ⟨rfl, hu4, hd4⟩ := hp4
    have HS4 := hid (HS3.out.nextB hu4 hd4 HFF.out.inv hwB (by omega))
    have HB4 := hid (HB3.out.upd hu4 (by omega))
    clear hu4 hd4 HNB HS3 HB3
    obtain ⟨r, hr⟩ : ∃ r, w4.heap.size = r := ⟨_, rfl⟩
    have hbn := Blk.new w4 (compC [] 0 0 false false) 40
    rw [hr] at hbn
    have HBn := hid hbn
    clear hbn
    go_upto_region 10 with (refine wpList_store_blk rfl 40 _ _ rfl r rfl C rfl HBn.out L2.out I2.out HFF.out.one ?_; intro w5 HB5 HU5)
    have hqr : q < r := by have := HB4.out.lt; omega
    have HS5 := hid ((HS4.out.below (nbel w4 _)).upd HU5.out (by omega) (by omega) (by omega))
    have HBq := hid ((HB4.out.alloc _).upd HU5.out (by omega))
    clear HU5 HBn HS4 HB4
    cases b with
    | false =>
      as_aux_lemma =>
      go_wp2_with (first
        | (refine wpList_load_blk_w rfl 40 _ rfl q rfl C HBq.out _ Try.underlying40 rfl I2.out ?_)
        | (refine wpList_load_blk_w rfl 40 _ rfl r rfl C HB5.out _ Try.underlying40 rfl I2.out ?_))
      go_ret
      exact ⟨rfl, by have h := HS5.out.bel; first | exact h | (rw [hpA] at h; exact h)⟩
    | true =>
      as_aux_lemma =>
      have hs2 : S2.steps = S1.steps + 1 := (HFF.out.st rfl).1
      have Hce : Hid (cellN w5 pA = S1.steps + 1) := hid (by obtain ⟨_, h1, h2⟩ := HS5.out.a; rw [cellN_eq h1 h2, hs2])
      clear hs2
      go_wp2_with (first
        | (refine wpList_load_blk_w rfl 40 _ rfl q rfl C HBq.out _ Try.underlying40 rfl I2.out ?_)
        | (refine wpList_load_blk_w rfl 40 _ rfl r rfl C HB5.out _ Try.underlying40 rfl I2.out ?_))
      exact ⟨⟨S2, HS5⟩, by rw [Hce.out, Hcn.out]; omega⟩
end Go.Proofs.Qxb6500891a
