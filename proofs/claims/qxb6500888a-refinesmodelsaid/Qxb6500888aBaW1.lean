/- The barrier: Write. -/
import Derived.Test.Qxb6500888aBaPa
namespace Go.Proofs.Qxb6500888a
open Go.RowKit
set_option linter.unusedSimpArgs false
set_option linter.unusedVariables false

def wrG (G : GS) (s ref : Nat) : GS := { G with lg := fup G.lg s true, word := fup G.word s ref }
def wrB (G : GS) (B : BS) (m f s : Nat) : BS := if G.lg s = true then B else addB B m (f, G.word s)
def writeS (G : GS) (B : BS) (x : Int) (obj : Nat) (i : Int) (ref : Nat) : Nat × GS × BS :=
  if badM x then (1, G, B) else if (fieldS G obj i).2 ≠ 0 then ((fieldS G obj i).2, G, B) else if (G.head ref).isSome = false ∧ ref ≠ 0 then (4, G, B) else
  (0, wrG G (offA (fieldS G obj i).1) ref, wrB G B x.toNat (fieldS G obj i).1 (offA (fieldS G obj i).1))
section
variable {w w' : World} {ρ ρ' : Rl} {L : GL} {T : BL} {G : GS} {B : BS}
/-- What Write answers. -/
def WrP (w : World) (ρ : Rl) (L : GL) (T : BL) (r : Nat × GS × BS) (e : Ending) (w' : World) : Prop := e = .returned (.int .u8 (r.1 : Int)) ∧ ∃ T' ρ', T'.bB = T.bB ∧ BM w' ρ' L T' r.2.1 r.2.2 ∧ Fr bX ρ w ρ' w'
set_option maxRecDepth 1000000 in
set_option maxHeartbeats 8000000 in
theorem write_walk (h : BM w ρ L T G B) (hok : GOk G) (x : Int) (obj : Nat) (i : Int) (ref : Nat) (hmd : B.made ≤ 1000000000) (hlg : ∀ m, (B.logs m).length ≤ 1000000000) :
    Calls Try.prog 56 #[.pointer (some ⟨T.bB, 0, none⟩), .int .i64 x, .int .u64 (obj : Int), .int .i64 i, .int .u64 (ref : Int)] w fun e w' => WrP w ρ L T (writeS G B x obj i ref) e w' := by
  have HH := hid h
  have HO := hid hok
  have Hb := hid (And.intro hmd hlg)
  by_cases hx : badM x
  · as_aux_lemma =>
    have HM := hid (mutator_bad T.bB hx w)
    have HR : Hid (WrP w ρ L T (writeS G B x obj i ref) (.returned (.int .u8 1)) w) := hid (by unfold writeS; rw [if_pos hx]; exact ⟨rfl, T, ρ, rfl, HH.out, Fr.refl _ _ _⟩)
    clear h hok hmd hlg
    go_enter Try.func56, Try.ntmps56
    go_wp2_with fail
    refine HM.out.mono ?_
    rintro e1 w1 ⟨rfl, rfl⟩
    clear HM
    go_wp2
    go_ret
    exact HR.out
  obtain ⟨m, rfl, hm⟩ : ∃ m : Nat, x = (m : Int) ∧ m < 4 := ⟨x.toNat, by unfold badM at hx; omega, by unfold badM at hx; omega⟩
  have HM := hid (mutator_ok T.bB hm w)
  have HFi := hid (bfield_walk h hok obj i)
  have Hx := hid hx
  by_cases hc : (fieldS G obj i).2 = 0
  rotate_left
  · as_aux_lemma =>
    have HR : Hid (WrP w ρ L T (writeS G B (m : Int) obj i ref) (.returned (.int .u8 ((fieldS G obj i).2 : Int))) w → True) := hid (fun _ => trivial)
    have HR2 : Hid (∀ w2, Below w.heap.size w w2 → WrP w ρ L T (writeS G B (m : Int) obj i ref) (.returned (.int .u8 ((fieldS G obj i).2 : Int))) w2) := hid (fun w2 hb2 => by unfold writeS; rw [if_neg hx, if_pos hc]; exact ⟨rfl, T, ρ, rfl, HH.out.below hb2, Fr.below hb2⟩)
    generalize (fieldS G obj i).1 = fa at HFi
    generalize (fieldS G obj i).2 = c at HFi hc HR2
    have dc : ((c : Int) != 0) = true := by simp; omega
    clear h hok hmd hlg hx HR
    go_enter Try.func56, Try.ntmps56
    go_wp2_with fail
    refine HM.out.mono ?_
    rintro e1 w1 ⟨rfl, rfl⟩
    clear HM
    go_wp2_with fail
    refine HFi.out.mono ?_
    rintro e2 w2 ⟨rfl, hb2⟩
    have HR3 := hid (HR2.out w2 hb2)
    clear HFi hb2
    go_wp2
    go_ret
    exact HR3.out
  obtain ⟨n, q, k, hh, rfl, hk, h1, h2, h3, h4⟩ := fieldS_ok hok hc
  have HX : Hid (writeS G B (m : Int) obj (k : Int) ref = if (G.head ref).isSome = false ∧ ref ≠ 0 then (4, G, B) else (0, wrG G (offA obj + 1 + k) ref, wrB G B m (obj + 1 + k) (offA obj + 1 + k))) := hid (by
    unfold writeS
    rw [if_neg hx, if_neg (by rw [hc]; decide), h4, h1]
    rfl)
  rw [hc, h1] at HFi
  obtain ⟨f, hf⟩ : ∃ f, obj + 1 + k = f := ⟨_, rfl⟩
  obtain ⟨s, hs⟩ : ∃ s, offA obj + 1 + k = s := ⟨_, rfl⟩
  rw [hf] at HFi HX h2
  rw [hs] at HX h2 h3
  have Hs := hid (And.intro h2 h3)
  have Hm := hid hm
  clear h hok hmd hlg hx hc hh hk h1 h2 h3 h4 hf hs hm
  go_enter Try.func56, Try.ntmps56
  go_wp2_with fail
  refine HM.out.mono ?_
  rintro e1 w1 ⟨rfl, rfl⟩
  clear HM
  go_wp2_with fail
  refine HFi.out.mono ?_
  rintro e2 w2 ⟨rfl, hb2⟩
  have HM2 := hid (HH.out.below hb2)
  have HB2 := hid hb2
  clear HFi hb2 HH
  have c0 := HM2.out.gcells.1
  have HSh := hid (shapeOf_walk HM2.out.gm ref)
  obtain ⟨⟨p, q'⟩, hp⟩ : ∃ z, (G.head ref).getD (0, 0) = z := ⟨_, rfl⟩
  obtain ⟨b, hb⟩ : ∃ b, (G.head ref).isSome = b := ⟨_, rfl⟩
  rw [hp, hb] at HSh
  rw [hb] at HX
  unfold shV at HSh
  dsimp only at HSh
  clear hp hb
  go_wp2_with fail
  refine HSh.out.mono ?_
  rintro e3 w3 ⟨rfl, hb3⟩
  have HM3 := hid (HM2.out.below hb3)
  have HB3 := hid (HB2.out.trans (hb3.mono HB2.out.size))
  clear HSh hb3 HM2 HB2 c0
  by_cases hbr : b = false ∧ ref ≠ 0
  · as_aux_lemma =>
    obtain ⟨rfl, hr0⟩ := hbr
    have dr : ((ref : Int) != 0) = true := by simp; omega
    rw [if_pos ⟨rfl, hr0⟩] at HX
    have HR : Hid (∀ w4, Below w3.heap.size w3 w4 → WrP w1 ρ L T (writeS G B (m : Int) obj (k : Int) ref) (.returned (.int .u8 4)) w4) := hid (fun w4 h4 => by rw [HX.out]; exact ⟨rfl, T, ρ, rfl, HM3.out.below h4, Fr.below (HB3.out.trans (h4.mono HB3.out.size))⟩)
    go_wp2
    go_ret
    exact HR.out _ (nbel _ _)
  rw [if_neg hbr] at HX
  have HGoOn : Hid (b = true ∨ (b = false ∧ ref = 0)) := hid (by
    cases b with
    | true => exact .inl rfl
    | false => exact .inr ⟨rfl, Classical.byContradiction (fun e => hbr ⟨rfl, e⟩)⟩)
  clear hbr
  rcases HGoOn.out with rfl | ⟨rfl, rfl⟩
  · clear HGoOn
    go_upto_region 10 with fail
    obtain ⟨w4, hw4⟩ : ∃ w4, w3.alloc (.cells #[.int .i64 (p : Int), .int .i64 (q' : Int)] 73) = w4 := ⟨_, rfl⟩
    have hb4 : Below w3.heap.size w3 w4 := by rw [← hw4]; exact nbel _ _
    (try simp only [hw4])
    have HM4 := hid (HM3.out.below hb4)
    have HB4 := hid (HB3.out.trans (hb4.mono HB3.out.size))
    clear hw4 hb4 HM3 HB3
    have c0 := HM4.out.gcells.1
    have HTs := hid (testSet_walk HM4.out.gm Hs.out.1 Hs.out.2)
    obtain ⟨lgb, hlgb⟩ : ∃ b, G.lg s = b := ⟨_, rfl⟩
    rw [hlgb] at HTs
    have Hlg := hid hlgb
    clear hlgb
    go_wp2_with fail
    refine HTs.out.mono ?_
    rintro e5 w5 ⟨rfl, hm5, hf5⟩
    have HM5 := hid (HM4.out.ground hm5 (GL.Same.refl _) hf5)
    have HF5 : Hid (Fr bX ρ w1 ρ w5) := hid ((Fr.below HB4.out).trans (hf5.mono (fun c => bX_g)))
    clear HTs hm5 hf5 HM4 HB4 c0
    cases lgb with
    | true =>
      as_aux_lemma =>
      have c1 := HM5.out.gcells.1
      have HSr := hid (setRefAt_walk HM5.out.gm Hs.out.1 Hs.out.2 ref)
      go_wp2_with fail
      refine HSr.out.mono ?_
      rintro e6 w6 ⟨rfl, hm6, hf6⟩
      have HR : Hid (WrP w1 ρ L T (writeS G B (m : Int) obj (k : Int) ref) (.returned (.int .u8 0)) w6) := hid (by
        rw [HX.out]
        refine ⟨rfl, T, ρ, rfl, ?_, HF5.out.trans (hf6.mono (fun c => bX_g))⟩
        have : wrB G B m f s = B := by unfold wrB; rw [if_pos Hlg.out]
        show BM w6 ρ L T (wrG G s ref) (wrB G B m f s)
        rw [this]
        exact HM5.out.ground hm6 (GL.Same.refl _) hf6)
      clear HSr hm6 hf6 c1 HM5 HF5 HX
      go_wp2
      go_ret
      exact HR.out
    | false =>
      as_aux_lemma =>
      obtain ⟨X, W, HTT, H0, hne, HC⟩ := class_below w5
      have c1 : ∀ y, (W y).cell? ⟨T.bB, 0, none⟩ = some (.pointer (some ⟨L.hB, 0, none⟩)) := fun y => (HM5.out.below (HTT.out y)).gcells.1
      obtain ⟨wd, hwd⟩ : ∃ x, G.word s = x := ⟨_, rfl⟩
      have Hwd := hid hwd
      have HRA : Hid (∀ y, Calls Try.prog 26 #[.pointer (some ⟨L.hB, 0, none⟩), .int .u64 (f : Int)] (W y) fun e w' => e = .returned (.int .u64 (wd : Int)) ∧ Below (W y).heap.size (W y) w') := hid (fun y => by
        have := refAt_walk (HM5.out.below (HTT.out y)).gm Hs.out.1 Hs.out.2
        rw [show GS.word _ s = wd from hwd] at this
        exact this)
      clear hwd
      go_upto_region 11 with fail
      refine wp_region_class_lastT W rfl (by kernel_rfl) (by kernel_rfl) (by kernel_rfl) H0.out ?_
      dsimp only [List.dropLast]
      repeat (go_big_quiet_step ((go_at_call 26; exact Calls.class_of HC.out (HRA.out _))))
      refine wpQuiet_nil ?_
      intro z
      have HZ := hid (HTT.out z)
      generalize W z = wz at HZ ⊢
      clear c1 H0 HTT HC hne HRA
      have HM6 := hid (HM5.out.below HZ.out)
      have HF6 := hid (HF5.out.trans (Fr.below HZ.out))
      have HAd := hid (add_walk HM6.out Hm.out f wd Hb.out.1 (Hb.out.2 m))
      clear HM5 HF5 HZ
      go_wp2_with fail
      refine HAd.out.mono ?_
      rintro e7 w7 ⟨rfl, T7, ρ7, ht7, hb7, hf7⟩
      have HM7 := hid hb7
      have HF7 := hid (HF6.out.trans hf7)
      have HT7 := hid ht7
      clear HAd ht7 hb7 hf7 HM6 HF6
      have c7 := HM7.out.gcells.1
      rw [HT7.out] at c7
      have HSr := hid (setRefAt_walk HM7.out.gm Hs.out.1 Hs.out.2 ref)
      go_wp2_with fail
      refine HSr.out.mono ?_
      rintro e8 w8 ⟨rfl, hm8, hf8⟩
      have HR : Hid (WrP w1 ρ L T (writeS G B (m : Int) obj (k : Int) ref) (.returned (.int .u8 0)) w8) := hid (by
        rw [HX.out]
        refine ⟨rfl, T7, ρ7, HT7.out, ?_, HF7.out.trans (hf8.mono (fun c => bX_g))⟩
        have : wrB G B m f s = addB B m (f, wd) := by unfold wrB; rw [if_neg (by rw [Hlg.out]; decide), Hwd.out]
        show BM w8 ρ7 L T7 (wrG G s ref) (wrB G B m f s)
        rw [this]
        exact HM7.out.ground hm8 (GL.Same.refl _) hf8)
      clear HSr hm8 hf8 c7 HM7 HF7 HX
      go_wp2
      go_ret
      exact HR.out
  · clear HGoOn
    go_upto_region 10 with fail
    obtain ⟨w4, hw4⟩ : ∃ w4, w3.alloc (.cells #[.int .i64 (p : Int), .int .i64 (q' : Int)] 73) = w4 := ⟨_, rfl⟩
    have hb4 : Below w3.heap.size w3 w4 := by rw [← hw4]; exact nbel _ _
    (try simp only [hw4])
    have HM4 := hid (HM3.out.below hb4)
    have HB4 := hid (HB3.out.trans (hb4.mono HB3.out.size))
    clear hw4 hb4 HM3 HB3
    have c0 := HM4.out.gcells.1
    have HTs := hid (testSet_walk HM4.out.gm Hs.out.1 Hs.out.2)
    obtain ⟨lgb, hlgb⟩ : ∃ b, G.lg s = b := ⟨_, rfl⟩
    rw [hlgb] at HTs
    have Hlg := hid hlgb
    clear hlgb
    go_wp2_with fail
    refine HTs.out.mono ?_
    rintro e5 w5 ⟨rfl, hm5, hf5⟩
    have HM5 := hid (HM4.out.ground hm5 (GL.Same.refl _) hf5)
    have HF5 : Hid (Fr bX ρ w1 ρ w5) := hid ((Fr.below HB4.out).trans (hf5.mono (fun c => bX_g)))
    clear HTs hm5 hf5 HM4 HB4 c0
    cases lgb with
    | true =>
      as_aux_lemma =>
      have c1 := HM5.out.gcells.1
      have HSr := hid (setRefAt_walk HM5.out.gm Hs.out.1 Hs.out.2 0)
      go_wp2_with fail
      refine HSr.out.mono ?_
      rintro e6 w6 ⟨rfl, hm6, hf6⟩
      have HR : Hid (WrP w1 ρ L T (writeS G B (m : Int) obj (k : Int) 0) (.returned (.int .u8 0)) w6) := hid (by
        rw [HX.out]
        refine ⟨rfl, T, ρ, rfl, ?_, HF5.out.trans (hf6.mono (fun c => bX_g))⟩
        have : wrB G B m f s = B := by unfold wrB; rw [if_pos Hlg.out]
        show BM w6 ρ L T (wrG G s 0) (wrB G B m f s)
        rw [this]
        exact HM5.out.ground hm6 (GL.Same.refl _) hf6)
      clear HSr hm6 hf6 c1 HM5 HF5 HX
      go_wp2
      go_ret
      exact HR.out
    | false =>
      as_aux_lemma =>
      obtain ⟨X, W, HTT, H0, hne, HC⟩ := class_below w5
      have c1 : ∀ y, (W y).cell? ⟨T.bB, 0, none⟩ = some (.pointer (some ⟨L.hB, 0, none⟩)) := fun y => (HM5.out.below (HTT.out y)).gcells.1
      obtain ⟨wd, hwd⟩ : ∃ x, G.word s = x := ⟨_, rfl⟩
      have Hwd := hid hwd
      have HRA : Hid (∀ y, Calls Try.prog 26 #[.pointer (some ⟨L.hB, 0, none⟩), .int .u64 (f : Int)] (W y) fun e w' => e = .returned (.int .u64 (wd : Int)) ∧ Below (W y).heap.size (W y) w') := hid (fun y => by
        have := refAt_walk (HM5.out.below (HTT.out y)).gm Hs.out.1 Hs.out.2
        rw [show GS.word _ s = wd from hwd] at this
        exact this)
      clear hwd
      go_upto_region 11 with fail
      refine wp_region_class_lastT W rfl (by kernel_rfl) (by kernel_rfl) (by kernel_rfl) H0.out ?_
      dsimp only [List.dropLast]
      repeat (go_big_quiet_step ((go_at_call 26; exact Calls.class_of HC.out (HRA.out _))))
      refine wpQuiet_nil ?_
      intro z
      have HZ := hid (HTT.out z)
      generalize W z = wz at HZ ⊢
      clear c1 H0 HTT HC hne HRA
      have HM6 := hid (HM5.out.below HZ.out)
      have HF6 := hid (HF5.out.trans (Fr.below HZ.out))
      have HAd := hid (add_walk HM6.out Hm.out f wd Hb.out.1 (Hb.out.2 m))
      clear HM5 HF5 HZ
      go_wp2_with fail
      refine HAd.out.mono ?_
      rintro e7 w7 ⟨rfl, T7, ρ7, ht7, hb7, hf7⟩
      have HM7 := hid hb7
      have HF7 := hid (HF6.out.trans hf7)
      have HT7 := hid ht7
      clear HAd ht7 hb7 hf7 HM6 HF6
      have c7 := HM7.out.gcells.1
      rw [HT7.out] at c7
      have HSr := hid (setRefAt_walk HM7.out.gm Hs.out.1 Hs.out.2 0)
      go_wp2_with fail
      refine HSr.out.mono ?_
      rintro e8 w8 ⟨rfl, hm8, hf8⟩
      have HR : Hid (WrP w1 ρ L T (writeS G B (m : Int) obj (k : Int) 0) (.returned (.int .u8 0)) w8) := hid (by
        rw [HX.out]
        refine ⟨rfl, T7, ρ7, HT7.out, ?_, HF7.out.trans (hf8.mono (fun c => bX_g))⟩
        have : wrB G B m f s = addB B m (f, wd) := by unfold wrB; rw [if_neg (by rw [Hlg.out]; decide), Hwd.out]
        show BM w8 ρ7 L T7 (wrG G s 0) (wrB G B m f s)
        rw [this]
        exact HM7.out.ground hm8 (GL.Same.refl _) hf8)
      clear HSr hm8 hf8 c7 HM7 HF7 HX
      go_wp2
      go_ret
      exact HR.out
end
end Go.Proofs.Qxb6500888a
