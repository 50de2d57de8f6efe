/- The law TableIsACanonicalArena: the walk. -/
import Derived.Test.Qxb6500883aGreatDoorScUi
import Derived.Test.Qxb6500883aGreatDoorScRc
import Derived.Laws.EntriesVeiled
namespace Go.Proofs.Qxb6500883aGreatDoor
open Go.RowKit
set_option linter.unusedSimpArgs false
set_option linter.unusedVariables false
section
variable {N mg : Nat} {w w' : World} {a : Option Addr} {n c : Nat} {l : List OpT}
set_option maxRecDepth 100000 in
set_option maxHeartbeats 16000000 in
theorem arenaLawW (hs : ScrT w a n c l) (hg : Gl N mg w) : Calls Tryz.prog 6 #[.slice a n c] w fun e w' => e = .returned (.bool true) ∧ Below w.heap.size w w' := by
  have HZ := hid (zzSmall1W hs)
  have HS := hid hs
  have HG := hid hg
  clear hs hg
  go_enter Tryz.func6, Tryz.ntmps6
  go_wp2_with fail
  refine HZ.out.mono ?_
  rintro e w ⟨r, rfl, rfl, hr⟩
  clear HZ
  cases r with
  | false =>
    go_wp2
    go_ret
    exact ⟨rfl, Below.refl _ _⟩
  | true =>
  have HT := hid (textW HS.out HG.out (hr rfl))
  clear hr
  go_wp2_with fail
  refine HT.out.mono ?_
  rintro e w2 ⟨v, rfl, HI⟩
  clear HT
  obtain ⟨a2, n2, c2, bs, rfl, hsrc, hgd⟩ := HI.out.src (by decide)
  have HB2 := hid HI.out.bel
  have HC := hid (compileW hsrc (HG.out.below (HI.out.bel.mono HG.out.sz)) hgd)
  have HLn := hid hsrc.len
  clear hsrc hgd HI
  go_wp2_with fail
  refine HC.out.mono ?_
  clear HC
  rintro e w3 (⟨tB, rfl, HQ⟩ | ⟨q, rfl, HQ⟩)
  rotate_left
  · have HB3 := hid (HB2.out.trans (HQ.out.1.mono HB2.out.size))
    have HB9 : Hid (Below w.heap.size w (w3.alloc (.cells #[.pointer none] 24))) := hid (HB3.out.trans ((nbel w3 _).mono HB3.out.size))
    clear HQ HB2
    go_wp2
    go_ret
    exact ⟨rfl, HB9.out⟩
  obtain ⟨⟨S, n0, τ, V, T, ga, mn, mf, al, bn, hfo, _, hdg, hT, hn0, hA⟩, hb3⟩ := HQ.out
  have HB3 := hid (HB2.out.trans (hb3.mono HB2.out.size))
  have HAr := hid (hA.ar hdg (first_idn HLn.out hfo))
  have HTg : Hid (∀ wz, Below w3.heap.size w3 wz → TbG n0 τ wz tB V T ga mn mf al bn) := hid (fun wz hz => hT.fr (τ' := τ) hz)
  clear hb3 hT hA hn0 HQ HB2 HS HG hfo hdg HLn
  obtain ⟨nt, hnt⟩ : ∃ x, T.types.length = x := ⟨_, rfl⟩
  have Hnt := hid hnt
  have h8 := HAr.out.n8
  have h2 := HAr.out.n2
  rw [hnt] at h8 h2
  obtain ⟨pt, hpt⟩ : ∃ p, w3.heap.size = p := ⟨_, rfl⟩
  have H4 : Hid (Below w3.heap.size w3 (w3.alloc (.cells #[.pointer (some ⟨tB, 0, none⟩)] 24)) ∧ Blk (w3.alloc (.cells #[.pointer (some ⟨tB, 0, none⟩)] 24)) pt 24 [.pointer (some ⟨tB, 0, none⟩)] ∧ w3.heap.size ≤ pt) := hid ⟨nbel w3 _, by
    have := Blk.new w3 [.pointer (some ⟨tB, 0, none⟩)] 24
    rw [hpt] at this
    exact this, by omega⟩
  have HLen : Hid (∀ wz, Below w3.heap.size w3 wz → Calls Tryz.prog 18 #[.pointer (some ⟨tB, 0, none⟩)] wz fun e w' => e = .returned (.int .i64 (nt : Int)) ∧ w' = wz) := hid (fun wz hz => by rw [← hnt]; exact lenTW (HTg.out wz hz).tb (by omega))
  clear hnt
  go_upto_region 4 with fail
  (try simp only [hpt])
  generalize hw4 : w3.alloc _ = w4 at H4 ⊢
  clear hw4 hpt
  have HV1 : Hid (∀ wz, Below w3.heap.size w3 wz → Calls Tryz.prog 25 #[.pointer (some ⟨tB, 0, none⟩), .int .i32 (-1)] wz fun e w' => e = .returned (.bool false) ∧ w' = wz) := hid (fun wz hz => validNW tB wz)
  have HV2 : Hid (∀ wz, Below w3.heap.size w3 wz → Calls Tryz.prog 25 #[.pointer (some ⟨tB, 0, none⟩), .int .i32 (nt : Int)] wz fun e w' => e = .returned (.bool false) ∧ w' = wz) := hid (fun wz hz => by
    have := validLW (HTg.out wz hz).tb (by rw [Hnt.out]; omega) (by rw [Hnt.out]; exact h2)
    rw [Hnt.out] at this
    exact this)
  have c4 : w4.cell? ⟨pt, 0, none⟩ = some (.pointer (some ⟨tB, 0, none⟩)) := H4.out.2.1.cell 0
  have t1 : decide ((nt : Int) < 8) = false := decide_eq_false (by omega)
  have t1n : decide (nt < 8) = false := decide_eq_false (by omega)
  have ew : IntKind.i32.wrap (nt : Int) = (nt : Int) := by rw [IntKind.wrap_i32]; omega
  have HBD : Hid (∀ wz, Drew w4 wz → Below w3.heap.size w3 wz) := hid (fun wz hz => H4.out.1.trans ((hz.below _).mono H4.out.1.size))
  go_upto_region 6 with fail
  obtain ⟨X0, W, hT, hI⟩ := class_mk (fun w' => Drew w4 w')
  have H0 : Hid (∃ y, w4.drew = W y) := hid (hI _ ⟨1, rfl⟩)
  have hne : Nonempty X0 := ⟨H0.out.choose⟩
  have HTT := hid hT
  have c4 : ∀ z, (W z).cell? ⟨pt, 0, none⟩ = some (.pointer (some ⟨tB, 0, none⟩)) := fun y => by obtain ⟨m, e⟩ := hT y; rw [e]; exact c4
  clear hT hI
  refine wp_region_class W (by kernel_rfl) (by kernel_rfl) H0.out ?_
  repeat (go_big_quiet_step ((first | (go_at_call 18; with_reducible exact Calls.class_same (HLen.out _ (HBD.out _ (HTT.out _)))) | (go_at_call 25; first | with_reducible exact Calls.class_same (HV1.out _ (HBD.out _ (HTT.out _))) | with_reducible exact Calls.class_same (HV2.out _ (HBD.out _ (HTT.out _)))))))
  refine wpQuiet_nil ?_
  intro z
  have HD := hid (HTT.out z)
  have HB := hid ((HTT.out z).below w4.heap.size)
  have c4z := c4 z
  generalize W z = w5 at HD HB c4z ⊢
  clear H0 HTT c4
  have H5 : Hid (Below w3.heap.size w3 w5 ∧ Blk w5 pt 24 [.pointer (some ⟨tB, 0, none⟩)] ∧ w3.heap.size ≤ pt) := hid ⟨H4.out.1.trans (HB.out.mono H4.out.1.size), H4.out.2.1.below HB.out, H4.out.2.2⟩
  clear H4 HD HB HV1 HV2 HBD ew
  go_upto_region 8 with fail
  clear c4z
  obtain ⟨ms, hms⟩ : ∃ p, w5.heap.size = p := ⟨_, rfl⟩
  obtain ⟨w6, hw6⟩ : ∃ z, w5.alloc (.map #[] 0) = z := ⟨_, rfl⟩
  have hmm := run_makeMap0 (t := 54) Tryz.underlying54 w5
  rw [hms, hw6] at hmm
  have HB6 : Hid (Below w5.heap.size w5 w6) := hid (by rw [← hw6]; exact nbel w5 _)
  have HM6 : Hid (MG (fun s : ByteArray => Value.string s) w6 ms (fun _ => none)) := hid (by rw [← hw6]; exact MG.new _ w5 hms)
  have hmk := make_bool nt (by omega) w6
  have hrb := RwBo.new w6 nt
  obtain ⟨gu, hgu⟩ : ∃ p, w6.heap.size = p := ⟨_, rfl⟩
  obtain ⟨w7, hw7⟩ : ∃ z, w6.alloc (.cells (madeCells #[.bool false] nt) 4) = z := ⟨_, rfl⟩
  rw [hgu, hw7] at hmk hrb
  have HB7 : Hid (Below w6.heap.size w6 w7) := hid (by rw [← hw7]; exact nbel w6 _)
  have HB56 := hid (H5.out.1.trans (HB6.out.mono H5.out.1.size))
  have HL : Hid (LwM w3 tB pt ms gu nt (fun _ => none) (fun _ => false) w7) := hid ⟨HB56.out.trans (HB7.out.mono HB56.out.size), (H5.out.2.1.below HB6.out).below HB7.out, HM6.out.below HB7.out, hrb, H5.out.2.2, by rw [← hms]; exact H5.out.1.size, by rw [← hgu]; exact HB56.out.size⟩
  have c6 : w6.cell? ⟨pt, 0, none⟩ = some (.pointer (some ⟨tB, 0, none⟩)) := (H5.out.2.1.below HB6.out).cell 0
  have HA6 := hid (HLen.out w6 HB56.out)
  clear hrb HB6 HM6 hw7 hgu HB7
  go_upto_region 9 with fail
  clear hms hw6 H5 hmm
  go_wp2_with fail
  refine HA6.out.mono ?_
  rintro e w8 ⟨rfl, rfl⟩
  clear HA6 HB56
  go_upto_region 10 with fail
  clear hmk c6
  go_upto_region 11 with fail
  go_loopw [7] (fun t wr => ∃ (i : Nat), t = .int .i64 (i : Int) ∧ i ≤ nt ∧ Hid (∃ fs fu, LwM w3 tB pt ms gu nt fs fu wr ∧ SnI T al i fs ∧ UsI T i fu)) (fun t _ => nt - (intOf t).toNat)
  case atStart => exact ⟨0, rfl, Nat.zero_le _, hid ⟨_, _, HL.out, fun s v h => by (cases h), fun t j h => by omega⟩⟩
  case round =>
  obtain ⟨i, rfl, hi, HI⟩ := hrel
  clear HL
  by_cases hin : i < nt
  rotate_left
  · obtain ⟨wi, hwi⟩ : ∃ z, z = wr := ⟨_, rfl⟩
    subst hwi
    obtain ⟨fs, fu, hL, hSn, hUs⟩ := HI.out
    have hie : i = nt := by omega
    have HUs : Hid (UsI T nt fu) := hid (by rw [← hie]; exact hUs)
    have HLn := hid (HLen.out wi hL.b)
    have cpt := hL.cell
    have d1 : decide ((i : Int) < (nt : Int)) = false := decide_eq_false (by omega)
    obtain ⟨ma, hma⟩ : ∃ p, wi.heap.size = p := ⟨_, rfl⟩
    obtain ⟨w20, hw20⟩ : ∃ z, wi.alloc (.map #[] 0) = z := ⟨_, rfl⟩
    have hmm := run_makeMap0 (t := 70) Tryz.underlying70 wi
    rw [hma, hw20] at hmm
    have HB20 : Hid (Below wi.heap.size wi w20) := hid (by rw [← hw20]; exact nbel wi _)
    have HLA : Hid (LwA w3 tB pt gu nt ma fu (fun _ => none) w20) := hid ⟨hL.b.trans (HB20.out.mono hL.b.size), hL.p.below HB20.out, Blk.below hL.us HB20.out, by rw [← hw20]; exact MG.new _ wi hma, hL.lp, hL.lu, by rw [← hma]; exact hL.b.size, hL.ne⟩
    obtain ⟨aD, hDc, hDs, hDw⟩ := declsW (HTg.out w3 (Below.refl _ _)).tb
    have HDw := hid (hDw w20 HLA.out.b)
    have HDc := hid hDc
    have HDs := hid hDs
    have HDW := hid hDw
    obtain ⟨nd, hnd⟩ : ∃ k, T.decls.length = k := ⟨_, rfl⟩
    have Hnd := hid hnd
    have hndb : nd ≤ 200000 := by rw [← hnd]; exact HAr.out.nd
    rw [hnd] at HDw HDW
    have cpt2 := HLA.out.cell
    clear hL hSn hUs HI hDc hDs hDw hnd hma hw20 HB20
    go_wp2_with fail
    refine HLn.out.mono ?_
    rintro e wi ⟨rfl, rfl⟩
    clear HLn
    go_upto_region 47 with fail
    clear hmm cpt d1
    go_wp2_with fail
    refine HDw.out.mono ?_
    rintro e w21 ⟨rfl, hb21⟩
    have HI0 : Hid (∃ fu fa, LwA w3 tB pt gu nt ma fu fa w21 ∧ UsI T nt fu ∧ UdI T 0 fu ∧ FaI T 0 fa) := hid ⟨_, _, HLA.out.below hb21.out, HUs.out, fun j t d hj => by omega, fun z => by show none = if (0 : Int) ≤ -1 then _ else none; rw [if_neg (by decide)]⟩
    clear HDw hb21 HLA HUs cpt2
    go_upto_region 48 with fail
    go_loopw [165] (fun t wr => ∃ (i : Nat), t = .int .i64 (i : Int) ∧ i ≤ nd ∧ Hid (∃ fu fa, LwA w3 tB pt gu nt ma fu fa wr ∧ UsI T nt fu ∧ UdI T i fu ∧ FaI T i fa)) (fun t _ => nd - (intOf t).toNat)
    case atStart => exact ⟨0, rfl, Nat.zero_le _, HI0⟩
    case round =>
    obtain ⟨d, rfl, hd, HI⟩ := hrel
    clear HI0
    by_cases hdn : d < nd
    rotate_left
    · obtain ⟨fu, fa, hL, hU1, hU2, hFa⟩ := HI.out
      have hde : d = nd := by omega
      have HAll : Hid (∀ j, 8 ≤ j → j < nt → fu j = true) := hid (fun j h1 h2 => HAr.out.all (by rw [Hnt.out]; exact hU1) (by rw [Hnd.out, ← hde]; exact hU2) j h1 (by rw [Hnt.out]; exact h2))
      have HL := hid hL
      have HLn := hid (HLen.out wr hL.b)
      have cpt := hL.cell
      have d1 : decide ((d : Int) < (nd : Int)) = false := decide_eq_false (by omega)
      obtain ⟨w22, hw22⟩ : ∃ z, z = wr := ⟨_, rfl⟩
      subst hw22
      clear HI hL hU1 hU2 hFa hde
      go_upto_region 68 with fail
      clear d1
      go_loopw [29] (fun t wr => wr = w22 ∧ ∃ (i : Nat), t = .int .i64 (i : Int) ∧ 8 ≤ i ∧ i ≤ nt) (fun t _ => nt - (intOf t).toNat)
      case atStart => exact ⟨rfl, 8, rfl, Nat.le_refl _, h8⟩
      case round =>
      obtain ⟨rfl, j, rfl, hj8, hjn⟩ := hrel
      by_cases hjl : j < nt
      · have d3 : decide ((j : Int) < (nt : Int)) = true := decide_eq_true (by omega)
        have i3 : (j : Int) < (nt : Int) := by omega
        have cu := HL.out.us.get hjl
        rw [HAll.out j hj8 hjl] at cu
        go_wp2_with fail
        refine HLn.out.mono ?_
        rintro e w9 ⟨rfl, rfl⟩
        go_wp2
        exact ⟨⟨trivial, j + 1, by go_num, by omega, by omega⟩, by simp [intOf]; omega⟩
      have d3 : decide ((j : Int) < (nt : Int)) = false := decide_eq_false (by omega)
      clear HAll
      go_wp2_with fail
      refine HLn.out.mono ?_
      rintro e w22 ⟨rfl, rfl⟩
      clear HLn
      have HDa : Hid (∀ wz, Below w22.heap.size w22 wz → Calls Tryz.prog 34 #[.pointer (some ⟨tB, 0, none⟩)] wz fun e w' => e = .returned (.slice aD nd nd) ∧ Below wz.heap.size wz w') := hid (fun wz hz => (HDW.out wz (HL.out.b.trans (hz.mono HL.out.b.size))).mono (fun e w' h => ⟨h.1, h.2.out⟩))
      have hsl : ∀ k, k ≤ nd → ∀ wz, (Instr.sliceAt 71 (.slice aD nd nd) none (some (.int .i64 (k : Int))) none).run Tryz.prog wz = .ok (.slice aD k nd) wz := fun k hk wz => slice_dk HDs.out hk wz
      go_upto_region 72 with fail
      go_cut [275, 276, 277] from 269 to 277 (fun va vb vc wc => ∃ k6 : Nat, va = .slice aD k6 nd ∧ vb = .int .i64 (k6 : Int) ∧ vc = .int .i64 0 ∧ k6 ≤ nd ∧ Hid (Below w22.heap.size w22 wc))
      case first =>
        obtain ⟨k6, hk6, hk6n⟩ : ∃ k6 : Nat, k6 ≤ nd ∧ (k6 = nd ∧ nd < 64 ∨ k6 = 64 ∧ 64 ≤ nd) := by
          by_cases h : nd < 64
          · exact ⟨nd, Nat.le_refl _, .inl ⟨rfl, h⟩⟩
          · exact ⟨64, by omega, .inr ⟨rfl, by omega⟩⟩
        obtain ⟨X0, W, hT, hI⟩ := class_mk (fun w' => Below w22.heap.size w22 w')
        have H0 : Hid (∃ y, w22.drew = W y) := hid (hI _ (Drew.below ⟨1, rfl⟩ _))
        have HW0 : Hid (∀ x w', Below (W x).heap.size (W x) w' → ∃ y, w' = W y) := hid (fun x w' hb => hI _ ((hT x).trans (hb.mono (hT x).size)))
        have hne : Nonempty X0 := ⟨H0.out.choose⟩
        have HTT := hid hT
        have cp : ∀ z, (W z).cell? ⟨pt, 0, none⟩ = some (.pointer (some ⟨tB, 0, none⟩)) := fun z => (HL.out.below (hT z)).cell
        have HDa2 : Hid (∀ z, Calls Tryz.prog 34 #[.pointer (some ⟨tB, 0, none⟩)] (W z) fun e w' => e = .returned (.slice aD nd nd) ∧ Below (W z).heap.size (W z) w') := hid (fun z => HDa.out _ (hT z))
        clear hT hI
        refine wp_region_class W (by kernel_rfl) (by kernel_rfl) H0.out ?_
        rcases hk6n with ⟨rfl, h64⟩ | ⟨rfl, h64⟩
        · have m1 : decide ((k6 : Int) < 64) = true := decide_eq_true (by omega)
          have m2 : ¬ (64 < k6) := by omega
          have m3 : decide ((64 : Int) < (k6 : Int)) = false := decide_eq_false (by omega)
          have m4 : (k6 : Int) < 64 := by omega
          have hslk := hsl k6 (Nat.le_refl _)
          repeat (go_big_quiet_step ((go_at_call 34; with_reducible exact Calls.class_of HW0.out (HDa2.out _))))
          refine wpQuiet_nil ?_
          intro z
          have HB := hid (HTT.out z)
          generalize W z = w10 at HB ⊢
          clear H0 HTT HW0 cp HDa2 m1
          go_wp2_with fail
          go_meet
          exact ⟨k6, rfl, rfl, rfl, Nat.le_refl _, HB⟩
        · have m1 : ¬ ((nd : Int) < 64) := by omega
          have m2 : ¬ nd < 64 := by omega
          have m3 : (64 : Int) ≤ (nd : Int) := by omega
          have m4 : decide ((nd : Int) < 64) = false := decide_eq_false m1
          have hslk := hsl 64 (by omega)
          repeat (go_big_quiet_step ((go_at_call 34; with_reducible exact Calls.class_of HW0.out (HDa2.out _))))
          refine wpQuiet_nil ?_
          intro z
          have HB := hid (HTT.out z)
          generalize W z = w10 at HB ⊢
          clear H0 HTT HW0 cp HDa2
          go_wp2_with fail
          go_meet
          exact ⟨64, rfl, rfl, rfl, hk6, HB⟩
      case rest =>
      obtain ⟨k6, rfl, rfl, rfl, hk6, HBc⟩ := hcut
      have HLc : Hid (LwA w3 tB pt gu nt ma fu fa wc) := hid (HL.out.below HBc.out)
      clear HL HBc HDa hsl cpt
      go_upto_region 73 with fail
      go_loopw [277] (fun t wr => ∃ (i : Nat), t = .int .i64 (i : Int) ∧ i ≤ k6 ∧ Hid (LwA w3 tB pt gu nt ma fu fa wr)) (fun t _ => k6 - (intOf t).toNat)
      case atStart => exact ⟨0, rfl, Nat.zero_le _, HLc⟩
      case round =>
      obtain ⟨d, rfl, hd, HL⟩ := hrel
      clear HLc
      by_cases hdn : d < k6
      rotate_left
      · have d1 : decide ((d : Int) < (k6 : Int)) = false := decide_eq_false (by omega)
        have HF := hid (HB3.out.trans (HL.out.b.mono HB3.out.size))
        clear HL
        go_wp2
        go_ret
        exact ⟨rfl, HF.out⟩
      have d1 : decide ((d : Int) < (k6 : Int)) = true := decide_eq_true (by omega)
      have i1 : (d : Int) < (k6 : Int) := by omega
      obtain ⟨y, hy⟩ : ∃ y, T.decls[d]? = some y := ⟨_, List.getElem?_eq_getElem (by rw [Hnd.out]; omega)⟩
      obtain ⟨gd, haD, hgd, hcd⟩ := HDc.out d y hy
      have hcd' : ∀ j, j < 4 → wr.cell? ⟨gd, d * 4 + j, none⟩ = (dcC y)[j]? := fun j hj => by rw [keepCell _ (HL.out.b.block gd hgd)]; exact hcd j hj
      have y0 : wr.cell? ⟨gd, d * 4, none⟩ = some (.int .u8 (y.sort : Int)) := hcd' 0 (show 0 < 4 by decide)
      have y1 : wr.cell? ⟨gd, d * 4 + 1, none⟩ = some (.string y.name) := hcd' 1 (show 1 < 4 by decide)
      have y2 : wr.cell? ⟨gd, d * 4 + 2, none⟩ = some (.int .u64 (y.value : Int)) := hcd' 2 (show 2 < 4 by decide)
      have y3 : wr.cell? ⟨gd, d * 4 + 3, none⟩ = some (.int .i32 y.typ) := hcd' 3 (show 3 < 4 by decide)
      have Hdt1 := hid (HAr.out.dc d y hy).2.2
      subst haD
      obtain ⟨q, hq⟩ : ∃ q, wr.heap.size = q := ⟨_, rfl⟩
      have hbn := Blk.new wr [.int .u8 0, .string ⟨#[]⟩, .int .u64 0, .int .i32 0] 75
      rw [hq] at hbn
      have HBn := hid hbn
      have HBa := hid (nbel wr (.cells #[.int .u8 0, .string ⟨#[]⟩, .int .u64 0, .int .i32 0] 75))
      have Hone : Hid (∀ u ∈ dcC y, u.oneCell' = true) := hid (okDc.one y)
      have Hinf : Hid ((Tryz.prog.info? 75).map (·.size) = some 4) := hid (by kernel_rfl)
      clear hbn hy hcd hcd'
      go_upto_region 75 with (refine wpList_store_blk rfl 75 _ _ rfl q (by simp [Act.eval, hq]) (dcC y) rfl HBn.out rfl Hinf.out Hone.out ?_; intro w6 HB6 HU6)
      (try simp only [Act.put])
      have HL6 := hid (HL.out.below (Below.updN HBa.out HU6.out (by omega) HBa.out.size))
      have q0 : w6.cell? ⟨q, 0, none⟩ = some (.int .u8 (y.sort : Int)) := HB6.out.cell 0
      have cpt := HL6.out.cell
      clear HL HBn HU6 HBa Hone Hinf y0 y1 y2 y3 hq
      by_cases hs0 : y.sort = 0
      · have e0 : (y.sort : Int) = 0 := by omega
        rw [e0] at q0
        clear e0 hs0 HB6
        go_wp2
        exact ⟨⟨d + 1, by go_num, by omega, HL6⟩, by simp [intOf]; omega⟩
      have s0 : ((y.sort : Int) == 0) = false := by simp; omega
      obtain ⟨t, ht, htl, _⟩ := Hdt1.out hs0
      rw [Hnt.out] at htl
      have HLn := hid (HLen.out w6 HL6.out.b)
      have hmk := make_bool nt (by omega) w6
      have hrb := RwBo.new w6 nt
      obtain ⟨gr, hgr⟩ : ∃ p, w6.heap.size = p := ⟨_, rfl⟩
      obtain ⟨w30, hw30⟩ : ∃ z, w6.alloc (.cells (madeCells #[.bool false] nt) 4) = z := ⟨_, rfl⟩
      rw [hgr, hw30] at hmk hrb
      have HB30 : Hid (Below w6.heap.size w6 w30) := hid (by rw [← hw30]; exact nbel w6 _)
      have Hrb := hid hrb
      clear hrb hw30
      go_wp2_with fail
      refine HLn.out.mono ?_
      rintro e w6 ⟨rfl, rfl⟩
      clear HLn q0 s0
      obtain ⟨pr, hpr⟩ : ∃ p, w30.heap.size = p := ⟨_, rfl⟩
      have hn31 := Blk.new w30 [.slice (some ⟨gr, 0, none⟩) nt nt] 55
      have hb31 : Below w30.heap.size w30 (w30.alloc (.cells #[.slice (some ⟨gr, 0, none⟩) nt nt] 55)) := nbel w30 _
      have hn31 : Blk (w30.alloc (.cells #[.slice (some ⟨gr, 0, none⟩) nt nt] 55)) pr 55 [.slice (some ⟨gr, 0, none⟩) nt nt] := by rw [← hpr]; exact hn31
      obtain ⟨w31, hw31⟩ : ∃ z, w30.alloc (.cells #[.slice (some ⟨gr, 0, none⟩) nt nt] 55) = z := ⟨_, rfl⟩
      rw [hw31] at hn31 hb31
      obtain ⟨pf, hpf⟩ : ∃ p, w31.heap.size = p := ⟨_, rfl⟩
      have hn32 := Blk.new w31 [.nilFunc] 80
      have hb32 : Below w31.heap.size w31 (w31.alloc (.cells #[.nilFunc] 80)) := nbel w31 _
      rw [hpf] at hn32
      have hn32 : Blk (w31.alloc (.cells #[.nilFunc] 80)) (pf) 80 [.nilFunc] := hn32
      obtain ⟨w32, hw32⟩ : ∃ z, w31.alloc (.cells #[.nilFunc] 80) = z := ⟨_, rfl⟩
      rw [hw32] at hn32 hb32
      have c32 : w32.cell? ⟨pf, 0, none⟩ = some .nilFunc := hn32.cell 0
      have z32 : w32.frozen? ⟨pf, 0, none⟩ = false := hn32.frozen 0
      have HS : Hid (LwA w3 tB pt gu nt ma fu fa (w32.setCell ⟨pf, 0, none⟩ (rchV pr pt (pf))) ∧ RwBo (w32.setCell ⟨pf, 0, none⟩ (rchV pr pt (pf))) gr nt (fun _ => false) ∧ Blk (w32.setCell ⟨pf, 0, none⟩ (rchV pr pt (pf))) pr 55 [.slice (some ⟨gr, 0, none⟩) nt nt] ∧ Blk (w32.setCell ⟨pf, 0, none⟩ (rchV pr pt (pf))) (pf) 80 [rchV pr pt (pf)] ∧ Blk (w32.setCell ⟨pf, 0, none⟩ (rchV pr pt (pf))) q 75 (dcC y) ∧ w6.heap.size ≤ gr ∧ Below w6.heap.size w6 (w32.setCell ⟨pf, 0, none⟩ (rchV pr pt (pf)))) := hid (by
        have b6 : Below w6.heap.size w6 w31 := HB30.out.trans (hb31.mono HB30.out.size)
        have b7 : Below w6.heap.size w6 w32 := b6.trans (hb32.mono b6.size)
        have hu : Upd pf w32 (w32.setCell ⟨pf, 0, none⟩ (rchV pr pt pf)) := (Upd.refl pf w32).setCell (p := ⟨pf, 0, none⟩) rfl _
        have b8 : Below w6.heap.size w6 (w32.setCell ⟨pf, 0, none⟩ (rchV pr pt (pf))) := Below.updN b7 hu (by rw [← hpf]; exact b6.size) b7.size
        have l1 : gr < w32.heap.size := Nat.lt_of_lt_of_le (Blk.lt Hrb.out) (Nat.le_trans hb31.size hb32.size)
        have l2 : pr < w32.heap.size := Nat.lt_of_lt_of_le hn31.lt hb32.size
        have l3 : gr < pr := by rw [← hpr]; exact Blk.lt Hrb.out
        have l4 : pr < pf := by rw [← hpf]; exact hn31.lt
        exact ⟨HL6.out.below b8, Blk.of (Blk.below (Blk.below Hrb.out hb31) hb32) (hu.block gr l1 (by omega)), (hn31.below hb32).of (hu.block pr l2 (by omega)), hn32.set 0 _, HB6.out.below b8, by omega, b8⟩)
      have Hlo : Hid (gr < pr ∧ pr < pf) := hid ⟨by rw [← hpr]; exact Blk.lt Hrb.out, by rw [← hpf]; exact hn31.lt⟩
      clear hn31 hb31 hn32 hb32
      go_upto_region 78 with fail
      (try simp only [hpr, hw31, hpf, hw32])
      clear hmk hpr hw31 hpf hw32
      unfold rchV at HS
      go_upto_region 79 with fail
      generalize hw33 : w32.setCell _ _ = w33 at HS ⊢
      clear hw33 c32 z32 HB30 Hrb cpt
      have cf : w33.cell? ⟨pf, 0, none⟩ = some (.func (.func 39) #[] #[.pointer (some ⟨pr, 0, none⟩), .pointer (some ⟨pt, 0, none⟩), .pointer (some ⟨pf, 0, none⟩)]) := HS.out.2.2.2.1.cell 0
      have q3 : w33.cell? ⟨q, 3, none⟩ = some (.int .i32 (t : Int)) := by rw [← ht]; exact HS.out.2.2.2.2.1.cell 3
      have HPl := hid HAr.out.prl
      have HRe := hid (reachW (g := gr) (pr := pr) (pt := pt) (pf := pf) (ws := w33) (HTg.out w3 (Below.refl _ _)).tb HAr.out.tyo HAr.out.pl HAr.out.prl HAr.out.n2 HS.out.1.b (Nat.le_trans HL6.out.b.size HS.out.2.2.2.2.2.1) (by rw [Hnt.out]; exact HS.out.2.2.1.cell 0) HS.out.1.cell cf (by have := Hlo.out; omega) (by
        intro e
        subst e
        have h1 := HS.out.1.p
        have h2 := HS.out.2.1
        exact blk_ne h2 h1 (by decide) rfl) (by have := Hlo.out; omega) t t (Nat.le_refl _) (by rw [Hnt.out]; exact htl) (fun _ => false) w33 ⟨Upd.refl _ _, by rw [Hnt.out]; exact HS.out.2.1⟩)
      rw [Hnt.out] at HRe
      have HtE := hid ht
      clear ht Hdt1 hgr
      go_wp2_with fail
      refine HRe.out.mono ?_
      rintro e w34 ⟨rfl, h34⟩
      clear HRe
      have HQ : Hid (∃ f' : Nat → Bool, RwBo w34 gr nt f' ∧ ∀ j, f' j = true ↔ Rch T t j) := hid (by
        obtain ⟨f', h1, h2, _⟩ := h34.out
        exact ⟨f', h1.r, h2.all⟩)
      have HU34 : Hid (Upd gr w33 w34) := hid (by
        obtain ⟨f', h1, h2, h3⟩ := h34.out
        exact h3)
      have HB34 : Hid (Below w6.heap.size w6 w34) := hid (Below.updN HS.out.2.2.2.2.2.2 HU34.out HS.out.2.2.2.2.2.1 HS.out.2.2.2.2.2.2.size)
      have HL34 := hid (HL6.out.below HB34.out)
      have r1 : w34.cell? ⟨pr, 0, none⟩ = some (.slice (some ⟨gr, 0, none⟩) nt nt) := (HS.out.2.2.1.of (HU34.out.block pr HS.out.2.2.1.lt (by have := Hlo.out; omega))).cell 0
      have r2 : w34.cell? ⟨pt, 0, none⟩ = some (.pointer (some ⟨tB, 0, none⟩)) := HL34.out.cell
      have r3 : w34.cell? ⟨q, 3, none⟩ = some (.int .i32 (t : Int)) := by rw [← HtE.out]; exact (HB6.out.below HB34.out).cell 3
      clear HS h34 cf q3 HU34 HL6 HB6 HB34
      go_upto_region 80 with fail
      have HSt : Hid (∀ wz, Below w34.heap.size w34 wz → wz.cell? ⟨pr, 0, none⟩ = some (.slice (some ⟨gr, 0, none⟩) nt nt) ∧ wz.cell? ⟨pt, 0, none⟩ = some (.pointer (some ⟨tB, 0, none⟩)) ∧ wz.cell? ⟨q, 3, none⟩ = some (.int .i32 (t : Int))) := hid (fun wz hz => ⟨by rw [keepCell 0 (hz.block pr (block_lt_of_cell r1))]; exact r1, by rw [keepCell 0 (hz.block pt (block_lt_of_cell r2))]; exact r2, by rw [keepCell 3 (hz.block q (block_lt_of_cell r3))]; exact r3⟩)
      refine wp_region_heavy (fun wz => wz.cell? ⟨pr, 0, none⟩ = some (.slice (some ⟨gr, 0, none⟩) nt nt) ∧ wz.cell? ⟨pt, 0, none⟩ = some (.pointer (some ⟨tB, 0, none⟩)) ∧ wz.cell? ⟨q, 3, none⟩ = some (.int .i32 (t : Int))) 7 [0, 1, 2, 3] [4, 5, 6] rfl (by kernel_rfl) (by kernel_rfl) (fun d _ _ _ _ h => by cases d <;> exact h) ⟨r1, r2, r3⟩ ?_
      have HBd : Hid (Below w34.heap.size w34 w34.drew) := hid (Drew.below ⟨1, rfl⟩ _)
      generalize w34.drew = wd at HBd ⊢
      apply Exists.intro
      refine ⟨?_, ?_⟩
      · intro W hW
        have x1 : ∀ z, (W z).cell? ⟨pr, 0, none⟩ = some (.slice (some ⟨gr, 0, none⟩) nt nt) := fun z => (hW z).1
        have x2 : ∀ z, (W z).cell? ⟨pt, 0, none⟩ = some (.pointer (some ⟨tB, 0, none⟩)) := fun z => (hW z).2.1
        have x3 : ∀ z, (W z).cell? ⟨q, 3, none⟩ = some (.int .i32 (t : Int)) := fun z => (hW z).2.2
        clear hW
        simp only [List.take, opsAt, List.drop, List.cons_append, List.nil_append]
        repeat (go_big_quiet_step (fail))
        exact rfl
      simp only [wpHv, opsAt, List.take, List.drop, List.cons_append, List.nil_append]
      have HWi := hid (withinW (HTg.out wd (HL34.out.below HBd.out).b).tb HAr.out.tyo HAr.out.pl HAr.out.prl HAr.out.n2 (r := t) (by rw [Hnt.out]; exact htl))
      rw [Hnt.out] at HWi
      go_wp2_with fail
      refine HWi.out.mono ?_
      rintro e w35 ⟨g5, rfl, h35⟩
      clear HWi
      have HB35 : Hid (Below w34.heap.size w34 w35) := hid (by
        obtain ⟨f5, _, hb5, _, _⟩ := h35.out
        exact HBd.out.trans (hb5.mono HBd.out.size))
      have HSm : Hid (Calls Tryz.prog 40 #[.slice (some ⟨gr, 0, none⟩) nt nt, .slice (some ⟨g5, 0, none⟩) nt nt] w35 fun e w' => e = .returned (.bool true) ∧ Hid (Below w35.heap.size w35 w')) := hid (by
        obtain ⟨f', hf1, hf2⟩ := HQ.out
        obtain ⟨f5, hf3, hb5, hg5, hf4⟩ := h35.out
        exact sameMarks hf1 hf2 HB35.out hf4 hf3 h2)
      clear h35 HQ
      go_wp2_with fail
      refine ⟨HSt.out _ HB35.out, ?_⟩
      go_wp2_with fail
      refine HSm.out.mono ?_
      rintro e w36 ⟨rfl, h36⟩
      have HB36 := hid (HB35.out.trans (h36.out.mono HB35.out.size))
      clear HSm h36 HB35
      go_wp2_with fail
      refine ⟨HSt.out _ HB36.out, ?_⟩
      go_wp2_with fail
      refine ⟨HSt.out _ HB36.out, ?_⟩
      simp only [QN]
      have HLE := hid (HL34.out.below HB36.out)
      clear HSt HB36 HL34 HBd r1 r2 r3
      go_wp2
      exact ⟨⟨d + 1, by go_num, by omega, HLE⟩, by simp [intOf]; omega⟩
    have d1 : decide ((d : Int) < (nd : Int)) = true := decide_eq_true (by omega)
    have i1 : (d : Int) < (nd : Int) := by omega
    obtain ⟨y, hy⟩ : ∃ y, T.decls[d]? = some y := ⟨_, List.getElem?_eq_getElem (by rw [Hnd.out]; exact hdn)⟩
    have Hy := hid hy
    obtain ⟨fu, fa, hL, hU1, hU2, hFa⟩ := HI.out
    have HL := hid hL
    have HU1 := hid hU1
    have HU2 := hid hU2
    have HFa := hid hFa
    obtain ⟨gd, haD, hgd, hcd⟩ := HDc.out d y hy
    have hcd' : ∀ j, j < 4 → wr.cell? ⟨gd, d * 4 + j, none⟩ = (dcC y)[j]? := fun j hj => by rw [keepCell _ (hL.b.block gd hgd)]; exact hcd j hj
    have y0 : wr.cell? ⟨gd, d * 4, none⟩ = some (.int .u8 (y.sort : Int)) := hcd' 0 (show 0 < 4 by decide)
    have y1 : wr.cell? ⟨gd, d * 4 + 1, none⟩ = some (.string y.name) := hcd' 1 (show 1 < 4 by decide)
    have y2 : wr.cell? ⟨gd, d * 4 + 2, none⟩ = some (.int .u64 (y.value : Int)) := hcd' 2 (show 2 < 4 by decide)
    have y3 : wr.cell? ⟨gd, d * 4 + 3, none⟩ = some (.int .i32 y.typ) := hcd' 3 (show 3 < 4 by decide)
    obtain ⟨hbn1, hnm1, hdt1⟩ := HAr.out.dc d y hy
    have HLk : Hid (∀ wz, Below w3.heap.size w3 wz → Calls Tryz.prog 35 #[.pointer (some ⟨tB, 0, none⟩), .string y.name] wz fun e w' => e = .returned (.tuple #[.int .i32 (if y.sort = 0 then -1 else y.typ), .bool (decide (y.sort ≠ 0))]) ∧ w' = wz) := hid (fun wz hz => lookupSW (HTg.out wz hz) hbn1 hy)
    have HCn : Hid (∀ wz, Below w3.heap.size w3 wz → Calls Tryz.prog 36 #[.pointer (some ⟨tB, 0, none⟩), .string y.name] wz fun e w' => e = .returned (.tuple #[.int .u64 (if y.sort = 0 then (y.value : Int) else 0), .bool (decide (y.sort = 0))]) ∧ w' = wz) := hid (fun wz hz => constW (HTg.out wz hz) hbn1 hy)
    have Hnm1 := hid hnm1
    have Hdt1 := hid hdt1
    subst haD
    obtain ⟨q, hq⟩ : ∃ q, wr.heap.size = q := ⟨_, rfl⟩
    have hbn := Blk.new wr [.int .u8 0, .string ⟨#[]⟩, .int .u64 0, .int .i32 0] 75
    rw [hq] at hbn
    have HBn := hid hbn
    have HBa := hid (nbel wr (.cells #[.int .u8 0, .string ⟨#[]⟩, .int .u64 0, .int .i32 0] 75))
    have Hone : Hid (∀ u ∈ dcC y, u.oneCell' = true) := hid (okDc.one y)
    have Hinf : Hid ((Tryz.prog.info? 75).map (·.size) = some 4) := hid (by kernel_rfl)
    clear hbn hy hcd hcd' hL hU1 hU2 hFa HI hbn1 hnm1 hdt1
    go_upto_region 50 with (refine wpList_store_blk rfl 75 _ _ rfl q (by simp [Act.eval, hq]) (dcC y) rfl HBn.out rfl Hinf.out Hone.out ?_; intro w6 HB6 HU6)
    (try simp only [Act.put])
    have HL6 := hid (HL.out.below (Below.updN HBa.out HU6.out (by omega) HBa.out.size))
    have q0 : w6.cell? ⟨q, 0, none⟩ = some (.int .u8 (y.sort : Int)) := HB6.out.cell 0
    have q1 : w6.cell? ⟨q, 1, none⟩ = some (.string y.name) := HB6.out.cell 1
    have q2 : w6.cell? ⟨q, 2, none⟩ = some (.int .u64 (y.value : Int)) := HB6.out.cell 2
    have q3 : w6.cell? ⟨q, 3, none⟩ = some (.int .i32 y.typ) := HB6.out.cell 3
    have cpt := HL6.out.cell
    have HA1 := hid (HLk.out w6 HL6.out.b)
    have HA2 := hid (HCn.out w6 HL6.out.b)
    clear HL HBn HU6 HBa Hone Hinf y0 y1 y2 y3 hq HLk HCn
    by_cases hs0 : y.sort = 0
    · rw [if_pos hs0, decide_eq_false (show ¬ y.sort ≠ 0 by omega)] at HA1
      rw [if_pos hs0, decide_eq_true hs0] at HA2
      have e0 : (y.sort : Int) = 0 := by omega
      rw [e0] at q0
      have HE : Hid (∃ fu fa, LwA w3 tB pt gu nt ma fu fa w6 ∧ UsI T nt fu ∧ UdI T (d + 1) fu ∧ FaI T (d + 1) fa) := hid ⟨_, _, HL6.out, HU1.out, HU2.out.skip Hy.out hs0, HFa.out.skip Hy.out (fun h => by omega)⟩
      have nv : ((y.value : Int) != (y.value : Int)) = false := by simp
      clear HL6 hs0 e0 HB6
      go_wp2_with fail
      refine HA1.out.mono ?_
      rintro e w6 ⟨rfl, rfl⟩
      clear HA1
      go_wp2_with fail
      refine HA2.out.mono ?_
      rintro e w6 ⟨rfl, rfl⟩
      clear HA2
      go_wp2
      exact ⟨⟨d + 1, by go_num, by omega, HE⟩, by simp [intOf]; omega⟩
    obtain ⟨t, ht, htl, ht2⟩ := Hdt1.out hs0
    rw [if_neg hs0, decide_eq_true (show y.sort ≠ 0 from hs0), ht] at HA1
    rw [if_neg hs0, decide_eq_false hs0] at HA2
    rw [ht] at q3
    have s0 : ((y.sort : Int) == 0) = false := by simp; omega
    have tne : ((t : Int) != (t : Int)) = false := by simp
    obtain ⟨x, hx⟩ : ∃ x, T.types[t]? = some x := ⟨_, List.getElem?_eq_getElem htl⟩
    have Hx := hid hx
    rw [Hnt.out] at htl
    have it : (t : Int) < (nt : Int) := by omega
    have Ht := hid ht
    have HU2' : Hid (UdI T (d + 1) (fup fu t true)) := hid (HU2.out.step Hy.out ht)
    have HU1' : Hid (UsI T nt (fup fu t true)) := hid HU1.out.mono
    have HKd : Hid (∀ wz, Below w3.heap.size w3 wz → Calls Tryz.prog 26 #[.pointer (some ⟨tB, 0, none⟩), .int .i32 (t : Int)] wz fun e w' => e = .returned (.int .u8 (x.kind : Int)) ∧ w' = wz) := hid (fun wz hz => kindW (HTg.out wz hz).tb hx)
    have HNm : Hid (∀ wz, Below w3.heap.size w3 wz → Calls Tryz.prog 37 #[.pointer (some ⟨tB, 0, none⟩), .int .i32 (t : Int)] wz fun e w' => e = .returned (.string x.name) ∧ w' = wz) := hid (fun wz hz => nameTW (HTg.out wz hz).tb hx)
    have HBD : Hid (∀ wz, Drew w6 wz → Below w3.heap.size w3 wz) := hid (fun wz hz => HL6.out.b.trans ((hz.below _).mono HL6.out.b.size))
    have HBq : Hid (Blk w6 q 75 (dcC y)) := HB6
    clear HB6 ht hx HU1 HU2
    go_wp2_with fail
    refine HA1.out.mono ?_
    rintro e w6 ⟨rfl, rfl⟩
    clear HA1
    go_wp2_with fail
    refine HA2.out.mono ?_
    rintro e w6 ⟨rfl, rfl⟩
    clear HA2
    by_cases hs2 : y.sort = 2
    · obtain ⟨x', hx', h7, hxn⟩ := ht2 hs2
      rw [Hx.out] at hx'
      cases hx'
      have e2 : (y.sort : Int) = 2 := by omega
      rw [e2] at q0 s0
      rw [h7] at HKd
      rw [hxn] at HNm
      have HFa' : Hid (FaI T (d + 1) fa) := hid (HFa.out.skip Hy.out (fun h => by omega))
      have Hs2 := hid hs2
      clear e2 h7 hxn hs2 hs0
      go_upto_region 57 with fail
      obtain ⟨X0, W, hT, hI⟩ := class_mk (fun w' => Drew w6 w')
      have H0 : Hid (∃ y, w6.drew = W y) := hid (hI _ ⟨1, rfl⟩)
      have hne : Nonempty X0 := ⟨H0.out.choose⟩
      have HTT := hid hT
      have q0 : ∀ z, (W z).cell? ⟨q, 0, none⟩ = some (.int .u8 2) := fun y => by obtain ⟨m, e⟩ := hT y; rw [e]; exact q0
      have q1 : ∀ z, (W z).cell? ⟨q, 1, none⟩ = some (.string y.name) := fun y => by obtain ⟨m, e⟩ := hT y; rw [e]; exact q1
      have cp : ∀ z, (W z).cell? ⟨pt, 0, none⟩ = some (.pointer (some ⟨tB, 0, none⟩)) := fun y => by obtain ⟨m, e⟩ := hT y; rw [e]; exact cpt
      clear hT hI
      refine wp_region_class W (by kernel_rfl) (by kernel_rfl) H0.out ?_
      repeat (go_big_quiet_step ((first | (go_at_call 26; with_reducible exact Calls.class_same (HKd.out _ (HBD.out _ (HTT.out _)))) | (go_at_call 37; with_reducible exact Calls.class_same (HNm.out _ (HBD.out _ (HTT.out _)))))))
      refine wpQuiet_nil ?_
      intro z
      have HD := hid (HTT.out z)
      have HB := hid ((HTT.out z).below w6.heap.size)
      have q0z := q0 z
      have q1z := q1 z
      have cpz := cp z
      generalize W z = w7 at HD HB q0z q1z cpz ⊢
      clear H0 HTT q0 q1 cp
      have HL7 := hid (HL6.out.below HB.out)
      have HBq7 := hid (HBq.out.below HB.out)
      have c6 := HL7.out.us.get htl
      have c7 : w7.frozen? ⟨gu, t, none⟩ = false := Blk.frozen HL7.out.us t
      have HL8 := hid (HL7.out.setU htl true)
      have HBq8 := hid (HL7.out.keepU (j := t) true HBq7.out)
      clear HL6 HBq HB HD HBD q0z q1z cpz q1 q3 cpt HNm HL7 HBq7
      go_upto_region 60 with fail
      generalize hw8 : w7.setCell _ _ = w8 at HL8 HBq8 ⊢
      clear hw8 c6 c7
      have cpt := HL8.out.cell
      have q0 : w8.cell? ⟨q, 0, none⟩ = some (.int .u8 2) := by
        have h := HBq8.out.cell 0
        have e : (dcC y)[0]? = some (.int .u8 (y.sort : Int)) := rfl
        rw [e, show (y.sort : Int) = 2 by have := Hs2.out; omega] at h
        exact h
      have HA3 := hid (HKd.out w8 HL8.out.b)
      have HE : Hid (∃ fu fa, LwA w3 tB pt gu nt ma fu fa w8 ∧ UsI T nt fu ∧ UdI T (d + 1) fu ∧ FaI T (d + 1) fa) := hid ⟨_, _, HL8.out, HU1'.out, HU2'.out, HFa'.out⟩
      clear HL8 HBq8 HU1' HU2' HFa' HKd
      go_wp2_with fail
      refine HA3.out.mono ?_
      rintro e w8 ⟨rfl, rfl⟩
      clear HA3
      go_wp2
      exact ⟨⟨d + 1, by go_num, by omega, HE⟩, by simp [intOf]; omega⟩
    have s2 : ((y.sort : Int) == 2) = false := by simp; omega
    clear HNm
    go_upto_region 57 with fail
    obtain ⟨X0, W, hT, hI⟩ := class_mk (fun w' => Drew w6 w')
    have H0 : Hid (∃ y, w6.drew = W y) := hid (hI _ ⟨1, rfl⟩)
    have hne : Nonempty X0 := ⟨H0.out.choose⟩
    have HTT := hid hT
    have q0 : ∀ z, (W z).cell? ⟨q, 0, none⟩ = some (.int .u8 (y.sort : Int)) := fun y => by obtain ⟨m, e⟩ := hT y; rw [e]; exact q0
    clear hT hI
    refine wp_region_class W (by kernel_rfl) (by kernel_rfl) H0.out ?_
    repeat (go_big_quiet_step (fail))
    refine wpQuiet_nil ?_
    intro z
    have HD := hid (HTT.out z)
    have HB := hid ((HTT.out z).below w6.heap.size)
    have q0z := q0 z
    generalize W z = w7 at HD HB q0z ⊢
    clear H0 HTT q0
    have HL7 := hid (HL6.out.below HB.out)
    have HBq7 := hid (HBq.out.below HB.out)
    have c6 := HL7.out.us.get htl
    have c7 : w7.frozen? ⟨gu, t, none⟩ = false := Blk.frozen HL7.out.us t
    have HL8 := hid (HL7.out.setU htl true)
    have HBq8 := hid (HL7.out.keepU (j := t) true HBq7.out)
    clear HL6 HBq HB HD HBD q0z q1 q3 cpt HL7 HBq7 q0 q2 s0 tne
    go_upto_region 60 with fail
    generalize hw8 : w7.setCell _ _ = w8 at HL8 HBq8 ⊢
    clear hw8 c6 c7 s2
    have cpt := HL8.out.cell
    have q0 : w8.cell? ⟨q, 0, none⟩ = some (.int .u8 (y.sort : Int)) := HBq8.out.cell 0
    have HA3 := hid (HKd.out w8 HL8.out.b)
    have hty : y.typ.toNat = t := by rw [Ht.out]; rfl
    have hkn : knd T t = x.kind := by unfold knd; rw [Hx.out]
    by_cases hal : y.sort = 1 ∧ 3 ≤ x.kind ∧ x.kind ≠ 7
    rotate_left
    · have HFa' : Hid (FaI T (d + 1) fa) := hid (HFa.out.skip Hy.out (fun h => hal ⟨h.1, by
        have h3 := h.2.2
        rw [hty, hkn] at h3
        unfold brk at h3
        simp at h3
        omega⟩))
      have HE : Hid (∃ fu fa, LwA w3 tB pt gu nt ma fu fa w8 ∧ UsI T nt fu ∧ UdI T (d + 1) fu ∧ FaI T (d + 1) fa) := hid ⟨_, _, HL8.out, HU1'.out, HU2'.out, HFa'.out⟩
      obtain ⟨b1, hb1⟩ : ∃ b, ((y.sort : Int) == 1) = b := ⟨_, rfl⟩
      obtain ⟨b2, hb2⟩ : ∃ b, decide ((x.kind : Int) ≥ 3) = b := ⟨_, rfl⟩
      obtain ⟨b3, hb3⟩ : ∃ b, ((x.kind : Int) != 7) = b := ⟨_, rfl⟩
      have hb2' : decide ((3 : Int) ≤ (x.kind : Int)) = b2 := hb2
      have hb2n : decide (3 ≤ x.kind) = b2 := by rw [← hb2]; exact decide_eq_decide.2 (by omega)
      have hbb : (b1 && b2 && b3) = false := by
        cases b1 with
        | false => rfl
        | true =>
          cases b2 with
          | false => rfl
          | true =>
            cases b3 with
            | false => rfl
            | true =>
              exfalso
              apply hal
              have h1 := of_decide_eq_true hb2n
              simp at hb1 hb3
              exact ⟨by omega, h1, by omega⟩
      clear HL8 HBq8 HU1' HU2' HFa' HKd hal hty hkn hs2 hs0 ht2
      go_wp2_with fail
      refine HA3.out.mono ?_
      rintro e w8 ⟨rfl, rfl⟩
      clear HA3
      obtain ⟨kd, hkd⟩ : ∃ k, x.kind = k := ⟨_, rfl⟩
      rw [hkd] at hb2 hb2' hb2n hb3 ⊢
      cases b1 with
      | false =>
        go_wp2
        exact ⟨⟨d + 1, by go_num, by omega, HE⟩, by simp [intOf]; omega⟩
      | true =>
        cases b2 with
        | false =>
          have : ¬ 3 ≤ kd := of_decide_eq_false hb2n
          go_wp2
          exact ⟨⟨d + 1, by go_num, by omega, HE⟩, by simp [intOf]; omega⟩
        | true =>
          cases b3 with
          | false =>
            have : 3 ≤ kd := of_decide_eq_true hb2n
            go_wp2
            exact ⟨⟨d + 1, by go_num, by omega, HE⟩, by simp [intOf]; omega⟩
          | true => cases hbb
    obtain ⟨hs1, hk3, hk7⟩ := hal
    have e1 : (y.sort : Int) = 1 := by omega
    rw [e1] at q0
    have g1 : decide ((x.kind : Int) ≥ 3) = true := decide_eq_true (by omega)
    have g1' : decide ((3 : Int) ≤ (x.kind : Int)) = true := g1
    have g2 : ((x.kind : Int) != 7) = true := by simp; omega
    have h8 : 8 ≤ t := by
      by_cases h : t < 8
      · have := (HAr.out.lo t x h Hx.out).1; omega
      · omega
    have hbrk : brk (knd T y.typ.toNat) = true := by
      rw [hty, hkn]
      have := HAr.out.hi t x h8 Hx.out
      unfold brk
      simp
      omega
    have q1 : w8.cell? ⟨q, 1, none⟩ = some (.string y.name) := HBq8.out.cell 1
    have hlk0 := HL8.out.lookA (t : Int)
    have hfat := HFa.out t
    have Hbrk := hid hbrk
    obtain ⟨sv, eb, hsv, heb, hse⟩ : ∃ (sv : ByteArray) (eb : Bool), (fa (t : Int)).getD (.string ⟨#[]⟩) = .string sv ∧ (sv.data.toList == ([] : List UInt8)) = eb ∧ (eb = true ↔ alK T d t < 0) := by
      by_cases ha : 0 ≤ alK T d t
      · rw [if_pos ha] at hfat
        refine ⟨_, false, by rw [hfat]; rfl, ?_, ⟨fun h => by (cases h), fun h => by omega⟩⟩
        obtain ⟨d', hd'⟩ : ∃ d' : Nat, alK T d t = (d' : Int) := ⟨(alK T d t).toNat, by omega⟩
        obtain ⟨_, z, hz, _⟩ := alK_spec d t d' hd'
        have hne := (HAr.out.dc d' z hz).2.1
        have : dnB T (alK T d t).toNat = z.name := by unfold dnB; rw [hd', Int.toNat_natCast, hz]
        rw [this, beq_eq_false_iff_ne]
        exact hne
      · rw [if_neg ha] at hfat
        exact ⟨⟨#[]⟩, true, by rw [hfat]; rfl, rfl, ⟨fun _ => by omega, fun _ => rfl⟩⟩
    rw [hsv] at hlk0
    have hlk : (Instr.lookup 70 (.map (some ma)) (.int .i32 (t : Int)) false).run Tryz.prog w8 = .ok (.string sv) w8 := hlk0
    have heb2 : (sv.toList == ([] : List UInt8)) = eb := by rw [ByteArray.toList_eq]; exact heb
    have heb3 : sv.toList.isEmpty = eb := by
      rw [← heb2]
      cases sv.toList <;> rfl
    have Hse := hid hse
    have Hs1 := hid hs1
    have Hty := hid hty
    clear hse hlk0 hfat hsv hbrk hkn hs1 hs2 hs0 ht2 HKd hty e1
    go_wp2_with fail
    refine HA3.out.mono ?_
    rintro e w8 ⟨rfl, rfl⟩
    clear HA3
    obtain ⟨kd, hkd⟩ : ∃ k, x.kind = k := ⟨_, rfl⟩
    have Hkd := hid hkd
    rw [hkd] at g1 g1' g2 hk3 hk7 ⊢
    clear hkd
    go_upto_if 245 with fail
    go_cut [28] from 242 to 249 (fun v wc => v = .int .u8 (kd : Int) ∧ Hid (∃ fa, LwA w3 tB pt gu nt ma (fup fu t true) fa wc ∧ FaI T (d + 1) fa ∧ Blk wc q 75 (dcC y)))
    case first =>
      cases eb with
      | true =>
        obtain ⟨w9, hpu, hL9, hq9⟩ := HL8.out.putA (t : Int) (.string y.name) HBq8.out
        have HE : Hid (∃ fa, LwA w3 tB pt gu nt ma (fup fu t true) fa w9 ∧ FaI T (d + 1) fa ∧ Blk w9 q 75 (dcC y)) := hid ⟨_, hL9, HFa.out.put Hy.out Ht.out ⟨Hs1.out, by rw [Hty.out]; exact Hse.out.1 rfl, Hbrk.out⟩, hq9⟩
        clear hL9 hq9 HL8 HBq8
        go_wp2
        go_meet
        exact ⟨rfl, HE⟩
      | false =>
        have HE : Hid (∃ fa, LwA w3 tB pt gu nt ma (fup fu t true) fa w8 ∧ FaI T (d + 1) fa ∧ Blk w8 q 75 (dcC y)) := hid ⟨_, HL8.out, HFa.out.skip Hy.out (fun h => by
          rw [Hty.out] at h
          have := Hse.out.2 h.2.1
          cases this), HBq8.out⟩
        clear HL8 HBq8
        go_wp2
        go_meet
        exact ⟨rfl, HE⟩
    case rest =>
    obtain ⟨rfl, HR⟩ := hcut
    clear HL8 HBq8 hlk heb heb2 heb3 q0 q1 cpt HFa
    obtain ⟨fa', hL9, hF9, _⟩ := HR.out
    have HL9 := hid hL9
    have HF9 := hid hF9
    have ha9 : 0 ≤ alK T (d + 1) t := by
      have hp := alK_pos Hy.out Hs1.out Hbrk.out (d + 1) (by omega)
      rw [Hty.out] at hp
      exact hp
    have hrf := HAr.out.first (k := d + 1) (by rw [Hnd.out]; omega) h8 Hx.out (by rw [Hkd.out]; exact hk7) ha9
    obtain ⟨sn, hsn⟩ : ∃ s : ByteArray, dnB T (alK T (d + 1) t).toNat = s := ⟨_, rfl⟩
    have hfat := hF9 t
    rw [if_pos ha9, hsn] at hfat
    rw [hsn] at hrf
    have Hlk : Hid (∀ wz, Below wc.heap.size wc wz → (Instr.lookup 70 (.map (some ma)) (.int .i32 (t : Int)) false).run Tryz.prog wz = .ok (.string sn) wz) := hid (fun wz hz => by
      have h := (HL9.out.below hz).lookA (t : Int)
      rw [hfat] at h
      exact h)
    have Hts : Hid (∀ wz, Below wc.heap.size wc wz → Calls Tryz.prog 38 #[.pointer (some ⟨tB, 0, none⟩), .int .i32 (t : Int)] wz fun e w' => e = .returned (.string sn) ∧ Below wz.heap.size wz w') := hid (fun wz hz => by
      have h := typeStringW (HAr.out.trd (HTg.out wz (HL9.out.below hz).b)) (id := t) (by rw [Hnt.out]; exact htl) (HAr.out.rl t (by rw [Hnt.out]; exact htl))
      rw [hrf] at h
      exact h)
    have cpt9 := HL9.out.cell
    clear hL9 hF9 HR hrf hfat hsn ha9
    go_upto_region 64 with fail
    obtain ⟨X0, W, hT, hI⟩ := class_mk (fun w' => Below wc.heap.size wc w')
    have H0 : Hid (∃ y, wc.drew = W y) := hid (hI _ (Drew.below ⟨1, rfl⟩ _))
    have HW0 : Hid (∀ x w', Below (W x).heap.size (W x) w' → ∃ y, w' = W y) := hid (fun x w' hb => hI _ ((hT x).trans (hb.mono (hT x).size)))
    have hne : Nonempty X0 := ⟨H0.out.choose⟩
    have HTT := hid hT
    have cp : ∀ z, (W z).cell? ⟨pt, 0, none⟩ = some (.pointer (some ⟨tB, 0, none⟩)) := fun z => (HL9.out.below (hT z)).cell
    have lk : ∀ z, (Instr.lookup 70 (.map (some ma)) (.int .i32 (t : Int)) false).run Tryz.prog (W z) = .ok (.string sn) (W z) := fun z => Hlk.out _ (hT z)
    have HTs2 : Hid (∀ z, Calls Tryz.prog 38 #[.pointer (some ⟨tB, 0, none⟩), .int .i32 (t : Int)] (W z) fun e w' => e = .returned (.string sn) ∧ Below (W z).heap.size (W z) w') := hid (fun z => Hts.out _ (hT z))
    clear hT hI
    refine wp_region_class W (by kernel_rfl) (by kernel_rfl) H0.out ?_
    repeat (go_big_quiet_step ((go_at_call 38; with_reducible exact Calls.class_of HW0.out (HTs2.out _))))
    refine wpQuiet_nil ?_
    intro z
    have HB := hid (HTT.out z)
    generalize W z = w10 at HB ⊢
    clear H0 HTT HW0 cp lk HTs2
    have HE : Hid (∃ fu fa, LwA w3 tB pt gu nt ma fu fa w10 ∧ UsI T nt fu ∧ UdI T (d + 1) fu ∧ FaI T (d + 1) fa) := hid ⟨_, _, HL9.out.below HB.out, HU1'.out, HU2'.out, HF9.out⟩
    clear HL9 HF9 HU1' HU2' HB Hts Hlk cpt9
    go_wp2
    exact ⟨⟨d + 1, by go_num, by omega, HE⟩, by simp [intOf]; omega⟩
  obtain ⟨wi, hwi⟩ : ∃ z, z = wr := ⟨_, rfl⟩
  subst hwi
  obtain ⟨fs, fu, hL, hSn, hUs⟩ := HI.out
  have HL := hid hL
  have HSn := hid hSn
  have HUs := hid hUs
  obtain ⟨x, hx⟩ : ∃ x, T.types[i]? = some x := ⟨_, List.getElem?_eq_getElem (by rw [Hnt.out]; exact hin)⟩
  have Hx := hid hx
  have HKd := hid (kindW (HTg.out wi hL.b).tb hx)
  have HEl := hid (elemW (HTg.out wi hL.b).tb hx)
  have HLn := hid (HLen.out wi hL.b)
  have cpt := hL.cell
  obtain ⟨cb, hcb⟩ : ∃ b, decide (8 ≤ i) = b := ⟨_, rfl⟩
  have k1 : decide ((x.kind : Int) ≥ 3) = cb := by
    rw [← hcb]
    by_cases h : 8 ≤ i
    · have := (HAr.out.hi i x h hx).1
      rw [decide_eq_true h, decide_eq_true (show (x.kind : Int) ≥ 3 by omega)]
    · have := (HAr.out.lo i x (by omega) hx).1
      rw [decide_eq_false h, decide_eq_false (show ¬ (x.kind : Int) ≥ 3 by omega)]
  have k1' : decide ((3 : Int) ≤ (x.kind : Int)) = cb := k1
  have k1n : decide (3 ≤ x.kind) = cb := by rw [← k1]; exact decide_eq_decide.2 (by omega)
  have k2 : decide ((i : Int) ≥ 8) = cb := by rw [← hcb]; exact decide_eq_decide.2 (by omega)
  have k2' : decide ((8 : Int) ≤ (i : Int)) = cb := k2
  have k3 : (cb != cb) = false := by cases cb <;> rfl
  have he : x.elem = -1 ∨ ∃ e : Nat, x.elem = (e : Int) := by
    by_cases h : 8 ≤ i
    · by_cases h3 : x.kind = 3 ∨ x.kind = 4
      · exact .inr ((HAr.out.tyo i x hx).e3 h3)
      · exact .inl ((HAr.out.hi i x h hx).2.2 (by omega) (by omega))
    · exact .inl (HAr.out.lo i x (by omega) hx).2
  have Hjn := hid (HAr.out.join hx)
  have d1 : decide ((i : Int) < (nt : Int)) = true := decide_eq_true (by omega)
  have ew : IntKind.i32.wrap (i : Int) = (i : Int) := by rw [IntKind.wrap_i32]; omega
  obtain ⟨kd, hkd⟩ : ∃ k, x.kind = k := ⟨_, rfl⟩
  obtain ⟨el, hel⟩ : ∃ k, x.elem = k := ⟨_, rfl⟩
  rw [hkd] at HKd k1 k1' k1n
  rw [hel] at HEl he Hjn
  clear hx hL hSn hUs HI hcb hkd hel
  go_wp2_with fail
  refine HLn.out.mono ?_
  rintro e wi ⟨rfl, rfl⟩
  clear HLn
  go_wp2_with fail
  refine HKd.out.mono ?_
  rintro e wi ⟨rfl, rfl⟩
  clear HKd
  go_wp2_with fail
  refine HEl.out.mono ?_
  rintro e wi ⟨rfl, rfl⟩
  clear HEl k1 k1' k1n k2 k2' k3 d1 ew
  obtain ⟨eb, heb⟩ : ∃ b, (el != -1) = b := ⟨_, rfl⟩
  go_upto_if 83 with fail
  go_cut [10] from 82 to 87 (fun v wc => ∃ (ax : Option Addr) (m q : Nat), v = .slice ax m q ∧ Hid (OwR rtId wi.heap.size wc (.slice ax m q) (if 0 ≤ el then [el.toNat] else []) ∧ Below wi.heap.size wi wc))
  case first =>
    rcases he with rfl | ⟨e, rfl⟩
    · obtain rfl : eb = false := heb.symm
      go_wp2
      go_meet
      exact ⟨_, _, _, rfl, hid ⟨by rw [if_neg (by decide)]; exact OwR.nil _ _ _, Below.refl _ _⟩⟩
    · have heb2 : eb = true := by rw [← heb]; simp <;> omega
      subst heb2
      go_wp2_with (at_builtin; refine stopHere ?_)
      intro _
      obtain ⟨k8, hk8⟩ : ∃ k, wi.heap.size = k := ⟨_, rfl⟩
      obtain ⟨wf, hwf⟩ : ∃ wf, wi.alloc (.cells #[.int .i32 (e : Int)] 47) = wf := ⟨_, rfl⟩
      have HBf : Hid (Below wi.heap.size wi wf) := hid (by rw [← hwf]; exact nbel wi _)
      have HNw : Hid (∀ ad, some (⟨k8, 0, none⟩ : Addr) = some ad → ∀ j u, ([e].flatMap rtId.f)[j]? = some u → wf.cell? (ad.add j) = some u) := hid (by rw [← hwf]; exact newX rtId wi e _ hk8.symm)
      (try simp only [hwf, hk8])
      have HKf := hid (OwR.nil rtId wi.heap.size wf)
      clear hwf hk8
      refine wpList_app_l okId rfl _ _ HKf.out rfl [e] rfl (some ⟨k8, 0, none⟩) 1 1 rfl rfl (fun h => by cases h) HNw.out (by decide) HBf.out.size ?_
      intro v9 w9 hr9 hk9 hg9
      obtain ⟨a9, q9, h9⟩ := hr9.out.shape
      obtain ⟨n9, hn9⟩ : ∃ k, ([] ++ [e]).length = k := ⟨_, rfl⟩
      rw [hn9] at h9
      have HF : Hid (OwR rtId wi.heap.size w9 v9 (if 0 ≤ (e : Int) then [((e : Int)).toNat] else []) ∧ Below wi.heap.size wi w9) := hid ⟨by rw [if_pos (by omega)]; exact hr9.out, HBf.out.trans (hk9.out.below (fun g hg => by cases hg) HBf.out.size)⟩
      subst h9
      clear hn9 hr9 hk9 hg9 HKf HNw HBf
      go_wp2
      go_meet
      exact ⟨_, _, _, rfl, HF⟩
  case rest =>
  obtain ⟨ap, mp, qp, rfl, HP⟩ := hcut
  clear he heb
  obtain ⟨w9, hw9⟩ : ∃ z, z = wc := ⟨_, rfl⟩
  subst hw9
  obtain ⟨aF, mF, hFl, hFc, hFw⟩ := fieldsA (HTg.out w3 (Below.refl _ _)).tb Hx.out (HAr.out.tyo i x Hx.out)
  have hmF : mF ≤ 200000 := by
    rw [← hFl]
    unfold flX flT
    have := HAr.out.nf
    split
    · rw [List.length_take, List.length_drop]; omega
    · simp
  have HB9 := hid (HL.out.b.trans (HP.out.2.mono HL.out.b.size))
  have HFw := hid (hFw w9 HB9.out)
  have HFc := hid hFc
  obtain ⟨xs, hxs⟩ : ∃ l, flX T x = l := ⟨_, rfl⟩
  have Hxs := hid hxs
  rw [hxs] at HFc hFl Hjn
  have HFl := hid hFl
  have cpt9 : w9.cell? ⟨pt, 0, none⟩ = some (.pointer (some ⟨tB, 0, none⟩)) := (HL.out.p.below HP.out.2).cell 0
  clear hFc hFw hFl hxs cpt
  go_wp2_with fail
  refine HFw.out.mono ?_
  rintro e w10 ⟨rfl, hbF⟩
  have HP10 : Hid (OwR rtId wi.heap.size w10 (.slice ap mp qp) ((if 0 ≤ el then [el.toNat] else []) ++ (xs.take 0).map (·.typ)) ∧ Below wi.heap.size wi w10) := hid ⟨by rw [List.take_zero]; show OwR rtId _ _ _ (_ ++ []); rw [List.append_nil]; exact HP.out.1.below hbF.out, HP.out.2.trans (hbF.out.mono HP.out.2.size)⟩
  clear HFw hbF HP HB9 cpt9
  go_upto_region 22 with fail
  go_loopw [92, 10] (fun t v wr => ∃ (j : Nat) (ax : Option Addr) (m q : Nat), t = .int .i64 (j : Int) ∧ v = .slice ax m q ∧ j ≤ mF ∧ Hid (OwR rtId wi.heap.size wr (.slice ax m q) ((if 0 ≤ el then [el.toNat] else []) ++ (xs.take j).map (·.typ)) ∧ Below wi.heap.size wi wr)) (fun t _ _ => mF - (intOf t).toNat)
  case atStart => exact ⟨0, _, _, _, rfl, rfl, Nat.zero_le _, HP10⟩
  case round =>
  obtain ⟨j, ax, m, q, rfl, rfl, hj, HJ⟩ := hrel
  clear HP10
  by_cases hjn : j < mF
  · have d2 : decide ((j : Int) < (mF : Int)) = true := decide_eq_true (by omega)
    have i2 : (j : Int) < (mF : Int) := by omega
    obtain ⟨fd, hf⟩ : ∃ f, xs[j]? = some f := ⟨_, List.getElem?_eq_getElem (by rw [HFl.out]; exact hjn)⟩
    obtain ⟨gF, fo, haF, hgF, hcF⟩ := HFc.out j fd hf
    have HB3w := hid (HL.out.b.trans (HJ.out.2.mono HL.out.b.size))
    obtain ⟨f0, f1⟩ := hcF wr HB3w.out
    have hfx : (flX T x)[j]? = some fd := by rw [Hxs.out]; exact hf
    have h7 : x.kind = 7 := by
      by_cases h : x.kind = 7
      · exact h
      · unfold flX at hfx; rw [if_neg h] at hfx; cases hfx
    have hfT : (flT T x)[j]? = some fd := by unfold flX at hfx; rw [if_pos h7] at hfx; exact hfx
    have hseal := sealT_at Hx.out h7 (HAr.out.fn i x Hx.out h7).1 hfT T.types.length (by rw [Hnt.out]; exact hin) (Nat.le_refl _)
    have Hse : Hid (∀ wz, Below w3.heap.size w3 wz → Calls Tryz.prog 29 #[.pointer (some ⟨tB, 0, none⟩), .int .i32 (i : Int), .string fd.name] wz fun e w' => e = .returned (.tuple #[.int .i64 (j : Int), .bool true]) ∧ w' = wz) := hid (fun wz hz => fieldIndexS (HTg.out wz hz) hseal (by omega))
    have Htk : Hid ((xs.take (j + 1)).map (·.typ) = (xs.take j).map (·.typ) ++ [fd.typ]) := hid (by rw [List.take_add_one, hf]; simp)
    have hnx : ((if 0 ≤ el then [el.toNat] else []) ++ (xs.take j).map (·.typ)).length = m := HJ.out.1.lenId
    have hnx2 : m ≤ 1 + mF := by
      rw [← hnx, List.length_append, List.length_map, List.length_take]
      have : (if 0 ≤ el then [el.toNat] else []).length ≤ 1 := by split <;> simp
      omega
    obtain ⟨P, hP⟩ : ∃ l, (if 0 ≤ el then [el.toNat] else []) ++ (xs.take j).map (·.typ) = l := ⟨_, rfl⟩
    have HPe := hid hP
    rw [hP] at HJ hnx
    have HNx := hid hnx
    obtain ⟨nm, hnm⟩ : ∃ a, fd.name = a := ⟨_, rfl⟩
    obtain ⟨o, ho⟩ : ∃ a, fd.typ = a := ⟨_, rfl⟩
    rw [hnm] at f0 Hse
    rw [ho] at f1 Htk
    subst haF
    obtain ⟨q9, hq9⟩ : ∃ q, wr.heap.size = q := ⟨_, rfl⟩
    have hbn := Blk.new wr [.string ⟨#[]⟩, .int .i32 0] 63
    rw [hq9] at hbn
    have HBn := hid hbn
    have Hone : Hid (∀ u ∈ fdC ⟨nm, o⟩, u.oneCell' = true) := hid (okFd.one ⟨nm, o⟩)
    have Hinf : Hid ((Tryz.prog.info? 63).map (·.size) = some 2) := hid (by kernel_rfl)
    clear hbn hf hnm ho hnx hcF hfx hfT hseal hP h7
    go_upto_region 24 with (refine wpList_store_blk rfl 63 _ _ rfl q9 (by simp [Act.eval, hq9]) (fdC ⟨nm, o⟩) rfl HBn.out rfl Hinf.out Hone.out ?_; intro w6 HB6 HU6)
    (try simp only [Act.put])
    have HB0 := hid (Below.updN (nbel wr (.cells #[.string ⟨#[]⟩, .int .i32 0] 63)) HU6.out (by omega) (nbel wr (.cells #[.string ⟨#[]⟩, .int .i32 0] 63)).size)
    have HJ6 := hid (And.intro (HJ.out.1.below HB0.out) (HJ.out.2.trans (HB0.out.mono HJ.out.2.size)))
    have g1 : w6.cell? ⟨q9, 1, none⟩ = some (.int .i32 (o : Int)) := HB6.out.cell 1
    have Hlo : Hid (wi.heap.size ≤ q9) := hid (by rw [← hq9]; exact HJ.out.2.size)
    have HBk : Hid (Blk w6 q9 63 (fdC ⟨nm, o⟩)) := HB6
    clear HJ HBn HU6 HB6 f0 f1 Hone Hinf hq9 HB0 HB3w
    go_wp2_with (at_builtin; refine stopHere ?_)
    intro _
    obtain ⟨k8, hk8⟩ : ∃ k, w6.heap.size = k := ⟨_, rfl⟩
    obtain ⟨wf, hwf⟩ : ∃ wf, w6.alloc (.cells #[.int .i32 (o : Int)] 47) = wf := ⟨_, rfl⟩
    have HBf : Hid (Below w6.heap.size w6 wf) := hid (by rw [← hwf]; exact nbel w6 _)
    have HNw : Hid (∀ ad, some (⟨k8, 0, none⟩ : Addr) = some ad → ∀ j u, ([o].flatMap rtId.f)[j]? = some u → wf.cell? (ad.add j) = some u) := hid (by rw [← hwf]; exact newX rtId w6 o _ hk8.symm)
    (try simp only [hwf, hk8])
    clear hwf hk8
    have HKf := hid (HJ6.out.1.below HBf.out)
    have HBw := hid (HJ6.out.2.trans (HBf.out.mono HJ6.out.2.size))
    have HBkf := hid (HBk.out.below HBf.out)
    refine wpList_app_l okId rfl _ _ HKf.out rfl [o] rfl (some ⟨k8, 0, none⟩) 1 1 rfl rfl (fun h => by cases h) HNw.out (by rw [HNx.out]; show (m + 1) * 4 ≤ _; omega) HBw.out.size ?_
    intro v9 w11 hr9 hk9 hg9
    have HBk9 : Hid (Blk w11 q9 63 (fdC ⟨nm, o⟩)) := hid (hk9.out.keep HBkf.out (HKf.out.ne HBkf.out (by decide)))
    have HE : Hid (OwR rtId wi.heap.size w11 v9 ((if 0 ≤ el then [el.toNat] else []) ++ (xs.take (j + 1)).map (·.typ)) ∧ Below wi.heap.size wi w11) := hid ⟨by
      rw [Htk.out, ← List.append_assoc, HPe.out]
      exact hr9.out, HBw.out.trans (hk9.out.below HKf.out.hi HBw.out.size)⟩
    obtain ⟨a9, qq9, h9⟩ := hr9.out.shape
    obtain ⟨n9, hn9⟩ : ∃ k, (P ++ [o]).length = k := ⟨_, rfl⟩
    rw [hn9] at h9
    subst h9
    clear hn9 hr9 hk9 hg9 HNw HBf HJ6 g1 HNx Htk HKf HBkf HBk HPe HBw
    have g0 : w11.cell? ⟨q9, 0, none⟩ = some (.string nm) := HBk9.out.cell 0
    have cpt9 : w11.cell? ⟨pt, 0, none⟩ = some (.pointer (some ⟨tB, 0, none⟩)) := (HL.out.p.below HE.out.2).cell 0
    have HA9 := hid (Hse.out w11 (HL.out.b.trans (HE.out.2.mono HL.out.b.size)))
    have nq : ((j : Int) != (j : Int)) = false := by simp
    clear HBk9 Hse
    go_wp2_with fail
    refine HA9.out.mono ?_
    rintro e w11 ⟨rfl, rfl⟩
    clear HA9
    go_wp2
    exact ⟨⟨j + 1, _, _, _, by go_num, rfl, by omega, HE⟩, by simp [intOf]; omega⟩
  have d2 : decide ((j : Int) < (mF : Int)) = false := decide_eq_false (by omega)
  have HJ2 : Hid (OwR rtId wi.heap.size wr (.slice ax m q) ((if 0 ≤ el then [el.toNat] else []) ++ xs.map (·.typ)) ∧ Below wi.heap.size wi wr) := hid (by
    have := HJ.out
    rw [List.take_of_length_le (by rw [HFl.out]; omega)] at this
    exact this)
  obtain ⟨aO, mO, hOl, hO0, hOc, hOw⟩ := optionsA (HTg.out w3 (Below.refl _ _)).tb Hx.out (HAr.out.tyo i x Hx.out)
  have hmO : mO ≤ 200000 := by
    rw [← hOl]
    unfold opX opT
    have := HAr.out.no
    split
    · rw [List.length_take, List.length_drop]; omega
    · simp
  have HB9 := hid (HL.out.b.trans (HJ2.out.2.mono HL.out.b.size))
  have HOw := hid (hOw wr HB9.out)
  have HOc := hid hOc
  have HO0 := hid hO0
  have HOl := hid hOl
  have hmm : m ≤ 1 + mF := by
    rw [← HJ2.out.1.lenId, List.length_append, List.length_map, HFl.out]
    have : (if 0 ≤ el then [el.toNat] else []).length ≤ 1 := by split <;> simp
    omega
  have HNm := hid HJ2.out.1.lenId
  have cpt9 : wr.cell? ⟨pt, 0, none⟩ = some (.pointer (some ⟨tB, 0, none⟩)) := (HL.out.p.below HJ2.out.2).cell 0
  clear HJ hOc hO0 hOl hOw HFc HFl Hxs
  go_wp2_with fail
  refine HOw.out.mono ?_
  rintro e w12 ⟨rfl, hbO⟩
  have HJ3 := hid (And.intro (HJ2.out.1.below hbO.out) (HJ2.out.2.trans (hbO.out.mono HJ2.out.2.size)))
  have HB12 := hid (HL.out.b.trans (HJ3.out.2.mono HL.out.b.size))
  clear HJ2 hbO HOw HB9 cpt9
  go_wp2_with (at_builtin; refine stopHere ?_)
  intro _
  refine wpList_app_l okId rfl _ _ HJ3.out.1 rfl (opX T x) rfl aO mO mO rfl HOl.out (fun h => ⟨HO0.out h, HO0.out h⟩) (fun ad had j u hu => HOc.out ad had j u hu w12 HB12.out) (by rw [HNm.out]; show (m + mO) * 4 ≤ _; omega) HJ3.out.2.size ?_
  intro v13 w13 hr9 hk9 hg9
  have HE : Hid (OwR rtId wi.heap.size w13 v13 (prI T i) ∧ Below wi.heap.size wi w13) := hid ⟨by rw [← Hjn.out]; exact hr9.out, HJ3.out.2.trans (hk9.out.below HJ3.out.1.hi HJ3.out.2.size)⟩
  obtain ⟨a9, qq9, h9⟩ := HE.out.1.shape
  obtain ⟨ps, hps⟩ : ∃ l, prI T i = l := ⟨_, rfl⟩
  have Hps := hid hps
  rw [hps] at HE h9
  obtain ⟨mm, hmm2⟩ : ∃ k, ps.length = k := ⟨_, rfl⟩
  have Hmm := hid hmm2
  rw [hmm2] at h9
  subst h9
  have hmmb : mm ≤ 200000 := by rw [← hmm2, ← hps]; exact HAr.out.prl i
  clear hps hmm2 hr9 hk9 hg9 HJ3 HNm HO0 HOl HOc hmm hmO hmF HB12
  have HB13 := hid (HL.out.b.trans (HE.out.2.mono HL.out.b.size))
  have HPa := hid (partsW (HTg.out w13 HB13.out).tb Hx.out (HAr.out.tyo i x Hx.out) w13 none 0 0 [] (OwR.nil _ _ _) (Below.refl _ _) (by rw [← prI_get Hx.out, Hps.out, Hmm.out]; simp; omega))
  rw [← prI_get Hx.out, Hps.out] at HPa
  have cpt9 : w13.cell? ⟨pt, 0, none⟩ = some (.pointer (some ⟨tB, 0, none⟩)) := (HL.out.p.below HE.out.2).cell 0
  go_wp2_with fail
  refine HPa.out.mono ?_
  rintro e w14 ⟨v14, rfl, h14⟩
  have HB14 := hid (h14.out.2.1.below (n0 := w13.heap.size) (fun g hg => by cases hg) (Nat.le_refl _))
  have ho14 := h14.out.1
  rw [List.nil_append] at ho14
  obtain ⟨a14, q14, hv14⟩ := ho14.shape
  rw [Hmm.out] at hv14
  subst hv14
  have HE14 := hid (And.intro (HE.out.1.below HB14.out) (HE.out.2.trans (HB14.out.mono HE.out.2.size)))
  have HSm := hid (sameIdW (c := qq9) (d := q14) HE14.out.1.rdg ho14.rdg (by omega))
  clear h14 ho14 HPa HE HB13 cpt9 HB14
  go_wp2_with fail
  refine HSm.out.mono ?_
  rintro e w15 ⟨rfl, h15⟩
  have HE15 := hid (And.intro (HE14.out.1.below h15.out) (HE14.out.2.trans (h15.out.mono HE14.out.2.size)))
  have HM15 : Hid (LwM w3 tB pt ms gu nt fs (mrk fu (ps.take 0)) w15 ∧ OwR rtId wi.heap.size w15 (.slice a9 mm qq9) ps) := hid ⟨by rw [List.take_zero, mrk_nil]; exact HL.out.below HE15.out.2, HE15.out.1⟩
  clear HSm HE14 h15 HE15
  have Hlt : Hid (∀ p ∈ ps, p < i) := hid (fun p hp => HAr.out.pl i p (by rw [Hps.out]; exact hp))
  go_upto_region 33 with fail
  go_loopw [131] (fun t wr => ∃ (j : Nat), t = .int .i64 (j : Int) ∧ j ≤ mm ∧ Hid (LwM w3 tB pt ms gu nt fs (mrk fu (ps.take j)) wr ∧ OwR rtId wi.heap.size wr (.slice a9 mm qq9) ps)) (fun t _ => mm - (intOf t).toNat)
  case atStart => exact ⟨0, rfl, Nat.zero_le _, HM15⟩
  case round =>
  obtain ⟨k, rfl, hk, HK⟩ := hrel
  clear HM15
  by_cases hkn : k < mm
  · have d3 : decide ((k : Int) < (mm : Int)) = true := decide_eq_true (by omega)
    have i3 : (k : Int) < (mm : Int) := by omega
    obtain ⟨p, hp⟩ : ∃ p, ps[k]? = some p := ⟨_, List.getElem?_eq_getElem (by rw [Hmm.out]; exact hkn)⟩
    have hpi := Hlt.out p (List.mem_of_getElem? hp)
    have i4 : (p : Int) < (nt : Int) := by omega
    have hpn : p < nt := by omega
    obtain ⟨g5, ha5, _, _, c5⟩ := HK.out.2.id hp
    subst ha5
    have c6 := HK.out.1.us.get hpn
    have c7 : wr.frozen? ⟨gu, p, none⟩ = false := Blk.frozen HK.out.1.us p
    have t5 : decide ((p : Int) < 0) = false := decide_eq_false (by omega)
    have t6 : decide ((p : Int) ≥ (i : Int)) = false := decide_eq_false (by omega)
    have t6' : decide ((i : Int) ≤ (p : Int)) = false := decide_eq_false (by omega)
    have t6n : ¬ i ≤ p := by omega
    have HF : Hid (LwM w3 tB pt ms gu nt fs (mrk fu (ps.take (k + 1))) (wr.setCell ⟨gu, p, none⟩ (.bool true)) ∧ OwR rtId wi.heap.size (wr.setCell ⟨gu, p, none⟩ (.bool true)) (.slice (some ⟨g5, 0, none⟩) mm qq9) ps) := hid ⟨by
      have := HK.out.1.setU hpn true
      rw [List.take_add_one, hp]
      show LwM w3 tB pt ms gu nt fs (mrk fu (ps.take k ++ [p])) _
      rw [mrk_snoc]
      exact this, HK.out.2.upd ((Upd.refl gu wr).setCell rfl _) (HK.out.2.ne HK.out.1.us (by decide))⟩
    clear HK hp
    go_wp2
    exact ⟨⟨k + 1, by go_num, by omega, HF⟩, by simp [intOf]; omega⟩
  have d3 : decide ((k : Int) < (mm : Int)) = false := decide_eq_false (by omega)
  have HK2 : Hid (LwM w3 tB pt ms gu nt fs (mrk fu ps) wr) := hid (by
    have := HK.out.1
    rw [List.take_of_length_le (by rw [Hmm.out]; omega)] at this
    exact this)
  have HFi := hid (fieldIndexN (HTg.out wr HK2.out.b) (HAr.out.nsf i))
  have HSt := hid (structW (HAr.out.trd (HTg.out wr HK2.out.b)) Hx.out (by
    by_cases h : 8 ≤ i
    · exact .inr h
    · exact .inl (HAr.out.lo i x (by omega) Hx.out).1) (HAr.out.sl i x Hx.out))
  have hno := HSn.out.none HAr.out Hx.out
  have HSp : Hid (∀ v, SnI T al (i + 1) (gup fs ⟨(strB T al i x).toArray⟩ (some v))) := hid (fun v => HSn.out.put Hx.out)
  have HUp : Hid (UsI T (i + 1) (mrk fu ps)) := hid (by rw [← Hps.out]; exact HUs.out.step)
  obtain ⟨sB, hsB⟩ : ∃ s : ByteArray, (⟨(strB T al i x).toArray⟩ : ByteArray) = s := ⟨_, rfl⟩
  rw [hsB] at HSt hno HSp
  have Hno := hid hno
  have cpt9 := HK2.out.cell
  clear HK Hlt Hmm Hps Hjn hsB hno HUs HSn Hx HL
  go_wp2_with fail
  refine HFi.out.mono ?_
  rintro e wr ⟨rfl, rfl⟩
  clear HFi
  go_wp2_with fail
  refine HSt.out.mono ?_
  rintro e w16 ⟨rfl, hb16⟩
  have HL16 := hid (HK2.out.below hb16)
  have hlk := HL16.out.lookS sB Hno.out
  obtain ⟨w17, hpu, hL17⟩ := HL16.out.putS sB (.bool true)
  have HE : Hid (∃ fs fu, LwM w3 tB pt ms gu nt fs fu w17 ∧ SnI T al (i + 1) fs ∧ UsI T (i + 1) fu) := hid ⟨_, _, hL17, HSp.out _, HUp.out⟩
  clear HSt hb16 HK2 HL16 hL17 HSp HUp Hno cpt9
  go_wp2
  exact ⟨⟨i + 1, by go_num, by omega, HE⟩, by simp [intOf]; omega⟩
end
end Go.Proofs.Qxb6500883aGreatDoor
