/- SplitLast. -/
import Derived.Test.Qxb6500891aPtSh
namespace Go.Proofs.Qxb6500891a
open Go.RowKit
set_option linter.unusedSimpArgs false
set_option linter.unusedVariables false

theorem results_tct {P : Program} {fn : Func} {tmps : Array Value} {w : World} {g s u x : Nat} {t t' : TypeId} {cs : List Value} (hr : fn.results = #[.tmp x, .cell s t, .tmp u])
    (hs : tmps.getD s undef = .pointer (some ⟨g, 0, none⟩)) (ha : AggOf P t cs.length) (hb : Blk w g t' cs) :
    (results fn tmps).run P w = .ok (.tuple #[tmps.getD x undef, .agg cs.toArray, tmps.getD u undef]) w := by
  have hl := run_loadVar_blk ha hb
  have hs' : tmps[s]?.getD undef = .pointer (some ⟨g, 0, none⟩) := by simpa using hs
  simp [results, hr, hs', asAddr, hl]
/-- What SplitLast answers. -/
structure SplP (w : World) (e : Ending) (w' : World) : Prop where
  out : ∃ (v : Value) (C : List Value) (ok : Bool), e = .returned (.tuple #[v, .agg C.toArray, .bool ok]) ∧ C.length = 37 ∧ (∀ u ∈ C, u.oneCell' = true) ∧ (ok = true → Ab w v 10000 w' ∧ ∃ nm cls hh nd la, NmOk nm ∧ C = compC nm cls hh nd la)
  bel : Below w.heap.size w w'
theorem Ab.base {w0 w4 w : World} {v : Value} {n : Nat} (h : Ab w4 v n w) (hb : Below w0.heap.size w0 w4) : Ab w0 v n w := by
  obtain ⟨bs, h1, h2, h3⟩ := h.ex
  refine ⟨bs, h1, h2, ⟨hb.trans (h3.bel.mono hb.size), ?_⟩⟩
  refine ⟨h3.own.1, ?_⟩
  rcases h3.own.2 with h4 | ⟨g, cap, cur, h5, h6, h7⟩
  · exact .inl h4
  · exact .inr ⟨g, cap, cur, h5, Nat.le_trans hb.size h6, h7⟩
theorem Ab.updc {w0 w w' : World} {v : Value} {n r : Nat} (h : Ab w0 v n w) (hu : Upd r w w') (hr : w0.heap.size ≤ r) (hne : ∀ g', v.ownBlock = some g' → r ≠ g') : Ab w0 v n w' := by
  obtain ⟨bs, h1, h2, h3⟩ := h.ex
  refine ⟨bs, h1, h2, ⟨h3.bel.trans (hu.below hr h3.bel.size), ?_⟩⟩
  refine ⟨h3.own.1, ?_⟩
  rcases h3.own.2 with h4 | ⟨g, cap, cur, h5, h6, h7, h8⟩
  · exact .inl h4
  · subst h5
    refine .inr ⟨g, cap, cur, rfl, h6, ?_, h8⟩
    rw [hu.block g (Array.getElem?_eq_some_iff.1 h7).1 (fun e => hne g rfl e.symm)]
    exact h7
theorem sp_nm0 {ds : List Value} {o : Nat} {l : List Nat} {sp : List Sp} (hp : PathOk ds o l sp) {s : Sp} (hs : s ∈ sp) : NmOk (sub l s.a s.b) := by
  have hso := hp.cp.ok s hs
  have hl := sub_len (l := l) (a := s.a) hso.le
  have := hso.sh
  exact ⟨by omega, sp_nm' hp hs⟩
set_option maxRecDepth 1000000 in
set_option maxHeartbeats 4000000 in
theorem splitLast_walk (g o : Nat) (t : TypeId) (ds : List Value) (l : List Nat) (sp : List Sp) (w : World) (hb : Blk w g t ds) (hp : PathOk ds o l sp) :
    Calls Try.prog 57 #[.pointer (some ⟨g, o, none⟩)] w fun e w' => SplP w e w' := by
  have HP := hid hp
  have h128 := hp.n128
  have h255 := hp.n255
  have hg0 := hb.lt
  obtain ⟨r, hr⟩ : ∃ r, w.heap.size = r := ⟨_, rfl⟩
  obtain ⟨w1, hw1⟩ : ∃ w1, w.alloc (.cells (compC [] 0 0 false false).toArray 40) = w1 := ⟨_, rfl⟩
  have hr1 := Blk.new w (compC [] 0 0 false false) 40
  have hbel1 := nbel w (.cells (compC [] 0 0 false false).toArray 40)
  rw [hw1] at hr1 hbel1
  rw [hr] at hr1
  have HR1 := hid hr1
  have HBe1 := hid hbel1
  have HB := hid (hb.below hbel1)
  have I0 : Hid ((Try.prog.info? 40).map (·.size) = some (compC [] 0 0 false false).length) := hid info_comp
  obtain ⟨cnt, hcnt⟩ : ∃ cnt, sp.length = cnt := ⟨_, rfl⟩
  have c256 : w1.cell? ⟨g, o + 256, none⟩ = some (.int .i64 (cnt : Int)) := by rw [HB.out.cell, ← hcnt]; exact HP.out.ct
  have Hcnt := hid hcnt
  rw [hcnt] at h128
  clear hb hp hr1 hbel1 hcnt
  go_enter Try.func57, Try.ntmps57
  go_upto_region 1 with fail
  simp only [zero_comp, hw1]
  clear hw1
  by_cases hc0 : cnt = 0
  · as_aux_lemma =>
    subst hc0
    go_wp2_with (refine wpList_store_blk rfl 40 _ _ rfl r rfl (compC [] 0 0 false false) rfl HR1.out rfl I0.out (one_comp _ _ _ _ _) ?_; intro w9 HB9 HU9)
    exact bodyPost_ret (results_tct Try.results57 rfl (by rw [compC_len (by simp)]; exact aggComp) HB9.out) rfl ⟨⟨_, _, false, rfl, rfl, one_comp _ _ _ _ _, fun h => by cases h⟩, HBe1.out.trans (HU9.out.below (by omega) HBe1.out.size)⟩
  obtain ⟨m, rfl⟩ : ∃ m, cnt = m + 1 := ⟨cnt - 1, by omega⟩
  have dc : (((m + 1 : Nat) : Int) == 0) = false := by simp; omega
  have em : ((m + 1 : Nat) : Int) - 1 = (m : Int) := by omega
  obtain ⟨sl, hsl0⟩ : ∃ s, sp[m]? = some s := ⟨_, List.getElem?_eq_getElem (show m < sp.length by rw [Hcnt.out]; omega)⟩
  have hnm := sp_nm0 HP.out (List.mem_of_getElem? hsl0)
  have HAt := hid (at_walk g o t ds l sp w1 HB.out HP.out m sl hsl0)
  unfold compV at HAt
  generalize hla : decide (m + 1 = sp.length) = la at *
  generalize hhh : hashL 2166136261 (sub l sl.a sl.b) = hh at *
  generalize hnn : sub l sl.a sl.b = nm at *
  have hC37 : (compC nm sl.cls hh sl.sl la).length = 37 := compC_len hnm.le _ _ _ _
  have HOn := hid (one_comp nm sl.cls hh sl.sl la)
  have HNm := hid hnm
  obtain ⟨CC, hCC⟩ : ∃ CC, compC nm sl.cls hh sl.sl la = CC := ⟨_, rfl⟩
  rw [hCC] at HAt hC37 HOn
  have HCC := hid hCC
  have I1 : Hid ((Try.prog.info? 40).map (·.size) = some CC.length) := hid (by rw [hC37]; exact info_comp)
  have L1 : Hid ((compC [] 0 0 false false).length = CC.length) := hid (by rw [hC37]; rfl)
  clear hsl0 hla hhh hnn hnm hCC
  go_wp2_with fail
  refine (HAt.out).mono ?_
  rintro e w2 ⟨rfl, hb2⟩
  have HB2 := hid (HB.out.below hb2)
  have HR2 := hid (HR1.out.below hb2)
  have HBe2 := hid (HBe1.out.trans (hb2.mono HBe1.out.size))
  clear hb2 HAt HB HR1 HBe1 c256
  go_upto_region 4 with (refine wpList_store_blk rfl 40 _ _ rfl r rfl CC rfl HR2.out L1.out I1.out HOn.out ?_; intro w4 HR4 HU4)
  have HB := hid (HB2.out.upd HU4.out (by omega))
  have HBe4 : Hid (Below w.heap.size w w4) := hid (HBe2.out.trans (HU4.out.below (by omega) HBe2.out.size))
  clear HU4 HR2 HB2 HBe2
  have HA0 := hid (Ab.nil w4)
  have HAbs := hid (abs_walk g o t ds l sp w4 HB.out HP.out)
  go_wp2_with fail
  refine (HAbs.out).mono ?_
  rintro e w5 ⟨⟨ab, rfl, _⟩, rfl⟩
  clear HAbs
  go_upto_if 21 with fail
  go_cut [2] from 22 to 24 (fun v wc => Hid (Ab w5 v 1 wc))
  case first =>
    as_aux_lemma =>
    cases ab with
    | true =>
      have HA1 := hid (HA0.out.below (nbel w5 (.cells #[.int .u8 47] 5)))
      go_wp2_with (at_builtin; refine wpList_app_ab rfl (.tmp 22) (.tmp 23) rfl w5 _ _ 0 [47] rfl HA1.out (some ⟨w5.heap.size, 0, none⟩) 1 1 rfl rfl (fun h => by cases h) (by simp) (new47 w5 47 _ rfl) (by decide) ?_; intro v8 w8 HA8 HK8)
      go_meet
      case rel => exact HA8
    | false =>
      go_wp2_with fail
      go_meet
      case rel => exact hid (HA0.out.mono (by omega))
  case rest =>
  rename World => wcc
  have HA := hcut
  clear hcut HA0
  have HBc := hid (HB.out.below HA.out.bel)
  have h128' : m ≤ 128 := by omega
  have hsl := fun w' => slice_comp ⟨g, o + 257, none⟩ m h128' w'
  have c256 : ∀ nn, (wcc.drewN nn).cell? ⟨g, o + 256, none⟩ = some (.int .i64 ((m + 1 : Nat) : Int)) := fun nn => by rw [(HBc.out.drewN nn).cell, ← Hcnt.out]; exact HP.out.ct
  go_upto_region 6 with fail
  go_quiet (fail)
  have HA1 := hid (HA.out.below (Drew.below ⟨nq, rfl⟩ _))
  generalize wcc.drewN nq = w6 at HA1 ⊢
  clear c256 HA HBc dc
  have Hm : Hid (sp.length = m + 1) := Hcnt
  go_wp2_with fail
  go_loopw [2, 35] (fun v i wr => ∃ k : Nat, k ≤ m ∧ i = .int .i64 k ∧ Hid (Ab w5 v (1 + k * 40) wr)) (fun _ i _ => m - (intOf i).toNat)
  case atStart => exact ⟨0, by omega, rfl, hid (HA1.out.mono (by omega))⟩
  case round =>
    clear HA1
    obtain ⟨k, hk, rfl, HA⟩ := hrel
    have HBr := hid (HB.out.below HA.out.bel)
    by_cases hlt : k < m
    rotate_left
    · as_aux_lemma =>
      have dk : decide ((k : Int) < (m : Int)) = false := decide_eq_false (by omega)
      have HRr := hid (HR4.out.below HA.out.bel)
      obtain ⟨ax, kx, cx, bx, rfl, hrow⟩ := HA.out.row (by omega)
      have hkx : kx ≤ 140737488351232 := hrow.1.2.2.1.1
      clear hrow
      go_upto_if 58 with fail
      go_cut [2] from 56 to 61 (fun v wc => Hid (Ab w5 v (1 + k * 40 + 1) wc))
      case first =>
        as_aux_lemma =>
        by_cases hk0 : kx = 0
        · subst hk0
          have HA1 := hid (HA.out.below (nbel wr (.cells #[.int .u8 46] 5)))
          have hbb : (1 + k * 40) + 1 ≤ 140737488355328 := by omega
          go_wp2_with (at_builtin; refine wpList_app_ab rfl (.tmp 59) (.tmp 60) rfl w5 _ _ (1 + k * 40) [46] rfl HA1.out (some ⟨wr.heap.size, 0, none⟩) 1 1 rfl rfl (fun h => by cases h) (by simp) (new47 wr 46 _ rfl) hbb ?_; intro v8 w8 HA8 HK8)
          go_meet
          case rel => exact HA8
        · have d0 : ((kx : Int) == 0) = false := by simp; omega
          go_wp2_with fail
          go_meet
          case rel => exact hid (HA.out.mono (by omega))
      case rest =>
      rename World => w7
      have HA7 := hcut
      clear hcut HA HRr HBr
      have HR7 := hid (HR4.out.below HA7.out.bel)
      go_upto_region 15 with fail
      obtain ⟨X, W, hT, hI⟩ := class_mk (fun w' => Drew w7 w')
      have H0 : Hid (∃ x, w7.drew = W x) := hid (hI _ ⟨1, rfl⟩)
      have hne : Nonempty X := ⟨H0.out.choose⟩
      have Hld : Hid (∀ x, (Instr.loadAt 40 (.pointer (some ⟨r, 0, none⟩))).run Try.prog (W x) = .ok (.agg CC.toArray) (W x)) := hid (fun x => run_loadAt_mid (W x) r 0 40 CC _ (HR7.out.drew (hT x)).rangeAt Try.underlying40 rfl I1.out)
      have HTT := hid hT
      clear hT hI
      refine wp_region_class_tailT W 3 (by kernel_rfl) (by kernel_rfl) (by kernel_rfl) H0.out ?_
      dsimp only [List.take, List.drop]
      repeat (first
        | (go_big_quiet_want; refine quiet_loadO 40 _ rfl ⟨r, 0, none⟩ rfl _ (fun w hx => by obtain ⟨x, rfl⟩ := hx; exact Hld.out x) ?_; simp only [Act.put, List.setIfInBounds_toArray, List.set_cons_succ, List.set_cons_zero]; go_big_quiet_on)
        | (go_big_quiet_step (fail)))
      refine wpQuiet_nil ?_
      intro z
      have HZ := hid (HTT.out z)
      generalize W z = wz at HZ ⊢
      clear Hld HTT H0
      have HRz := hid (HR7.out.drew HZ.out)
      have HAz := hid (HA7.out.below (Drew.below HZ.out _))
      have Hne := hid (HAz.out.ne HRz.out (by decide))
      go_wp2_with (refine wpList_store_blk rfl 40 _ _ rfl r rfl CC rfl HRz.out rfl I1.out HOn.out ?_; intro w9 HB9 HU9)
      have hb9 : Below w.heap.size w w9 := HBe4.out.trans ((HAz.out.bel.mono HBe4.out.size).trans (HU9.out.below (by omega) (by have := HBe4.out.size; have := HAz.out.bel.size; omega)))
      exact bodyPost_ret (results_tct Try.results57 rfl (by rw [hC37]; exact aggComp) HB9.out) rfl ⟨⟨_, CC, true, rfl, hC37, HOn.out, fun _ => ⟨((HAz.out.base HBe4.out).updc HU9.out (by omega) Hne.out).mono (by omega), nm, _, _, _, _, HNm.out, HCC.out.symm⟩⟩, hb9⟩
    as_aux_lemma =>
    have dk : decide ((k : Int) < (m : Int)) = true := decide_eq_true (by omega)
    obtain ⟨s, hs⟩ : ∃ s, sp[k]? = some s := ⟨_, List.getElem?_eq_getElem (show k < sp.length by rw [Hm.out]; omega)⟩
    have hso := HP.out.cp.ok s (List.mem_of_getElem? hs)
    have hab := hso.lt
    have hbl := hso.le
    have hsh := hso.sh
    have hsub : (sub l s.a s.b).length = s.b - s.a := sub_len hso.le
    obtain ⟨e0, e1, e2, e3, e4⟩ := spC_cells HP.out.cp hs HBr.out
    obtain ⟨H, hH⟩ : ∃ H, hashL 2166136261 (sub l s.a s.b) = H := ⟨_, rfl⟩
    rw [hH] at e4
    have i1 : (k : Int) < (m : Int) := by omega
    obtain ⟨p, hp⟩ : ∃ p, wr.heap.size = p := ⟨_, rfl⟩
    have hbn := Blk.new wr [.int .u8 (s.a : Int), .int .u8 (s.b : Int), .int .u8 s.cls, .bool s.sl, .int .u32 H] 60
    rw [hp] at hbn
    have HS1 : Hid (Abs w5 _ (1 + k * 40) p _ _) := hid ⟨HA.out.below (nbel wr (.cells #[.int .u8 (s.a : Int), .int .u8 (s.b : Int), .int .u8 s.cls, .bool s.sl, .int .u32 H] 60)), hbn⟩
    have HMem := hid (List.mem_of_getElem? hs)
    clear hbn hs hso HA HBr
    go_upto_region 9 with fail
    generalize wr.alloc (.cells #[.int .u8 (s.a : Int), .int .u8 (s.b : Int), .int .u8 s.cls, .bool s.sl, .int .u32 H] 60) = w3 at HS1 ⊢
    obtain ⟨C, hC⟩ : ∃ C, [Value.int .u8 (s.a : Int), .int .u8 (s.b : Int), .int .u8 s.cls, .bool s.sl, .int .u32 H] = C := ⟨_, rfl⟩
    have HC := hid hC
    rw [hC] at HS1
    clear e0 e1 e2 e3 e4 hC
    go_upto_if 41 with fail
    go_cut [2] from 40 to 44 (fun v wc => Hid (Abs w5 v (1 + k * 40 + 1) p C wc))
    case first =>
      as_aux_lemma =>
      by_cases hk0 : k = 0
      · subst hk0
        go_wp2_with fail
        go_meet
        case rel => exact hid ⟨HS1.out.ab.mono (by omega), HS1.out.bp⟩
      · have d0 : decide ((0 : Int) < (k : Int)) = true := decide_eq_true (by omega)
        have HS2 := hid (HS1.out.below (nbel w3 (.cells #[.int .u8 47] 5)))
        have hbb : (1 + k * 40) + 1 ≤ 140737488355328 := by omega
        have Hne := hid (HS2.out.ab.ne HS2.out.bp (by decide))
        go_wp2_with (at_builtin; refine wpList_app_ab rfl (.tmp 42) (.tmp 43) rfl w5 _ _ (1 + k * 40) [47] rfl HS2.out.ab (some ⟨w3.heap.size, 0, none⟩) 1 1 rfl rfl (fun h => by cases h) (by simp) (new47 w3 47 _ rfl) hbb ?_; intro v8 w8 HA8 HK8)
        go_meet
        case rel => exact hid ⟨HA8.out, HK8.out.blk HS2.out.bp Hne.out⟩
    case rest =>
    have HS3 := hcut
    clear hcut HS1
    go_upto_region 11 with fail
    obtain ⟨X, W, hT, hI⟩ := class_mk (fun w' => Drew wc w')
    have H0 : Hid (∃ x, wc.drew = W x) := hid (hI _ ⟨1, rfl⟩)
    have hne : Nonempty X := ⟨H0.out.choose⟩
    have e0 : ∀ x, (W x).cell? ⟨p, 0, none⟩ = some (.int .u8 (s.a : Int)) := fun x => by rw [(HS3.out.bp.drew (hT x)).cell, ← HC.out]; rfl
    have e1 : ∀ x, (W x).cell? ⟨p, 1, none⟩ = some (.int .u8 (s.b : Int)) := fun x => by rw [(HS3.out.bp.drew (hT x)).cell, ← HC.out]; rfl
    have hs2 : ∀ w', (Instr.sliceAt 58 (.pointer (some ⟨g, o, none⟩)) (some (.int .u8 (s.a : Int))) (some (.int .u8 (s.b : Int))) none).run Try.prog w' = .ok (.slice (some ⟨g, o + s.a, none⟩) (s.b - s.a) (255 - s.a)) w' := fun w' => by
      have := slice_raw ⟨g, o, none⟩ s.a s.b (by omega) (by omega) (by omega) w'
      rw [show (⟨g, o, none⟩ : Addr).add s.a = ⟨g, o + s.a, none⟩ by unfold Addr.add; split <;> simp_all] at this
      exact this
    have HTT := hid hT
    clear hT hI
    refine wp_region_class_tailT W 9 (by kernel_rfl) (by kernel_rfl) (by kernel_rfl) H0.out ?_
    dsimp only [List.take, List.drop]
    repeat (go_big_quiet_step (fail))
    refine wpQuiet_nil ?_
    intro z
    have HZ := hid (HTT.out z)
    generalize W z = wz at HZ ⊢
    clear e0 e1 hs2 H0 HTT
    have HAz := hid (HS3.out.ab.below (Drew.below HZ.out _))
    have HBz := hid (HB.out.below HAz.out.bel)
    have HNew := hid (raw_news HP.out HBz.out s.a s.b)
    have hbb : (1 + k * 40 + 1) + (s.b - s.a) ≤ 140737488355328 := by omega
    have Hmb : Hid (∀ x ∈ sub l s.a s.b, x < 256) := hid (sp_nm' HP.out HMem.out)
    go_wp2_with (at_builtin; refine wpList_app_ab rfl (.tmp 45) (.tmp 53) rfl w5 _ _ (1 + k * 40 + 1) (sub l s.a s.b) rfl HAz.out (some ⟨g, o + s.a, none⟩) (s.b - s.a) (255 - s.a) rfl hsub (fun h => by cases h) Hmb.out HNew.out hbb ?_; intro v8 w8 HA8 HK8)
    exact ⟨⟨k + 1, by omega, by go_num, hid (HA8.out.mono (by omega))⟩, by simp [intOf]; omega⟩
end Go.Proofs.Qxb6500891a
