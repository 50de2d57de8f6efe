/- HolesAreTheFreeLines: the walk. -/
import Derived.Test.Qxb6500887aGreatAzHc
import Derived.Deep.DeepCutAuto
namespace Go.Proofs.Qxb6500887aGreat
open Go.RowKit
set_option linter.unusedSimpArgs false
set_option linter.unusedVariables false
set_option maxRecDepth 1000000 in
set_option maxHeartbeats 8000000 in
theorem holesLaw_walk (a : Option Addr) (n c : Nat) (l : List AOp) (w : World) (hs : Script w a n c l) :
    Calls Tryz.prog 9 #[.slice a n c] w fun e w' => e = .returned (.bool true) ∧ Below w.heap.size w w' := by
  have hn := hs.1.2.2.1.1
  have HS := hid hs
  clear hs
  by_cases hsm : n ≤ 65536
  rotate_left
  · have hd : decide (n ≤ 65536) = false := decide_eq_false hsm
    go_enter Tryz.func9, Tryz.ntmps9
    go_wp2_with (go_at_call 10; refine (small_walk a n c hn _).mono ?_; rintro e w' ⟨rfl, rfl⟩)
    go_ret
    exact ⟨rfl, Below.refl _ _⟩
  have hd : decide (n ≤ 65536) = true := decide_eq_true hsm
  have I0 := hid info_ln
  go_enter Tryz.func9, Tryz.ntmps9
  go_wp2_with (go_at_call 10; refine (small_walk a n c hn _).mono ?_; rintro e w' ⟨rfl, rfl⟩)
  refine (LS.start _).mono ?_
  rintro e w1 ⟨L, rfl, H0⟩
  go_wp2_with fail
  go_loopw [48] (fun u wr => ∃ (k : Nat), u = .int .i64 (k : Int) ∧ k ≤ n ∧ Hid (∃ S, LS w' L S wr)) (fun u _ => n - (intOf u).toNat)
  case atStart => exact ⟨0, rfl, Nat.zero_le _, hid ⟨S0, H0.out⟩⟩
  case round =>
  clear H0
  obtain ⟨k, rfl, hk, HK⟩ := hrel
  obtain ⟨S, hsv⟩ := HK.out
  have HV := hid hsv
  clear hsv HK
  by_cases hlt : k < n
  · as_aux_lemma =>
    obtain ⟨o, ho, hok, b, off, rfl, hb, c0, c1, c2, c3⟩ := (HS.out.below HV.out.bel).at hlt
    obtain ⟨kind, oa, ob, oc⟩ := o
    obtain ⟨k0, k1, ha, hb', hc'⟩ := hok
    dsimp only at c0 c1 c2 c3 ha hb' hc' k0 k1
    have HA := hid ha
    have HBo := hid hb'
    have HCo := hid hc'
    have HK0 := hid k0
    clear ho ha hb' hc' k0 k1
    obtain ⟨p, hp⟩ : ∃ p, wr.heap.size = p := ⟨_, rfl⟩
    have H1 : Hid (LS w' L S (wr.alloc (.cells #[.int .u8 kind, .int .u64 oa, .int .u64 ob, .int .u64 oc] 31)) ∧ Blk (wr.alloc (.cells #[.int .u8 kind, .int .u64 oa, .int .u64 ob, .int .u64 oc] 31)) p 31 [.int .u8 kind, .int .u64 oa, .int .u64 ob, .int .u64 oc]) := hid (by
      have kk := Blk.new wr [.int .u8 kind, .int .u64 oa, .int .u64 ob, .int .u64 oc] 31
      rw [hp] at kk
      exact ⟨HV.out.below (nbel _ _), kk⟩)
    go_upto_region 7 with fail
    (try simp only [hp])
    generalize hwa : World.alloc wr _ = wa at H1 ⊢
    clear hwa c0 c1 c2 c3 hp HV hb
    have c0 : wa.cell? ⟨p, 0, none⟩ = some (.int .u8 kind) := H1.out.2.cell 0
    have c1 : wa.cell? ⟨p, 1, none⟩ = some (.int .u64 oa) := H1.out.2.cell 1
    have c2 : wa.cell? ⟨p, 2, none⟩ = some (.int .u64 ob) := H1.out.2.cell 2
    have c3 : wa.cell? ⟨p, 3, none⟩ = some (.int .u64 oc) := H1.out.2.cell 3
    have HC := hid (H1.out.1.play kind oa ob oc HK0.out HA.out HBo.out HCo.out)
    go_wp2_with fail
    refine HC.out.mono ?_
    rintro e w2 ⟨rs, S1, rfl, HR⟩
    have HF : Hid (∃ S, LS w' L S w2) := hid ⟨S1, H1.out.1.step HR.out.2.1⟩
    clear HC HR H1 c0 c1 c2 c3
    go_wp2
    exact ⟨⟨k + 1, by go_num, by omega, HF⟩, by simp [intOf]; omega⟩
  have hkn : k = n := by omega
  subst hkn
  clear hlt hk
  obtain ⟨P, hP⟩ : ∃ P, zrP 4 16 S.T = P := ⟨_, rfl⟩
  have HP := hid hP
  clear hP
  obtain ⟨g, hg⟩ : ∃ g, wr.heap.size = g := ⟨_, rfl⟩
  have HW0 : Hid (HW w' L S g (fun _ => false) (wr.alloc (.cells (whC (fun _ => false)).toArray 88))) := hid (by
    have kk := Blk.new wr (whC (fun _ => false)) 88
    rw [hg] at kk
    exact ⟨HV.out.below (nbel _ _), kk, by rw [← hg]; exact HV.out.bel.size⟩)
  rw [show (whC (fun _ => false)).toArray = #[.bool false, .bool false, .bool false, .bool false, .bool false, .bool false, .bool false, .bool false, .bool false, .bool false, .bool false, .bool false, .bool false, .bool false, .bool false, .bool false, .bool false, .bool false, .bool false, .bool false, .bool false, .bool false, .bool false, .bool false, .bool false, .bool false, .bool false, .bool false, .bool false, .bool false, .bool false, .bool false, .bool false, .bool false, .bool false, .bool false, .bool false, .bool false, .bool false, .bool false, .bool false, .bool false, .bool false, .bool false, .bool false, .bool false, .bool false, .bool false, .bool false, .bool false, .bool false, .bool false, .bool false, .bool false, .bool false, .bool false, .bool false, .bool false, .bool false, .bool false, .bool false, .bool false, .bool false, .bool false] from rfl] at HW0
  go_upto_region 10 with fail
  (try simp only [hg])
  generalize hwa : World.alloc wr _ = wa at HW0 ⊢
  clear hwa hg HV
  clear wr
  go_wp2_with fail
  go_loopw [7] (fun v wr => ∃ (b : Nat), v = .int .i64 (b : Int) ∧ b ≤ 64 ∧ Hid (∃ u, HW w' L S g u wr ∧ ∀ r, r < b → (u r = true ↔ AllF P r 1))) (fun v _ => 64 - (intOf v).toNat)
  case atStart => exact ⟨0, rfl, Nat.zero_le _, hid ⟨_, HW0.out, fun r hr => by omega⟩⟩
  case round =>
  clear HW0
  obtain ⟨b, rfl, hb, HB⟩ := hrel
  obtain ⟨u, hu1, hu2⟩ := HB.out
  have H2 := hid hu1
  have HU := hid hu2
  clear HB hu1 hu2
  by_cases hb64 : b < 64
  rotate_left
  · have db : decide ((b : Int) < 64) = false := decide_eq_false (by omega)
    have dbn : decide (b < 64) = false := decide_eq_false hb64
    have HU6 : Hid (∀ r, r < 64 → (u r = true ↔ AllF P r 1)) := hid (fun r hr => HU.out r (by omega))
    clear HU
    go_wp2_with fail
    go_loopw [177] (fun v wr => ∃ (j : Nat), v = .int .i64 (j : Int) ∧ j ≤ k ∧ Hid (HW w' L S g u wr)) (fun v _ => k - (intOf v).toNat)
    case atStart => exact ⟨0, rfl, Nat.zero_le _, H2⟩
    case round =>
    clear H2
    obtain ⟨j, rfl, hj, H3⟩ := hrel
    obtain ⟨w3, hw3⟩ : ∃ x, x = wr := ⟨_, rfl⟩
    subst hw3
    by_cases hjk : j < k
    rotate_left
    · as_aux_lemma =>
      have hjj : j = k := by omega
      subst hjj
      have HF := hid H3.out.ls.bel
      clear H3 HU6
      go_wp2
      go_ret
      exact ⟨rfl, HF.out⟩
    obtain ⟨o, ho, hok, b9, off, rfl, hb9, c0, c1, c2, c3⟩ := (HS.out.below H3.out.ls.bel).at hjk
    obtain ⟨kind, oa, ob, oc⟩ := o
    obtain ⟨k0, k1, ha, hb', hc'⟩ := hok
    dsimp only at c0 c1 c2 c3 ha hb' hc' k0 k1
    have HA := hid ha
    have HBo := hid hb'
    clear ho ha hb' hc' k0 k1
    obtain ⟨p, hp⟩ : ∃ p, w3.heap.size = p := ⟨_, rfl⟩
    have H4 : Hid (HW w' L S g u (w3.alloc (.cells #[.int .u8 kind, .int .u64 oa, .int .u64 ob, .int .u64 oc] 31)) ∧ Blk (w3.alloc (.cells #[.int .u8 kind, .int .u64 oa, .int .u64 ob, .int .u64 oc] 31)) p 31 [.int .u8 kind, .int .u64 oa, .int .u64 ob, .int .u64 oc]) := hid (by
      have kk := Blk.new w3 [.int .u8 kind, .int .u64 oa, .int .u64 ob, .int .u64 oc] 31
      rw [hp] at kk
      exact ⟨H3.out.below (nbel _ _), kk⟩)
    go_upto_region 50 with fail
    (try simp only [hp])
    generalize hwa : World.alloc w3 _ = w4 at H4 ⊢
    clear hwa c0 c1 c2 c3 hp H3 hb9
    obtain ⟨X, W, HTT, HH0, hne, HCl⟩ := class_below w4
    have HWy := hid (fun y => H4.out.1.below (HTT.out y))
    have c1 : ∀ y, (W y).cell? ⟨p, 1, none⟩ = some (.int .u64 oa) := fun y => (H4.out.2.below (HTT.out y)).cell 1
    have c2 : ∀ y, (W y).cell? ⟨p, 2, none⟩ = some (.int .u64 ob) := fun y => (H4.out.2.below (HTT.out y)).cell 2
    refine wp_region_class W (by kernel_rfl) (by kernel_rfl) HH0.out ?_
    repeat (go_big_quiet_step (fail))
    refine wpQuiet_nil ?_
    intro y
    have H5 := hid (HWy.out y)
    generalize W y = w5 at H5 ⊢
    clear c1 c2 HWy HTT HH0 hne HCl H4
    obtain ⟨fr, hfr, hfr64⟩ : ∃ x : Nat, wrap64 (oa.tmod 64) = (x : Int) ∧ x < 64 := by
      have h0 := HA.out.1
      refine ⟨oa.toNat % 64, ?_, Nat.mod_lt _ (by omega)⟩
      have e : oa.tmod 64 = ((oa.toNat % 64 : Nat) : Int) := by
        conv => lhs; rw [show oa = (oa.toNat : Int) by omega]
        rfl
      rw [e]
      exact IntWalk.wrap64_in _ ⟨by omega, by omega⟩
    obtain ⟨nb, hnb, hnb64⟩ : ∃ x : Nat, wrap64 (ob.tmod 64) = (x : Int) ∧ x < 64 := by
      have h0 := HBo.out.1
      refine ⟨ob.toNat % 64, ?_, Nat.mod_lt _ (by omega)⟩
      have e : ob.tmod 64 = ((ob.toNat % 64 : Nat) : Int) := by
        conv => lhs; rw [show ob = (ob.toNat : Int) by omega]
        rfl
      rw [e]
      exact IntWalk.wrap64_in _ ⟨by omega, by omega⟩
    obtain ⟨nd, hnd⟩ : ∃ x : Nat, 1 + nb = x := ⟨_, rfl⟩
    have hnd1 : 1 ≤ nd := by omega
    have hnd2 : nd ≤ 64 := by omega
    have hnd3 : wrap64 (1 + (nb : Int)) = (nd : Int) := by
      rw [show (1 : Int) + (nb : Int) = (nd : Int) by omega]
      exact IntWalk.wrap64_in _ ⟨by omega, by omega⟩
    simp only [hfr, hnb, hnd3]
    clear hfr hnb hnd3 HA HBo hnd hnb64
    have HC := hid (freeRunB H5.out.ls.am hfr64 hnd1 hnd2)
    go_wp2_with fail
    refine HC.out.mono ?_
    rintro e w6 ⟨r, fd, rfl, HR⟩
    have H6 := hid (H5.out.below HR.out.2)
    have HFb : Hid (FbP P fr nd r fd) := hid (by rw [← HP.out]; exact HR.out.1)
    clear HC HR H5
    go_wp2_with fail
    go_loopw [37, 38, 39] (fun v1 v2 v3 wr => ∃ (want : Nat) (wf : Bool) (bb : Nat), v1 = .int .i64 (want : Int) ∧ v2 = .bool wf ∧ v3 = .int .i64 (bb : Int) ∧ fr ≤ bb ∧ bb ≤ 65 ∧ Hid (Fw P fr nd bb want wf) ∧ wr = w6) (fun _ _ v _ => 66 - (intOf v).toNat)
    case atStart => exact ⟨0, false, fr, rfl, rfl, rfl, Nat.le_refl _, by omega, hid (Fw.start P fr nd), rfl⟩
    case round =>
    obtain ⟨want, wf, bb, rfl, rfl, rfl, hb1, hb2, HFw, hw_⟩ := hrel
    have hs_ := hw_.symm
    clear hw_
    subst hs_
    obtain ⟨e7, he7⟩ : ∃ x, bb + nd = x := ⟨_, rfl⟩
    have he7' : (bb : Int) + (nd : Int) = (e7 : Int) := by omega
    have he129 : e7 ≤ 129 := by omega
    by_cases hle : e7 ≤ 64 ∧ wf = false
    rotate_left
    · have HFin : Hid (r = (want : Int) ∧ fd = wf) := hid (HFw.out.fin (by
        cases wf with
        | true => exact .inl rfl
        | false => exact .inr (by rw [he7]; have : ¬ e7 ≤ 64 := fun h => hle ⟨h, rfl⟩; omega)) HFb.out)
      obtain ⟨hr1, hr2⟩ := HFin.out
      subst hr1 hr2
      have HF := hid H6.out
      clear HFin HFb HFw H6 HU6
      have nn : (fd != fd) = false := by cases fd <;> rfl
      by_cases h64 : e7 ≤ 64
      · have hwf : fd = true := by
          cases fd with
          | true => rfl
          | false => exact absurd ⟨h64, rfl⟩ hle
        subst hwf
        have de : decide ((e7 : Int) ≤ 64) = true := decide_eq_true (by omega)
        have den : decide (e7 ≤ 64) = true := decide_eq_true h64
        clear hle nn
        go_wp2
        exact ⟨⟨j + 1, by go_num, by omega, HF⟩, by simp [intOf]; omega⟩
      · have de : decide ((e7 : Int) ≤ 64) = false := decide_eq_false (by omega)
        have den : decide (e7 ≤ 64) = false := decide_eq_false h64
        clear hle
        go_wp2
        exact ⟨⟨j + 1, by go_num, by omega, HF⟩, by simp [intOf]; omega⟩
    obtain ⟨h64, rfl⟩ := hle
    have de : decide ((e7 : Int) ≤ 64) = true := decide_eq_true (by omega)
    have den : decide (e7 ≤ 64) = true := decide_eq_true h64
    go_wp2_with fail
    go_loopw [40, 41] (fun v1 v2 wr => ∃ (al : Bool) (kk : Nat), v1 = .bool al ∧ v2 = .int .i64 (kk : Int) ∧ bb ≤ kk ∧ kk ≤ e7 ∧ Hid (al = true ↔ AllF P bb (kk - bb)) ∧ wr = w6) (fun _ v _ => e7 - (intOf v).toNat)
    case atStart => exact ⟨true, bb, rfl, rfl, Nat.le_refl _, by omega, hid ⟨fun _ i h1 h2 => by omega, fun _ => rfl⟩, rfl⟩
    case round =>
    obtain ⟨al, kk, rfl, rfl, hk1, hk2, HAl, hw_⟩ := hrel
    have hs_ := hw_.symm
    clear hw_
    subst hs_
    by_cases hke : kk < e7
    · as_aux_lemma =>
      have dk : decide ((kk : Int) < (e7 : Int)) = true := decide_eq_true (by omega)
      have dkn : decide (kk < e7) = true := decide_eq_true hke
      have hcl := H6.out.cell (show kk < 64 by omega)
      have ik : (kk : Int) < 64 := by omega
      have HF : Hid ((al && u kk) = true ↔ AllF P bb (kk + 1 - bb)) := hid (by
        rw [show kk + 1 - bb = (kk - bb) + 1 by omega, AllF.split, ← HAl.out, show bb + (kk - bb) = kk by omega, ← HU6.out kk (by omega), Bool.and_eq_true])
      generalize u kk = uk at hcl HF
      clear HAl
      cases al with
      | true =>
        rw [Bool.true_and] at HF
        go_wp2
        exact ⟨⟨uk, kk + 1, rfl, by go_num, by omega, by omega, HF, trivial⟩, by simp [intOf]; omega⟩
      | false =>
        rw [Bool.false_and] at HF
        go_wp2
        exact ⟨⟨false, kk + 1, rfl, by go_num, by omega, by omega, HF, trivial⟩, by simp [intOf]; omega⟩
    have hkx : kk = e7 := by omega
    subst hkx
    have dk : decide ((kk : Int) < (kk : Int)) = false := decide_eq_false (by omega)
    have HAl2 : Hid (al = true ↔ AllF P bb nd) := hid (by have := HAl.out; rwa [show kk - bb = nd by omega] at this)
    clear HAl
    cases al with
    | true =>
      as_aux_lemma =>
      have HF : Hid (Fw P fr nd (bb + 1) bb true) := hid (HFw.out.yes hb1 (by omega) (HAl2.out.1 rfl))
      clear HAl2 HFw HU6 HFb
      go_wp2
      exact ⟨⟨bb, true, bb + 1, rfl, rfl, by go_num, by omega, by omega, HF, trivial⟩, by simp [intOf]; omega⟩
    | false =>
      as_aux_lemma =>
      have HF : Hid (Fw P fr nd (bb + 1) want false) := hid (HFw.out.no (fun h => by have := HAl2.out.2 h; cases this))
      clear HAl2 HFw HU6 HFb
      go_wp2
      exact ⟨⟨want, false, bb + 1, rfl, rfl, by go_num, by omega, by omega, HF, trivial⟩, by simp [intOf]; omega⟩
  obtain ⟨w2, hw2⟩ : ∃ x, x = wr := ⟨_, rfl⟩
  subst hw2
  have db : decide ((b : Int) < 64) = true := decide_eq_true (by omega)
  have dbn : decide (b < 64) = true := decide_eq_true hb64
  have HC := hid (holesOfZ H2.out.ls.am hb64)
  go_wp2_with fail
  refine HC.out.mono ?_
  rintro e w3 ⟨f, rfl, HH⟩
  have H3 := hid (H2.out.below HH.out.2)
  have HL : Hid (HlI P (32 * b) f 32) := hid (by rw [← HP.out]; exact HH.out.1)
  clear HC HH H2
  have HQ : Hid (HV w' L S g u w3.heap.size (fun _ => 0) (w3.alloc (.cells (lnC (fun _ => 0)).toArray 89))) := hid (by
    have kk := Blk.new w3 (lnC (fun _ => 0)) 89
    exact ⟨H3.out.below (nbel _ _), kk, by have := H3.out.bk.lt; omega⟩)
  have hlq : Hid (w'.heap.size ≤ w3.heap.size) := hid H3.out.ls.bel.size
  rw [show (lnC (fun _ => 0)).toArray = #[.int .i64 0, .int .i64 0, .int .i64 0, .int .i64 0, .int .i64 0, .int .i64 0, .int .i64 0, .int .i64 0, .int .i64 0, .int .i64 0, .int .i64 0, .int .i64 0, .int .i64 0, .int .i64 0, .int .i64 0, .int .i64 0, .int .i64 0, .int .i64 0, .int .i64 0, .int .i64 0, .int .i64 0, .int .i64 0, .int .i64 0, .int .i64 0, .int .i64 0, .int .i64 0, .int .i64 0, .int .i64 0, .int .i64 0, .int .i64 0, .int .i64 0, .int .i64 0] from rfl] at HQ
  go_upto_region 14 with (refine wpList_store_blk rfl 89 _ _ rfl w3.heap.size rfl (lnC f) rfl HQ.out.bk (by rw [lnC_len, lnC_len]) (by rw [lnC_len]; exact I0.out) (lnC_one f) ?_; intro w9 HB9 HU9)
  have H4 : Hid (HV w' L S g u w3.heap.size f w9) := hid (by
    have hb9 : Below w3.heap.size (w3.alloc (.cells #[.int .i64 0, .int .i64 0, .int .i64 0, .int .i64 0, .int .i64 0, .int .i64 0, .int .i64 0, .int .i64 0, .int .i64 0, .int .i64 0, .int .i64 0, .int .i64 0, .int .i64 0, .int .i64 0, .int .i64 0, .int .i64 0, .int .i64 0, .int .i64 0, .int .i64 0, .int .i64 0, .int .i64 0, .int .i64 0, .int .i64 0, .int .i64 0, .int .i64 0, .int .i64 0, .int .i64 0, .int .i64 0, .int .i64 0, .int .i64 0, .int .i64 0, .int .i64 0] 89)) w9 := HU9.out.below (Nat.le_refl _) (by rw [World.size_alloc]; omega)
    refine ⟨⟨⟨HQ.out.hw.ls.am.upd HU9.out (fun k hk e => ?_), HQ.out.hw.ls.bel.trans (HU9.out.below hlq.out HQ.out.hw.ls.bel.size), HQ.out.hw.ls.ab⟩, HQ.out.hw.bk.upd HU9.out HQ.out.ne, HQ.out.hw.lo⟩, HB9.out, HQ.out.ne⟩
    subst e
    exact HQ.out.hw.ls.am.neT HQ.out.bk (by decide) (by decide) (by decide) hk)
  generalize w3.heap.size = q at H4 ⊢
  clear HQ hlq HB9 HU9 H3
  go_upto_region 17 with fail
  have Hix : Hid (∀ (i : Nat), i < 32 → ∀ w, (Instr.index 89 (.agg (lnC f).toArray) (.int .i64 (i : Int))).run Tryz.prog w = .ok (.int .i64 ((f i : Nat) : Int)) w) := hid (fun i hi w => idx_ln f i hi w)
  go_wp2_with (refine wpList_load_blk rfl 89 _ rfl q rfl (lnC f) H4.out.bk _ Tryz.underlying89 rfl (by rw [lnC_len]; exact I0.out) ?_)
  generalize (lnC f).toArray = ar at Hix ⊢
  have Hsm := hid (HL.out.small)
  go_loopw [10, 11, 12, 69] (fun vt vb vr v wr => ∃ (k t best row : Nat), vt = .int .i64 (t : Int) ∧ vb = .int .i64 (best : Int) ∧ vr = .int .i64 (row : Int) ∧ v = .int .i64 (k : Int) ∧ k ≤ 32 ∧ t ≤ 1024 ∧ best ≤ 32 ∧ row ≤ 32 ∧ Hid (t = sumF f k ∧ t ≤ 32 * k ∧ BsA f k best row) ∧ wr = w9) (fun _ _ _ v _ => 32 - (intOf v).toNat)
  case atStart => exact ⟨0, 0, 0, 32, rfl, rfl, rfl, rfl, by omega, by omega, by omega, by omega, hid ⟨rfl, by omega, BsA.start f⟩, rfl⟩
  case round =>
  obtain ⟨k3, t, best, row, rfl, rfl, rfl, rfl, hk3, ht, hbest, hrow, HI, hw_⟩ := hrel
  have hs_ := hw_.symm
  clear hw_
  subst hs_
  by_cases hk32 : k3 < 32
  · as_aux_lemma =>
    have dk : decide ((k3 : Int) < 32) = true := decide_eq_true (by omega)
    have dkn : decide (k3 < 32) = true := decide_eq_true hk32
    have hix := Hix.out k3 hk32
    obtain ⟨nk, hnk⟩ : ∃ x, f k3 = x := ⟨_, rfl⟩
    have hn32 : nk ≤ 32 := by rw [← hnk]; exact Hsm.out k3
    rw [hnk] at hix
    have Hnk := hid hnk
    clear hnk
    have ht2 : t + nk ≤ 1024 := by have := HI.out.2.1; omega
    by_cases hgt : best < nk
    · have dg : decide ((nk : Int) > (best : Int)) = true := decide_eq_true (by omega)
      have dg' : decide ((best : Int) < (nk : Int)) = true := decide_eq_true (by omega)
      have dgn : decide (best < nk) = true := decide_eq_true hgt
      have HF : Hid (t + nk = sumF f (k3 + 1) ∧ t + nk ≤ 32 * (k3 + 1) ∧ BsA f (k3 + 1) nk k3) := hid ⟨by rw [← Hnk.out, HI.out.1]; rfl, by have := HI.out.2.1; omega, by rw [← Hnk.out]; exact HI.out.2.2.up (by rw [Hnk.out]; exact hgt)⟩
      clear HI Hnk
      go_wp2
      exact ⟨⟨k3 + 1, t + nk, nk, k3, by go_num, rfl, rfl, by go_num, by omega, by omega, by omega, by omega, HF, trivial⟩, by simp [intOf]; omega⟩
    · have dg : decide ((nk : Int) > (best : Int)) = false := decide_eq_false (by omega)
      have dg' : decide ((best : Int) < (nk : Int)) = false := decide_eq_false (by omega)
      have dgn : decide (best < nk) = false := decide_eq_false hgt
      have HF : Hid (t + nk = sumF f (k3 + 1) ∧ t + nk ≤ 32 * (k3 + 1) ∧ BsA f (k3 + 1) best row) := hid ⟨by rw [← Hnk.out, HI.out.1]; rfl, by have := HI.out.2.1; omega, HI.out.2.2.keep (by rw [Hnk.out]; exact hgt)⟩
      clear HI Hnk
      go_wp2
      exact ⟨⟨k3 + 1, t + nk, best, row, by go_num, rfl, rfl, by go_num, by omega, by omega, by omega, by omega, HF, trivial⟩, by simp [intOf]; omega⟩
  have hke : k3 = 32 := by omega
  subst hke
  have HT : Hid (t = frN (zrP 4 16 S.T) (32 * b) 32) := hid (by rw [HP.out, HI.out.1]; exact HL.out.sum)
  have HBs := hid HI.out.2.2
  clear HI hk3 hk32
  obtain ⟨wb, hwb⟩ : ∃ x, ((t : Int) == 32) = x := ⟨_, rfl⟩
  have Hwb : Hid (wb = true ↔ AllF P b 1) := hid (by
    rw [← hwb, ← allF_one, ← HP.out, ← HT.out]
    constructor
    · intro e; have : (t : Int) = 32 := by simpa using e
      omega
    · intro e; rw [e]; rfl)
  have ib : (b : Int) < 64 := by omega
  have H5 : Hid (HV w' L S g (fup u b wb) q f (w9.setCell ⟨g, b, none⟩ (.bool wb))) := hid (H4.out.put hb64)
  have HU5 : Hid (∀ r, r < b + 1 → (fup u b wb r = true ↔ AllF P r 1)) := hid (fun r hr => by
    by_cases c : r = b
    · subst c; rw [fup_self]; exact Hwb.out
    · rw [fup_ne _ _ c]; exact HU.out r (by omega))
  have hcl := H4.out.hw.cell hb64
  have hfz := H4.out.hw.bk.frozen b
  go_upto_region 25 with fail
  generalize w9.setCell ⟨g, b, none⟩ (.bool wb) = w10 at H5 ⊢
  clear hcl hfz H4 HU Hwb
  have HC := hid (freeLinesB H5.out.hw.ls.am hb64 HT.out)
  go_wp2_with fail
  refine HC.out.mono ?_
  rintro e w11 ⟨rfl, hb11⟩
  have H6 := hid (H5.out.below hb11)
  clear hb11 HC H5
  have HC := hid (blockClassB H6.out.hw.ls.am hb64 HT.out)
  obtain ⟨cl, hcl⟩ : ∃ x, clV (t : Int) = x := ⟨_, rfl⟩
  obtain ⟨ec1, ec2⟩ := clV_eq t
  rw [hcl] at HC ec1 ec2
  rw [hwb] at ec1
  obtain ⟨wz, hwz⟩ : ∃ x, ((t : Int) == 0) = x := ⟨_, rfl⟩
  rw [hwz] at ec2
  clear hcl
  go_wp2_with fail
  refine HC.out.mono ?_
  rintro e w12 ⟨rfl, hb12⟩
  have H7 := hid (H6.out.below hb12)
  clear hb12 HC H6
  have HC := hid (largestB H7.out.hw.ls.am hb64 (by rw [HP.out]; exact HL.out) HBs.out)
  have nb1 : (wb != wb) = false := by cases wb <;> rfl
  have nb2 : (wz != wz) = false := by cases wz <;> rfl
  go_wp2_with fail
  refine HC.out.mono ?_
  rintro e w13 ⟨rfl, hb13⟩
  have H8 := hid (H7.out.below hb13)
  clear hb13 HC H7 nb1 nb2 ec1 ec2 hwz HBs
  go_wp2_with fail
  go_loopw [22] (fun v wr => ∃ (need : Nat), v = .int .i64 (need : Int) ∧ 1 ≤ need ∧ need ≤ 33 ∧ Hid (HV w' L S g (fup u b wb) q f wr)) (fun v _ => 33 - (intOf v).toNat)
  case atStart => exact ⟨1, rfl, by omega, by omega, H8⟩
  case round =>
  clear H8
  obtain ⟨need, rfl, hn1, hn33, H9⟩ := hrel
  obtain ⟨w14, hw14⟩ : ∃ x, x = wr := ⟨_, rfl⟩
  subst hw14
  by_cases hn32 : need ≤ 32
  rotate_left
  · have dn : decide ((need : Int) ≤ 32) = false := decide_eq_false (by omega)
    have dnn : decide (need ≤ 32) = false := decide_eq_false hn32
    have HF : Hid (∃ u, HW w' L S g u w14 ∧ ∀ r, r < b + 1 → (u r = true ↔ AllF P r 1)) := hid ⟨_, H9.out.hw, HU5.out⟩
    clear H9 HU5 HL Hsm Hix HT
    go_wp2
    exact ⟨⟨b + 1, by go_num, by omega, HF⟩, by simp [intOf]; omega⟩
  have dn : decide ((need : Int) ≤ 32) = true := decide_eq_true (by omega)
  have dnn : decide (need ≤ 32) = true := decide_eq_true hn32
  have Hix2 : Hid (∀ (i : Nat), i < 32 → ∀ w, (Instr.index 89 (.agg (lnC f).toArray) (.int .i64 (i : Int))).run Tryz.prog w = .ok (.int .i64 ((f i : Nat) : Int)) w) := hid (fun i hi w => idx_ln f i hi w)
  go_wp2_with (refine wpList_load_blk rfl 89 _ rfl q rfl (lnC f) H9.out.bk _ Tryz.underlying89 rfl (by rw [lnC_len]; exact I0.out) ?_)
  generalize (lnC f).toArray = ar2 at Hix2 ⊢
  go_loopw [23, 24, 145] (fun v1 v2 v wr => ∃ (k : Nat), v1 = .int .i64 32 ∧ v2 = .int .i64 0 ∧ v = .int .i64 (k : Int) ∧ k ≤ 32 ∧ Hid (∀ q, q < k → f q < need) ∧ wr = w14) (fun _ _ v _ => 32 - (intOf v).toNat)
  case atStart => exact ⟨0, rfl, rfl, rfl, by omega, hid (fun q hq => by omega), rfl⟩
  case round =>
  obtain ⟨k5, rfl, rfl, rfl, hk5, HI, hw_⟩ := hrel
  have hs_ := hw_.symm
  clear hw_
  subst hs_
  by_cases hk32 : k5 < 32
  · have dk : decide ((k5 : Int) < 32) = true := decide_eq_true (by omega)
    have dkn : decide (k5 < 32) = true := decide_eq_true hk32
    have hix := Hix2.out k5 hk32
    obtain ⟨nk, hnk⟩ : ∃ x, f k5 = x := ⟨_, rfl⟩
    have hnk32 : nk ≤ 32 := by rw [← hnk]; exact Hsm.out k5
    rw [hnk] at hix
    have Hnk := hid hnk
    clear hnk
    by_cases hge : need ≤ nk
    · have dg : decide ((nk : Int) ≥ (need : Int)) = true := decide_eq_true (by omega)
      have dg' : decide ((need : Int) ≤ (nk : Int)) = true := decide_eq_true (by omega)
      have dgn : decide (need ≤ nk) = true := decide_eq_true hge
      have HFt : Hid (FtP f need k5 nk) := hid (.inl ⟨hk32, Hnk.out.symm, by rw [Hnk.out]; exact hge, HI.out⟩)
      clear HI Hnk
      have HC := hid (fitB H9.out.hw.ls.am hb64 (by omega) (by omega) (by rw [HP.out]; exact HL.out) HFt.out)
      go_wp2_with fail
      refine HC.out.mono ?_
      rintro e w14 ⟨rfl, hb14⟩
      have H14 := hid (H9.out.below hb14)
      clear hb14 HC H9 HFt
      go_wp2
      exact ⟨⟨need + 1, by go_num, by omega, by omega, H14⟩, by simp [intOf]; omega⟩
    · as_aux_lemma =>
      have dg : decide ((nk : Int) ≥ (need : Int)) = false := decide_eq_false (by omega)
      have dg' : decide ((need : Int) ≤ (nk : Int)) = false := decide_eq_false (by omega)
      have dgn : decide (need ≤ nk) = false := decide_eq_false hge
      have HF : Hid (∀ q, q < k5 + 1 → f q < need) := hid (fun q hq => by
        by_cases c : q = k5
        · rw [c, Hnk.out]; omega
        · exact HI.out q (by omega))
      clear HI Hnk
      go_wp2
      exact ⟨⟨k5 + 1, rfl, rfl, by go_num, by omega, HF, trivial⟩, by simp [intOf]; omega⟩
  · have dk : decide ((k5 : Int) < 32) = false := decide_eq_false (by omega)
    have dkn : decide (k5 < 32) = false := decide_eq_false hk32
    have hk52 : k5 = 32 := by omega
    have HFt : Hid (FtP f need 32 0) := hid (.inr ⟨rfl, rfl, fun q hq => HI.out q (by omega)⟩)
    subst hk52
    clear HI
    have HC := hid (fitB H9.out.hw.ls.am hb64 (by omega) (by omega) (by rw [HP.out]; exact HL.out) HFt.out)
    go_wp2_with fail
    refine HC.out.mono ?_
    rintro e w14 ⟨rfl, hb14⟩
    have H14 := hid (H9.out.below hb14)
    clear hb14 HC H9 HFt
    go_wp2
    exact ⟨⟨need + 1, by go_num, by omega, by omega, H14⟩, by simp [intOf]; omega⟩

end Go.Proofs.Qxb6500887aGreat
