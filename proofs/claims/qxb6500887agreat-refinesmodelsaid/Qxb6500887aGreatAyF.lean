/- The model's steps: inside a step; zero, isZero, fillLogged. -/
import Derived.Test.Qxb6500887aGreatAyE
import Derived.Deep.DeepCutAuto
namespace Go.Proofs.Qxb6500887aGreat
open Go.RowKit
set_option linter.unusedSimpArgs false
set_option linter.unusedVariables false
/-- Inside a function of the model that answers a Result. -/
structure MX (w0 : World) (l : ML) (E : ES) (p : Nat) (w : World) : Prop where
  md : MD w0 l E w
  b : Blk w p 46 (rsC 0 0 0)
  lo : w0.heap.size ≤ p
  al : ∀ g ∈ l.all, g < w0.heap.size
def ES.tch (E : ES) : ES := { E with v := (E.v + 1) % 18446744073709551616 }
section
variable {l : ML} {E : ES} {w w' w0 : World} {p : Nat}
theorem MX.start (h : MM l E w) (hp : w.heap.size = p) : MX w l E p (w.alloc (.cells (rsC 0 0 0).toArray 46)) := by
  have k := Blk.new w (rsC 0 0 0) 46
  rw [hp] at k
  exact ⟨(MD.start h).below (nbel w _), k, by omega, h.lts⟩
theorem MX.below (h : MX w0 l E p w) (hb : Below w.heap.size w w') : MX w0 l E p w' := ⟨h.md.below hb, h.b.below hb, h.lo, h.al⟩
theorem MX.step {E' : ES} (h : MX w0 l E p w) (hd : MD w l E' w') : MX w0 l E' p w' := ⟨⟨hd.mm, h.md.u.trans hd.u⟩, hd.u.blk h.b (fun hm => by have := h.al _ hm; have := h.lo; omega), h.lo, h.al⟩
theorem MX.done (h : MX w0 l E p w) (hu : Upd p w w') : MD w0 l E w' := by
  refine ⟨h.md.mm.of (fun g hg hlt => hu.block g hlt (by have := h.al g hg; have := h.lo; omega)), ⟨hu.os.trans h.md.u.os, hu.tape.trans h.md.u.tape, hu.output.trans h.md.u.output, Nat.le_trans h.md.u.size hu.size, fun k hk hn => ?_⟩⟩
  have := h.lo
  rw [hu.block k (Nat.lt_of_lt_of_le hk h.md.u.size) (by omega)]
  exact h.md.u.block k hk hn
theorem MX.ver (h : MX w0 l E p w) : MX w0 l E.tch p (w.setCell ⟨l.m, 5, none⟩ (.int .u64 (((E.v + 1) % 18446744073709551616 : Nat) : Int))) := h.step ((MD.start h.md.mm).ver (Nat.mod_lt _ (by decide)))
theorem ver_wrap (v : Nat) : IntKind.u64.wrap ((v : Int) + 1) = (((v + 1) % 18446744073709551616 : Nat) : Int) := by rw [IntKind.wrap_u64]; omega
def ES.zero (E : ES) (lo hi : Nat) : ES := { E with W := zrW E.W lo hi }
def zeroE (E : ES) (x n : Int) : Int × ES := if wrCd x n = 0 then (0, E.tch.zero (wIx x) (wIx x + n.toNat)) else (wrCd x n, E)
set_option maxRecDepth 100000 in
set_option maxHeartbeats 1000000 in
theorem zeroM (h : MM l E w) (x n : Int) (hn : -9223372036854775808 ≤ n ∧ n < 9223372036854775808) : Calls Tryz.prog 91 #[.pointer (some ⟨l.m, 0, none⟩), .int .u64 x, .int .i64 n] w fun e w' => e = .returned (.agg (rsC (zeroE E x n).1 0 0).toArray) ∧ Hid (MD w l (zeroE E x n).2 w') := by
  have I0 := hid info_rs
  have HW := hid (fun wz => ckwM x wz)
  have HR := hid (fun (c : Int) (wz : World) => refM c wz)
  have HA := hid (fun wz => ansM 0 0 wz)
  obtain ⟨p, hp⟩ : ∃ p, w.heap.size = p := ⟨_, rfl⟩
  have HX := hid (MX.start h hp)
  dsimp only [rsC, rsT] at HX
  clear h
  unfold zeroE
  by_cases hi : InH x
  rotate_left
  · as_aux_lemma =>
    have e1 : wrCd x n = 1 := by unfold wrCd; rw [if_neg hi]
    rw [e1, if_neg (by decide)]
    have e2 : wantW x = 1 := by unfold wantW; rw [if_neg hi]
    rw [e2] at HW
    clear hi e1 e2
    go_enter Tryz.func91, Tryz.ntmps91
    go_upto_region 1 with fail
    (try simp only [hp])
    generalize hw2 : w.alloc _ = w2 at HX ⊢
    clear hw2 hp
    (go_wp2_with fail; refine (HW.out _).mono ?_; rintro e_ w_ ⟨he_, hw_⟩; subst he_; have hs_ := hw_.symm; clear hw_; subst hs_)
    go_wp2_with fail
    refine (HR.out 1 w2).mono ?_
    rintro e w3 ⟨rfl, hb3⟩
    have HX3 := hid (HX.out.below hb3)
    clear hb3 HX
    go_wp2_with (refine wpList_store_blk rfl 46 _ _ rfl p rfl (rsC 1 0 0) rfl HX3.out.b rfl I0.out (rsC_one _ _ _) ?_; intro w9 HB9 HU9)
    refine bodyPost_ret (results_blk (cs := rsC 1 0 0) Tryz.results91 rfl agg_rs HB9.out) rfl ?_
    exact ⟨rfl, hid (HX3.out.done HU9.out)⟩
  as_aux_lemma =>
  have e2 : wantW x = 0 := by unfold wantW; rw [if_pos hi]
  rw [e2] at HW
  obtain ⟨k1, k2⟩ := wIx_of hi
  have HO := hid (fun wz => wofM' x hi.1 (by have := hi.2; omega) wz)
  rw [← k1] at HO
  have e1 : wrCd x n = lenG ((wIx x : Nat) : Int) n 32768 := by unfold wrCd lenG lenOut; rw [if_pos hi, k1]
  rw [e1]
  generalize wIx x = k at *
  clear hi e1 e2 k1
  have HL := hid (fun wz => ckrM (k : Int) n 32768 (by omega) (by omega) (by omega) wz)
  by_cases hc : lenG (k : Int) n 32768 = 0
  rotate_left
  · as_aux_lemma =>
    rw [if_neg hc]
    generalize lenG (k : Int) n 32768 = c at *
    have dc : (c != 0) = true := by simpa using hc
    have dc' : (c == 0) = false := by simpa using hc
    go_enter Tryz.func91, Tryz.ntmps91
    go_upto_region 1 with fail
    (try simp only [hp])
    generalize hw2 : w.alloc _ = w2 at HX ⊢
    clear hw2 hp
    (go_wp2_with fail; refine (HW.out _).mono ?_; rintro e_ w_ ⟨he_, hw_⟩; subst he_; have hs_ := hw_.symm; clear hw_; subst hs_)
    (go_wp2_with fail; refine (HO.out _).mono ?_; rintro e_ w_ ⟨he_, hw_⟩; subst he_; have hs_ := hw_.symm; clear hw_; subst hs_)
    (go_wp2_with fail; refine (HL.out _).mono ?_; rintro e_ w_ ⟨he_, hw_⟩; subst he_; have hs_ := hw_.symm; clear hw_; subst hs_)
    go_wp2_with fail
    refine (HR.out c w2).mono ?_
    rintro e w3 ⟨rfl, hb3⟩
    have HX3 := hid (HX.out.below hb3)
    clear hb3 HX
    go_wp2_with (refine wpList_store_blk rfl 46 _ _ rfl p rfl (rsC c 0 0) rfl HX3.out.b rfl I0.out (rsC_one _ _ _) ?_; intro w9 HB9 HU9)
    refine bodyPost_ret (results_blk (cs := rsC c 0 0) Tryz.results91 rfl agg_rs HB9.out) rfl ?_
    exact ⟨rfl, hid (HX3.out.done HU9.out)⟩
  as_aux_lemma =>
  rw [if_pos hc]
  rw [hc] at HL
  have hb : 1 ≤ n ∧ n ≤ 32768 - (k : Int) := by
    unfold lenG at hc
    split at hc
    · exact absurd hc (by decide)
    · split at hc
      · exact absurd hc (by decide)
      · omega
  clear hc
  obtain ⟨m, rfl⟩ : ∃ m : Nat, n = (m : Int) := ⟨n.toNat, by omega⟩
  have hm1 : 1 ≤ m := by omega
  have hm2 : k + m ≤ 32768 := by omega
  rw [show ((m : Int)).toNat = m by omega]
  clear hb hn
  go_enter Tryz.func91, Tryz.ntmps91
  go_upto_region 1 with fail
  (try simp only [hp])
  generalize hw2 : w.alloc _ = w2 at HX ⊢
  clear hw2 hp
  (go_wp2_with fail; refine (HW.out _).mono ?_; rintro e_ w_ ⟨he_, hw_⟩; subst he_; have hs_ := hw_.symm; clear hw_; subst hs_)
  (go_wp2_with fail; refine (HO.out _).mono ?_; rintro e_ w_ ⟨he_, hw_⟩; subst he_; have hs_ := hw_.symm; clear hw_; subst hs_)
  (go_wp2_with fail; refine (HL.out _).mono ?_; rintro e_ w_ ⟨he_, hw_⟩; subst he_; have hs_ := hw_.symm; clear hw_; subst hs_)
  obtain ⟨_, _, _, _, _, c5⟩ := HX.out.md.mm.cells
  have f5 := HX.out.md.mm.m.frozen 5
  have HX2 := hid HX.out.ver
  have vw := ver_wrap E.v
  generalize ((E.v + 1) % 18446744073709551616 : Nat) = v1 at vw HX2
  clear HX
  go_upto_region 8 with fail
  clear c5 f5
  generalize hw3 : World.setCell _ _ _ = w3 at HX2 ⊢
  clear hw3 vw
  go_upto_region 9 with fail
  go_loopw [9] (fun u wr => ∃ q : Nat, u = .int .i64 (q : Int) ∧ q ≤ m ∧ Hid (MX w l (E.tch.zero k (k + q)) p wr)) (fun u _ => m - (intOf u).toNat)
  case atStart => exact ⟨0, rfl, Nat.zero_le _, hid (by
    have : E.tch.zero k (k + 0) = E.tch := by
      unfold ES.zero
      rw [show zrW E.tch.W k (k + 0) = E.tch.W by funext i; unfold zrW; rw [if_neg (by omega)]]
    rw [this]; exact HX2.out)⟩
  case round =>
  clear HX2
  obtain ⟨q, rfl, hq, HK⟩ := hrel
  by_cases hql : q < m
  · as_aux_lemma =>
    have dq : decide ((q : Int) < (m : Int)) = true := decide_eq_true (by omega)
    obtain ⟨y, hy⟩ : ∃ y, k + q = y := ⟨_, rfl⟩
    have ey : (k : Int) + (q : Int) = (y : Int) := by omega
    have hy2 : y < 32768 := by omega
    have Hy := hid hy
    go_upto_region 11 with fail
    obtain ⟨X', W, HTT, H0, hne, HCl⟩ := class_below wr
    have y1 : ∀ z, (W z).cell? ⟨l.m, 0, none⟩ = some (.slice (some ⟨l.w, 0, none⟩) 32768 32768) := fun z => (HK.out.below (HTT.out z)).md.mm.cells.1
    refine wp_region_class_last W rfl (by kernel_rfl) (by kernel_rfl) (by kernel_rfl) H0.out ?_
    dsimp only [List.dropLast, List.getLast]
    repeat (go_big_quiet_step (with_reducible exact Calls.class_same (HO.out _)))
    refine wpQuiet_nil ?_
    intro z
    have HZ := hid (HK.out.below (HTT.out z))
    generalize W z = wz at HZ ⊢
    clear y1 H0 HTT HCl hne HK
    obtain ⟨cv, cz⟩ : ∃ cv, wz.cell? ⟨l.w, y, none⟩ = some cv := ⟨_, HZ.out.md.mm.word hy2⟩
    have fz := HZ.out.md.mm.ws.frozen y
    have HF : Hid (MX w l (E.tch.zero k (k + (q + 1))) p (wz.setCell ⟨l.w, y, none⟩ (.int .u64 0))) := hid (by
      have := HZ.out.step ((MD.start HZ.out.md.mm).putW (i := k + q) (x := 0) (by rw [Hy.out]; exact hy2) (by decide))
      rw [Hy.out] at this
      unfold ES.zero at this ⊢
      rw [show k + (q + 1) = k + q + 1 by omega, zrW_step, Hy.out]
      exact this)
    clear HZ
    go_wp2
    exact ⟨⟨q + 1, by go_num, by omega, HF⟩, by simp [intOf]; omega⟩
  · as_aux_lemma =>
    have dq : decide ((q : Int) < (m : Int)) = false := decide_eq_false (by omega)
    have e : q = m := by omega
    subst e
    go_wp2_with fail
    refine (HA.out _).mono ?_
    rintro e w5 ⟨rfl, hb5⟩
    have HX5 := hid (HK.out.below hb5)
    clear hb5 HK
    go_wp2_with (refine wpList_store_blk rfl 46 _ _ rfl p rfl (rsC 0 0 0) rfl HX5.out.b rfl I0.out (rsC_one _ _ _) ?_; intro w9 HB9 HU9)
    refine bodyPost_ret (results_blk (cs := rsC 0 0 0) Tryz.results91 rfl agg_rs HB9.out) rfl ?_
    exact ⟨rfl, hid (HX5.out.done HU9.out)⟩
end
end Go.Proofs.Qxb6500887aGreat
