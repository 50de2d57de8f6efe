/- measureSeries (written by tools/mk_sckc.py). -/
import Derived.Test.Qxb6500883aGreatDoorScKb
namespace Go.Proofs.Qxb6500883aGreatDoor
open Go.RowKit
set_option linter.unusedSimpArgs false
set_option linter.unusedVariables false
/-- A vector or a list. -/
structure MsSer (kind len : Nat) (y : TR) (m : MS) : Prop where
  fx : m.fixed = (kind == 3 && y.fixed)
  mx : m.mx = len * (slP y).2
  le : m.mx ≤ 4294967295
  mn : m.mn = if kind = 3 then len * (slP y).1 else 0
  ck : m.chunks = if y.kind = 1 ∨ y.kind = 2 then (m.mx + 31) / 32 else len
  dp : ∃ d, IsL2 m.chunks d ∧ m.depth = d + y.depth + (if kind = 4 then 1 else 0)
theorem slP_le {x : TR} (h : TRb x) : (slP x).1 ≤ (slP x).2 ∧ (slP x).2 ≤ 4294967299 := by
  have h1 := h.le
  have h2 := h.mx
  have h3 := h.size
  unfold slP
  split <;> (dsimp only; omega)
theorem isL2_ex (n : Nat) : ∀ k, n ≤ 2 ^ k → ∃ d, d ≤ k ∧ n ≤ 2 ^ d ∧ ∀ j, j < d → 2 ^ j < n
  | 0, h => ⟨0, Nat.le_refl _, h, fun j hj => absurd hj (Nat.not_lt_zero _)⟩
  | k + 1, h => by
    by_cases hk : n ≤ 2 ^ k
    · obtain ⟨d, h1, h2, h3⟩ := isL2_ex n k hk
      exact ⟨d, by omega, h2, h3⟩
    · refine ⟨k + 1, Nat.le_refl _, h, fun j hj => ?_⟩
      have h1 : 2 ^ j ≤ 2 ^ k := Nat.pow_le_pow_right (by decide) (by omega)
      omega
theorem ceilLog2D (n : Nat) (hn : n < 18446744073709551616) : ∃ d : Nat, d ≤ 64 ∧ IsL2 n d ∧ ∀ wz, Calls Tryz.prog 153 #[.int .u64 (n : Int)] wz fun e w' => e = .returned (.int .i64 (d : Int)) ∧ w' = wz := by
  obtain ⟨d, h1, h2, h3⟩ := isL2_ex n 64 (by omega)
  refine ⟨d, h1, ⟨h1, h2, h3⟩, fun wz => (ceilLog2W n hn wz).mono ?_⟩
  rintro e w' ⟨d', rfl, k1, k2, rfl⟩
  have : d' = d := IsL2.uniq ⟨k1, k2.out.1, k2.out.2⟩ ⟨h1, h2, h3⟩
  rw [this]
  exact ⟨rfl, rfl⟩
section
variable {τ τ' : Rl} {w w' w0 w1 w2 : World} {tB : Nat} {V V' : TV} {T T' : TS}
set_option maxRecDepth 100000 in
set_option maxHeartbeats 4000000 in
theorem measureSeries3 (h : TbM τ w tB V T) {i e len : Nat} {x y : TR} (hx : T.types[i]? = some x) (hk : x.kind = 3) (he : x.elem = (e : Int)) (hy : T.types[e]? = some y) (hbx : TRb x) (hby : TRb y) (hln : x.length = len) {gt : Nat} {q : Nat} (hv : V.t = .slice (some ⟨gt, 0, none⟩) T.types.length q) : Calls Tryz.prog 123 #[.pointer (some ⟨tB, 0, none⟩), .pointer (some ⟨gt, i * 12, none⟩)] w fun ee w' => MsQ (MsSer 3 len y) ee ∧ Below w.heap.size w w' := by
  obtain ⟨p, hp⟩ : ∃ p, w.heap.size = p := ⟨_, rfl⟩
  have H1 := hid (MLo.start hp)
  obtain ⟨gt', q', hv', hgl, _, hc⟩ := h.ty hx
  obtain ⟨gt2, q2, hv2, _, _, hc2⟩ := h.ty hy
  rw [hv] at hv' hv2
  injection hv' with e1 e2 e3
  injection e1 with e1
  injection e1 with e1
  subst e1
  injection hv2 with e1 e2 e3
  injection e1 with e1
  injection e1 with e1
  subst e1
  clear e2 e3
  have hlt := (List.getElem?_eq_some_iff.1 hy).1
  obtain ⟨nt, hnt⟩ : ∃ n, T.types.length = n := ⟨_, rfl⟩
  rw [hnt] at hv hlt
  have i1 : (e : Int) < (nt : Int) := by omega
  obtain ⟨smn, hsmn⟩ : ∃ a, (slP y).1 = a := ⟨_, rfl⟩
  obtain ⟨smx, hsmx⟩ : ∃ a, (slP y).2 = a := ⟨_, rfl⟩
  have hsl := slP_le hby
  have HSl := hid (fun wz (hz : Below w.heap.size w wz) => slotW (h.below hz) hy hby)
  rw [hsmn, hsmx] at HSl hsl
  have HK : Hid (∀ wz, Below w.heap.size w wz → wz.cell? ⟨tB, 0, none⟩ = some (.slice (some ⟨gt, 0, none⟩) nt q) ∧ wz.cell? ⟨gt, i * 12, none⟩ = some (.int .u8 3) ∧ wz.cell? ⟨gt, i * 12 + 3, none⟩ = some (.int .i32 (e : Int)) ∧ wz.cell? ⟨gt, i * 12 + 6, none⟩ = some (.int .u64 (len : Int)) ∧ wz.cell? ⟨gt, e * 12, none⟩ = some (.int .u8 (y.kind : Int)) ∧ wz.cell? ⟨gt, e * 12 + 1, none⟩ = some (.bool y.fixed) ∧ wz.cell? ⟨gt, e * 12 + 2, none⟩ = some (.int .u8 (y.depth : Int))) := hid (fun wz hz => by
    have kc : ∀ j v, w.cell? ⟨gt, j, none⟩ = some v → wz.cell? ⟨gt, j, none⟩ = some v := fun j v hh => by rw [keepCell _ (hz.block gt hgl)]; exact hh
    refine ⟨by rw [← hv]; exact (h.below hz).b.cell 0, kc _ _ ?_, kc _ _ ?_, kc _ _ ?_, kc _ _ (hc2 0 (by decide)), kc _ _ (hc2 1 (by decide)), kc _ _ (hc2 2 (by decide))⟩
    · have := hc 0 (by decide); rw [show (trC x)[0]? = some (.int .u8 (x.kind : Int)) from rfl, hk] at this; exact this
    · have := hc 3 (by decide); rw [show (trC x)[3]? = some (.int .i32 x.elem) from rfl, he] at this; exact this
    · have := hc 6 (by decide); rw [show (trC x)[6]? = some (.int .u64 (x.length : Int)) from rfl, hln] at this; exact this)
  have hb : len < 18446744073709551616 := by rw [← hln]; exact hbx.length
  have hyd := hby.depth
  have HSS := hid (And.intro hsmn hsmx)
  clear h hx hk he hy hbx hby hln hv hc hc2 hlt hnt hgl hsmn hsmx
  obtain ⟨yk, hyk⟩ : ∃ a, y.kind = a := ⟨_, rfl⟩
  obtain ⟨yd, hyd2⟩ : ∃ a, y.depth = a := ⟨_, rfl⟩
  obtain ⟨yf, hyf⟩ : ∃ a, y.fixed = a := ⟨_, rfl⟩
  rw [hyk, hyd2, hyf] at HK
  rw [hyd2] at hyd
  have HY := hid (And.intro hyk (And.intro hyd2 hyf))
  clear hyk hyd2 hyf
  go_enter Tryz.func123, Tryz.ntmps123
  go_upto_region 1 with fail
  (try simp only [hp])
  generalize w.alloc _ = w1 at H1 ⊢
  clear hp
  have k0 := (HK.out w1 H1.out.2.1).1
  have k3 := (HK.out w1 H1.out.2.1).2.2.1
  obtain ⟨X0, W, hT, hI⟩ := class_mk (fun w' => Drew w1 w')
  have H0 : Hid (∃ y, w1.drew = W y) := hid (hI _ ⟨1, rfl⟩)
  have hne : Nonempty X0 := ⟨H0.out.choose⟩
  have HTT := hid hT
  have a0 : ∀ z, (W z).cell? ⟨tB, 0, none⟩ = some (.slice (some ⟨gt, 0, none⟩) nt q) := fun y => by obtain ⟨m, e⟩ := hT y; rw [e]; exact k0
  have a3 : ∀ z, (W z).cell? ⟨gt, i * 12 + 3, none⟩ = some (.int .i32 (e : Int)) := fun y => by obtain ⟨m, e⟩ := hT y; rw [e]; exact k3
  clear hT hI
  refine wp_region_class W (by kernel_rfl) (by kernel_rfl) H0.out ?_
  repeat (go_big_quiet_step (fail))
  refine wpQuiet_nil ?_
  intro z
  have HD := hid (HTT.out z)
  have HB := hid ((HTT.out z).below w1.heap.size)
  have a0z := a0 z
  have a3z := a3 z
  generalize W z = w2 at HD HB a0z a3z ⊢
  clear H0 HTT a0 a3
  have H2 := hid (H1.out.below HB.out)
  clear H1 HB HD k0 k3
  have HA := hid (HSl.out w2 H2.out.2.1)
  go_wp2_with fail
  refine HA.out.mono ?_
  rintro e0 w3 ⟨rfl, hd3⟩
  have H3 := hid (H2.out.below (hd3.below _))
  clear HA HSl H2 hd3 a0z a3z
  have k6 := (HK.out w3 H3.out.2.1).2.2.2.1
  have HA := hid (mulBytesW len smx hb (by omega) w3)
  obtain ⟨mx, hmx⟩ : ∃ a, mbV len smx = a := ⟨_, rfl⟩
  obtain ⟨ok, hok0⟩ : ∃ a, decide (len * smx ≤ 4294967295) = a := ⟨_, rfl⟩
  rw [hmx, hok0] at HA
  have Hmx := hid (And.intro hmx hok0)
  clear hmx hok0
  go_wp2_with fail
  refine HA.out.mono ?_
  rintro e0 w4 ⟨rfl, hd4⟩
  have H4 := hid (H3.out.below (hd4.below _))
  clear HA H3 hd4 k6
  have a0 : w4.cell? ⟨p, 0, none⟩ = some (.bool false) := H4.out.1.cell 0
  have az0 : w4.frozen? ⟨p, 0, none⟩ = false := H4.out.1.frozen 0
  have a1 : w4.cell? ⟨p, 1, none⟩ = some (.int .u64 0) := H4.out.1.cell 1
  have az1 : w4.frozen? ⟨p, 1, none⟩ = false := H4.out.1.frozen 1
  have a2 : w4.cell? ⟨p, 2, none⟩ = some (.int .u64 0) := H4.out.1.cell 2
  have az2 : w4.frozen? ⟨p, 2, none⟩ = false := H4.out.1.frozen 2
  have a3 : w4.cell? ⟨p, 3, none⟩ = some (.int .u64 0) := H4.out.1.cell 3
  have az3 : w4.frozen? ⟨p, 3, none⟩ = false := H4.out.1.frozen 3
  have a4 : w4.cell? ⟨p, 4, none⟩ = some (.int .i64 0) := H4.out.1.cell 4
  have az4 : w4.frozen? ⟨p, 4, none⟩ = false := H4.out.1.frozen 4
  have H5 := hid (H4.out.set 2 (.int .u64 (mx : Int)))
  go_upto_region 4 with fail
  generalize hw3 : w4.setCell _ _ = w5 at H5 ⊢
  clear hw3
  clear a0 az0 a1 az1 a2 az2 a3 az3 a4 az4
  clear H4
  have a0 : w5.cell? ⟨p, 0, none⟩ = some (.bool false) := H5.out.1.cell 0
  have az0 : w5.frozen? ⟨p, 0, none⟩ = false := H5.out.1.frozen 0
  have a1 : w5.cell? ⟨p, 1, none⟩ = some (.int .u64 0) := H5.out.1.cell 1
  have az1 : w5.frozen? ⟨p, 1, none⟩ = false := H5.out.1.frozen 1
  have a2 : w5.cell? ⟨p, 2, none⟩ = some (.int .u64 (mx : Int)) := H5.out.1.cell 2
  have az2 : w5.frozen? ⟨p, 2, none⟩ = false := H5.out.1.frozen 2
  have a3 : w5.cell? ⟨p, 3, none⟩ = some (.int .u64 0) := H5.out.1.cell 3
  have az3 : w5.frozen? ⟨p, 3, none⟩ = false := H5.out.1.frozen 3
  have a4 : w5.cell? ⟨p, 4, none⟩ = some (.int .i64 0) := H5.out.1.cell 4
  have az4 : w5.frozen? ⟨p, 4, none⟩ = false := H5.out.1.frozen 4
  cases ok with
  | false =>
    as_aux_lemma =>
    have H9 : Hid (MLo w p (msC ⟨false, 0, mx, 0, 0⟩) (((((w5.setCell ⟨p, 0, none⟩ (.bool false)).setCell ⟨p, 1, none⟩ (.int .u64 0)).setCell ⟨p, 2, none⟩ (.int .u64 (mx : Int))).setCell ⟨p, 3, none⟩ (.int .u64 0)).setCell ⟨p, 4, none⟩ (.int .i64 0))) := hid (((((H5.out.set 0 (.bool false)).set 1 (.int .u64 0)).set 2 (.int .u64 (mx : Int))).set 3 (.int .u64 0)).set 4 (.int .i64 0))
    go_wp2_with fail
    refine bodyPost_ret (results_cell_tmp (cs := msC ⟨false, 0, mx, 0, 0⟩) Tryz.results123 rfl agg_ms H9.out.1) rfl ⟨⟨⟨false, 0, mx, 0, 0⟩, false, rfl, fun hok => ?_, fun hok => ?_⟩, H9.out.2.1⟩
    · cases hok
    · intro m' hm
      have h1 := hm.mx
      have h2 := hm.le
      rw [HSS.out.2] at h1
      have h3 := of_decide_eq_false Hmx.out.2
      omega
  | true =>
  have hmb : len * smx ≤ 4294967295 := of_decide_eq_true Hmx.out.2
  have hmv : mx = len * smx := by
    have := Hmx.out.1
    unfold mbV at this
    rw [if_pos hmb] at this
    exact this.symm
  have Hmv := hid hmv
  have hmxb : mx ≤ 4294967295 := by omega
  clear hmv hmb Hmx
  have k0 := (HK.out w5 H5.out.2.1).2.1
  have k1 := (HK.out w5 H5.out.2.1).2.2.2.2.2.1
  have H6 := hid (H5.out.set 0 (.bool yf))
  go_upto_region 8 with fail
  generalize hw3 : w5.setCell _ _ = w6 at H6 ⊢
  clear hw3
  clear a0 az0 a1 az1 a2 az2 a3 az3 a4 az4
  clear H5 k0 k1
  obtain ⟨mn, hmn⟩ : ∃ a, len * smn = a := ⟨_, rfl⟩
  have hmnb : mn ≤ mx := by rw [← hmn, Hmv.out]; exact Nat.mul_le_mul_left _ hsl.1
  have em : IntKind.u64.wrap ((len : Int) * (smn : Int)) = (mn : Int) := by
    have e : (len : Int) * (smn : Int) = (mn : Int) := by rw [← hmn]; exact (Int.natCast_mul _ _).symm
    rw [e, IntKind.wrap_u64]
    omega
  have Hmn := hid hmn
  clear hmn
  have k6 := (HK.out w6 H6.out.2.1).2.2.2.1
  have a0 : w6.cell? ⟨p, 0, none⟩ = some (.bool yf) := H6.out.1.cell 0
  have az0 : w6.frozen? ⟨p, 0, none⟩ = false := H6.out.1.frozen 0
  have a1 : w6.cell? ⟨p, 1, none⟩ = some (.int .u64 0) := H6.out.1.cell 1
  have az1 : w6.frozen? ⟨p, 1, none⟩ = false := H6.out.1.frozen 1
  have a2 : w6.cell? ⟨p, 2, none⟩ = some (.int .u64 (mx : Int)) := H6.out.1.cell 2
  have az2 : w6.frozen? ⟨p, 2, none⟩ = false := H6.out.1.frozen 2
  have a3 : w6.cell? ⟨p, 3, none⟩ = some (.int .u64 0) := H6.out.1.cell 3
  have az3 : w6.frozen? ⟨p, 3, none⟩ = false := H6.out.1.frozen 3
  have a4 : w6.cell? ⟨p, 4, none⟩ = some (.int .i64 0) := H6.out.1.cell 4
  have az4 : w6.frozen? ⟨p, 4, none⟩ = false := H6.out.1.frozen 4
  have H7 := hid (H6.out.set 1 (.int .u64 (mn : Int)))
  go_upto_region 9 with fail
  (try simp only [em])
  generalize hw3 : w6.setCell _ _ = w7 at H7 ⊢
  clear hw3 em
  clear a0 az0 a1 az1 a2 az2 a3 az3 a4 az4
  clear H6 k6
  have kk := (HK.out w7 H7.out.2.1).2.2.2.2.1
  by_cases hbs : yk = 1 ∨ yk = 2
  · skip
    have Hbs := hid hbs
    obtain ⟨tb, htb⟩ : ∃ b, ((yk : Int) == 1) = b := ⟨_, rfl⟩
    have htc : tb = false → ((yk : Int) == 2) = true := fun hh => by rw [hh] at htb; simp at htb; simp; omega
    cases tb with
    | true =>
      clear htc hbs
      have a0 : w7.cell? ⟨p, 0, none⟩ = some (.bool yf) := H7.out.1.cell 0
      have az0 : w7.frozen? ⟨p, 0, none⟩ = false := H7.out.1.frozen 0
      have a1 : w7.cell? ⟨p, 1, none⟩ = some (.int .u64 (mn : Int)) := H7.out.1.cell 1
      have az1 : w7.frozen? ⟨p, 1, none⟩ = false := H7.out.1.frozen 1
      have a2 : w7.cell? ⟨p, 2, none⟩ = some (.int .u64 (mx : Int)) := H7.out.1.cell 2
      have az2 : w7.frozen? ⟨p, 2, none⟩ = false := H7.out.1.frozen 2
      have a3 : w7.cell? ⟨p, 3, none⟩ = some (.int .u64 0) := H7.out.1.cell 3
      have az3 : w7.frozen? ⟨p, 3, none⟩ = false := H7.out.1.frozen 3
      have a4 : w7.cell? ⟨p, 4, none⟩ = some (.int .i64 0) := H7.out.1.cell 4
      have az4 : w7.frozen? ⟨p, 4, none⟩ = false := H7.out.1.frozen 4
      have HA := hid (ceilDivW mx 32 (by omega) (by decide) (by decide) w7)
      obtain ⟨ck, hck⟩ : ∃ q, (mx + 32 - 1) / 32 = q := ⟨_, rfl⟩
      rw [hck] at HA
      have Hck : Hid (ck = if yk = 1 ∨ yk = 2 then (mx + 31) / 32 else len) := hid (by rw [if_pos Hbs.out]; omega)
      have hckb : ck < 18446744073709551616 := by omega
      clear hck
      go_wp2_with fail
      refine HA.out.mono ?_
      rintro e0 w9 ⟨rfl, rfl⟩
      clear HA
      have H9' := hid (H7.out.set 3 (.int .u64 (ck : Int)))
      go_upto_region 12 with fail
      generalize hw3 : w9.setCell _ _ = wa at H9' ⊢
      clear hw3
      clear a0 az0 a1 az1 a2 az2 a3 az3 a4 az4
      clear H7 kk
      have kd := (HK.out wa H9'.out.2.1).2.2.2.2.2.2
      have a0 : wa.cell? ⟨p, 0, none⟩ = some (.bool yf) := H9'.out.1.cell 0
      have az0 : wa.frozen? ⟨p, 0, none⟩ = false := H9'.out.1.frozen 0
      have a1 : wa.cell? ⟨p, 1, none⟩ = some (.int .u64 (mn : Int)) := H9'.out.1.cell 1
      have az1 : wa.frozen? ⟨p, 1, none⟩ = false := H9'.out.1.frozen 1
      have a2 : wa.cell? ⟨p, 2, none⟩ = some (.int .u64 (mx : Int)) := H9'.out.1.cell 2
      have az2 : wa.frozen? ⟨p, 2, none⟩ = false := H9'.out.1.frozen 2
      have a3 : wa.cell? ⟨p, 3, none⟩ = some (.int .u64 (ck : Int)) := H9'.out.1.cell 3
      have az3 : wa.frozen? ⟨p, 3, none⟩ = false := H9'.out.1.frozen 3
      have a4 : wa.cell? ⟨p, 4, none⟩ = some (.int .i64 0) := H9'.out.1.cell 4
      have az4 : wa.frozen? ⟨p, 4, none⟩ = false := H9'.out.1.frozen 4
      have HL := hid (ceilLog2W ck hckb)
      obtain ⟨d, hd, hdl, HLd⟩ : ∃ d : Nat, d ≤ 64 ∧ IsL2 ck d ∧ ∀ wz, Calls Tryz.prog 153 #[.int .u64 (ck : Int)] wz fun e w' => e = .returned (.int .i64 (d : Int)) ∧ w' = wz := by
        exact ceilLog2D ck hckb
      have HLd' := hid HLd
      have Hdl := hid hdl
      clear HL HLd hdl
      obtain ⟨dd, hdd⟩ : ∃ q, d + yd = q := ⟨_, rfl⟩
      have ed1 : IntKind.i64.wrap (yd : Int) = (yd : Int) := by rw [IntKind.wrap_i64]; omega
      have ed2 : IntKind.i64.wrap ((d : Int) + (yd : Int)) = (dd : Int) := by rw [IntKind.wrap_i64]; omega
      have hddb : dd ≤ 127 := by omega
      have Hdd := hid hdd
      clear hdd
      obtain ⟨X0, W, hT, hI⟩ := class_mk (fun w' => Drew wa w')
      have H0 : Hid (∃ y, wa.drew = W y) := hid (hI _ ⟨1, rfl⟩)
      have hne : Nonempty X0 := ⟨H0.out.choose⟩
      have HTT := hid hT
      have b3 : ∀ z, (W z).cell? ⟨p, 3, none⟩ = some (.int .u64 (ck : Int)) := fun y => by obtain ⟨m, e⟩ := hT y; rw [e]; exact a3
      have b4 : ∀ z, (W z).cell? ⟨p, 4, none⟩ = some (.int .i64 0) := fun y => by obtain ⟨m, e⟩ := hT y; rw [e]; exact a4
      have bz : ∀ z, (W z).frozen? ⟨p, 4, none⟩ = false := fun y => by obtain ⟨m, e⟩ := hT y; rw [e]; exact az4
      have bd : ∀ z, (W z).cell? ⟨gt, e * 12 + 2, none⟩ = some (.int .u8 (yd : Int)) := fun y => by obtain ⟨m, e⟩ := hT y; rw [e]; exact kd
      clear hT hI
      refine wp_region_class_tailT W 9 (by kernel_rfl) (by kernel_rfl) (by kernel_rfl) H0.out ?_
      dsimp only [List.take, List.drop]
      repeat (go_big_quiet_step ((go_at_call 153; with_reducible exact Calls.class_same (HLd'.out _))))
      refine wpQuiet_nil ?_
      intro z
      have HD := hid (HTT.out z)
      have HB := hid ((HTT.out z).below wa.heap.size)
      have b3z := b3 z
      have b4z := b4 z
      have bzz := bz z
      have bdz := bd z
      generalize W z = wb at HD HB b3z b4z bzz bdz ⊢
      clear H0 HTT b3 b4 bz bd
      have Hb := hid (H9'.out.below HB.out)
      have Hc := hid (Hb.out.set 4 (.int .i64 (dd : Int)))
      clear a0 az0 a1 az1 a2 az2 a3 az3 a4 az4
      go_upto_region 13 with fail
      (try simp only [ed2])
      generalize hw3 : wb.setCell _ _ = wc at Hc ⊢
      clear hw3 Hb H9' HB HD b3z b4z bzz bdz kd ed1 ed2
      have k0 := (HK.out wc Hc.out.2.1).2.1
      have a0 : wc.cell? ⟨p, 0, none⟩ = some (.bool yf) := Hc.out.1.cell 0
      have az0 : wc.frozen? ⟨p, 0, none⟩ = false := Hc.out.1.frozen 0
      have a1 : wc.cell? ⟨p, 1, none⟩ = some (.int .u64 (mn : Int)) := Hc.out.1.cell 1
      have az1 : wc.frozen? ⟨p, 1, none⟩ = false := Hc.out.1.frozen 1
      have a2 : wc.cell? ⟨p, 2, none⟩ = some (.int .u64 (mx : Int)) := Hc.out.1.cell 2
      have az2 : wc.frozen? ⟨p, 2, none⟩ = false := Hc.out.1.frozen 2
      have a3 : wc.cell? ⟨p, 3, none⟩ = some (.int .u64 (ck : Int)) := Hc.out.1.cell 3
      have az3 : wc.frozen? ⟨p, 3, none⟩ = false := Hc.out.1.frozen 3
      have a4 : wc.cell? ⟨p, 4, none⟩ = some (.int .i64 (dd : Int)) := Hc.out.1.cell 4
      have az4 : wc.frozen? ⟨p, 4, none⟩ = false := Hc.out.1.frozen 4
      have H9 : Hid (MLo w p (msC ⟨yf, mn, mx, ck, dd⟩) (((((wc.setCell ⟨p, 0, none⟩ (.bool yf)).setCell ⟨p, 1, none⟩ (.int .u64 (mn : Int))).setCell ⟨p, 2, none⟩ (.int .u64 (mx : Int))).setCell ⟨p, 3, none⟩ (.int .u64 (ck : Int))).setCell ⟨p, 4, none⟩ (.int .i64 (dd : Int)))) := hid (((((Hc.out.set 0 (.bool yf)).set 1 (.int .u64 (mn : Int))).set 2 (.int .u64 (mx : Int))).set 3 (.int .u64 (ck : Int))).set 4 (.int .i64 (dd : Int)))
      go_wp2_with fail
      refine bodyPost_ret (results_cell_tmp (cs := msC ⟨yf, mn, mx, ck, dd⟩) Tryz.results123 rfl agg_ms H9.out.1) rfl ⟨⟨⟨yf, mn, mx, ck, dd⟩, true, rfl, fun hok => ?_, fun hok => ?_⟩, H9.out.2.1⟩
      · refine ⟨?_, ?_, hmxb, ?_, ?_, d, Hdl.out, ?_⟩
        · show yf = (3 == 3 && y.fixed)
          rw [HY.out.2.2]; rfl
        · show mx = _
          rw [HSS.out.2]; exact Hmv.out
        · show mn = if 3 = 3 then len * (slP y).1 else 0
          rw [if_pos rfl, HSS.out.1]; exact Hmn.out.symm
        · show ck = if y.kind = 1 ∨ y.kind = 2 then (mx + 31) / 32 else len
          rw [HY.out.1]; exact Hck.out
        · show dd = d + y.depth + (if 3 = 4 then 1 else 0)
          have g1 := HY.out.2.1
          have g2 := Hdd.out
          rw [if_neg (by decide)]; omega
      · cases hok
    | false =>
      have t2 := htc rfl
      clear htc hbs
      have a0 : w7.cell? ⟨p, 0, none⟩ = some (.bool yf) := H7.out.1.cell 0
      have az0 : w7.frozen? ⟨p, 0, none⟩ = false := H7.out.1.frozen 0
      have a1 : w7.cell? ⟨p, 1, none⟩ = some (.int .u64 (mn : Int)) := H7.out.1.cell 1
      have az1 : w7.frozen? ⟨p, 1, none⟩ = false := H7.out.1.frozen 1
      have a2 : w7.cell? ⟨p, 2, none⟩ = some (.int .u64 (mx : Int)) := H7.out.1.cell 2
      have az2 : w7.frozen? ⟨p, 2, none⟩ = false := H7.out.1.frozen 2
      have a3 : w7.cell? ⟨p, 3, none⟩ = some (.int .u64 0) := H7.out.1.cell 3
      have az3 : w7.frozen? ⟨p, 3, none⟩ = false := H7.out.1.frozen 3
      have a4 : w7.cell? ⟨p, 4, none⟩ = some (.int .i64 0) := H7.out.1.cell 4
      have az4 : w7.frozen? ⟨p, 4, none⟩ = false := H7.out.1.frozen 4
      have HA := hid (ceilDivW mx 32 (by omega) (by decide) (by decide) w7)
      obtain ⟨ck, hck⟩ : ∃ q, (mx + 32 - 1) / 32 = q := ⟨_, rfl⟩
      rw [hck] at HA
      have Hck : Hid (ck = if yk = 1 ∨ yk = 2 then (mx + 31) / 32 else len) := hid (by rw [if_pos Hbs.out]; omega)
      have hckb : ck < 18446744073709551616 := by omega
      clear hck
      go_wp2_with fail
      refine HA.out.mono ?_
      rintro e0 w9 ⟨rfl, rfl⟩
      clear HA
      have H9' := hid (H7.out.set 3 (.int .u64 (ck : Int)))
      go_upto_region 12 with fail
      generalize hw3 : w9.setCell _ _ = wa at H9' ⊢
      clear hw3
      clear a0 az0 a1 az1 a2 az2 a3 az3 a4 az4
      clear H7 kk
      have kd := (HK.out wa H9'.out.2.1).2.2.2.2.2.2
      have a0 : wa.cell? ⟨p, 0, none⟩ = some (.bool yf) := H9'.out.1.cell 0
      have az0 : wa.frozen? ⟨p, 0, none⟩ = false := H9'.out.1.frozen 0
      have a1 : wa.cell? ⟨p, 1, none⟩ = some (.int .u64 (mn : Int)) := H9'.out.1.cell 1
      have az1 : wa.frozen? ⟨p, 1, none⟩ = false := H9'.out.1.frozen 1
      have a2 : wa.cell? ⟨p, 2, none⟩ = some (.int .u64 (mx : Int)) := H9'.out.1.cell 2
      have az2 : wa.frozen? ⟨p, 2, none⟩ = false := H9'.out.1.frozen 2
      have a3 : wa.cell? ⟨p, 3, none⟩ = some (.int .u64 (ck : Int)) := H9'.out.1.cell 3
      have az3 : wa.frozen? ⟨p, 3, none⟩ = false := H9'.out.1.frozen 3
      have a4 : wa.cell? ⟨p, 4, none⟩ = some (.int .i64 0) := H9'.out.1.cell 4
      have az4 : wa.frozen? ⟨p, 4, none⟩ = false := H9'.out.1.frozen 4
      have HL := hid (ceilLog2W ck hckb)
      obtain ⟨d, hd, hdl, HLd⟩ : ∃ d : Nat, d ≤ 64 ∧ IsL2 ck d ∧ ∀ wz, Calls Tryz.prog 153 #[.int .u64 (ck : Int)] wz fun e w' => e = .returned (.int .i64 (d : Int)) ∧ w' = wz := by
        exact ceilLog2D ck hckb
      have HLd' := hid HLd
      have Hdl := hid hdl
      clear HL HLd hdl
      obtain ⟨dd, hdd⟩ : ∃ q, d + yd = q := ⟨_, rfl⟩
      have ed1 : IntKind.i64.wrap (yd : Int) = (yd : Int) := by rw [IntKind.wrap_i64]; omega
      have ed2 : IntKind.i64.wrap ((d : Int) + (yd : Int)) = (dd : Int) := by rw [IntKind.wrap_i64]; omega
      have hddb : dd ≤ 127 := by omega
      have Hdd := hid hdd
      clear hdd
      obtain ⟨X0, W, hT, hI⟩ := class_mk (fun w' => Drew wa w')
      have H0 : Hid (∃ y, wa.drew = W y) := hid (hI _ ⟨1, rfl⟩)
      have hne : Nonempty X0 := ⟨H0.out.choose⟩
      have HTT := hid hT
      have b3 : ∀ z, (W z).cell? ⟨p, 3, none⟩ = some (.int .u64 (ck : Int)) := fun y => by obtain ⟨m, e⟩ := hT y; rw [e]; exact a3
      have b4 : ∀ z, (W z).cell? ⟨p, 4, none⟩ = some (.int .i64 0) := fun y => by obtain ⟨m, e⟩ := hT y; rw [e]; exact a4
      have bz : ∀ z, (W z).frozen? ⟨p, 4, none⟩ = false := fun y => by obtain ⟨m, e⟩ := hT y; rw [e]; exact az4
      have bd : ∀ z, (W z).cell? ⟨gt, e * 12 + 2, none⟩ = some (.int .u8 (yd : Int)) := fun y => by obtain ⟨m, e⟩ := hT y; rw [e]; exact kd
      clear hT hI
      refine wp_region_class_tailT W 9 (by kernel_rfl) (by kernel_rfl) (by kernel_rfl) H0.out ?_
      dsimp only [List.take, List.drop]
      repeat (go_big_quiet_step ((go_at_call 153; with_reducible exact Calls.class_same (HLd'.out _))))
      refine wpQuiet_nil ?_
      intro z
      have HD := hid (HTT.out z)
      have HB := hid ((HTT.out z).below wa.heap.size)
      have b3z := b3 z
      have b4z := b4 z
      have bzz := bz z
      have bdz := bd z
      generalize W z = wb at HD HB b3z b4z bzz bdz ⊢
      clear H0 HTT b3 b4 bz bd
      have Hb := hid (H9'.out.below HB.out)
      have Hc := hid (Hb.out.set 4 (.int .i64 (dd : Int)))
      clear a0 az0 a1 az1 a2 az2 a3 az3 a4 az4
      go_upto_region 13 with fail
      (try simp only [ed2])
      generalize hw3 : wb.setCell _ _ = wc at Hc ⊢
      clear hw3 Hb H9' HB HD b3z b4z bzz bdz kd ed1 ed2
      have k0 := (HK.out wc Hc.out.2.1).2.1
      have a0 : wc.cell? ⟨p, 0, none⟩ = some (.bool yf) := Hc.out.1.cell 0
      have az0 : wc.frozen? ⟨p, 0, none⟩ = false := Hc.out.1.frozen 0
      have a1 : wc.cell? ⟨p, 1, none⟩ = some (.int .u64 (mn : Int)) := Hc.out.1.cell 1
      have az1 : wc.frozen? ⟨p, 1, none⟩ = false := Hc.out.1.frozen 1
      have a2 : wc.cell? ⟨p, 2, none⟩ = some (.int .u64 (mx : Int)) := Hc.out.1.cell 2
      have az2 : wc.frozen? ⟨p, 2, none⟩ = false := Hc.out.1.frozen 2
      have a3 : wc.cell? ⟨p, 3, none⟩ = some (.int .u64 (ck : Int)) := Hc.out.1.cell 3
      have az3 : wc.frozen? ⟨p, 3, none⟩ = false := Hc.out.1.frozen 3
      have a4 : wc.cell? ⟨p, 4, none⟩ = some (.int .i64 (dd : Int)) := Hc.out.1.cell 4
      have az4 : wc.frozen? ⟨p, 4, none⟩ = false := Hc.out.1.frozen 4
      have H9 : Hid (MLo w p (msC ⟨yf, mn, mx, ck, dd⟩) (((((wc.setCell ⟨p, 0, none⟩ (.bool yf)).setCell ⟨p, 1, none⟩ (.int .u64 (mn : Int))).setCell ⟨p, 2, none⟩ (.int .u64 (mx : Int))).setCell ⟨p, 3, none⟩ (.int .u64 (ck : Int))).setCell ⟨p, 4, none⟩ (.int .i64 (dd : Int)))) := hid (((((Hc.out.set 0 (.bool yf)).set 1 (.int .u64 (mn : Int))).set 2 (.int .u64 (mx : Int))).set 3 (.int .u64 (ck : Int))).set 4 (.int .i64 (dd : Int)))
      go_wp2_with fail
      refine bodyPost_ret (results_cell_tmp (cs := msC ⟨yf, mn, mx, ck, dd⟩) Tryz.results123 rfl agg_ms H9.out.1) rfl ⟨⟨⟨yf, mn, mx, ck, dd⟩, true, rfl, fun hok => ?_, fun hok => ?_⟩, H9.out.2.1⟩
      · refine ⟨?_, ?_, hmxb, ?_, ?_, d, Hdl.out, ?_⟩
        · show yf = (3 == 3 && y.fixed)
          rw [HY.out.2.2]; rfl
        · show mx = _
          rw [HSS.out.2]; exact Hmv.out
        · show mn = if 3 = 3 then len * (slP y).1 else 0
          rw [if_pos rfl, HSS.out.1]; exact Hmn.out.symm
        · show ck = if y.kind = 1 ∨ y.kind = 2 then (mx + 31) / 32 else len
          rw [HY.out.1]; exact Hck.out
        · show dd = d + y.depth + (if 3 = 4 then 1 else 0)
          have g1 := HY.out.2.1
          have g2 := Hdd.out
          rw [if_neg (by decide)]; omega
      · cases hok
  have t1 : ((yk : Int) == 1) = false := by simp; omega
  have t2 : ((yk : Int) == 2) = false := by simp; omega
  have Hbs := hid hbs
  clear hbs
  have a0 : w7.cell? ⟨p, 0, none⟩ = some (.bool yf) := H7.out.1.cell 0
  have az0 : w7.frozen? ⟨p, 0, none⟩ = false := H7.out.1.frozen 0
  have a1 : w7.cell? ⟨p, 1, none⟩ = some (.int .u64 (mn : Int)) := H7.out.1.cell 1
  have az1 : w7.frozen? ⟨p, 1, none⟩ = false := H7.out.1.frozen 1
  have a2 : w7.cell? ⟨p, 2, none⟩ = some (.int .u64 (mx : Int)) := H7.out.1.cell 2
  have az2 : w7.frozen? ⟨p, 2, none⟩ = false := H7.out.1.frozen 2
  have a3 : w7.cell? ⟨p, 3, none⟩ = some (.int .u64 0) := H7.out.1.cell 3
  have az3 : w7.frozen? ⟨p, 3, none⟩ = false := H7.out.1.frozen 3
  have a4 : w7.cell? ⟨p, 4, none⟩ = some (.int .i64 0) := H7.out.1.cell 4
  have az4 : w7.frozen? ⟨p, 4, none⟩ = false := H7.out.1.frozen 4
  have k6 := (HK.out w7 H7.out.2.1).2.2.2.1
  obtain ⟨ck, hck⟩ : ∃ q, len = q := ⟨_, rfl⟩
  have Hck : Hid (ck = if yk = 1 ∨ yk = 2 then (mx + 31) / 32 else len) := hid (by rw [if_neg Hbs.out]; exact hck.symm)
  have hckb : ck < 18446744073709551616 := by omega
  rw [hck] at k6
  clear hck
  have H9' := hid (H7.out.set 3 (.int .u64 (ck : Int)))
  go_upto_region 12 with fail
  generalize hw3 : w7.setCell _ _ = wa at H9' ⊢
  clear hw3
  clear a0 az0 a1 az1 a2 az2 a3 az3 a4 az4
  clear H7 kk k6
  have kd := (HK.out wa H9'.out.2.1).2.2.2.2.2.2
  have a0 : wa.cell? ⟨p, 0, none⟩ = some (.bool yf) := H9'.out.1.cell 0
  have az0 : wa.frozen? ⟨p, 0, none⟩ = false := H9'.out.1.frozen 0
  have a1 : wa.cell? ⟨p, 1, none⟩ = some (.int .u64 (mn : Int)) := H9'.out.1.cell 1
  have az1 : wa.frozen? ⟨p, 1, none⟩ = false := H9'.out.1.frozen 1
  have a2 : wa.cell? ⟨p, 2, none⟩ = some (.int .u64 (mx : Int)) := H9'.out.1.cell 2
  have az2 : wa.frozen? ⟨p, 2, none⟩ = false := H9'.out.1.frozen 2
  have a3 : wa.cell? ⟨p, 3, none⟩ = some (.int .u64 (ck : Int)) := H9'.out.1.cell 3
  have az3 : wa.frozen? ⟨p, 3, none⟩ = false := H9'.out.1.frozen 3
  have a4 : wa.cell? ⟨p, 4, none⟩ = some (.int .i64 0) := H9'.out.1.cell 4
  have az4 : wa.frozen? ⟨p, 4, none⟩ = false := H9'.out.1.frozen 4
  have HL := hid (ceilLog2W ck hckb)
  obtain ⟨d, hd, hdl, HLd⟩ : ∃ d : Nat, d ≤ 64 ∧ IsL2 ck d ∧ ∀ wz, Calls Tryz.prog 153 #[.int .u64 (ck : Int)] wz fun e w' => e = .returned (.int .i64 (d : Int)) ∧ w' = wz := by
    exact ceilLog2D ck hckb
  have HLd' := hid HLd
  have Hdl := hid hdl
  clear HL HLd hdl
  obtain ⟨dd, hdd⟩ : ∃ q, d + yd = q := ⟨_, rfl⟩
  have ed1 : IntKind.i64.wrap (yd : Int) = (yd : Int) := by rw [IntKind.wrap_i64]; omega
  have ed2 : IntKind.i64.wrap ((d : Int) + (yd : Int)) = (dd : Int) := by rw [IntKind.wrap_i64]; omega
  have hddb : dd ≤ 127 := by omega
  have Hdd := hid hdd
  clear hdd
  obtain ⟨X0, W, hT, hI⟩ := class_mk (fun w' => Drew wa w')
  have H0 : Hid (∃ y, wa.drew = W y) := hid (hI _ ⟨1, rfl⟩)
  have hne : Nonempty X0 := ⟨H0.out.choose⟩
  have HTT := hid hT
  have b3 : ∀ z, (W z).cell? ⟨p, 3, none⟩ = some (.int .u64 (ck : Int)) := fun y => by obtain ⟨m, e⟩ := hT y; rw [e]; exact a3
  have b4 : ∀ z, (W z).cell? ⟨p, 4, none⟩ = some (.int .i64 0) := fun y => by obtain ⟨m, e⟩ := hT y; rw [e]; exact a4
  have bz : ∀ z, (W z).frozen? ⟨p, 4, none⟩ = false := fun y => by obtain ⟨m, e⟩ := hT y; rw [e]; exact az4
  have bd : ∀ z, (W z).cell? ⟨gt, e * 12 + 2, none⟩ = some (.int .u8 (yd : Int)) := fun y => by obtain ⟨m, e⟩ := hT y; rw [e]; exact kd
  clear hT hI
  refine wp_region_class_tailT W 9 (by kernel_rfl) (by kernel_rfl) (by kernel_rfl) H0.out ?_
  dsimp only [List.take, List.drop]
  repeat (go_big_quiet_step ((go_at_call 153; with_reducible exact Calls.class_same (HLd'.out _))))
  refine wpQuiet_nil ?_
  intro z
  have HD := hid (HTT.out z)
  have HB := hid ((HTT.out z).below wa.heap.size)
  have b3z := b3 z
  have b4z := b4 z
  have bzz := bz z
  have bdz := bd z
  generalize W z = wb at HD HB b3z b4z bzz bdz ⊢
  clear H0 HTT b3 b4 bz bd
  have Hb := hid (H9'.out.below HB.out)
  have Hc := hid (Hb.out.set 4 (.int .i64 (dd : Int)))
  clear a0 az0 a1 az1 a2 az2 a3 az3 a4 az4
  go_upto_region 13 with fail
  (try simp only [ed2])
  generalize hw3 : wb.setCell _ _ = wc at Hc ⊢
  clear hw3 Hb H9' HB HD b3z b4z bzz bdz kd ed1 ed2
  have k0 := (HK.out wc Hc.out.2.1).2.1
  have a0 : wc.cell? ⟨p, 0, none⟩ = some (.bool yf) := Hc.out.1.cell 0
  have az0 : wc.frozen? ⟨p, 0, none⟩ = false := Hc.out.1.frozen 0
  have a1 : wc.cell? ⟨p, 1, none⟩ = some (.int .u64 (mn : Int)) := Hc.out.1.cell 1
  have az1 : wc.frozen? ⟨p, 1, none⟩ = false := Hc.out.1.frozen 1
  have a2 : wc.cell? ⟨p, 2, none⟩ = some (.int .u64 (mx : Int)) := Hc.out.1.cell 2
  have az2 : wc.frozen? ⟨p, 2, none⟩ = false := Hc.out.1.frozen 2
  have a3 : wc.cell? ⟨p, 3, none⟩ = some (.int .u64 (ck : Int)) := Hc.out.1.cell 3
  have az3 : wc.frozen? ⟨p, 3, none⟩ = false := Hc.out.1.frozen 3
  have a4 : wc.cell? ⟨p, 4, none⟩ = some (.int .i64 (dd : Int)) := Hc.out.1.cell 4
  have az4 : wc.frozen? ⟨p, 4, none⟩ = false := Hc.out.1.frozen 4
  have H9 : Hid (MLo w p (msC ⟨yf, mn, mx, ck, dd⟩) (((((wc.setCell ⟨p, 0, none⟩ (.bool yf)).setCell ⟨p, 1, none⟩ (.int .u64 (mn : Int))).setCell ⟨p, 2, none⟩ (.int .u64 (mx : Int))).setCell ⟨p, 3, none⟩ (.int .u64 (ck : Int))).setCell ⟨p, 4, none⟩ (.int .i64 (dd : Int)))) := hid (((((Hc.out.set 0 (.bool yf)).set 1 (.int .u64 (mn : Int))).set 2 (.int .u64 (mx : Int))).set 3 (.int .u64 (ck : Int))).set 4 (.int .i64 (dd : Int)))
  go_wp2_with fail
  refine bodyPost_ret (results_cell_tmp (cs := msC ⟨yf, mn, mx, ck, dd⟩) Tryz.results123 rfl agg_ms H9.out.1) rfl ⟨⟨⟨yf, mn, mx, ck, dd⟩, true, rfl, fun hok => ?_, fun hok => ?_⟩, H9.out.2.1⟩
  · refine ⟨?_, ?_, hmxb, ?_, ?_, d, Hdl.out, ?_⟩
    · show yf = (3 == 3 && y.fixed)
      rw [HY.out.2.2]; rfl
    · show mx = _
      rw [HSS.out.2]; exact Hmv.out
    · show mn = if 3 = 3 then len * (slP y).1 else 0
      rw [if_pos rfl, HSS.out.1]; exact Hmn.out.symm
    · show ck = if y.kind = 1 ∨ y.kind = 2 then (mx + 31) / 32 else len
      rw [HY.out.1]; exact Hck.out
    · show dd = d + y.depth + (if 3 = 4 then 1 else 0)
      have g1 := HY.out.2.1
      have g2 := Hdd.out
      rw [if_neg (by decide)]; omega
  · cases hok
set_option maxRecDepth 100000 in
set_option maxHeartbeats 4000000 in
theorem measureSeries4 (h : TbM τ w tB V T) {i e len : Nat} {x y : TR} (hx : T.types[i]? = some x) (hk : x.kind = 4) (he : x.elem = (e : Int)) (hy : T.types[e]? = some y) (hbx : TRb x) (hby : TRb y) (hln : x.length = len) {gt : Nat} {q : Nat} (hv : V.t = .slice (some ⟨gt, 0, none⟩) T.types.length q) : Calls Tryz.prog 123 #[.pointer (some ⟨tB, 0, none⟩), .pointer (some ⟨gt, i * 12, none⟩)] w fun ee w' => MsQ (MsSer 4 len y) ee ∧ Below w.heap.size w w' := by
  obtain ⟨p, hp⟩ : ∃ p, w.heap.size = p := ⟨_, rfl⟩
  have H1 := hid (MLo.start hp)
  obtain ⟨gt', q', hv', hgl, _, hc⟩ := h.ty hx
  obtain ⟨gt2, q2, hv2, _, _, hc2⟩ := h.ty hy
  rw [hv] at hv' hv2
  injection hv' with e1 e2 e3
  injection e1 with e1
  injection e1 with e1
  subst e1
  injection hv2 with e1 e2 e3
  injection e1 with e1
  injection e1 with e1
  subst e1
  clear e2 e3
  have hlt := (List.getElem?_eq_some_iff.1 hy).1
  obtain ⟨nt, hnt⟩ : ∃ n, T.types.length = n := ⟨_, rfl⟩
  rw [hnt] at hv hlt
  have i1 : (e : Int) < (nt : Int) := by omega
  obtain ⟨smn, hsmn⟩ : ∃ a, (slP y).1 = a := ⟨_, rfl⟩
  obtain ⟨smx, hsmx⟩ : ∃ a, (slP y).2 = a := ⟨_, rfl⟩
  have hsl := slP_le hby
  have HSl := hid (fun wz (hz : Below w.heap.size w wz) => slotW (h.below hz) hy hby)
  rw [hsmn, hsmx] at HSl hsl
  have HK : Hid (∀ wz, Below w.heap.size w wz → wz.cell? ⟨tB, 0, none⟩ = some (.slice (some ⟨gt, 0, none⟩) nt q) ∧ wz.cell? ⟨gt, i * 12, none⟩ = some (.int .u8 4) ∧ wz.cell? ⟨gt, i * 12 + 3, none⟩ = some (.int .i32 (e : Int)) ∧ wz.cell? ⟨gt, i * 12 + 6, none⟩ = some (.int .u64 (len : Int)) ∧ wz.cell? ⟨gt, e * 12, none⟩ = some (.int .u8 (y.kind : Int)) ∧ wz.cell? ⟨gt, e * 12 + 1, none⟩ = some (.bool y.fixed) ∧ wz.cell? ⟨gt, e * 12 + 2, none⟩ = some (.int .u8 (y.depth : Int))) := hid (fun wz hz => by
    have kc : ∀ j v, w.cell? ⟨gt, j, none⟩ = some v → wz.cell? ⟨gt, j, none⟩ = some v := fun j v hh => by rw [keepCell _ (hz.block gt hgl)]; exact hh
    refine ⟨by rw [← hv]; exact (h.below hz).b.cell 0, kc _ _ ?_, kc _ _ ?_, kc _ _ ?_, kc _ _ (hc2 0 (by decide)), kc _ _ (hc2 1 (by decide)), kc _ _ (hc2 2 (by decide))⟩
    · have := hc 0 (by decide); rw [show (trC x)[0]? = some (.int .u8 (x.kind : Int)) from rfl, hk] at this; exact this
    · have := hc 3 (by decide); rw [show (trC x)[3]? = some (.int .i32 x.elem) from rfl, he] at this; exact this
    · have := hc 6 (by decide); rw [show (trC x)[6]? = some (.int .u64 (x.length : Int)) from rfl, hln] at this; exact this)
  have hb : len < 18446744073709551616 := by rw [← hln]; exact hbx.length
  have hyd := hby.depth
  have HSS := hid (And.intro hsmn hsmx)
  clear h hx hk he hy hbx hby hln hv hc hc2 hlt hnt hgl hsmn hsmx
  obtain ⟨yk, hyk⟩ : ∃ a, y.kind = a := ⟨_, rfl⟩
  obtain ⟨yd, hyd2⟩ : ∃ a, y.depth = a := ⟨_, rfl⟩
  obtain ⟨yf, hyf⟩ : ∃ a, y.fixed = a := ⟨_, rfl⟩
  rw [hyk, hyd2, hyf] at HK
  rw [hyd2] at hyd
  have HY := hid (And.intro hyk (And.intro hyd2 hyf))
  clear hyk hyd2 hyf
  go_enter Tryz.func123, Tryz.ntmps123
  go_upto_region 1 with fail
  (try simp only [hp])
  generalize w.alloc _ = w1 at H1 ⊢
  clear hp
  have k0 := (HK.out w1 H1.out.2.1).1
  have k3 := (HK.out w1 H1.out.2.1).2.2.1
  obtain ⟨X0, W, hT, hI⟩ := class_mk (fun w' => Drew w1 w')
  have H0 : Hid (∃ y, w1.drew = W y) := hid (hI _ ⟨1, rfl⟩)
  have hne : Nonempty X0 := ⟨H0.out.choose⟩
  have HTT := hid hT
  have a0 : ∀ z, (W z).cell? ⟨tB, 0, none⟩ = some (.slice (some ⟨gt, 0, none⟩) nt q) := fun y => by obtain ⟨m, e⟩ := hT y; rw [e]; exact k0
  have a3 : ∀ z, (W z).cell? ⟨gt, i * 12 + 3, none⟩ = some (.int .i32 (e : Int)) := fun y => by obtain ⟨m, e⟩ := hT y; rw [e]; exact k3
  clear hT hI
  refine wp_region_class W (by kernel_rfl) (by kernel_rfl) H0.out ?_
  repeat (go_big_quiet_step (fail))
  refine wpQuiet_nil ?_
  intro z
  have HD := hid (HTT.out z)
  have HB := hid ((HTT.out z).below w1.heap.size)
  have a0z := a0 z
  have a3z := a3 z
  generalize W z = w2 at HD HB a0z a3z ⊢
  clear H0 HTT a0 a3
  have H2 := hid (H1.out.below HB.out)
  clear H1 HB HD k0 k3
  have HA := hid (HSl.out w2 H2.out.2.1)
  go_wp2_with fail
  refine HA.out.mono ?_
  rintro e0 w3 ⟨rfl, hd3⟩
  have H3 := hid (H2.out.below (hd3.below _))
  clear HA HSl H2 hd3 a0z a3z
  have k6 := (HK.out w3 H3.out.2.1).2.2.2.1
  have HA := hid (mulBytesW len smx hb (by omega) w3)
  obtain ⟨mx, hmx⟩ : ∃ a, mbV len smx = a := ⟨_, rfl⟩
  obtain ⟨ok, hok0⟩ : ∃ a, decide (len * smx ≤ 4294967295) = a := ⟨_, rfl⟩
  rw [hmx, hok0] at HA
  have Hmx := hid (And.intro hmx hok0)
  clear hmx hok0
  go_wp2_with fail
  refine HA.out.mono ?_
  rintro e0 w4 ⟨rfl, hd4⟩
  have H4 := hid (H3.out.below (hd4.below _))
  clear HA H3 hd4 k6
  have a0 : w4.cell? ⟨p, 0, none⟩ = some (.bool false) := H4.out.1.cell 0
  have az0 : w4.frozen? ⟨p, 0, none⟩ = false := H4.out.1.frozen 0
  have a1 : w4.cell? ⟨p, 1, none⟩ = some (.int .u64 0) := H4.out.1.cell 1
  have az1 : w4.frozen? ⟨p, 1, none⟩ = false := H4.out.1.frozen 1
  have a2 : w4.cell? ⟨p, 2, none⟩ = some (.int .u64 0) := H4.out.1.cell 2
  have az2 : w4.frozen? ⟨p, 2, none⟩ = false := H4.out.1.frozen 2
  have a3 : w4.cell? ⟨p, 3, none⟩ = some (.int .u64 0) := H4.out.1.cell 3
  have az3 : w4.frozen? ⟨p, 3, none⟩ = false := H4.out.1.frozen 3
  have a4 : w4.cell? ⟨p, 4, none⟩ = some (.int .i64 0) := H4.out.1.cell 4
  have az4 : w4.frozen? ⟨p, 4, none⟩ = false := H4.out.1.frozen 4
  have H5 := hid (H4.out.set 2 (.int .u64 (mx : Int)))
  go_upto_region 4 with fail
  generalize hw3 : w4.setCell _ _ = w5 at H5 ⊢
  clear hw3
  clear a0 az0 a1 az1 a2 az2 a3 az3 a4 az4
  clear H4
  have a0 : w5.cell? ⟨p, 0, none⟩ = some (.bool false) := H5.out.1.cell 0
  have az0 : w5.frozen? ⟨p, 0, none⟩ = false := H5.out.1.frozen 0
  have a1 : w5.cell? ⟨p, 1, none⟩ = some (.int .u64 0) := H5.out.1.cell 1
  have az1 : w5.frozen? ⟨p, 1, none⟩ = false := H5.out.1.frozen 1
  have a2 : w5.cell? ⟨p, 2, none⟩ = some (.int .u64 (mx : Int)) := H5.out.1.cell 2
  have az2 : w5.frozen? ⟨p, 2, none⟩ = false := H5.out.1.frozen 2
  have a3 : w5.cell? ⟨p, 3, none⟩ = some (.int .u64 0) := H5.out.1.cell 3
  have az3 : w5.frozen? ⟨p, 3, none⟩ = false := H5.out.1.frozen 3
  have a4 : w5.cell? ⟨p, 4, none⟩ = some (.int .i64 0) := H5.out.1.cell 4
  have az4 : w5.frozen? ⟨p, 4, none⟩ = false := H5.out.1.frozen 4
  cases ok with
  | false =>
    as_aux_lemma =>
    have H9 : Hid (MLo w p (msC ⟨false, 0, mx, 0, 0⟩) (((((w5.setCell ⟨p, 0, none⟩ (.bool false)).setCell ⟨p, 1, none⟩ (.int .u64 0)).setCell ⟨p, 2, none⟩ (.int .u64 (mx : Int))).setCell ⟨p, 3, none⟩ (.int .u64 0)).setCell ⟨p, 4, none⟩ (.int .i64 0))) := hid (((((H5.out.set 0 (.bool false)).set 1 (.int .u64 0)).set 2 (.int .u64 (mx : Int))).set 3 (.int .u64 0)).set 4 (.int .i64 0))
    go_wp2_with fail
    refine bodyPost_ret (results_cell_tmp (cs := msC ⟨false, 0, mx, 0, 0⟩) Tryz.results123 rfl agg_ms H9.out.1) rfl ⟨⟨⟨false, 0, mx, 0, 0⟩, false, rfl, fun hok => ?_, fun hok => ?_⟩, H9.out.2.1⟩
    · cases hok
    · intro m' hm
      have h1 := hm.mx
      have h2 := hm.le
      rw [HSS.out.2] at h1
      have h3 := of_decide_eq_false Hmx.out.2
      omega
  | true =>
  have hmb : len * smx ≤ 4294967295 := of_decide_eq_true Hmx.out.2
  have hmv : mx = len * smx := by
    have := Hmx.out.1
    unfold mbV at this
    rw [if_pos hmb] at this
    exact this.symm
  have Hmv := hid hmv
  have hmxb : mx ≤ 4294967295 := by omega
  clear hmv hmb Hmx
  have k0 := (HK.out w5 H5.out.2.1).2.1
  have H7 := H5
  go_upto_region 9 with fail
  clear a0 az0 a1 az1 a2 az2 a3 az3 a4 az4
  clear H5 k0
  have kk := (HK.out w5 H7.out.2.1).2.2.2.2.1
  by_cases hbs : yk = 1 ∨ yk = 2
  · skip
    have Hbs := hid hbs
    obtain ⟨tb, htb⟩ : ∃ b, ((yk : Int) == 1) = b := ⟨_, rfl⟩
    have htc : tb = false → ((yk : Int) == 2) = true := fun hh => by rw [hh] at htb; simp at htb; simp; omega
    cases tb with
    | true =>
      clear htc hbs
      have a0 : w5.cell? ⟨p, 0, none⟩ = some (.bool false) := H7.out.1.cell 0
      have az0 : w5.frozen? ⟨p, 0, none⟩ = false := H7.out.1.frozen 0
      have a1 : w5.cell? ⟨p, 1, none⟩ = some (.int .u64 0) := H7.out.1.cell 1
      have az1 : w5.frozen? ⟨p, 1, none⟩ = false := H7.out.1.frozen 1
      have a2 : w5.cell? ⟨p, 2, none⟩ = some (.int .u64 (mx : Int)) := H7.out.1.cell 2
      have az2 : w5.frozen? ⟨p, 2, none⟩ = false := H7.out.1.frozen 2
      have a3 : w5.cell? ⟨p, 3, none⟩ = some (.int .u64 0) := H7.out.1.cell 3
      have az3 : w5.frozen? ⟨p, 3, none⟩ = false := H7.out.1.frozen 3
      have a4 : w5.cell? ⟨p, 4, none⟩ = some (.int .i64 0) := H7.out.1.cell 4
      have az4 : w5.frozen? ⟨p, 4, none⟩ = false := H7.out.1.frozen 4
      have HA := hid (ceilDivW mx 32 (by omega) (by decide) (by decide) w5)
      obtain ⟨ck, hck⟩ : ∃ q, (mx + 32 - 1) / 32 = q := ⟨_, rfl⟩
      rw [hck] at HA
      have Hck : Hid (ck = if yk = 1 ∨ yk = 2 then (mx + 31) / 32 else len) := hid (by rw [if_pos Hbs.out]; omega)
      have hckb : ck < 18446744073709551616 := by omega
      clear hck
      go_wp2_with fail
      refine HA.out.mono ?_
      rintro e0 w9 ⟨rfl, rfl⟩
      clear HA
      have H9' := hid (H7.out.set 3 (.int .u64 (ck : Int)))
      go_upto_region 12 with fail
      generalize hw3 : w9.setCell _ _ = wa at H9' ⊢
      clear hw3
      clear a0 az0 a1 az1 a2 az2 a3 az3 a4 az4
      clear H7 kk
      have kd := (HK.out wa H9'.out.2.1).2.2.2.2.2.2
      have a0 : wa.cell? ⟨p, 0, none⟩ = some (.bool false) := H9'.out.1.cell 0
      have az0 : wa.frozen? ⟨p, 0, none⟩ = false := H9'.out.1.frozen 0
      have a1 : wa.cell? ⟨p, 1, none⟩ = some (.int .u64 0) := H9'.out.1.cell 1
      have az1 : wa.frozen? ⟨p, 1, none⟩ = false := H9'.out.1.frozen 1
      have a2 : wa.cell? ⟨p, 2, none⟩ = some (.int .u64 (mx : Int)) := H9'.out.1.cell 2
      have az2 : wa.frozen? ⟨p, 2, none⟩ = false := H9'.out.1.frozen 2
      have a3 : wa.cell? ⟨p, 3, none⟩ = some (.int .u64 (ck : Int)) := H9'.out.1.cell 3
      have az3 : wa.frozen? ⟨p, 3, none⟩ = false := H9'.out.1.frozen 3
      have a4 : wa.cell? ⟨p, 4, none⟩ = some (.int .i64 0) := H9'.out.1.cell 4
      have az4 : wa.frozen? ⟨p, 4, none⟩ = false := H9'.out.1.frozen 4
      have HL := hid (ceilLog2W ck hckb)
      obtain ⟨d, hd, hdl, HLd⟩ : ∃ d : Nat, d ≤ 64 ∧ IsL2 ck d ∧ ∀ wz, Calls Tryz.prog 153 #[.int .u64 (ck : Int)] wz fun e w' => e = .returned (.int .i64 (d : Int)) ∧ w' = wz := by
        exact ceilLog2D ck hckb
      have HLd' := hid HLd
      have Hdl := hid hdl
      clear HL HLd hdl
      obtain ⟨dd, hdd⟩ : ∃ q, d + yd = q := ⟨_, rfl⟩
      have ed1 : IntKind.i64.wrap (yd : Int) = (yd : Int) := by rw [IntKind.wrap_i64]; omega
      have ed2 : IntKind.i64.wrap ((d : Int) + (yd : Int)) = (dd : Int) := by rw [IntKind.wrap_i64]; omega
      have hddb : dd ≤ 127 := by omega
      have Hdd := hid hdd
      clear hdd
      obtain ⟨X0, W, hT, hI⟩ := class_mk (fun w' => Drew wa w')
      have H0 : Hid (∃ y, wa.drew = W y) := hid (hI _ ⟨1, rfl⟩)
      have hne : Nonempty X0 := ⟨H0.out.choose⟩
      have HTT := hid hT
      have b3 : ∀ z, (W z).cell? ⟨p, 3, none⟩ = some (.int .u64 (ck : Int)) := fun y => by obtain ⟨m, e⟩ := hT y; rw [e]; exact a3
      have b4 : ∀ z, (W z).cell? ⟨p, 4, none⟩ = some (.int .i64 0) := fun y => by obtain ⟨m, e⟩ := hT y; rw [e]; exact a4
      have bz : ∀ z, (W z).frozen? ⟨p, 4, none⟩ = false := fun y => by obtain ⟨m, e⟩ := hT y; rw [e]; exact az4
      have bd : ∀ z, (W z).cell? ⟨gt, e * 12 + 2, none⟩ = some (.int .u8 (yd : Int)) := fun y => by obtain ⟨m, e⟩ := hT y; rw [e]; exact kd
      clear hT hI
      refine wp_region_class_tailT W 9 (by kernel_rfl) (by kernel_rfl) (by kernel_rfl) H0.out ?_
      dsimp only [List.take, List.drop]
      repeat (go_big_quiet_step ((go_at_call 153; with_reducible exact Calls.class_same (HLd'.out _))))
      refine wpQuiet_nil ?_
      intro z
      have HD := hid (HTT.out z)
      have HB := hid ((HTT.out z).below wa.heap.size)
      have b3z := b3 z
      have b4z := b4 z
      have bzz := bz z
      have bdz := bd z
      generalize W z = wb at HD HB b3z b4z bzz bdz ⊢
      clear H0 HTT b3 b4 bz bd
      have Hb := hid (H9'.out.below HB.out)
      have Hc := hid (Hb.out.set 4 (.int .i64 (dd : Int)))
      clear a0 az0 a1 az1 a2 az2 a3 az3 a4 az4
      go_upto_region 13 with fail
      (try simp only [ed2])
      generalize hw3 : wb.setCell _ _ = wc at Hc ⊢
      clear hw3 Hb H9' HB HD b3z b4z bzz bdz kd ed1 ed2
      have k0 := (HK.out wc Hc.out.2.1).2.1
      have a0 : wc.cell? ⟨p, 0, none⟩ = some (.bool false) := Hc.out.1.cell 0
      have az0 : wc.frozen? ⟨p, 0, none⟩ = false := Hc.out.1.frozen 0
      have a1 : wc.cell? ⟨p, 1, none⟩ = some (.int .u64 0) := Hc.out.1.cell 1
      have az1 : wc.frozen? ⟨p, 1, none⟩ = false := Hc.out.1.frozen 1
      have a2 : wc.cell? ⟨p, 2, none⟩ = some (.int .u64 (mx : Int)) := Hc.out.1.cell 2
      have az2 : wc.frozen? ⟨p, 2, none⟩ = false := Hc.out.1.frozen 2
      have a3 : wc.cell? ⟨p, 3, none⟩ = some (.int .u64 (ck : Int)) := Hc.out.1.cell 3
      have az3 : wc.frozen? ⟨p, 3, none⟩ = false := Hc.out.1.frozen 3
      have a4 : wc.cell? ⟨p, 4, none⟩ = some (.int .i64 (dd : Int)) := Hc.out.1.cell 4
      have az4 : wc.frozen? ⟨p, 4, none⟩ = false := Hc.out.1.frozen 4
      obtain ⟨d2, hd2⟩ : ∃ q, dd + 1 = q := ⟨_, rfl⟩
      have ed : IntKind.i64.wrap ((dd : Int) + 1) = (d2 : Int) := by rw [IntKind.wrap_i64]; omega
      have ede : (dd : Int) + 1 = (d2 : Int) := by omega
      have Hd2 := hid hd2
      clear hd2
      have Hd := hid (Hc.out.set 4 (.int .i64 (d2 : Int)))
      go_upto_region 15 with fail
      (try simp only [ed, ede])
      generalize hw3 : wc.setCell _ _ = we at Hd ⊢
      clear hw3 ed ede
      clear a0 az0 a1 az1 a2 az2 a3 az3 a4 az4
      clear Hc k0
      have a0 : we.cell? ⟨p, 0, none⟩ = some (.bool false) := Hd.out.1.cell 0
      have az0 : we.frozen? ⟨p, 0, none⟩ = false := Hd.out.1.frozen 0
      have a1 : we.cell? ⟨p, 1, none⟩ = some (.int .u64 0) := Hd.out.1.cell 1
      have az1 : we.frozen? ⟨p, 1, none⟩ = false := Hd.out.1.frozen 1
      have a2 : we.cell? ⟨p, 2, none⟩ = some (.int .u64 (mx : Int)) := Hd.out.1.cell 2
      have az2 : we.frozen? ⟨p, 2, none⟩ = false := Hd.out.1.frozen 2
      have a3 : we.cell? ⟨p, 3, none⟩ = some (.int .u64 (ck : Int)) := Hd.out.1.cell 3
      have az3 : we.frozen? ⟨p, 3, none⟩ = false := Hd.out.1.frozen 3
      have a4 : we.cell? ⟨p, 4, none⟩ = some (.int .i64 (d2 : Int)) := Hd.out.1.cell 4
      have az4 : we.frozen? ⟨p, 4, none⟩ = false := Hd.out.1.frozen 4
      have H9 : Hid (MLo w p (msC ⟨false, 0, mx, ck, d2⟩) (((((we.setCell ⟨p, 0, none⟩ (.bool false)).setCell ⟨p, 1, none⟩ (.int .u64 0)).setCell ⟨p, 2, none⟩ (.int .u64 (mx : Int))).setCell ⟨p, 3, none⟩ (.int .u64 (ck : Int))).setCell ⟨p, 4, none⟩ (.int .i64 (d2 : Int)))) := hid (((((Hd.out.set 0 (.bool false)).set 1 (.int .u64 0)).set 2 (.int .u64 (mx : Int))).set 3 (.int .u64 (ck : Int))).set 4 (.int .i64 (d2 : Int)))
      go_wp2_with fail
      refine bodyPost_ret (results_cell_tmp (cs := msC ⟨false, 0, mx, ck, d2⟩) Tryz.results123 rfl agg_ms H9.out.1) rfl ⟨⟨⟨false, 0, mx, ck, d2⟩, true, rfl, fun hok => ?_, fun hok => ?_⟩, H9.out.2.1⟩
      · refine ⟨?_, ?_, hmxb, ?_, ?_, d, Hdl.out, ?_⟩
        · show false = (4 == 3 && y.fixed)
          rw [HY.out.2.2]; rfl
        · show mx = _
          rw [HSS.out.2]; exact Hmv.out
        · show 0 = if 4 = 3 then len * (slP y).1 else 0
          exact (if_neg (by decide)).symm
        · show ck = if y.kind = 1 ∨ y.kind = 2 then (mx + 31) / 32 else len
          rw [HY.out.1]; exact Hck.out
        · show d2 = d + y.depth + (if 4 = 4 then 1 else 0)
          have g1 := HY.out.2.1
          have g2 := Hdd.out
          have g3 := Hd2.out
          rw [if_pos rfl]; omega
      · cases hok
    | false =>
      have t2 := htc rfl
      clear htc hbs
      have a0 : w5.cell? ⟨p, 0, none⟩ = some (.bool false) := H7.out.1.cell 0
      have az0 : w5.frozen? ⟨p, 0, none⟩ = false := H7.out.1.frozen 0
      have a1 : w5.cell? ⟨p, 1, none⟩ = some (.int .u64 0) := H7.out.1.cell 1
      have az1 : w5.frozen? ⟨p, 1, none⟩ = false := H7.out.1.frozen 1
      have a2 : w5.cell? ⟨p, 2, none⟩ = some (.int .u64 (mx : Int)) := H7.out.1.cell 2
      have az2 : w5.frozen? ⟨p, 2, none⟩ = false := H7.out.1.frozen 2
      have a3 : w5.cell? ⟨p, 3, none⟩ = some (.int .u64 0) := H7.out.1.cell 3
      have az3 : w5.frozen? ⟨p, 3, none⟩ = false := H7.out.1.frozen 3
      have a4 : w5.cell? ⟨p, 4, none⟩ = some (.int .i64 0) := H7.out.1.cell 4
      have az4 : w5.frozen? ⟨p, 4, none⟩ = false := H7.out.1.frozen 4
      have HA := hid (ceilDivW mx 32 (by omega) (by decide) (by decide) w5)
      obtain ⟨ck, hck⟩ : ∃ q, (mx + 32 - 1) / 32 = q := ⟨_, rfl⟩
      rw [hck] at HA
      have Hck : Hid (ck = if yk = 1 ∨ yk = 2 then (mx + 31) / 32 else len) := hid (by rw [if_pos Hbs.out]; omega)
      have hckb : ck < 18446744073709551616 := by omega
      clear hck
      go_wp2_with fail
      refine HA.out.mono ?_
      rintro e0 w9 ⟨rfl, rfl⟩
      clear HA
      have H9' := hid (H7.out.set 3 (.int .u64 (ck : Int)))
      go_upto_region 12 with fail
      generalize hw3 : w9.setCell _ _ = wa at H9' ⊢
      clear hw3
      clear a0 az0 a1 az1 a2 az2 a3 az3 a4 az4
      clear H7 kk
      have kd := (HK.out wa H9'.out.2.1).2.2.2.2.2.2
      have a0 : wa.cell? ⟨p, 0, none⟩ = some (.bool false) := H9'.out.1.cell 0
      have az0 : wa.frozen? ⟨p, 0, none⟩ = false := H9'.out.1.frozen 0
      have a1 : wa.cell? ⟨p, 1, none⟩ = some (.int .u64 0) := H9'.out.1.cell 1
      have az1 : wa.frozen? ⟨p, 1, none⟩ = false := H9'.out.1.frozen 1
      have a2 : wa.cell? ⟨p, 2, none⟩ = some (.int .u64 (mx : Int)) := H9'.out.1.cell 2
      have az2 : wa.frozen? ⟨p, 2, none⟩ = false := H9'.out.1.frozen 2
      have a3 : wa.cell? ⟨p, 3, none⟩ = some (.int .u64 (ck : Int)) := H9'.out.1.cell 3
      have az3 : wa.frozen? ⟨p, 3, none⟩ = false := H9'.out.1.frozen 3
      have a4 : wa.cell? ⟨p, 4, none⟩ = some (.int .i64 0) := H9'.out.1.cell 4
      have az4 : wa.frozen? ⟨p, 4, none⟩ = false := H9'.out.1.frozen 4
      have HL := hid (ceilLog2W ck hckb)
      obtain ⟨d, hd, hdl, HLd⟩ : ∃ d : Nat, d ≤ 64 ∧ IsL2 ck d ∧ ∀ wz, Calls Tryz.prog 153 #[.int .u64 (ck : Int)] wz fun e w' => e = .returned (.int .i64 (d : Int)) ∧ w' = wz := by
        exact ceilLog2D ck hckb
      have HLd' := hid HLd
      have Hdl := hid hdl
      clear HL HLd hdl
      obtain ⟨dd, hdd⟩ : ∃ q, d + yd = q := ⟨_, rfl⟩
      have ed1 : IntKind.i64.wrap (yd : Int) = (yd : Int) := by rw [IntKind.wrap_i64]; omega
      have ed2 : IntKind.i64.wrap ((d : Int) + (yd : Int)) = (dd : Int) := by rw [IntKind.wrap_i64]; omega
      have hddb : dd ≤ 127 := by omega
      have Hdd := hid hdd
      clear hdd
      obtain ⟨X0, W, hT, hI⟩ := class_mk (fun w' => Drew wa w')
      have H0 : Hid (∃ y, wa.drew = W y) := hid (hI _ ⟨1, rfl⟩)
      have hne : Nonempty X0 := ⟨H0.out.choose⟩
      have HTT := hid hT
      have b3 : ∀ z, (W z).cell? ⟨p, 3, none⟩ = some (.int .u64 (ck : Int)) := fun y => by obtain ⟨m, e⟩ := hT y; rw [e]; exact a3
      have b4 : ∀ z, (W z).cell? ⟨p, 4, none⟩ = some (.int .i64 0) := fun y => by obtain ⟨m, e⟩ := hT y; rw [e]; exact a4
      have bz : ∀ z, (W z).frozen? ⟨p, 4, none⟩ = false := fun y => by obtain ⟨m, e⟩ := hT y; rw [e]; exact az4
      have bd : ∀ z, (W z).cell? ⟨gt, e * 12 + 2, none⟩ = some (.int .u8 (yd : Int)) := fun y => by obtain ⟨m, e⟩ := hT y; rw [e]; exact kd
      clear hT hI
      refine wp_region_class_tailT W 9 (by kernel_rfl) (by kernel_rfl) (by kernel_rfl) H0.out ?_
      dsimp only [List.take, List.drop]
      repeat (go_big_quiet_step ((go_at_call 153; with_reducible exact Calls.class_same (HLd'.out _))))
      refine wpQuiet_nil ?_
      intro z
      have HD := hid (HTT.out z)
      have HB := hid ((HTT.out z).below wa.heap.size)
      have b3z := b3 z
      have b4z := b4 z
      have bzz := bz z
      have bdz := bd z
      generalize W z = wb at HD HB b3z b4z bzz bdz ⊢
      clear H0 HTT b3 b4 bz bd
      have Hb := hid (H9'.out.below HB.out)
      have Hc := hid (Hb.out.set 4 (.int .i64 (dd : Int)))
      clear a0 az0 a1 az1 a2 az2 a3 az3 a4 az4
      go_upto_region 13 with fail
      (try simp only [ed2])
      generalize hw3 : wb.setCell _ _ = wc at Hc ⊢
      clear hw3 Hb H9' HB HD b3z b4z bzz bdz kd ed1 ed2
      have k0 := (HK.out wc Hc.out.2.1).2.1
      have a0 : wc.cell? ⟨p, 0, none⟩ = some (.bool false) := Hc.out.1.cell 0
      have az0 : wc.frozen? ⟨p, 0, none⟩ = false := Hc.out.1.frozen 0
      have a1 : wc.cell? ⟨p, 1, none⟩ = some (.int .u64 0) := Hc.out.1.cell 1
      have az1 : wc.frozen? ⟨p, 1, none⟩ = false := Hc.out.1.frozen 1
      have a2 : wc.cell? ⟨p, 2, none⟩ = some (.int .u64 (mx : Int)) := Hc.out.1.cell 2
      have az2 : wc.frozen? ⟨p, 2, none⟩ = false := Hc.out.1.frozen 2
      have a3 : wc.cell? ⟨p, 3, none⟩ = some (.int .u64 (ck : Int)) := Hc.out.1.cell 3
      have az3 : wc.frozen? ⟨p, 3, none⟩ = false := Hc.out.1.frozen 3
      have a4 : wc.cell? ⟨p, 4, none⟩ = some (.int .i64 (dd : Int)) := Hc.out.1.cell 4
      have az4 : wc.frozen? ⟨p, 4, none⟩ = false := Hc.out.1.frozen 4
      obtain ⟨d2, hd2⟩ : ∃ q, dd + 1 = q := ⟨_, rfl⟩
      have ed : IntKind.i64.wrap ((dd : Int) + 1) = (d2 : Int) := by rw [IntKind.wrap_i64]; omega
      have ede : (dd : Int) + 1 = (d2 : Int) := by omega
      have Hd2 := hid hd2
      clear hd2
      have Hd := hid (Hc.out.set 4 (.int .i64 (d2 : Int)))
      go_upto_region 15 with fail
      (try simp only [ed, ede])
      generalize hw3 : wc.setCell _ _ = we at Hd ⊢
      clear hw3 ed ede
      clear a0 az0 a1 az1 a2 az2 a3 az3 a4 az4
      clear Hc k0
      have a0 : we.cell? ⟨p, 0, none⟩ = some (.bool false) := Hd.out.1.cell 0
      have az0 : we.frozen? ⟨p, 0, none⟩ = false := Hd.out.1.frozen 0
      have a1 : we.cell? ⟨p, 1, none⟩ = some (.int .u64 0) := Hd.out.1.cell 1
      have az1 : we.frozen? ⟨p, 1, none⟩ = false := Hd.out.1.frozen 1
      have a2 : we.cell? ⟨p, 2, none⟩ = some (.int .u64 (mx : Int)) := Hd.out.1.cell 2
      have az2 : we.frozen? ⟨p, 2, none⟩ = false := Hd.out.1.frozen 2
      have a3 : we.cell? ⟨p, 3, none⟩ = some (.int .u64 (ck : Int)) := Hd.out.1.cell 3
      have az3 : we.frozen? ⟨p, 3, none⟩ = false := Hd.out.1.frozen 3
      have a4 : we.cell? ⟨p, 4, none⟩ = some (.int .i64 (d2 : Int)) := Hd.out.1.cell 4
      have az4 : we.frozen? ⟨p, 4, none⟩ = false := Hd.out.1.frozen 4
      have H9 : Hid (MLo w p (msC ⟨false, 0, mx, ck, d2⟩) (((((we.setCell ⟨p, 0, none⟩ (.bool false)).setCell ⟨p, 1, none⟩ (.int .u64 0)).setCell ⟨p, 2, none⟩ (.int .u64 (mx : Int))).setCell ⟨p, 3, none⟩ (.int .u64 (ck : Int))).setCell ⟨p, 4, none⟩ (.int .i64 (d2 : Int)))) := hid (((((Hd.out.set 0 (.bool false)).set 1 (.int .u64 0)).set 2 (.int .u64 (mx : Int))).set 3 (.int .u64 (ck : Int))).set 4 (.int .i64 (d2 : Int)))
      go_wp2_with fail
      refine bodyPost_ret (results_cell_tmp (cs := msC ⟨false, 0, mx, ck, d2⟩) Tryz.results123 rfl agg_ms H9.out.1) rfl ⟨⟨⟨false, 0, mx, ck, d2⟩, true, rfl, fun hok => ?_, fun hok => ?_⟩, H9.out.2.1⟩
      · refine ⟨?_, ?_, hmxb, ?_, ?_, d, Hdl.out, ?_⟩
        · show false = (4 == 3 && y.fixed)
          rw [HY.out.2.2]; rfl
        · show mx = _
          rw [HSS.out.2]; exact Hmv.out
        · show 0 = if 4 = 3 then len * (slP y).1 else 0
          exact (if_neg (by decide)).symm
        · show ck = if y.kind = 1 ∨ y.kind = 2 then (mx + 31) / 32 else len
          rw [HY.out.1]; exact Hck.out
        · show d2 = d + y.depth + (if 4 = 4 then 1 else 0)
          have g1 := HY.out.2.1
          have g2 := Hdd.out
          have g3 := Hd2.out
          rw [if_pos rfl]; omega
      · cases hok
  have t1 : ((yk : Int) == 1) = false := by simp; omega
  have t2 : ((yk : Int) == 2) = false := by simp; omega
  have Hbs := hid hbs
  clear hbs
  have a0 : w5.cell? ⟨p, 0, none⟩ = some (.bool false) := H7.out.1.cell 0
  have az0 : w5.frozen? ⟨p, 0, none⟩ = false := H7.out.1.frozen 0
  have a1 : w5.cell? ⟨p, 1, none⟩ = some (.int .u64 0) := H7.out.1.cell 1
  have az1 : w5.frozen? ⟨p, 1, none⟩ = false := H7.out.1.frozen 1
  have a2 : w5.cell? ⟨p, 2, none⟩ = some (.int .u64 (mx : Int)) := H7.out.1.cell 2
  have az2 : w5.frozen? ⟨p, 2, none⟩ = false := H7.out.1.frozen 2
  have a3 : w5.cell? ⟨p, 3, none⟩ = some (.int .u64 0) := H7.out.1.cell 3
  have az3 : w5.frozen? ⟨p, 3, none⟩ = false := H7.out.1.frozen 3
  have a4 : w5.cell? ⟨p, 4, none⟩ = some (.int .i64 0) := H7.out.1.cell 4
  have az4 : w5.frozen? ⟨p, 4, none⟩ = false := H7.out.1.frozen 4
  have k6 := (HK.out w5 H7.out.2.1).2.2.2.1
  obtain ⟨ck, hck⟩ : ∃ q, len = q := ⟨_, rfl⟩
  have Hck : Hid (ck = if yk = 1 ∨ yk = 2 then (mx + 31) / 32 else len) := hid (by rw [if_neg Hbs.out]; exact hck.symm)
  have hckb : ck < 18446744073709551616 := by omega
  rw [hck] at k6
  clear hck
  have H9' := hid (H7.out.set 3 (.int .u64 (ck : Int)))
  go_upto_region 12 with fail
  generalize hw3 : w5.setCell _ _ = wa at H9' ⊢
  clear hw3
  clear a0 az0 a1 az1 a2 az2 a3 az3 a4 az4
  clear H7 kk k6
  have kd := (HK.out wa H9'.out.2.1).2.2.2.2.2.2
  have a0 : wa.cell? ⟨p, 0, none⟩ = some (.bool false) := H9'.out.1.cell 0
  have az0 : wa.frozen? ⟨p, 0, none⟩ = false := H9'.out.1.frozen 0
  have a1 : wa.cell? ⟨p, 1, none⟩ = some (.int .u64 0) := H9'.out.1.cell 1
  have az1 : wa.frozen? ⟨p, 1, none⟩ = false := H9'.out.1.frozen 1
  have a2 : wa.cell? ⟨p, 2, none⟩ = some (.int .u64 (mx : Int)) := H9'.out.1.cell 2
  have az2 : wa.frozen? ⟨p, 2, none⟩ = false := H9'.out.1.frozen 2
  have a3 : wa.cell? ⟨p, 3, none⟩ = some (.int .u64 (ck : Int)) := H9'.out.1.cell 3
  have az3 : wa.frozen? ⟨p, 3, none⟩ = false := H9'.out.1.frozen 3
  have a4 : wa.cell? ⟨p, 4, none⟩ = some (.int .i64 0) := H9'.out.1.cell 4
  have az4 : wa.frozen? ⟨p, 4, none⟩ = false := H9'.out.1.frozen 4
  have HL := hid (ceilLog2W ck hckb)
  obtain ⟨d, hd, hdl, HLd⟩ : ∃ d : Nat, d ≤ 64 ∧ IsL2 ck d ∧ ∀ wz, Calls Tryz.prog 153 #[.int .u64 (ck : Int)] wz fun e w' => e = .returned (.int .i64 (d : Int)) ∧ w' = wz := by
    exact ceilLog2D ck hckb
  have HLd' := hid HLd
  have Hdl := hid hdl
  clear HL HLd hdl
  obtain ⟨dd, hdd⟩ : ∃ q, d + yd = q := ⟨_, rfl⟩
  have ed1 : IntKind.i64.wrap (yd : Int) = (yd : Int) := by rw [IntKind.wrap_i64]; omega
  have ed2 : IntKind.i64.wrap ((d : Int) + (yd : Int)) = (dd : Int) := by rw [IntKind.wrap_i64]; omega
  have hddb : dd ≤ 127 := by omega
  have Hdd := hid hdd
  clear hdd
  obtain ⟨X0, W, hT, hI⟩ := class_mk (fun w' => Drew wa w')
  have H0 : Hid (∃ y, wa.drew = W y) := hid (hI _ ⟨1, rfl⟩)
  have hne : Nonempty X0 := ⟨H0.out.choose⟩
  have HTT := hid hT
  have b3 : ∀ z, (W z).cell? ⟨p, 3, none⟩ = some (.int .u64 (ck : Int)) := fun y => by obtain ⟨m, e⟩ := hT y; rw [e]; exact a3
  have b4 : ∀ z, (W z).cell? ⟨p, 4, none⟩ = some (.int .i64 0) := fun y => by obtain ⟨m, e⟩ := hT y; rw [e]; exact a4
  have bz : ∀ z, (W z).frozen? ⟨p, 4, none⟩ = false := fun y => by obtain ⟨m, e⟩ := hT y; rw [e]; exact az4
  have bd : ∀ z, (W z).cell? ⟨gt, e * 12 + 2, none⟩ = some (.int .u8 (yd : Int)) := fun y => by obtain ⟨m, e⟩ := hT y; rw [e]; exact kd
  clear hT hI
  refine wp_region_class_tailT W 9 (by kernel_rfl) (by kernel_rfl) (by kernel_rfl) H0.out ?_
  dsimp only [List.take, List.drop]
  repeat (go_big_quiet_step ((go_at_call 153; with_reducible exact Calls.class_same (HLd'.out _))))
  refine wpQuiet_nil ?_
  intro z
  have HD := hid (HTT.out z)
  have HB := hid ((HTT.out z).below wa.heap.size)
  have b3z := b3 z
  have b4z := b4 z
  have bzz := bz z
  have bdz := bd z
  generalize W z = wb at HD HB b3z b4z bzz bdz ⊢
  clear H0 HTT b3 b4 bz bd
  have Hb := hid (H9'.out.below HB.out)
  have Hc := hid (Hb.out.set 4 (.int .i64 (dd : Int)))
  clear a0 az0 a1 az1 a2 az2 a3 az3 a4 az4
  go_upto_region 13 with fail
  (try simp only [ed2])
  generalize hw3 : wb.setCell _ _ = wc at Hc ⊢
  clear hw3 Hb H9' HB HD b3z b4z bzz bdz kd ed1 ed2
  have k0 := (HK.out wc Hc.out.2.1).2.1
  have a0 : wc.cell? ⟨p, 0, none⟩ = some (.bool false) := Hc.out.1.cell 0
  have az0 : wc.frozen? ⟨p, 0, none⟩ = false := Hc.out.1.frozen 0
  have a1 : wc.cell? ⟨p, 1, none⟩ = some (.int .u64 0) := Hc.out.1.cell 1
  have az1 : wc.frozen? ⟨p, 1, none⟩ = false := Hc.out.1.frozen 1
  have a2 : wc.cell? ⟨p, 2, none⟩ = some (.int .u64 (mx : Int)) := Hc.out.1.cell 2
  have az2 : wc.frozen? ⟨p, 2, none⟩ = false := Hc.out.1.frozen 2
  have a3 : wc.cell? ⟨p, 3, none⟩ = some (.int .u64 (ck : Int)) := Hc.out.1.cell 3
  have az3 : wc.frozen? ⟨p, 3, none⟩ = false := Hc.out.1.frozen 3
  have a4 : wc.cell? ⟨p, 4, none⟩ = some (.int .i64 (dd : Int)) := Hc.out.1.cell 4
  have az4 : wc.frozen? ⟨p, 4, none⟩ = false := Hc.out.1.frozen 4
  obtain ⟨d2, hd2⟩ : ∃ q, dd + 1 = q := ⟨_, rfl⟩
  have ed : IntKind.i64.wrap ((dd : Int) + 1) = (d2 : Int) := by rw [IntKind.wrap_i64]; omega
  have ede : (dd : Int) + 1 = (d2 : Int) := by omega
  have Hd2 := hid hd2
  clear hd2
  have Hd := hid (Hc.out.set 4 (.int .i64 (d2 : Int)))
  go_upto_region 15 with fail
  (try simp only [ed, ede])
  generalize hw3 : wc.setCell _ _ = we at Hd ⊢
  clear hw3 ed ede
  clear a0 az0 a1 az1 a2 az2 a3 az3 a4 az4
  clear Hc k0
  have a0 : we.cell? ⟨p, 0, none⟩ = some (.bool false) := Hd.out.1.cell 0
  have az0 : we.frozen? ⟨p, 0, none⟩ = false := Hd.out.1.frozen 0
  have a1 : we.cell? ⟨p, 1, none⟩ = some (.int .u64 0) := Hd.out.1.cell 1
  have az1 : we.frozen? ⟨p, 1, none⟩ = false := Hd.out.1.frozen 1
  have a2 : we.cell? ⟨p, 2, none⟩ = some (.int .u64 (mx : Int)) := Hd.out.1.cell 2
  have az2 : we.frozen? ⟨p, 2, none⟩ = false := Hd.out.1.frozen 2
  have a3 : we.cell? ⟨p, 3, none⟩ = some (.int .u64 (ck : Int)) := Hd.out.1.cell 3
  have az3 : we.frozen? ⟨p, 3, none⟩ = false := Hd.out.1.frozen 3
  have a4 : we.cell? ⟨p, 4, none⟩ = some (.int .i64 (d2 : Int)) := Hd.out.1.cell 4
  have az4 : we.frozen? ⟨p, 4, none⟩ = false := Hd.out.1.frozen 4
  have H9 : Hid (MLo w p (msC ⟨false, 0, mx, ck, d2⟩) (((((we.setCell ⟨p, 0, none⟩ (.bool false)).setCell ⟨p, 1, none⟩ (.int .u64 0)).setCell ⟨p, 2, none⟩ (.int .u64 (mx : Int))).setCell ⟨p, 3, none⟩ (.int .u64 (ck : Int))).setCell ⟨p, 4, none⟩ (.int .i64 (d2 : Int)))) := hid (((((Hd.out.set 0 (.bool false)).set 1 (.int .u64 0)).set 2 (.int .u64 (mx : Int))).set 3 (.int .u64 (ck : Int))).set 4 (.int .i64 (d2 : Int)))
  go_wp2_with fail
  refine bodyPost_ret (results_cell_tmp (cs := msC ⟨false, 0, mx, ck, d2⟩) Tryz.results123 rfl agg_ms H9.out.1) rfl ⟨⟨⟨false, 0, mx, ck, d2⟩, true, rfl, fun hok => ?_, fun hok => ?_⟩, H9.out.2.1⟩
  · refine ⟨?_, ?_, hmxb, ?_, ?_, d, Hdl.out, ?_⟩
    · show false = (4 == 3 && y.fixed)
      rw [HY.out.2.2]; rfl
    · show mx = _
      rw [HSS.out.2]; exact Hmv.out
    · show 0 = if 4 = 3 then len * (slP y).1 else 0
      exact (if_neg (by decide)).symm
    · show ck = if y.kind = 1 ∨ y.kind = 2 then (mx + 31) / 32 else len
      rw [HY.out.1]; exact Hck.out
    · show d2 = d + y.depth + (if 4 = 4 then 1 else 0)
      have g1 := HY.out.2.1
      have g2 := Hdd.out
      have g3 := Hd2.out
      rw [if_pos rfl]; omega
  · cases hok
end
end Go.Proofs.Qxb6500883aGreatDoor
