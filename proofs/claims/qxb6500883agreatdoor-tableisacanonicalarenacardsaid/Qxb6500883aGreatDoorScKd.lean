/- measureContainer. -/
import Derived.Test.Qxb6500883aGreatDoorScKc
namespace Go.Proofs.Qxb6500883aGreatDoor
open Go.RowKit
set_option linter.unusedSimpArgs false
set_option linter.unusedVariables false
theorem slice_fd {a : Option Addr} {n cp lo hi : Nat} (h1 : lo ≤ hi) (h2 : hi ≤ n) (h3 : n ≤ cp) (h4 : cp ≤ maxLen) (h5 : a = none → cp = 0) (w : World) : (Instr.sliceAt 60 (.slice a n cp) (some (.int .i32 (lo : Int))) (some (.int .i32 (hi : Int))) none).run Tryz.prog w = .ok (.slice (subA a (lo * 2) (cp == lo)) (hi - lo) (cp - lo)) w := by
  have e3 : ¬ (hi < lo) := by omega
  have e4 : (lo : Int) ≤ (hi : Int) := by omega
  have e5 : (hi : Int) ≤ (cp : Int) := by omega
  have e6 : hi ≤ cp := by omega
  have e7 : ¬ (cp < hi) := by omega
  cases a with
  | none =>
    have h0 := h5 rfl
    subst h0
    obtain rfl : hi = 0 := by omega
    obtain rfl : lo = 0 := by omega
    obtain rfl : n = 0 := by omega
    simp [Instr.sliceAt, go_sem, Instr.sliceBounds, subA]
  | some ad =>
    by_cases he : cp = lo
    · have ehl : hi = lo := by omega
      subst he
      subst ehl
      simp [Instr.sliceAt, go_sem, Instr.sliceBounds, subA]
    · have e8 : ¬ (cp - lo = 0) := by omega
      simp [Instr.sliceAt, go_sem, Instr.sliceBounds, h1, e3, e4, e5, e6, e7, e8, he, subA]
/-- A container's fields in the table. -/
def flT (T : TS) (x : TR) : List FD := (T.flds.drop x.lo).take (x.hi - x.lo)
/-- Sums over the parts. -/
def cnF (ps : List TR) : Bool := ps.all (·.fixed)
def cnMn (ps : List TR) : Nat := (ps.map fun x => (slP x).1).sum
def cnMx (ps : List TR) : Nat := (ps.map fun x => (slP x).2).sum
def cnD (ps : List TR) : Nat := ps.foldl (fun d x => max d x.depth) 0
theorem cnF_snoc (ps : List TR) (x : TR) : cnF (ps ++ [x]) = (cnF ps && x.fixed) := by unfold cnF; simp
theorem cnMn_snoc (ps : List TR) (x : TR) : cnMn (ps ++ [x]) = cnMn ps + (slP x).1 := by unfold cnMn; simp
theorem cnMx_snoc (ps : List TR) (x : TR) : cnMx (ps ++ [x]) = cnMx ps + (slP x).2 := by unfold cnMx; simp
theorem cnD_snoc (ps : List TR) (x : TR) : cnD (ps ++ [x]) = max (cnD ps) x.depth := by unfold cnD; simp
theorem cnD_le : ∀ (ps : List TR) (a : Nat), a ≤ 63 → (∀ x ∈ ps, TRb x) → ps.foldl (fun d x => max d x.depth) a ≤ 63
  | [], a, ha, _ => ha
  | x :: l, a, ha, h => cnD_le l _ (by have := (h x (by simp)).depth; show max a x.depth ≤ 63; omega) (fun y hy => h y (by simp [hy]))
theorem cn_bound : ∀ {ps : List TR}, (∀ x ∈ ps, TRb x) → cnMn ps ≤ cnMx ps ∧ cnMx ps ≤ ps.length * 4294967299
  | [], _ => ⟨Nat.le_refl _, Nat.le_refl _⟩
  | x :: l, h => by
    obtain ⟨h1, h2⟩ := cn_bound (ps := l) (fun y hy => h y (by simp [hy]))
    obtain ⟨h4, h5⟩ := slP_le (h x (by simp))
    have e1 : cnMn (x :: l) = (slP x).1 + cnMn l := by unfold cnMn; simp
    have e2 : cnMx (x :: l) = (slP x).2 + cnMx l := by unfold cnMx; simp
    rw [e1, e2, List.length_cons]
    omega
structure MsCon (ps : List TR) (m : MS) : Prop where
  fx : m.fixed = cnF ps
  mn : m.mn = cnMn ps
  mx : m.mx = cnMx ps
  le : m.mx ≤ 4294967295
  ck : m.chunks = ps.length
  dp : ∃ d, IsL2 m.chunks d ∧ m.depth = cnD ps + d
theorem MLo.upd {w : World} {p q : Nat} {cs : List Value} {wz wy : World} (h : MLo w p cs wz) (hu : Upd q wz wy) (hne : p ≠ q) (hq : w.heap.size ≤ q) : MLo w p cs wy := ⟨h.1.of (hu.block p h.1.lt hne), Below.updN h.2.1 hu hq h.2.1.size, h.2.2⟩
section
variable {τ τ' : Rl} {w w' w0 w1 w2 : World} {tB : Nat} {V V' : TV} {T T' : TS}
set_option maxRecDepth 100000 in
set_option maxHeartbeats 4000000 in
theorem measureContainerW (h : TbM τ w tB V T) {i : Nat} {x : TR} (hx : T.types[i]? = some x) (hlo : x.lo < x.hi) (hhi : x.hi ≤ T.flds.length) (hfl : T.flds.length ≤ 200000) {ps : List TR} (hps : (flT T x).map (fun f => T.types[f.typ]?) = ps.map some) (hbp : ∀ y ∈ ps, TRb y) {gt : Nat} {q : Nat} (hv : V.t = .slice (some ⟨gt, 0, none⟩) T.types.length q) : Calls Tryz.prog 125 #[.pointer (some ⟨tB, 0, none⟩), .pointer (some ⟨gt, i * 12, none⟩)] w fun ee w' => MsQ (MsCon ps) ee ∧ Below w.heap.size w w' := by
  obtain ⟨p, hp⟩ : ∃ p, w.heap.size = p := ⟨_, rfl⟩
  have H1 := hid (MLo.start hp)
  obtain ⟨gt', q', hv', hgl, _, hc⟩ := h.ty hx
  rw [hv] at hv'
  injection hv' with e1 e2 e3
  injection e1 with e1
  injection e1 with e1
  subst e1
  obtain ⟨nt, hnt⟩ : ∃ n, T.types.length = n := ⟨_, rfl⟩
  rw [hnt] at hv
  obtain ⟨nF, hnF⟩ : ∃ m, T.flds.length = m := ⟨_, rfl⟩
  obtain ⟨aF, qF, hUF⟩ := h.f.shape
  have hcap := h.f
  rw [hUF] at hcap
  have hcq := hcap.cap
  rw [hnF] at hUF hcq hhi hfl
  obtain ⟨y0, hy0⟩ : ∃ y0, T.flds[x.lo]? = some y0 := ⟨_, List.getElem?_eq_getElem (by rw [hnF]; omega)⟩
  obtain ⟨gf, egf⟩ : ∃ gf, aF = some ⟨gf, 0, none⟩ := by
    obtain ⟨gf, q', hv, _⟩ := h.f.get (by decide) (fun _ => rfl) hy0
    rw [hUF] at hv
    injection hv with e1 e2 e3
    exact ⟨gf, e1⟩
  subst egf
  obtain ⟨lo, hlo1⟩ : ∃ a, x.lo = a := ⟨_, rfl⟩
  obtain ⟨hi, hhi1⟩ : ∃ a, x.hi = a := ⟨_, rfl⟩
  obtain ⟨m, hm⟩ : ∃ m, hi - lo = m := ⟨_, rfl⟩
  obtain ⟨fo, hfo⟩ : ∃ a, lo * 2 = a := ⟨_, rfl⟩
  have hpl : ps.length = m := by
    have := congrArg List.length hps
    rw [List.length_map, List.length_map] at this
    unfold flT at this
    rw [List.length_take, List.length_drop, hnF, hlo1, hhi1] at this
    omega
  have hmb : m ≤ 200000 := by omega
  have HFd : Hid (∀ (j : Nat) (y : TR), ps[j]? = some y → ∃ t : Nat, T.types[t]? = some y ∧ ∀ wz, Below w.heap.size w wz → ∃ nm, wz.cell? ⟨gf, fo + j * 2, none⟩ = some (.string nm) ∧ wz.cell? ⟨gf, fo + j * 2 + 1, none⟩ = some (.int .i32 (t : Int))) := hid (fun j y hj => by
    have h1 : (ps.map some)[j]? = some (some y) := by rw [List.getElem?_map, hj]; rfl
    rw [← hps, List.getElem?_map] at h1
    cases hf : (flT T x)[j]? with
    | none => rw [hf] at h1; cases h1
    | some f =>
      rw [hf] at h1
      simp at h1
      refine ⟨f.typ, h1, fun wz hz => ⟨f.name, ?_⟩⟩
      have hj2 := (List.getElem?_eq_some_iff.1 hf).1
      unfold flT at hf hj2
      rw [List.length_take, List.length_drop, hnF] at hj2
      rw [List.getElem?_take, if_pos (by omega), List.getElem?_drop] at hf
      obtain ⟨gf', q', hv, hlt', hc'⟩ := (h.below hz).f.get (by decide) (fun _ => rfl) hf
      rw [hUF] at hv
      injection hv with e1 e2 e3
      injection e1 with e1
      injection e1 with e1
      subst e1
      rw [hlo1] at hc'
      refine ⟨?_, ?_⟩
      · have := hc' 0 (by decide)
        rw [show (lo + j) * rtFd.n + 0 = fo + j * 2 by show (lo + j) * 2 + 0 = _; omega] at this
        exact this
      · have := hc' 1 (by decide)
        rw [show (lo + j) * rtFd.n + 1 = fo + j * 2 + 1 by show (lo + j) * 2 + 1 = _; omega] at this
        exact this)
  have hsl := slice_fd (a := some ⟨gf, 0, none⟩) (n := nF) (cp := qF) (lo := lo) (hi := hi) (by omega) (by omega) hcq.2 hcq.1 (fun h => by cases h)
  have hax : subA (some ⟨gf, 0, none⟩) (lo * 2) (qF == lo) = some ⟨gf, fo, none⟩ := by
    have hne : (qF == lo) = false := by rw [beq_eq_false_iff_ne]; have := hcq.2; omega
    rw [hfo]
    unfold subA
    rw [hne]
    simp [Addr.add]
    intro h0
    exact h0.symm
  obtain ⟨qx, hqx⟩ : ∃ qx, qF - lo = qx := ⟨_, rfl⟩
  rw [hax, hm, hqx] at hsl
  have HK : Hid (∀ wz, Below w.heap.size w wz → wz.cell? ⟨tB, 0, none⟩ = some (.slice (some ⟨gt, 0, none⟩) nt q) ∧ wz.cell? ⟨tB, 1, none⟩ = some (.slice (some ⟨gf, 0, none⟩) nF qF) ∧ wz.cell? ⟨gt, i * 12 + 4, none⟩ = some (.int .i32 (lo : Int)) ∧ wz.cell? ⟨gt, i * 12 + 5, none⟩ = some (.int .i32 (hi : Int))) := hid (fun wz hz => by
    have kc : ∀ j v, w.cell? ⟨gt, j, none⟩ = some v → wz.cell? ⟨gt, j, none⟩ = some v := fun j v hh => by rw [keepCell _ (hz.block gt hgl)]; exact hh
    refine ⟨by rw [← hv]; exact (h.below hz).b.cell 0, by rw [← hUF]; exact (h.below hz).b.cell 1, kc _ _ ?_, kc _ _ ?_⟩
    · have := hc 4 (by decide); rw [show (trC x)[4]? = some (.int .i32 (x.lo : Int)) from rfl, hlo1] at this; exact this
    · have := hc 5 (by decide); rw [show (trC x)[5]? = some (.int .i32 (x.hi : Int)) from rfl, hhi1] at this; exact this)
  have HT := hid (And.intro h hnt)
  have Hbp := hid hbp
  have Hpl := hid hpl
  have Hv := hid hv
  have Hgl := hid hgl
  clear h hx hlo hhi hfl hps hbp hv hc hgl hUF hcap hcq hy0 hlo1 hhi1 hax hqx hm hfo hnF hnt hpl
  go_enter Tryz.func125, Tryz.ntmps125
  go_upto_region 1 with fail
  (try simp only [hp])
  generalize w.alloc _ = w1 at H1 ⊢
  clear hp
  have k1 := (HK.out w1 H1.out.2.1).2.1
  have k4 := (HK.out w1 H1.out.2.1).2.2.1
  have k5 := (HK.out w1 H1.out.2.1).2.2.2
  obtain ⟨X0, W, hT, hI⟩ := class_mk (fun w' => Drew w1 w')
  have H0 : Hid (∃ y, w1.drew = W y) := hid (hI _ ⟨1, rfl⟩)
  have hne : Nonempty X0 := ⟨H0.out.choose⟩
  have HTT := hid hT
  have b1 : ∀ z, (W z).cell? ⟨tB, 1, none⟩ = some (.slice (some ⟨gf, 0, none⟩) nF qF) := fun y => by obtain ⟨m, e⟩ := hT y; rw [e]; exact k1
  have b4 : ∀ z, (W z).cell? ⟨gt, i * 12 + 4, none⟩ = some (.int .i32 (lo : Int)) := fun y => by obtain ⟨m, e⟩ := hT y; rw [e]; exact k4
  have b5 : ∀ z, (W z).cell? ⟨gt, i * 12 + 5, none⟩ = some (.int .i32 (hi : Int)) := fun y => by obtain ⟨m, e⟩ := hT y; rw [e]; exact k5
  clear hT hI
  refine wp_region_class W (by kernel_rfl) (by kernel_rfl) H0.out ?_
  repeat (go_big_quiet_step (fail))
  refine wpQuiet_nil ?_
  intro z
  have HD := hid (HTT.out z)
  have HB := hid ((HTT.out z).below w1.heap.size)
  have b1z := b1 z
  have b4z := b4 z
  have b5z := b5 z
  generalize W z = w2 at HD HB b1z b4z b5z ⊢
  clear H0 HTT b1 b4 b5
  have H2 := hid (H1.out.below HB.out)
  clear H1 HB HD k1 k4 k5 b1z b4z b5z hsl
  have a0 : w2.cell? ⟨p, 0, none⟩ = some (.bool false) := H2.out.1.cell 0
  have az0 : w2.frozen? ⟨p, 0, none⟩ = false := H2.out.1.frozen 0
  have a1 : w2.cell? ⟨p, 1, none⟩ = some (.int .u64 0) := H2.out.1.cell 1
  have az1 : w2.frozen? ⟨p, 1, none⟩ = false := H2.out.1.frozen 1
  have a2 : w2.cell? ⟨p, 2, none⟩ = some (.int .u64 0) := H2.out.1.cell 2
  have az2 : w2.frozen? ⟨p, 2, none⟩ = false := H2.out.1.frozen 2
  have a3 : w2.cell? ⟨p, 3, none⟩ = some (.int .u64 0) := H2.out.1.cell 3
  have az3 : w2.frozen? ⟨p, 3, none⟩ = false := H2.out.1.frozen 3
  have a4 : w2.cell? ⟨p, 4, none⟩ = some (.int .i64 0) := H2.out.1.cell 4
  have az4 : w2.frozen? ⟨p, 4, none⟩ = false := H2.out.1.frozen 4
  have H3 := hid (H2.out.set 0 (.bool true))
  go_upto_region 4 with fail
  generalize hw3 : w2.setCell _ _ = w3 at H3 ⊢
  clear hw3 H2
  clear a0 az0 a1 az1 a2 az2 a3 az3 a4 az4
  go_loopw [28] (fun t wr => ∃ (j : Nat), t = .int .i64 (j : Int) ∧ j ≤ m ∧ Hid (MLo w p [.bool (cnF (ps.take j)), .int .u64 (cnMn (ps.take j) : Int), .int .u64 (cnMx (ps.take j) : Int), .int .u64 0, .int .i64 (cnD (ps.take j) : Int)] wr)) (fun t _ => m - (intOf t).toNat)
  case atStart => exact ⟨0, rfl, Nat.zero_le _, hid H3.out⟩
  case round =>
  obtain ⟨j, rfl, hj, HI⟩ := hrel
  clear H3
  by_cases hin : j < m
  rotate_left
  · have d1 : decide ((j : Int) < (m : Int)) = false := decide_eq_false (by omega)
    have htk : ps.take j = ps := List.take_of_length_le (by rw [Hpl.out]; omega)
    rw [htk] at HI
    have hbd := cn_bound Hbp.out
    have hbd2 : cnD ps ≤ 63 := cnD_le ps 0 (by decide) Hbp.out
    rw [Hpl.out] at hbd
    obtain ⟨F0, hF0⟩ : ∃ a, cnF ps = a := ⟨_, rfl⟩
    obtain ⟨M0, hM0⟩ : ∃ a, cnMn ps = a := ⟨_, rfl⟩
    obtain ⟨X1, hX0⟩ : ∃ a, cnMx ps = a := ⟨_, rfl⟩
    obtain ⟨D0, hD0⟩ : ∃ a, cnD ps = a := ⟨_, rfl⟩
    rw [hF0, hM0, hX0, hD0] at HI
    rw [hM0, hX0] at hbd
    rw [hD0] at hbd2
    have HE := hid (And.intro hF0 (And.intro hM0 (And.intro hX0 hD0)))
    clear hF0 hM0 hX0 hD0 htk HK HFd HT Hv Hgl
    go_upto_region 13 with fail
    have a0 : wr.cell? ⟨p, 0, none⟩ = some (.bool F0) := HI.out.1.cell 0
    have az0 : wr.frozen? ⟨p, 0, none⟩ = false := HI.out.1.frozen 0
    have a1 : wr.cell? ⟨p, 1, none⟩ = some (.int .u64 (M0 : Int)) := HI.out.1.cell 1
    have az1 : wr.frozen? ⟨p, 1, none⟩ = false := HI.out.1.frozen 1
    have a2 : wr.cell? ⟨p, 2, none⟩ = some (.int .u64 (X1 : Int)) := HI.out.1.cell 2
    have az2 : wr.frozen? ⟨p, 2, none⟩ = false := HI.out.1.frozen 2
    have a3 : wr.cell? ⟨p, 3, none⟩ = some (.int .u64 0) := HI.out.1.cell 3
    have az3 : wr.frozen? ⟨p, 3, none⟩ = false := HI.out.1.frozen 3
    have a4 : wr.cell? ⟨p, 4, none⟩ = some (.int .i64 (D0 : Int)) := HI.out.1.cell 4
    have az4 : wr.frozen? ⟨p, 4, none⟩ = false := HI.out.1.frozen 4
    by_cases hbig : 4294967295 < X1
    · have d2 : decide ((X1 : Int) > 4294967295) = true := decide_eq_true (by omega)
      have d2n : decide (X1 > 4294967295) = true := decide_eq_true hbig
      have d2m : decide (4294967295 < X1) = true := decide_eq_true hbig
      have H9 : Hid (MLo w p (msC ⟨F0, M0, X1, 0, D0⟩) (((((wr.setCell ⟨p, 0, none⟩ (.bool F0)).setCell ⟨p, 1, none⟩ (.int .u64 (M0 : Int))).setCell ⟨p, 2, none⟩ (.int .u64 (X1 : Int))).setCell ⟨p, 3, none⟩ (.int .u64 0)).setCell ⟨p, 4, none⟩ (.int .i64 (D0 : Int)))) := hid (((((HI.out.set 0 (.bool F0)).set 1 (.int .u64 (M0 : Int))).set 2 (.int .u64 (X1 : Int))).set 3 (.int .u64 0)).set 4 (.int .i64 (D0 : Int)))
      go_wp2_with fail
      refine bodyPost_ret (results_cell_tmp (cs := msC ⟨F0, M0, X1, 0, D0⟩) Tryz.results125 rfl agg_ms H9.out.1) rfl ⟨⟨⟨F0, M0, X1, 0, D0⟩, false, rfl, fun hok => ?_, fun hok => ?_⟩, H9.out.2.1⟩
      · cases hok
      · intro m' hm
        have h1 := hm.mx
        have h2 := hm.le
        rw [HE.out.2.2.1] at h1
        omega
    have d2 : decide ((X1 : Int) > 4294967295) = false := decide_eq_false (by omega)
    have d2n : decide (X1 > 4294967295) = false := decide_eq_false hbig
    have d2m : decide (4294967295 < X1) = false := decide_eq_false hbig
    have ec : IntKind.u64.wrap (m : Int) = (m : Int) := by rw [IntKind.wrap_u64]; omega
    have H5 := hid (HI.out.set 3 (.int .u64 (m : Int)))
    go_upto_region 16 with fail
    (try simp only [ec])
    generalize hw3 : wr.setCell _ _ = w5 at H5 ⊢
    clear hw3 HI d2 d2n d2m ec
    clear a0 az0 a1 az1 a2 az2 a3 az3 a4 az4
    have a0 : w5.cell? ⟨p, 0, none⟩ = some (.bool F0) := H5.out.1.cell 0
    have az0 : w5.frozen? ⟨p, 0, none⟩ = false := H5.out.1.frozen 0
    have a1 : w5.cell? ⟨p, 1, none⟩ = some (.int .u64 (M0 : Int)) := H5.out.1.cell 1
    have az1 : w5.frozen? ⟨p, 1, none⟩ = false := H5.out.1.frozen 1
    have a2 : w5.cell? ⟨p, 2, none⟩ = some (.int .u64 (X1 : Int)) := H5.out.1.cell 2
    have az2 : w5.frozen? ⟨p, 2, none⟩ = false := H5.out.1.frozen 2
    have a3 : w5.cell? ⟨p, 3, none⟩ = some (.int .u64 (m : Int)) := H5.out.1.cell 3
    have az3 : w5.frozen? ⟨p, 3, none⟩ = false := H5.out.1.frozen 3
    have a4 : w5.cell? ⟨p, 4, none⟩ = some (.int .i64 (D0 : Int)) := H5.out.1.cell 4
    have az4 : w5.frozen? ⟨p, 4, none⟩ = false := H5.out.1.frozen 4
    obtain ⟨d, hd, hdl, HLd⟩ := ceilLog2D m (by omega)
    have HLd' := hid HLd
    have Hdl := hid hdl
    clear HLd hdl
    obtain ⟨dd, hdd⟩ : ∃ q, D0 + d = q := ⟨_, rfl⟩
    have ed2 : IntKind.i64.wrap ((D0 : Int) + (d : Int)) = (dd : Int) := by rw [IntKind.wrap_i64]; omega
    have ed3 : (D0 : Int) + (d : Int) = (dd : Int) := by omega
    have hddb : dd ≤ 127 := by omega
    have Hdd := hid hdd
    clear hdd
    obtain ⟨X0, W, hT, hI⟩ := class_mk (fun w' => Drew w5 w')
    have H0 : Hid (∃ y, w5.drew = W y) := hid (hI _ ⟨1, rfl⟩)
    have hne : Nonempty X0 := ⟨H0.out.choose⟩
    have HTT := hid hT
    have b3 : ∀ z, (W z).cell? ⟨p, 3, none⟩ = some (.int .u64 (m : Int)) := fun y => by obtain ⟨m, e⟩ := hT y; rw [e]; exact a3
    have b4 : ∀ z, (W z).cell? ⟨p, 4, none⟩ = some (.int .i64 (D0 : Int)) := fun y => by obtain ⟨m, e⟩ := hT y; rw [e]; exact a4
    have bz : ∀ z, (W z).frozen? ⟨p, 4, none⟩ = false := fun y => by obtain ⟨m, e⟩ := hT y; rw [e]; exact az4
    clear hT hI
    refine wp_region_class_tailT W 6 (by kernel_rfl) (by kernel_rfl) (by kernel_rfl) H0.out ?_
    dsimp only [List.take, List.drop]
    repeat (go_big_quiet_step ((go_at_call 153; with_reducible exact Calls.class_same (HLd'.out _))))
    refine wpQuiet_nil ?_
    intro z
    have HD := hid (HTT.out z)
    have HB := hid ((HTT.out z).below w5.heap.size)
    have b3z := b3 z
    have b4z := b4 z
    have bzz := bz z
    generalize W z = w6 at HD HB b3z b4z bzz ⊢
    clear H0 HTT b3 b4 bz
    have Hb := hid (H5.out.below HB.out)
    have Hc := hid (Hb.out.set 4 (.int .i64 (dd : Int)))
    clear a0 az0 a1 az1 a2 az2 a3 az3 a4 az4
    go_upto_region 17 with fail
    (try simp only [ed2, ed3])
    generalize hw3 : w6.setCell _ _ = wc at Hc ⊢
    clear hw3 Hb H5 HB HD b3z b4z bzz ed2 ed3
    have a0 : wc.cell? ⟨p, 0, none⟩ = some (.bool F0) := Hc.out.1.cell 0
    have az0 : wc.frozen? ⟨p, 0, none⟩ = false := Hc.out.1.frozen 0
    have a1 : wc.cell? ⟨p, 1, none⟩ = some (.int .u64 (M0 : Int)) := Hc.out.1.cell 1
    have az1 : wc.frozen? ⟨p, 1, none⟩ = false := Hc.out.1.frozen 1
    have a2 : wc.cell? ⟨p, 2, none⟩ = some (.int .u64 (X1 : Int)) := Hc.out.1.cell 2
    have az2 : wc.frozen? ⟨p, 2, none⟩ = false := Hc.out.1.frozen 2
    have a3 : wc.cell? ⟨p, 3, none⟩ = some (.int .u64 (m : Int)) := Hc.out.1.cell 3
    have az3 : wc.frozen? ⟨p, 3, none⟩ = false := Hc.out.1.frozen 3
    have a4 : wc.cell? ⟨p, 4, none⟩ = some (.int .i64 (dd : Int)) := Hc.out.1.cell 4
    have az4 : wc.frozen? ⟨p, 4, none⟩ = false := Hc.out.1.frozen 4
    have H9 : Hid (MLo w p (msC ⟨F0, M0, X1, m, dd⟩) (((((wc.setCell ⟨p, 0, none⟩ (.bool F0)).setCell ⟨p, 1, none⟩ (.int .u64 (M0 : Int))).setCell ⟨p, 2, none⟩ (.int .u64 (X1 : Int))).setCell ⟨p, 3, none⟩ (.int .u64 (m : Int))).setCell ⟨p, 4, none⟩ (.int .i64 (dd : Int)))) := hid (((((Hc.out.set 0 (.bool F0)).set 1 (.int .u64 (M0 : Int))).set 2 (.int .u64 (X1 : Int))).set 3 (.int .u64 (m : Int))).set 4 (.int .i64 (dd : Int)))
    go_wp2_with fail
    refine bodyPost_ret (results_cell_tmp (cs := msC ⟨F0, M0, X1, m, dd⟩) Tryz.results125 rfl agg_ms H9.out.1) rfl ⟨⟨⟨F0, M0, X1, m, dd⟩, true, rfl, fun hok => ?_, fun hok => ?_⟩, H9.out.2.1⟩
    · obtain ⟨g1, g2, g3, g4⟩ := HE.out
      exact ⟨g1.symm, g2.symm, g3.symm, by show X1 ≤ _; omega, Hpl.out.symm, d, Hdl.out, by show dd = cnD ps + d; rw [g4]; exact Hdd.out.symm⟩
    · cases hok
  have d1 : decide ((j : Int) < (m : Int)) = true := decide_eq_true (by omega)
  have i1 : (j : Int) < (m : Int) := by omega
  obtain ⟨y, hy⟩ : ∃ y, ps[j]? = some y := ⟨_, List.getElem?_eq_getElem (by rw [Hpl.out]; exact hin)⟩
  obtain ⟨t, htt, hcl⟩ := HFd.out j y hy
  obtain ⟨nm, f0, f1⟩ := hcl wr HI.out.2.1
  obtain ⟨q9, hq9⟩ : ∃ q, wr.heap.size = q := ⟨_, rfl⟩
  have hbn := Blk.new wr [.string ⟨#[]⟩, .int .i32 0] 63
  rw [hq9] at hbn
  have HBn := hid hbn
  have Hone : Hid (∀ u ∈ fdC ⟨nm, t⟩, u.oneCell' = true) := hid (okFd.one ⟨nm, t⟩)
  have Hinf : Hid ((Tryz.prog.info? 63).map (·.size) = some 2) := hid (by kernel_rfl)
  clear hbn hcl
  go_upto_region 6 with (refine wpList_store_blk rfl 63 _ _ rfl q9 (by simp [Act.eval, hq9]) (fdC ⟨nm, t⟩) rfl HBn.out rfl Hinf.out Hone.out ?_; intro w6 HB6 HU6)
  (try simp only [Act.put])
  have H6 : Hid (MLo w p [.bool (cnF (ps.take j)), .int .u64 (cnMn (ps.take j) : Int), .int .u64 (cnMx (ps.take j) : Int), .int .u64 0, .int .i64 (cnD (ps.take j) : Int)] w6) := hid ((HI.out.below (nbel wr _)).upd HU6.out (by have := HI.out.1.lt; omega) (by have := HI.out.2.1.size; omega))
  have g1 : w6.cell? ⟨q9, 1, none⟩ = some (.int .i32 (t : Int)) := HB6.out.cell 1
  have Htk : Hid (ps.take (j + 1) = ps.take j ++ [y]) := hid (by rw [List.take_add_one, hy]; rfl)
  have hby := Hbp.out y (List.mem_of_getElem? hy)
  have hbt : ∀ z ∈ ps.take j, TRb z := fun z hz => Hbp.out z (List.mem_of_mem_take hz)
  have hbd := cn_bound hbt
  have hbd2 := cnD_le (ps.take j) 0 (by decide) hbt
  have hbl : (ps.take j).length ≤ 200000 := by rw [List.length_take]; omega
  have hs2 := slP_le hby
  have hyd := hby.depth
  have HSl := hid (fun wz (hz : Below w.heap.size w wz) => slotW (HT.out.1.below hz) htt hby)
  obtain ⟨gt2, q2, hv2, _, _, hc2⟩ := HT.out.1.ty htt
  rw [HT.out.2, Hv.out] at hv2
  injection hv2 with e1 e2 e3
  injection e1 with e1
  injection e1 with e1
  subst e1
  have htn : t < nt := by rw [← HT.out.2]; exact (List.getElem?_eq_some_iff.1 htt).1
  have i2 : (t : Int) < (nt : Int) := by omega
  obtain ⟨yf, hyf⟩ : ∃ a, y.fixed = a := ⟨_, rfl⟩
  obtain ⟨yd, hyd2⟩ : ∃ a, y.depth = a := ⟨_, rfl⟩
  obtain ⟨smn, hsmn⟩ : ∃ a, (slP y).1 = a := ⟨_, rfl⟩
  obtain ⟨smx, hsmx⟩ : ∃ a, (slP y).2 = a := ⟨_, rfl⟩
  rw [hsmn, hsmx] at HSl hs2
  rw [hyd2] at hyd
  have HYc : Hid (∀ wz, Below w.heap.size w wz → wz.cell? ⟨gt, t * 12 + 1, none⟩ = some (.bool yf) ∧ wz.cell? ⟨gt, t * 12 + 2, none⟩ = some (.int .u8 (yd : Int))) := hid (fun wz hz => ⟨by rw [keepCell _ (hz.block gt Hgl.out), ← hyf]; exact hc2 1 (by decide), by rw [keepCell _ (hz.block gt Hgl.out), ← hyd2]; exact hc2 2 (by decide)⟩)
  have HE1 : Hid (cnF (ps.take (j + 1)) = (cnF (ps.take j) && yf) ∧ cnMn (ps.take (j + 1)) = cnMn (ps.take j) + smn ∧ cnMx (ps.take (j + 1)) = cnMx (ps.take j) + smx ∧ cnD (ps.take (j + 1)) = max (cnD (ps.take j)) yd) := hid (by rw [Htk.out, cnF_snoc, cnMn_snoc, cnMx_snoc, cnD_snoc, hyf, hsmn, hsmx, hyd2]; exact ⟨rfl, rfl, rfl, rfl⟩)
  have hbd2 : cnD (ps.take j) ≤ 63 := hbd2
  generalize hF1 : cnF (ps.take (j + 1)) = F1 at HE1
  generalize hM1 : cnMn (ps.take (j + 1)) = M1 at HE1
  generalize hX1 : cnMx (ps.take (j + 1)) = X1 at HE1
  generalize hD1 : cnD (ps.take (j + 1)) = D1 at HE1
  have HE2 := hid (And.intro hF1 (And.intro hM1 (And.intro hX1 hD1)))
  clear hF1 hM1 hX1 hD1
  generalize cnF (ps.take j) = F0 at H6 HE1
  generalize cnMn (ps.take j) = M0 at H6 HE1 hbd
  generalize cnMx (ps.take j) = X0c at H6 HE1 hbd
  generalize cnD (ps.take j) = D0 at H6 HE1 hbd2
  generalize (ps.take j).length = lj at hbd hbl
  have em1 : IntKind.u64.wrap ((M0 : Int) + (smn : Int)) = (M1 : Int) := by have := HE1.out.2.1; rw [IntKind.wrap_u64]; omega
  have em2 : IntKind.u64.wrap ((X0c : Int) + (smx : Int)) = (X1 : Int) := by have := HE1.out.2.2.1; rw [IntKind.wrap_u64]; omega
  have em3 : (M0 : Int) + (smn : Int) = (M1 : Int) := by have := HE1.out.2.1; omega
  have em4 : (X0c : Int) + (smx : Int) = (X1 : Int) := by have := HE1.out.2.2.1; omega
  have Hem := hid (And.intro em1 (And.intro em2 (And.intro em3 em4)))
  clear em1 em2 em3 em4 HU6 HBn Hone Hinf HI f0 f1 hc2 hy htt hby hbt hyf hyd2 hsmn hsmx Htk hq9
  have k0 := (HK.out w6 H6.out.2.1).1
  obtain ⟨X0, W, hT, hI⟩ := class_mk (fun w' => Drew w6 w')
  have H0 : Hid (∃ y, w6.drew = W y) := hid (hI _ ⟨1, rfl⟩)
  have hne : Nonempty X0 := ⟨H0.out.choose⟩
  have HTT := hid hT
  have b0 : ∀ z, (W z).cell? ⟨tB, 0, none⟩ = some (.slice (some ⟨gt, 0, none⟩) nt q) := fun y => by obtain ⟨m, e⟩ := hT y; rw [e]; exact k0
  have b1 : ∀ z, (W z).cell? ⟨q9, 1, none⟩ = some (.int .i32 (t : Int)) := fun y => by obtain ⟨m, e⟩ := hT y; rw [e]; exact g1
  clear hT hI
  refine wp_region_class W (by kernel_rfl) (by kernel_rfl) H0.out ?_
  repeat (go_big_quiet_step (fail))
  refine wpQuiet_nil ?_
  intro z
  have HD := hid (HTT.out z)
  have HB := hid ((HTT.out z).below w6.heap.size)
  have b0z := b0 z
  have b1z := b1 z
  generalize W z = w7 at HD HB b0z b1z ⊢
  clear H0 HTT b0 b1
  have H7 := hid (H6.out.below HB.out)
  clear H6 HB HD k0 g1 b0z HB6
  have HA := hid (HSl.out w7 H7.out.2.1)
  go_wp2_with fail
  refine HA.out.mono ?_
  rintro e0 w8 ⟨rfl, hd8⟩
  have H8 := hid (H7.out.below (hd8.below _))
  clear HA HSl H7 hd8 b1z
  have a0 : w8.cell? ⟨p, 0, none⟩ = some (.bool F0) := H8.out.1.cell 0
  have az0 : w8.frozen? ⟨p, 0, none⟩ = false := H8.out.1.frozen 0
  have a1 : w8.cell? ⟨p, 1, none⟩ = some (.int .u64 (M0 : Int)) := H8.out.1.cell 1
  have az1 : w8.frozen? ⟨p, 1, none⟩ = false := H8.out.1.frozen 1
  have a2 : w8.cell? ⟨p, 2, none⟩ = some (.int .u64 (X0c : Int)) := H8.out.1.cell 2
  have az2 : w8.frozen? ⟨p, 2, none⟩ = false := H8.out.1.frozen 2
  have a3 : w8.cell? ⟨p, 3, none⟩ = some (.int .u64 0) := H8.out.1.cell 3
  have az3 : w8.frozen? ⟨p, 3, none⟩ = false := H8.out.1.frozen 3
  have a4 : w8.cell? ⟨p, 4, none⟩ = some (.int .i64 (D0 : Int)) := H8.out.1.cell 4
  have az4 : w8.frozen? ⟨p, 4, none⟩ = false := H8.out.1.frozen 4
  obtain ⟨em1, em2, em3, em4⟩ := Hem.out
  have H9a := hid (H8.out.set 1 (.int .u64 (M1 : Int)))
  go_upto_region 9 with fail
  (try simp only [em1, em3])
  generalize hw3 : w8.setCell _ _ = w9 at H9a ⊢
  clear hw3 H8 em1 em3
  clear a0 az0 a1 az1 a2 az2 a3 az3 a4 az4
  have a0 : w9.cell? ⟨p, 0, none⟩ = some (.bool F0) := H9a.out.1.cell 0
  have az0 : w9.frozen? ⟨p, 0, none⟩ = false := H9a.out.1.frozen 0
  have a1 : w9.cell? ⟨p, 1, none⟩ = some (.int .u64 (M1 : Int)) := H9a.out.1.cell 1
  have az1 : w9.frozen? ⟨p, 1, none⟩ = false := H9a.out.1.frozen 1
  have a2 : w9.cell? ⟨p, 2, none⟩ = some (.int .u64 (X0c : Int)) := H9a.out.1.cell 2
  have az2 : w9.frozen? ⟨p, 2, none⟩ = false := H9a.out.1.frozen 2
  have a3 : w9.cell? ⟨p, 3, none⟩ = some (.int .u64 0) := H9a.out.1.cell 3
  have az3 : w9.frozen? ⟨p, 3, none⟩ = false := H9a.out.1.frozen 3
  have a4 : w9.cell? ⟨p, 4, none⟩ = some (.int .i64 (D0 : Int)) := H9a.out.1.cell 4
  have az4 : w9.frozen? ⟨p, 4, none⟩ = false := H9a.out.1.frozen 4
  have H10 := hid (H9a.out.set 2 (.int .u64 (X1 : Int)))
  go_upto_region 10 with fail
  (try simp only [em2, em4])
  generalize hw3 : w9.setCell _ _ = wa at H10 ⊢
  clear hw3 H9a em2 em4
  clear a0 az0 a1 az1 a2 az2 a3 az3 a4 az4
  have a0 : wa.cell? ⟨p, 0, none⟩ = some (.bool F0) := H10.out.1.cell 0
  have az0 : wa.frozen? ⟨p, 0, none⟩ = false := H10.out.1.frozen 0
  have a1 : wa.cell? ⟨p, 1, none⟩ = some (.int .u64 (M1 : Int)) := H10.out.1.cell 1
  have az1 : wa.frozen? ⟨p, 1, none⟩ = false := H10.out.1.frozen 1
  have a2 : wa.cell? ⟨p, 2, none⟩ = some (.int .u64 (X1 : Int)) := H10.out.1.cell 2
  have az2 : wa.frozen? ⟨p, 2, none⟩ = false := H10.out.1.frozen 2
  have a3 : wa.cell? ⟨p, 3, none⟩ = some (.int .u64 0) := H10.out.1.cell 3
  have az3 : wa.frozen? ⟨p, 3, none⟩ = false := H10.out.1.frozen 3
  have a4 : wa.cell? ⟨p, 4, none⟩ = some (.int .i64 (D0 : Int)) := H10.out.1.cell 4
  have az4 : wa.frozen? ⟨p, 4, none⟩ = false := H10.out.1.frozen 4
  have kf := (HYc.out wa H10.out.2.1).1
  have H11 := hid (H10.out.set 0 (.bool F1))
  have HF1 := HE1.out.1
  have HG : Hid (∀ we, MLo w p [.bool F1, .int .u64 (M1 : Int), .int .u64 (X1 : Int), .int .u64 0, .int .i64 (D1 : Int)] we → MLo w p [.bool (cnF (ps.take (j + 1))), .int .u64 (cnMn (ps.take (j + 1)) : Int), .int .u64 (cnMx (ps.take (j + 1)) : Int), .int .u64 0, .int .i64 (cnD (ps.take (j + 1)) : Int)] we) := hid (fun we hw => by rw [HE2.out.1, HE2.out.2.1, HE2.out.2.2.1, HE2.out.2.2.2]; exact hw)
  have hD1 := HE1.out.2.2.2
  cases F0 with
  | true =>
    obtain rfl : F1 = yf := by rw [HF1]; rfl
    clear HF1
    go_upto_region 11 with fail
    generalize hw3 : wa.setCell _ _ = wb at H11 ⊢
    clear hw3 H10 kf
    clear a0 az0 a1 az1 a2 az2 a3 az3 a4 az4
    have a0 : wb.cell? ⟨p, 0, none⟩ = some (.bool F1) := H11.out.1.cell 0
    have az0 : wb.frozen? ⟨p, 0, none⟩ = false := H11.out.1.frozen 0
    have a1 : wb.cell? ⟨p, 1, none⟩ = some (.int .u64 (M1 : Int)) := H11.out.1.cell 1
    have az1 : wb.frozen? ⟨p, 1, none⟩ = false := H11.out.1.frozen 1
    have a2 : wb.cell? ⟨p, 2, none⟩ = some (.int .u64 (X1 : Int)) := H11.out.1.cell 2
    have az2 : wb.frozen? ⟨p, 2, none⟩ = false := H11.out.1.frozen 2
    have a3 : wb.cell? ⟨p, 3, none⟩ = some (.int .u64 0) := H11.out.1.cell 3
    have az3 : wb.frozen? ⟨p, 3, none⟩ = false := H11.out.1.frozen 3
    have a4 : wb.cell? ⟨p, 4, none⟩ = some (.int .i64 (D0 : Int)) := H11.out.1.cell 4
    have az4 : wb.frozen? ⟨p, 4, none⟩ = false := H11.out.1.frozen 4
    have kd := (HYc.out wb H11.out.2.1).2
    have ed1 : IntKind.i64.wrap (yd : Int) = (yd : Int) := by rw [IntKind.wrap_i64]; omega
    by_cases hlt : D0 < yd
    · obtain rfl : D1 = yd := by omega
      clear hD1
      obtain ⟨X0, W, hT, hI⟩ := class_mk (fun w' => Drew wb w')
      have H0 : Hid (∃ y, wb.drew = W y) := hid (hI _ ⟨1, rfl⟩)
      have hne : Nonempty X0 := ⟨H0.out.choose⟩
      have HTT := hid hT
      have c4 : ∀ z, (W z).cell? ⟨p, 4, none⟩ = some (.int .i64 (D0 : Int)) := fun y => by obtain ⟨m, e⟩ := hT y; rw [e]; exact a4
      have cz : ∀ z, (W z).frozen? ⟨p, 4, none⟩ = false := fun y => by obtain ⟨m, e⟩ := hT y; rw [e]; exact az4
      have cd : ∀ z, (W z).cell? ⟨gt, t * 12 + 2, none⟩ = some (.int .u8 (D1 : Int)) := fun y => by obtain ⟨m, e⟩ := hT y; rw [e]; exact kd
      clear hT hI
      refine wp_region_class_tailT W 8 (by kernel_rfl) (by kernel_rfl) (by kernel_rfl) H0.out ?_
      dsimp only [List.take, List.drop]
      repeat (go_big_quiet_step (fail))
      refine wpQuiet_nil ?_
      intro z
      have HD := hid (HTT.out z)
      have HB := hid ((HTT.out z).below wb.heap.size)
      have c4z := c4 z
      have czz := cz z
      have cdz := cd z
      generalize W z = wc at HD HB c4z czz cdz ⊢
      clear H0 HTT c4 cz cd
      have H12 := hid (H11.out.below HB.out)
      have H13 := hid (H12.out.set 4 (.int .i64 (D1 : Int)))
      go_upto_region 12 with fail
      generalize hw3 : wc.setCell _ _ = wd at H13 ⊢
      clear hw3 H12 H11 HB HD kd ed1 c4z czz cdz hlt
      clear a0 az0 a1 az1 a2 az2 a3 az3 a4 az4
      have HF := hid (HG.out wd H13.out)
      clear H13 HG
      go_wp2
      exact ⟨⟨j + 1, by go_num, by omega, HF⟩, by simp [intOf]; omega⟩
    · obtain rfl : D1 = D0 := by omega
      clear hD1
      obtain ⟨X0, W, hT, hI⟩ := class_mk (fun w' => Drew wb w')
      have H0 : Hid (∃ y, wb.drew = W y) := hid (hI _ ⟨1, rfl⟩)
      have hne : Nonempty X0 := ⟨H0.out.choose⟩
      have HTT := hid hT
      have c4 : ∀ z, (W z).cell? ⟨p, 4, none⟩ = some (.int .i64 (D1 : Int)) := fun y => by obtain ⟨m, e⟩ := hT y; rw [e]; exact a4
      have cz : ∀ z, (W z).frozen? ⟨p, 4, none⟩ = false := fun y => by obtain ⟨m, e⟩ := hT y; rw [e]; exact az4
      have cd : ∀ z, (W z).cell? ⟨gt, t * 12 + 2, none⟩ = some (.int .u8 (yd : Int)) := fun y => by obtain ⟨m, e⟩ := hT y; rw [e]; exact kd
      clear hT hI
      refine wp_region_class_tailT W 8 (by kernel_rfl) (by kernel_rfl) (by kernel_rfl) H0.out ?_
      dsimp only [List.take, List.drop]
      repeat (go_big_quiet_step (fail))
      refine wpQuiet_nil ?_
      intro z
      have HD := hid (HTT.out z)
      have HB := hid ((HTT.out z).below wb.heap.size)
      have c4z := c4 z
      have czz := cz z
      have cdz := cd z
      generalize W z = wc at HD HB c4z czz cdz ⊢
      clear H0 HTT c4 cz cd
      have H12 := hid (H11.out.below HB.out)
      have H13 := hid (H12.out.set 4 (.int .i64 (D1 : Int)))
      go_upto_region 12 with fail
      generalize hw3 : wc.setCell _ _ = wd at H13 ⊢
      clear hw3 H12 H11 HB HD kd ed1 c4z czz cdz hlt
      clear a0 az0 a1 az1 a2 az2 a3 az3 a4 az4
      have HF := hid (HG.out wd H13.out)
      clear H13 HG
      go_wp2
      exact ⟨⟨j + 1, by go_num, by omega, HF⟩, by simp [intOf]; omega⟩
  | false =>
    obtain rfl : F1 = false := by rw [HF1]; rfl
    clear HF1
    go_upto_region 11 with fail
    generalize hw3 : wa.setCell _ _ = wb at H11 ⊢
    clear hw3 H10 kf
    clear a0 az0 a1 az1 a2 az2 a3 az3 a4 az4
    have a0 : wb.cell? ⟨p, 0, none⟩ = some (.bool false) := H11.out.1.cell 0
    have az0 : wb.frozen? ⟨p, 0, none⟩ = false := H11.out.1.frozen 0
    have a1 : wb.cell? ⟨p, 1, none⟩ = some (.int .u64 (M1 : Int)) := H11.out.1.cell 1
    have az1 : wb.frozen? ⟨p, 1, none⟩ = false := H11.out.1.frozen 1
    have a2 : wb.cell? ⟨p, 2, none⟩ = some (.int .u64 (X1 : Int)) := H11.out.1.cell 2
    have az2 : wb.frozen? ⟨p, 2, none⟩ = false := H11.out.1.frozen 2
    have a3 : wb.cell? ⟨p, 3, none⟩ = some (.int .u64 0) := H11.out.1.cell 3
    have az3 : wb.frozen? ⟨p, 3, none⟩ = false := H11.out.1.frozen 3
    have a4 : wb.cell? ⟨p, 4, none⟩ = some (.int .i64 (D0 : Int)) := H11.out.1.cell 4
    have az4 : wb.frozen? ⟨p, 4, none⟩ = false := H11.out.1.frozen 4
    have kd := (HYc.out wb H11.out.2.1).2
    have ed1 : IntKind.i64.wrap (yd : Int) = (yd : Int) := by rw [IntKind.wrap_i64]; omega
    by_cases hlt : D0 < yd
    · obtain rfl : D1 = yd := by omega
      clear hD1
      obtain ⟨X0, W, hT, hI⟩ := class_mk (fun w' => Drew wb w')
      have H0 : Hid (∃ y, wb.drew = W y) := hid (hI _ ⟨1, rfl⟩)
      have hne : Nonempty X0 := ⟨H0.out.choose⟩
      have HTT := hid hT
      have c4 : ∀ z, (W z).cell? ⟨p, 4, none⟩ = some (.int .i64 (D0 : Int)) := fun y => by obtain ⟨m, e⟩ := hT y; rw [e]; exact a4
      have cz : ∀ z, (W z).frozen? ⟨p, 4, none⟩ = false := fun y => by obtain ⟨m, e⟩ := hT y; rw [e]; exact az4
      have cd : ∀ z, (W z).cell? ⟨gt, t * 12 + 2, none⟩ = some (.int .u8 (D1 : Int)) := fun y => by obtain ⟨m, e⟩ := hT y; rw [e]; exact kd
      clear hT hI
      refine wp_region_class_tailT W 8 (by kernel_rfl) (by kernel_rfl) (by kernel_rfl) H0.out ?_
      dsimp only [List.take, List.drop]
      repeat (go_big_quiet_step (fail))
      refine wpQuiet_nil ?_
      intro z
      have HD := hid (HTT.out z)
      have HB := hid ((HTT.out z).below wb.heap.size)
      have c4z := c4 z
      have czz := cz z
      have cdz := cd z
      generalize W z = wc at HD HB c4z czz cdz ⊢
      clear H0 HTT c4 cz cd
      have H12 := hid (H11.out.below HB.out)
      have H13 := hid (H12.out.set 4 (.int .i64 (D1 : Int)))
      go_upto_region 12 with fail
      generalize hw3 : wc.setCell _ _ = wd at H13 ⊢
      clear hw3 H12 H11 HB HD kd ed1 c4z czz cdz hlt
      clear a0 az0 a1 az1 a2 az2 a3 az3 a4 az4
      have HF := hid (HG.out wd H13.out)
      clear H13 HG
      go_wp2
      exact ⟨⟨j + 1, by go_num, by omega, HF⟩, by simp [intOf]; omega⟩
    · obtain rfl : D1 = D0 := by omega
      clear hD1
      obtain ⟨X0, W, hT, hI⟩ := class_mk (fun w' => Drew wb w')
      have H0 : Hid (∃ y, wb.drew = W y) := hid (hI _ ⟨1, rfl⟩)
      have hne : Nonempty X0 := ⟨H0.out.choose⟩
      have HTT := hid hT
      have c4 : ∀ z, (W z).cell? ⟨p, 4, none⟩ = some (.int .i64 (D1 : Int)) := fun y => by obtain ⟨m, e⟩ := hT y; rw [e]; exact a4
      have cz : ∀ z, (W z).frozen? ⟨p, 4, none⟩ = false := fun y => by obtain ⟨m, e⟩ := hT y; rw [e]; exact az4
      have cd : ∀ z, (W z).cell? ⟨gt, t * 12 + 2, none⟩ = some (.int .u8 (yd : Int)) := fun y => by obtain ⟨m, e⟩ := hT y; rw [e]; exact kd
      clear hT hI
      refine wp_region_class_tailT W 8 (by kernel_rfl) (by kernel_rfl) (by kernel_rfl) H0.out ?_
      dsimp only [List.take, List.drop]
      repeat (go_big_quiet_step (fail))
      refine wpQuiet_nil ?_
      intro z
      have HD := hid (HTT.out z)
      have HB := hid ((HTT.out z).below wb.heap.size)
      have c4z := c4 z
      have czz := cz z
      have cdz := cd z
      generalize W z = wc at HD HB c4z czz cdz ⊢
      clear H0 HTT c4 cz cd
      have H12 := hid (H11.out.below HB.out)
      have H13 := hid (H12.out.set 4 (.int .i64 (D1 : Int)))
      go_upto_region 12 with fail
      generalize hw3 : wc.setCell _ _ = wd at H13 ⊢
      clear hw3 H12 H11 HB HD kd ed1 c4z czz cdz hlt
      clear a0 az0 a1 az1 a2 az2 a3 az3 a4 az4
      have HF := hid (HG.out wd H13.out)
      clear H13 HG
      go_wp2
      exact ⟨⟨j + 1, by go_num, by omega, HF⟩, by simp [intOf]; omega⟩
end
end Go.Proofs.Qxb6500883aGreatDoor
