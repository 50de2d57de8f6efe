/- measureUnion. -/
import Derived.Test.Qxb6500883aGreatDoorScKd
namespace Go.Proofs.Qxb6500883aGreatDoor
open Go.RowKit
set_option linter.unusedSimpArgs false
set_option linter.unusedVariables false
theorem slice_id {a : Option Addr} {n cp lo hi : Nat} (h1 : lo ≤ hi) (h2 : hi ≤ n) (h3 : n ≤ cp) (h4 : cp ≤ maxLen) (h5 : a = none → cp = 0) (w : World) : (Instr.sliceAt 58 (.slice a n cp) (some (.int .i32 (lo : Int))) (some (.int .i32 (hi : Int))) none).run Tryz.prog w = .ok (.slice (subA a lo (cp == lo)) (hi - lo) (cp - lo)) w := by
  have e3 : ¬ (hi < lo) := by omega
  have e4 : (lo : Int) ≤ (hi : Int) := by omega
  have e5 : (hi : Int) ≤ (cp : Int) := by omega
  have e6 : hi ≤ cp := by omega
  have e7 : ¬ (cp < hi) := by omega
  cases a with
  | none =>
    have h0 := h5 rfl
    subst h0
    obtain rfl : hi = 0 := by omega
    obtain rfl : lo = 0 := by omega
    obtain rfl : n = 0 := by omega
    simp [Instr.sliceAt, go_sem, Instr.sliceBounds, subA]
  | some ad =>
    by_cases he : cp = lo
    · have ehl : hi = lo := by omega
      subst he
      subst ehl
      simp [Instr.sliceAt, go_sem, Instr.sliceBounds, subA]
    · have e8 : ¬ (cp - lo = 0) := by omega
      simp [Instr.sliceAt, go_sem, Instr.sliceBounds, h1, e3, e4, e5, e6, e7, e8, he, subA]
/-- A union's options in the table. -/
def opT (T : TS) (x : TR) : List Nat := (T.opts.drop x.lo).take (x.hi - x.lo)
def unMn : List TR → Nat
  | [] => 0
  | x :: l => l.foldl (fun a y => min a y.mn) x.mn
def unMx (ps : List TR) : Nat := ps.foldl (fun d x => max d x.mx) 0
theorem unMn_snoc (ps : List TR) (y : TR) : unMn (ps ++ [y]) = if ps = [] then y.mn else min (unMn ps) y.mn := by
  cases ps with
  | nil => rfl
  | cons x l => rw [if_neg (by simp)]; unfold unMn; simp
theorem unMx_snoc (ps : List TR) (x : TR) : unMx (ps ++ [x]) = max (unMx ps) x.mx := by unfold unMx; simp
theorem unMx_le : ∀ (ps : List TR) (a : Nat), a ≤ 4294967295 → (∀ x ∈ ps, TRb x) → ps.foldl (fun d x => max d x.mx) a ≤ 4294967295
  | [], a, ha, _ => ha
  | x :: l, a, ha, h => unMx_le l _ (by have := (h x (by simp)).mx; show max a x.mx ≤ 4294967295; omega) (fun y hy => h y (by simp [hy]))
theorem unMn_le' : ∀ (ps : List TR) (a : Nat), a ≤ 4294967295 → ps.foldl (fun a y => min a y.mn) a ≤ 4294967295
  | [], a, ha => ha
  | x :: l, a, ha => unMn_le' l _ (by show min a x.mn ≤ 4294967295; omega)
theorem unMn_le (ps : List TR) (h : ∀ x ∈ ps, TRb x) : unMn ps ≤ 4294967295 := by
  cases ps with
  | nil => exact Nat.zero_le _
  | cons x l => exact unMn_le' l _ (h x (by simp)).mn
structure MsUni (ps : List TR) (m : MS) : Prop where
  fx : m.fixed = false
  mn : m.mn = unMn ps + 1
  mx : m.mx = unMx ps + 1
  le : m.mx ≤ 4294967295
  ck : m.chunks = 1
  dp : m.depth = cnD ps + 1
section
variable {τ τ' : Rl} {w w' w0 w1 w2 : World} {tB : Nat} {V V' : TV} {T T' : TS}
set_option maxRecDepth 100000 in
set_option maxHeartbeats 4000000 in
theorem measureUnionW (h : TbM τ w tB V T) {i : Nat} {x : TR} (hx : T.types[i]? = some x) (hlo : x.lo < x.hi) (hhi : x.hi ≤ T.opts.length) (hfl : T.opts.length ≤ 200000) {ps : List TR} (hps : (opT T x).map (fun o => T.types[o]?) = ps.map some) (hbp : ∀ y ∈ ps, TRb y) {gt : Nat} {q : Nat} (hv : V.t = .slice (some ⟨gt, 0, none⟩) T.types.length q) : Calls Tryz.prog 126 #[.pointer (some ⟨tB, 0, none⟩), .pointer (some ⟨gt, i * 12, none⟩)] w fun ee w' => MsQ (MsUni ps) ee ∧ Below w.heap.size w w' := by
  obtain ⟨p, hp⟩ : ∃ p, w.heap.size = p := ⟨_, rfl⟩
  have H1 := hid (MLo.start hp)
  obtain ⟨gt', q', hv', hgl, _, hc⟩ := h.ty hx
  rw [hv] at hv'
  injection hv' with e1 e2 e3
  injection e1 with e1
  injection e1 with e1
  subst e1
  obtain ⟨nt, hnt⟩ : ∃ n, T.types.length = n := ⟨_, rfl⟩
  rw [hnt] at hv
  obtain ⟨nF, hnF⟩ : ∃ m, T.opts.length = m := ⟨_, rfl⟩
  obtain ⟨aF, qF, hUF⟩ := h.o.shape
  have hcap := h.o
  rw [hUF] at hcap
  have hcq := hcap.cap
  rw [hnF] at hUF hcq hhi hfl
  obtain ⟨y0, hy0⟩ : ∃ y0, T.opts[x.lo]? = some y0 := ⟨_, List.getElem?_eq_getElem (by rw [hnF]; omega)⟩
  obtain ⟨gf, egf⟩ : ∃ gf, aF = some ⟨gf, 0, none⟩ := by
    obtain ⟨gf, q', hv, _⟩ := h.o.get (by decide) (fun _ => rfl) hy0
    rw [hUF] at hv
    injection hv with e1 e2 e3
    exact ⟨gf, e1⟩
  subst egf
  obtain ⟨lo, hlo1⟩ : ∃ a, x.lo = a := ⟨_, rfl⟩
  obtain ⟨hi, hhi1⟩ : ∃ a, x.hi = a := ⟨_, rfl⟩
  obtain ⟨m, hm⟩ : ∃ m, hi - lo = m := ⟨_, rfl⟩
  have hpl : ps.length = m := by
    have := congrArg List.length hps
    rw [List.length_map, List.length_map] at this
    unfold opT at this
    rw [List.length_take, List.length_drop, hnF, hlo1, hhi1] at this
    omega
  have hmb : m ≤ 200000 := by omega
  have HFd : Hid (∀ (j : Nat) (y : TR), ps[j]? = some y → ∃ t : Nat, T.types[t]? = some y ∧ ∀ wz, Below w.heap.size w wz → wz.cell? ⟨gf, lo + j, none⟩ = some (.int .i32 (t : Int))) := hid (fun j y hj => by
    have h1 : (ps.map some)[j]? = some (some y) := by rw [List.getElem?_map, hj]; rfl
    rw [← hps, List.getElem?_map] at h1
    cases hf : (opT T x)[j]? with
    | none => rw [hf] at h1; cases h1
    | some f =>
      rw [hf] at h1
      simp at h1
      refine ⟨f, h1, fun wz hz => ?_⟩
      have hj2 := (List.getElem?_eq_some_iff.1 hf).1
      unfold opT at hf hj2
      rw [List.length_take, List.length_drop, hnF] at hj2
      rw [List.getElem?_take, if_pos (by omega), List.getElem?_drop] at hf
      obtain ⟨gf', q', hv, hlt', hc'⟩ := (h.below hz).o.get (by decide) (fun _ => rfl) hf
      rw [hUF] at hv
      injection hv with e1 e2 e3
      injection e1 with e1
      injection e1 with e1
      subst e1
      rw [hlo1] at hc'
      have := hc' 0 (by decide)
      rw [show (lo + j) * rtId.n + 0 = lo + j by show (lo + j) * 1 + 0 = _; omega] at this
      exact this)
  have hsl := slice_id (a := some ⟨gf, 0, none⟩) (n := nF) (cp := qF) (lo := lo) (hi := hi) (by omega) (by omega) hcq.2 hcq.1 (fun h => by cases h)
  have hax : subA (some ⟨gf, 0, none⟩) lo (qF == lo) = some ⟨gf, lo, none⟩ := by
    have hne : (qF == lo) = false := by rw [beq_eq_false_iff_ne]; have := hcq.2; omega
    unfold subA
    rw [hne]
    simp [Addr.add]
    intro h0
    exact h0.symm
  obtain ⟨qx, hqx⟩ : ∃ qx, qF - lo = qx := ⟨_, rfl⟩
  rw [hax, hm, hqx] at hsl
  have HK : Hid (∀ wz, Below w.heap.size w wz → wz.cell? ⟨tB, 0, none⟩ = some (.slice (some ⟨gt, 0, none⟩) nt q) ∧ wz.cell? ⟨tB, 2, none⟩ = some (.slice (some ⟨gf, 0, none⟩) nF qF) ∧ wz.cell? ⟨gt, i * 12 + 4, none⟩ = some (.int .i32 (lo : Int)) ∧ wz.cell? ⟨gt, i * 12 + 5, none⟩ = some (.int .i32 (hi : Int))) := hid (fun wz hz => by
    have kc : ∀ j v, w.cell? ⟨gt, j, none⟩ = some v → wz.cell? ⟨gt, j, none⟩ = some v := fun j v hh => by rw [keepCell _ (hz.block gt hgl)]; exact hh
    refine ⟨by rw [← hv]; exact (h.below hz).b.cell 0, by rw [← hUF]; exact (h.below hz).b.cell 2, kc _ _ ?_, kc _ _ ?_⟩
    · have := hc 4 (by decide); rw [show (trC x)[4]? = some (.int .i32 (x.lo : Int)) from rfl, hlo1] at this; exact this
    · have := hc 5 (by decide); rw [show (trC x)[5]? = some (.int .i32 (x.hi : Int)) from rfl, hhi1] at this; exact this)
  have HT := hid (And.intro h hnt)
  have Hbp := hid hbp
  have Hpl := hid hpl
  have Hv := hid hv
  have Hgl := hid hgl
  clear h hx hlo hhi hfl hps hbp hv hc hgl hUF hcap hcq hy0 hlo1 hhi1 hax hqx hm hnF hnt hpl
  go_enter Tryz.func126, Tryz.ntmps126
  go_upto_region 1 with fail
  (try simp only [hp])
  generalize w.alloc _ = w1 at H1 ⊢
  clear hp
  have k1 := (HK.out w1 H1.out.2.1).2.1
  have k4 := (HK.out w1 H1.out.2.1).2.2.1
  have k5 := (HK.out w1 H1.out.2.1).2.2.2
  obtain ⟨X0, W, hT, hI⟩ := class_mk (fun w' => Drew w1 w')
  have H0 : Hid (∃ y, w1.drew = W y) := hid (hI _ ⟨1, rfl⟩)
  have hne : Nonempty X0 := ⟨H0.out.choose⟩
  have HTT := hid hT
  have b1 : ∀ z, (W z).cell? ⟨tB, 2, none⟩ = some (.slice (some ⟨gf, 0, none⟩) nF qF) := fun y => by obtain ⟨m, e⟩ := hT y; rw [e]; exact k1
  have b4 : ∀ z, (W z).cell? ⟨gt, i * 12 + 4, none⟩ = some (.int .i32 (lo : Int)) := fun y => by obtain ⟨m, e⟩ := hT y; rw [e]; exact k4
  have b5 : ∀ z, (W z).cell? ⟨gt, i * 12 + 5, none⟩ = some (.int .i32 (hi : Int)) := fun y => by obtain ⟨m, e⟩ := hT y; rw [e]; exact k5
  clear hT hI
  refine wp_region_class W (by kernel_rfl) (by kernel_rfl) H0.out ?_
  repeat (go_big_quiet_step (fail))
  refine wpQuiet_nil ?_
  intro z
  have HD := hid (HTT.out z)
  have HB := hid ((HTT.out z).below w1.heap.size)
  have b1z := b1 z
  have b4z := b4 z
  have b5z := b5 z
  generalize W z = w2 at HD HB b1z b4z b5z ⊢
  clear H0 HTT b1 b4 b5
  have H3 := hid (H1.out.below HB.out)
  clear H1 HB HD k1 k4 k5 b1z b4z b5z hsl
  go_upto_region 2 with fail
  go_loopw [23] (fun t wr => ∃ (j : Nat), t = .int .i64 (j : Int) ∧ j ≤ m ∧ Hid (MLo w p [.bool false, .int .u64 (unMn (ps.take j) : Int), .int .u64 (unMx (ps.take j) : Int), .int .u64 0, .int .i64 (cnD (ps.take j) : Int)] wr)) (fun t _ => m - (intOf t).toNat)
  case atStart => exact ⟨0, rfl, Nat.zero_le _, hid H3.out⟩
  case round =>
  obtain ⟨j, rfl, hj, HI⟩ := hrel
  clear H3
  by_cases hin : j < m
  rotate_left
  · have d1 : decide ((j : Int) < (m : Int)) = false := decide_eq_false (by omega)
    have htk : ps.take j = ps := List.take_of_length_le (by rw [Hpl.out]; omega)
    rw [htk] at HI
    have hbd := unMn_le ps Hbp.out
    have hbd1 : unMx ps ≤ 4294967295 := unMx_le ps 0 (by decide) Hbp.out
    have hbd2 : cnD ps ≤ 63 := cnD_le ps 0 (by decide) Hbp.out
    obtain ⟨M0, hM0⟩ : ∃ a, unMn ps = a := ⟨_, rfl⟩
    obtain ⟨Xa, hX0⟩ : ∃ a, unMx ps = a := ⟨_, rfl⟩
    obtain ⟨D0, hD0⟩ : ∃ a, cnD ps = a := ⟨_, rfl⟩
    rw [hM0, hX0, hD0] at HI
    rw [hM0] at hbd
    rw [hX0] at hbd1
    rw [hD0] at hbd2
    have HE := hid (And.intro hM0 (And.intro hX0 hD0))
    clear hM0 hX0 hD0 htk HK HFd HT Hv Hgl
    obtain ⟨M1, hM1⟩ : ∃ a, M0 + 1 = a := ⟨_, rfl⟩
    obtain ⟨X1, hX1⟩ : ∃ a, Xa + 1 = a := ⟨_, rfl⟩
    obtain ⟨D1, hD1⟩ : ∃ a, D0 + 1 = a := ⟨_, rfl⟩
    have em1 : IntKind.u64.wrap ((M0 : Int) + 1) = (M1 : Int) := by rw [IntKind.wrap_u64]; omega
    have em2 : (M0 : Int) + 1 = (M1 : Int) := by omega
    have ex1 : IntKind.u64.wrap ((Xa : Int) + 1) = (X1 : Int) := by rw [IntKind.wrap_u64]; omega
    have ex2 : (Xa : Int) + 1 = (X1 : Int) := by omega
    have ed1 : IntKind.i64.wrap ((D0 : Int) + 1) = (D1 : Int) := by rw [IntKind.wrap_i64]; omega
    have ed2 : (D0 : Int) + 1 = (D1 : Int) := by omega
    have H1s := hid (And.intro hM1 (And.intro hX1 hD1))
    have hX1b : X1 ≤ 4294967296 := by omega
    clear hM1 hX1 hD1
    go_upto_region 10 with fail
    have a0 : wr.cell? ⟨p, 0, none⟩ = some (.bool false) := HI.out.1.cell 0
    have az0 : wr.frozen? ⟨p, 0, none⟩ = false := HI.out.1.frozen 0
    have a1 : wr.cell? ⟨p, 1, none⟩ = some (.int .u64 (M0 : Int)) := HI.out.1.cell 1
    have az1 : wr.frozen? ⟨p, 1, none⟩ = false := HI.out.1.frozen 1
    have a2 : wr.cell? ⟨p, 2, none⟩ = some (.int .u64 (Xa : Int)) := HI.out.1.cell 2
    have az2 : wr.frozen? ⟨p, 2, none⟩ = false := HI.out.1.frozen 2
    have a3 : wr.cell? ⟨p, 3, none⟩ = some (.int .u64 0) := HI.out.1.cell 3
    have az3 : wr.frozen? ⟨p, 3, none⟩ = false := HI.out.1.frozen 3
    have a4 : wr.cell? ⟨p, 4, none⟩ = some (.int .i64 (D0 : Int)) := HI.out.1.cell 4
    have az4 : wr.frozen? ⟨p, 4, none⟩ = false := HI.out.1.frozen 4
    have H5 := hid (HI.out.set 1 (.int .u64 (M1 : Int)))
    go_upto_region 11 with fail
    (try simp only [em1, em2])
    generalize hw3 : wr.setCell _ _ = w5 at H5 ⊢
    clear hw3 HI em1 em2
    clear a0 az0 a1 az1 a2 az2 a3 az3 a4 az4
    have a0 : w5.cell? ⟨p, 0, none⟩ = some (.bool false) := H5.out.1.cell 0
    have az0 : w5.frozen? ⟨p, 0, none⟩ = false := H5.out.1.frozen 0
    have a1 : w5.cell? ⟨p, 1, none⟩ = some (.int .u64 (M1 : Int)) := H5.out.1.cell 1
    have az1 : w5.frozen? ⟨p, 1, none⟩ = false := H5.out.1.frozen 1
    have a2 : w5.cell? ⟨p, 2, none⟩ = some (.int .u64 (Xa : Int)) := H5.out.1.cell 2
    have az2 : w5.frozen? ⟨p, 2, none⟩ = false := H5.out.1.frozen 2
    have a3 : w5.cell? ⟨p, 3, none⟩ = some (.int .u64 0) := H5.out.1.cell 3
    have az3 : w5.frozen? ⟨p, 3, none⟩ = false := H5.out.1.frozen 3
    have a4 : w5.cell? ⟨p, 4, none⟩ = some (.int .i64 (D0 : Int)) := H5.out.1.cell 4
    have az4 : w5.frozen? ⟨p, 4, none⟩ = false := H5.out.1.frozen 4
    have H6 := hid (H5.out.set 2 (.int .u64 (X1 : Int)))
    go_upto_region 12 with fail
    (try simp only [ex1, ex2])
    generalize hw3 : w5.setCell _ _ = w6 at H6 ⊢
    clear hw3 H5 ex1 ex2
    clear a0 az0 a1 az1 a2 az2 a3 az3 a4 az4
    have a0 : w6.cell? ⟨p, 0, none⟩ = some (.bool false) := H6.out.1.cell 0
    have az0 : w6.frozen? ⟨p, 0, none⟩ = false := H6.out.1.frozen 0
    have a1 : w6.cell? ⟨p, 1, none⟩ = some (.int .u64 (M1 : Int)) := H6.out.1.cell 1
    have az1 : w6.frozen? ⟨p, 1, none⟩ = false := H6.out.1.frozen 1
    have a2 : w6.cell? ⟨p, 2, none⟩ = some (.int .u64 (X1 : Int)) := H6.out.1.cell 2
    have az2 : w6.frozen? ⟨p, 2, none⟩ = false := H6.out.1.frozen 2
    have a3 : w6.cell? ⟨p, 3, none⟩ = some (.int .u64 0) := H6.out.1.cell 3
    have az3 : w6.frozen? ⟨p, 3, none⟩ = false := H6.out.1.frozen 3
    have a4 : w6.cell? ⟨p, 4, none⟩ = some (.int .i64 (D0 : Int)) := H6.out.1.cell 4
    have az4 : w6.frozen? ⟨p, 4, none⟩ = false := H6.out.1.frozen 4
    by_cases hbig : 4294967295 < X1
    · have d2 : decide ((X1 : Int) > 4294967295) = true := decide_eq_true (by omega)
      have d2n : decide (X1 > 4294967295) = true := decide_eq_true hbig
      have d2m : decide (4294967295 < X1) = true := decide_eq_true hbig
      clear ed1 ed2
      have H9 : Hid (MLo w p (msC ⟨false, M1, X1, 0, D0⟩) (((((w6.setCell ⟨p, 0, none⟩ (.bool false)).setCell ⟨p, 1, none⟩ (.int .u64 (M1 : Int))).setCell ⟨p, 2, none⟩ (.int .u64 (X1 : Int))).setCell ⟨p, 3, none⟩ (.int .u64 0)).setCell ⟨p, 4, none⟩ (.int .i64 (D0 : Int)))) := hid (((((H6.out.set 0 (.bool false)).set 1 (.int .u64 (M1 : Int))).set 2 (.int .u64 (X1 : Int))).set 3 (.int .u64 0)).set 4 (.int .i64 (D0 : Int)))
      go_wp2_with fail
      refine bodyPost_ret (results_cell_tmp (cs := msC ⟨false, M1, X1, 0, D0⟩) Tryz.results126 rfl agg_ms H9.out.1) rfl ⟨⟨⟨false, M1, X1, 0, D0⟩, false, rfl, fun hok => ?_, fun hok => ?_⟩, H9.out.2.1⟩
      · cases hok
      · intro m' hm
        have h1 := hm.mx
        have h2 := hm.le
        have h3 := H1s.out.2.1
        rw [HE.out.2.1] at h1
        omega
    have d2 : decide ((X1 : Int) > 4294967295) = false := decide_eq_false (by omega)
    have d2n : decide (X1 > 4294967295) = false := decide_eq_false hbig
    have d2m : decide (4294967295 < X1) = false := decide_eq_false hbig
    have H7 := hid (H6.out.set 3 (.int .u64 1))
    go_upto_region 15 with fail
    generalize hw3 : w6.setCell _ _ = w7 at H7 ⊢
    clear hw3 H6 d2 d2n d2m
    clear a0 az0 a1 az1 a2 az2 a3 az3 a4 az4
    have a0 : w7.cell? ⟨p, 0, none⟩ = some (.bool false) := H7.out.1.cell 0
    have az0 : w7.frozen? ⟨p, 0, none⟩ = false := H7.out.1.frozen 0
    have a1 : w7.cell? ⟨p, 1, none⟩ = some (.int .u64 (M1 : Int)) := H7.out.1.cell 1
    have az1 : w7.frozen? ⟨p, 1, none⟩ = false := H7.out.1.frozen 1
    have a2 : w7.cell? ⟨p, 2, none⟩ = some (.int .u64 (X1 : Int)) := H7.out.1.cell 2
    have az2 : w7.frozen? ⟨p, 2, none⟩ = false := H7.out.1.frozen 2
    have a3 : w7.cell? ⟨p, 3, none⟩ = some (.int .u64 1) := H7.out.1.cell 3
    have az3 : w7.frozen? ⟨p, 3, none⟩ = false := H7.out.1.frozen 3
    have a4 : w7.cell? ⟨p, 4, none⟩ = some (.int .i64 (D0 : Int)) := H7.out.1.cell 4
    have az4 : w7.frozen? ⟨p, 4, none⟩ = false := H7.out.1.frozen 4
    have H8 := hid (H7.out.set 4 (.int .i64 (D1 : Int)))
    go_upto_region 16 with fail
    (try simp only [ed1, ed2])
    generalize hw3 : w7.setCell _ _ = w8 at H8 ⊢
    clear hw3 H7 ed1 ed2
    clear a0 az0 a1 az1 a2 az2 a3 az3 a4 az4
    have a0 : w8.cell? ⟨p, 0, none⟩ = some (.bool false) := H8.out.1.cell 0
    have az0 : w8.frozen? ⟨p, 0, none⟩ = false := H8.out.1.frozen 0
    have a1 : w8.cell? ⟨p, 1, none⟩ = some (.int .u64 (M1 : Int)) := H8.out.1.cell 1
    have az1 : w8.frozen? ⟨p, 1, none⟩ = false := H8.out.1.frozen 1
    have a2 : w8.cell? ⟨p, 2, none⟩ = some (.int .u64 (X1 : Int)) := H8.out.1.cell 2
    have az2 : w8.frozen? ⟨p, 2, none⟩ = false := H8.out.1.frozen 2
    have a3 : w8.cell? ⟨p, 3, none⟩ = some (.int .u64 1) := H8.out.1.cell 3
    have az3 : w8.frozen? ⟨p, 3, none⟩ = false := H8.out.1.frozen 3
    have a4 : w8.cell? ⟨p, 4, none⟩ = some (.int .i64 (D1 : Int)) := H8.out.1.cell 4
    have az4 : w8.frozen? ⟨p, 4, none⟩ = false := H8.out.1.frozen 4
    have H9 : Hid (MLo w p (msC ⟨false, M1, X1, 1, D1⟩) (((((w8.setCell ⟨p, 0, none⟩ (.bool false)).setCell ⟨p, 1, none⟩ (.int .u64 (M1 : Int))).setCell ⟨p, 2, none⟩ (.int .u64 (X1 : Int))).setCell ⟨p, 3, none⟩ (.int .u64 1)).setCell ⟨p, 4, none⟩ (.int .i64 (D1 : Int)))) := hid (((((H8.out.set 0 (.bool false)).set 1 (.int .u64 (M1 : Int))).set 2 (.int .u64 (X1 : Int))).set 3 (.int .u64 1)).set 4 (.int .i64 (D1 : Int)))
    go_wp2_with fail
    refine bodyPost_ret (results_cell_tmp (cs := msC ⟨false, M1, X1, 1, D1⟩) Tryz.results126 rfl agg_ms H9.out.1) rfl ⟨⟨⟨false, M1, X1, 1, D1⟩, true, rfl, fun hok => ?_, fun hok => ?_⟩, H9.out.2.1⟩
    · obtain ⟨g1, g2, g3⟩ := HE.out
      obtain ⟨g4, g5, g6⟩ := H1s.out
      exact ⟨rfl, by show M1 = _; omega, by show X1 = _; omega, by show X1 ≤ _; omega, rfl, by show D1 = _; omega⟩
    · cases hok
  have d1 : decide ((j : Int) < (m : Int)) = true := decide_eq_true (by omega)
  have i1 : (j : Int) < (m : Int) := by omega
  obtain ⟨y, hy⟩ : ∃ y, ps[j]? = some y := ⟨_, List.getElem?_eq_getElem (by rw [Hpl.out]; exact hin)⟩
  obtain ⟨t, htt, hcl⟩ := HFd.out j y hy
  have f1 := hcl wr HI.out.2.1
  have Htk : Hid (ps.take (j + 1) = ps.take j ++ [y]) := hid (by rw [List.take_add_one, hy]; rfl)
  have hby := Hbp.out y (List.mem_of_getElem? hy)
  have hbt : ∀ z ∈ ps.take j, TRb z := fun z hz => Hbp.out z (List.mem_of_mem_take hz)
  have hyd := hby.depth
  have hymn := hby.mn
  have hymx := hby.mx
  have hj0 : (ps.take j = []) ↔ j = 0 := by
    constructor
    · intro e
      have := congrArg List.length e
      rw [List.length_take, Hpl.out] at this
      simp at this
      omega
    · intro e; subst e; rfl
  obtain ⟨gt2, q2, hv2, _, _, hc2⟩ := HT.out.1.ty htt
  rw [HT.out.2, Hv.out] at hv2
  injection hv2 with e1 e2 e3
  injection e1 with e1
  injection e1 with e1
  subst e1
  have htn : t < nt := by rw [← HT.out.2]; exact (List.getElem?_eq_some_iff.1 htt).1
  have i2 : (t : Int) < (nt : Int) := by omega
  obtain ⟨ymn, hymn2⟩ : ∃ a, y.mn = a := ⟨_, rfl⟩
  obtain ⟨ymx, hymx2⟩ : ∃ a, y.mx = a := ⟨_, rfl⟩
  obtain ⟨yd, hyd2⟩ : ∃ a, y.depth = a := ⟨_, rfl⟩
  rw [hyd2] at hyd
  rw [hymn2] at hymn
  rw [hymx2] at hymx
  have HYc : Hid (∀ wz, Below w.heap.size w wz → wz.cell? ⟨gt, t * 12 + 9, none⟩ = some (.int .u32 (ymn : Int)) ∧ wz.cell? ⟨gt, t * 12 + 10, none⟩ = some (.int .u32 (ymx : Int)) ∧ wz.cell? ⟨gt, t * 12 + 2, none⟩ = some (.int .u8 (yd : Int))) := hid (fun wz hz => ⟨by rw [keepCell _ (hz.block gt Hgl.out), ← hymn2]; exact hc2 9 (by decide), by rw [keepCell _ (hz.block gt Hgl.out), ← hymx2]; exact hc2 10 (by decide), by rw [keepCell _ (hz.block gt Hgl.out), ← hyd2]; exact hc2 2 (by decide)⟩)
  have HE1 : Hid (unMn (ps.take (j + 1)) = (if j = 0 then ymn else min (unMn (ps.take j)) ymn) ∧ unMx (ps.take (j + 1)) = max (unMx (ps.take j)) ymx ∧ cnD (ps.take (j + 1)) = max (cnD (ps.take j)) yd) := hid (by
    rw [Htk.out, unMn_snoc, unMx_snoc, cnD_snoc, hymn2, hymx2, hyd2]
    refine ⟨?_, rfl, rfl⟩
    by_cases h0 : j = 0
    · rw [if_pos (hj0.2 h0), if_pos h0]
    · rw [if_neg (fun e => h0 (hj0.1 e)), if_neg h0])
  have HG : Hid (∀ (M1 X1 D1 : Nat) we, M1 = (if j = 0 then ymn else min (unMn (ps.take j)) ymn) → X1 = max (unMx (ps.take j)) ymx → D1 = max (cnD (ps.take j)) yd → MLo w p [.bool false, .int .u64 (M1 : Int), .int .u64 (X1 : Int), .int .u64 0, .int .i64 (D1 : Int)] we → MLo w p [.bool false, .int .u64 (unMn (ps.take (j + 1)) : Int), .int .u64 (unMx (ps.take (j + 1)) : Int), .int .u64 0, .int .i64 (cnD (ps.take (j + 1)) : Int)] we) := hid (fun M1 X1 D1 we g1 g2 g3 hw => by rw [HE1.out.1, HE1.out.2.1, HE1.out.2.2, ← g1, ← g2, ← g3]; exact hw)
  have hbM := unMn_le (ps.take j) hbt
  have hbX : unMx (ps.take j) ≤ 4294967295 := unMx_le (ps.take j) 0 (by decide) hbt
  have hbD : cnD (ps.take j) ≤ 63 := cnD_le (ps.take j) 0 (by decide) hbt
  generalize unMn (ps.take j) = M0 at HI HG hbM
  generalize unMx (ps.take j) = Xa at HI HG hbX
  generalize cnD (ps.take j) = D0 at HI HG hbD
  clear HE1 hc2 hy htt hby hbt hymn2 hymx2 hyd2 Htk hj0 hcl
  have k0 := (HK.out wr HI.out.2.1).1
  have y9 := (HYc.out wr HI.out.2.1).1
  have a0 : wr.cell? ⟨p, 0, none⟩ = some (.bool false) := HI.out.1.cell 0
  have az0 : wr.frozen? ⟨p, 0, none⟩ = false := HI.out.1.frozen 0
  have a1 : wr.cell? ⟨p, 1, none⟩ = some (.int .u64 (M0 : Int)) := HI.out.1.cell 1
  have az1 : wr.frozen? ⟨p, 1, none⟩ = false := HI.out.1.frozen 1
  have a2 : wr.cell? ⟨p, 2, none⟩ = some (.int .u64 (Xa : Int)) := HI.out.1.cell 2
  have az2 : wr.frozen? ⟨p, 2, none⟩ = false := HI.out.1.frozen 2
  have a3 : wr.cell? ⟨p, 3, none⟩ = some (.int .u64 0) := HI.out.1.cell 3
  have az3 : wr.frozen? ⟨p, 3, none⟩ = false := HI.out.1.frozen 3
  have a4 : wr.cell? ⟨p, 4, none⟩ = some (.int .i64 (D0 : Int)) := HI.out.1.cell 4
  have az4 : wr.frozen? ⟨p, 4, none⟩ = false := HI.out.1.frozen 4
  have e9 : IntKind.u64.wrap (ymn : Int) = (ymn : Int) := by rw [IntKind.wrap_u64]; omega
  have e10 : IntKind.u64.wrap (ymx : Int) = (ymx : Int) := by rw [IntKind.wrap_u64]; omega
  have e11 : IntKind.i64.wrap (yd : Int) = (yd : Int) := by rw [IntKind.wrap_i64]; omega
  go_upto_region 5 with fail
  by_cases h0 : j = 0
  · have t1 : ((j : Int) == 0) = true := by simp; omega
    obtain ⟨X0, W, hT, hI⟩ := class_mk (fun w' => Drew wr w')
    have H0 : Hid (∃ y, wr.drew = W y) := hid (hI _ ⟨1, rfl⟩)
    have hne : Nonempty X0 := ⟨H0.out.choose⟩
    have HTT := hid hT
    have q9 : ∀ z, (W z).cell? ⟨gt, t * 12 + 9, none⟩ = some (.int .u32 (ymn : Int)) := fun y => by obtain ⟨m, e⟩ := hT y; rw [e]; exact y9
    have q1 : ∀ z, (W z).cell? ⟨p, 1, none⟩ = some (.int .u64 (M0 : Int)) := fun y => by obtain ⟨m, e⟩ := hT y; rw [e]; exact a1
    have qz : ∀ z, (W z).frozen? ⟨p, 1, none⟩ = false := fun y => by obtain ⟨m, e⟩ := hT y; rw [e]; exact az1
    clear hT hI
    refine wp_region_class W (by kernel_rfl) (by kernel_rfl) H0.out ?_
    repeat (go_big_quiet_step (fail))
    refine wpQuiet_nil ?_
    intro z
    have HD := hid (HTT.out z)
    have HB := hid ((HTT.out z).below wr.heap.size)
    have q9z := q9 z
    have q1z := q1 z
    have qzz := qz z
    generalize W z = w5 at HD HB q9z q1z qzz ⊢
    clear H0 HTT q9 q1 qz
    have H6 := hid ((HI.out.below HB.out).set 1 (.int .u64 (ymn : Int)))
    clear a0 az0 a1 az1 a2 az2 a3 az3 a4 az4
    go_upto_region 7 with fail
    (try simp only [e9])
    generalize hw3 : w5.setCell _ _ = w6 at H6 ⊢
    clear hw3 HI HB HD q9z q1z qzz y9 k0 t1
    have hz0 := (HYc.out w6 H6.out.2.1).2.1
    have a0 : w6.cell? ⟨p, 0, none⟩ = some (.bool false) := H6.out.1.cell 0
    have az0 : w6.frozen? ⟨p, 0, none⟩ = false := H6.out.1.frozen 0
    have a1 : w6.cell? ⟨p, 1, none⟩ = some (.int .u64 (ymn : Int)) := H6.out.1.cell 1
    have az1 : w6.frozen? ⟨p, 1, none⟩ = false := H6.out.1.frozen 1
    have a2 : w6.cell? ⟨p, 2, none⟩ = some (.int .u64 (Xa : Int)) := H6.out.1.cell 2
    have az2 : w6.frozen? ⟨p, 2, none⟩ = false := H6.out.1.frozen 2
    have a3 : w6.cell? ⟨p, 3, none⟩ = some (.int .u64 0) := H6.out.1.cell 3
    have az3 : w6.frozen? ⟨p, 3, none⟩ = false := H6.out.1.frozen 3
    have a4 : w6.cell? ⟨p, 4, none⟩ = some (.int .i64 (D0 : Int)) := H6.out.1.cell 4
    have az4 : w6.frozen? ⟨p, 4, none⟩ = false := H6.out.1.frozen 4
    by_cases hlt : Xa < ymx
    · skip
      go_upto_region 7 with fail
      obtain ⟨X0, W, hT, hI⟩ := class_mk (fun w' => Drew w6 w')
      have H0 : Hid (∃ y, w6.drew = W y) := hid (hI _ ⟨1, rfl⟩)
      have hne : Nonempty X0 := ⟨H0.out.choose⟩
      have HTT := hid hT
      have c4 : ∀ z, (W z).cell? ⟨p, 2, none⟩ = some (.int .u64 (Xa : Int)) := fun y => by obtain ⟨m, e⟩ := hT y; rw [e]; exact a2
      have cz : ∀ z, (W z).frozen? ⟨p, 2, none⟩ = false := fun y => by obtain ⟨m, e⟩ := hT y; rw [e]; exact az2
      have cd : ∀ z, (W z).cell? ⟨gt, t * 12 + 10, none⟩ = some (.int .u32 (ymx : Int)) := fun y => by obtain ⟨m, e⟩ := hT y; rw [e]; exact hz0
      clear hT hI
      refine wp_region_class_tailT W 8 (by kernel_rfl) (by kernel_rfl) (by kernel_rfl) H0.out ?_
      dsimp only [List.take, List.drop]
      repeat (go_big_quiet_step (fail))
      refine wpQuiet_nil ?_
      intro z
      have HD := hid (HTT.out z)
      have HB := hid ((HTT.out z).below w6.heap.size)
      have c4z := c4 z
      have czz := cz z
      have cdz := cd z
      generalize W z = wc at HD HB c4z czz cdz ⊢
      clear H0 HTT c4 cz cd
      have H13 := hid ((H6.out.below HB.out).set 2 (.int .u64 (ymx : Int)))
      clear a0 az0 a1 az1 a2 az2 a3 az3 a4 az4
      go_upto_region 8 with fail
      generalize hw3 : wc.setCell _ _ = wd at H13 ⊢
      clear hw3 H6 HB HD hz0 c4z czz cdz
      have hz1 := (HYc.out wd H13.out.2.1).2.2
      have a0 : wd.cell? ⟨p, 0, none⟩ = some (.bool false) := H13.out.1.cell 0
      have az0 : wd.frozen? ⟨p, 0, none⟩ = false := H13.out.1.frozen 0
      have a1 : wd.cell? ⟨p, 1, none⟩ = some (.int .u64 (ymn : Int)) := H13.out.1.cell 1
      have az1 : wd.frozen? ⟨p, 1, none⟩ = false := H13.out.1.frozen 1
      have a2 : wd.cell? ⟨p, 2, none⟩ = some (.int .u64 (ymx : Int)) := H13.out.1.cell 2
      have az2 : wd.frozen? ⟨p, 2, none⟩ = false := H13.out.1.frozen 2
      have a3 : wd.cell? ⟨p, 3, none⟩ = some (.int .u64 0) := H13.out.1.cell 3
      have az3 : wd.frozen? ⟨p, 3, none⟩ = false := H13.out.1.frozen 3
      have a4 : wd.cell? ⟨p, 4, none⟩ = some (.int .i64 (D0 : Int)) := H13.out.1.cell 4
      have az4 : wd.frozen? ⟨p, 4, none⟩ = false := H13.out.1.frozen 4
      by_cases hlt2 : D0 < yd
      · skip
        go_upto_region 8 with fail
        obtain ⟨X0, W, hT, hI⟩ := class_mk (fun w' => Drew wd w')
        have H0 : Hid (∃ y, wd.drew = W y) := hid (hI _ ⟨1, rfl⟩)
        have hne : Nonempty X0 := ⟨H0.out.choose⟩
        have HTT := hid hT
        have c4 : ∀ z, (W z).cell? ⟨p, 4, none⟩ = some (.int .i64 (D0 : Int)) := fun y => by obtain ⟨m, e⟩ := hT y; rw [e]; exact a4
        have cz : ∀ z, (W z).frozen? ⟨p, 4, none⟩ = false := fun y => by obtain ⟨m, e⟩ := hT y; rw [e]; exact az4
        have cd : ∀ z, (W z).cell? ⟨gt, t * 12 + 2, none⟩ = some (.int .u8 (yd : Int)) := fun y => by obtain ⟨m, e⟩ := hT y; rw [e]; exact hz1
        clear hT hI
        refine wp_region_class_tailT W 8 (by kernel_rfl) (by kernel_rfl) (by kernel_rfl) H0.out ?_
        dsimp only [List.take, List.drop]
        repeat (go_big_quiet_step (fail))
        refine wpQuiet_nil ?_
        intro z
        have HD := hid (HTT.out z)
        have HB := hid ((HTT.out z).below wd.heap.size)
        have c4z := c4 z
        have czz := cz z
        have cdz := cd z
        generalize W z = we at HD HB c4z czz cdz ⊢
        clear H0 HTT c4 cz cd
        have HFF := hid (HG.out ymn ymx yd _ (by rw [if_pos h0]) (by omega) (by omega) ((H13.out.below HB.out).set 4 (.int .i64 (yd : Int))))
        clear H13 HB HD hz1 HG
        clear a0 az0 a1 az1 a2 az2 a3 az3 a4 az4
        go_wp2
        exact ⟨⟨j + 1, by go_num, by omega, HFF⟩, by simp [intOf]; omega⟩
      · skip
        go_upto_region 8 with fail
        obtain ⟨X0, W, hT, hI⟩ := class_mk (fun w' => Drew wd w')
        have H0 : Hid (∃ y, wd.drew = W y) := hid (hI _ ⟨1, rfl⟩)
        have hne : Nonempty X0 := ⟨H0.out.choose⟩
        have HTT := hid hT
        have c4 : ∀ z, (W z).cell? ⟨p, 4, none⟩ = some (.int .i64 (D0 : Int)) := fun y => by obtain ⟨m, e⟩ := hT y; rw [e]; exact a4
        have cz : ∀ z, (W z).frozen? ⟨p, 4, none⟩ = false := fun y => by obtain ⟨m, e⟩ := hT y; rw [e]; exact az4
        have cd : ∀ z, (W z).cell? ⟨gt, t * 12 + 2, none⟩ = some (.int .u8 (yd : Int)) := fun y => by obtain ⟨m, e⟩ := hT y; rw [e]; exact hz1
        clear hT hI
        refine wp_region_class_tailT W 8 (by kernel_rfl) (by kernel_rfl) (by kernel_rfl) H0.out ?_
        dsimp only [List.take, List.drop]
        repeat (go_big_quiet_step (fail))
        refine wpQuiet_nil ?_
        intro z
        have HD := hid (HTT.out z)
        have HB := hid ((HTT.out z).below wd.heap.size)
        have c4z := c4 z
        have czz := cz z
        have cdz := cd z
        generalize W z = we at HD HB c4z czz cdz ⊢
        clear H0 HTT c4 cz cd
        have HFF := hid (HG.out ymn ymx D0 _ (by rw [if_pos h0]) (by omega) (by omega) ((H13.out.below HB.out).set 4 (.int .i64 (D0 : Int))))
        clear H13 HB HD hz1 HG
        clear a0 az0 a1 az1 a2 az2 a3 az3 a4 az4
        go_wp2
        exact ⟨⟨j + 1, by go_num, by omega, HFF⟩, by simp [intOf]; omega⟩
    · skip
      go_upto_region 7 with fail
      obtain ⟨X0, W, hT, hI⟩ := class_mk (fun w' => Drew w6 w')
      have H0 : Hid (∃ y, w6.drew = W y) := hid (hI _ ⟨1, rfl⟩)
      have hne : Nonempty X0 := ⟨H0.out.choose⟩
      have HTT := hid hT
      have c4 : ∀ z, (W z).cell? ⟨p, 2, none⟩ = some (.int .u64 (Xa : Int)) := fun y => by obtain ⟨m, e⟩ := hT y; rw [e]; exact a2
      have cz : ∀ z, (W z).frozen? ⟨p, 2, none⟩ = false := fun y => by obtain ⟨m, e⟩ := hT y; rw [e]; exact az2
      have cd : ∀ z, (W z).cell? ⟨gt, t * 12 + 10, none⟩ = some (.int .u32 (ymx : Int)) := fun y => by obtain ⟨m, e⟩ := hT y; rw [e]; exact hz0
      clear hT hI
      refine wp_region_class_tailT W 8 (by kernel_rfl) (by kernel_rfl) (by kernel_rfl) H0.out ?_
      dsimp only [List.take, List.drop]
      repeat (go_big_quiet_step (fail))
      refine wpQuiet_nil ?_
      intro z
      have HD := hid (HTT.out z)
      have HB := hid ((HTT.out z).below w6.heap.size)
      have c4z := c4 z
      have czz := cz z
      have cdz := cd z
      generalize W z = wc at HD HB c4z czz cdz ⊢
      clear H0 HTT c4 cz cd
      have H13 := hid ((H6.out.below HB.out).set 2 (.int .u64 (Xa : Int)))
      clear a0 az0 a1 az1 a2 az2 a3 az3 a4 az4
      go_upto_region 8 with fail
      generalize hw3 : wc.setCell _ _ = wd at H13 ⊢
      clear hw3 H6 HB HD hz0 c4z czz cdz
      have hz1 := (HYc.out wd H13.out.2.1).2.2
      have a0 : wd.cell? ⟨p, 0, none⟩ = some (.bool false) := H13.out.1.cell 0
      have az0 : wd.frozen? ⟨p, 0, none⟩ = false := H13.out.1.frozen 0
      have a1 : wd.cell? ⟨p, 1, none⟩ = some (.int .u64 (ymn : Int)) := H13.out.1.cell 1
      have az1 : wd.frozen? ⟨p, 1, none⟩ = false := H13.out.1.frozen 1
      have a2 : wd.cell? ⟨p, 2, none⟩ = some (.int .u64 (Xa : Int)) := H13.out.1.cell 2
      have az2 : wd.frozen? ⟨p, 2, none⟩ = false := H13.out.1.frozen 2
      have a3 : wd.cell? ⟨p, 3, none⟩ = some (.int .u64 0) := H13.out.1.cell 3
      have az3 : wd.frozen? ⟨p, 3, none⟩ = false := H13.out.1.frozen 3
      have a4 : wd.cell? ⟨p, 4, none⟩ = some (.int .i64 (D0 : Int)) := H13.out.1.cell 4
      have az4 : wd.frozen? ⟨p, 4, none⟩ = false := H13.out.1.frozen 4
      by_cases hlt2 : D0 < yd
      · skip
        go_upto_region 8 with fail
        obtain ⟨X0, W, hT, hI⟩ := class_mk (fun w' => Drew wd w')
        have H0 : Hid (∃ y, wd.drew = W y) := hid (hI _ ⟨1, rfl⟩)
        have hne : Nonempty X0 := ⟨H0.out.choose⟩
        have HTT := hid hT
        have c4 : ∀ z, (W z).cell? ⟨p, 4, none⟩ = some (.int .i64 (D0 : Int)) := fun y => by obtain ⟨m, e⟩ := hT y; rw [e]; exact a4
        have cz : ∀ z, (W z).frozen? ⟨p, 4, none⟩ = false := fun y => by obtain ⟨m, e⟩ := hT y; rw [e]; exact az4
        have cd : ∀ z, (W z).cell? ⟨gt, t * 12 + 2, none⟩ = some (.int .u8 (yd : Int)) := fun y => by obtain ⟨m, e⟩ := hT y; rw [e]; exact hz1
        clear hT hI
        refine wp_region_class_tailT W 8 (by kernel_rfl) (by kernel_rfl) (by kernel_rfl) H0.out ?_
        dsimp only [List.take, List.drop]
        repeat (go_big_quiet_step (fail))
        refine wpQuiet_nil ?_
        intro z
        have HD := hid (HTT.out z)
        have HB := hid ((HTT.out z).below wd.heap.size)
        have c4z := c4 z
        have czz := cz z
        have cdz := cd z
        generalize W z = we at HD HB c4z czz cdz ⊢
        clear H0 HTT c4 cz cd
        have HFF := hid (HG.out ymn Xa yd _ (by rw [if_pos h0]) (by omega) (by omega) ((H13.out.below HB.out).set 4 (.int .i64 (yd : Int))))
        clear H13 HB HD hz1 HG
        clear a0 az0 a1 az1 a2 az2 a3 az3 a4 az4
        go_wp2
        exact ⟨⟨j + 1, by go_num, by omega, HFF⟩, by simp [intOf]; omega⟩
      · skip
        go_upto_region 8 with fail
        obtain ⟨X0, W, hT, hI⟩ := class_mk (fun w' => Drew wd w')
        have H0 : Hid (∃ y, wd.drew = W y) := hid (hI _ ⟨1, rfl⟩)
        have hne : Nonempty X0 := ⟨H0.out.choose⟩
        have HTT := hid hT
        have c4 : ∀ z, (W z).cell? ⟨p, 4, none⟩ = some (.int .i64 (D0 : Int)) := fun y => by obtain ⟨m, e⟩ := hT y; rw [e]; exact a4
        have cz : ∀ z, (W z).frozen? ⟨p, 4, none⟩ = false := fun y => by obtain ⟨m, e⟩ := hT y; rw [e]; exact az4
        have cd : ∀ z, (W z).cell? ⟨gt, t * 12 + 2, none⟩ = some (.int .u8 (yd : Int)) := fun y => by obtain ⟨m, e⟩ := hT y; rw [e]; exact hz1
        clear hT hI
        refine wp_region_class_tailT W 8 (by kernel_rfl) (by kernel_rfl) (by kernel_rfl) H0.out ?_
        dsimp only [List.take, List.drop]
        repeat (go_big_quiet_step (fail))
        refine wpQuiet_nil ?_
        intro z
        have HD := hid (HTT.out z)
        have HB := hid ((HTT.out z).below wd.heap.size)
        have c4z := c4 z
        have czz := cz z
        have cdz := cd z
        generalize W z = we at HD HB c4z czz cdz ⊢
        clear H0 HTT c4 cz cd
        have HFF := hid (HG.out ymn Xa D0 _ (by rw [if_pos h0]) (by omega) (by omega) ((H13.out.below HB.out).set 4 (.int .i64 (D0 : Int))))
        clear H13 HB HD hz1 HG
        clear a0 az0 a1 az1 a2 az2 a3 az3 a4 az4
        go_wp2
        exact ⟨⟨j + 1, by go_num, by omega, HFF⟩, by simp [intOf]; omega⟩
  have t1 : ((j : Int) == 0) = false := by simp; omega
  by_cases hmm : ymn < M0
  · have t2 : decide (ymn < M0) = true := decide_eq_true hmm
    obtain ⟨X0, W, hT, hI⟩ := class_mk (fun w' => Drew wr w')
    have H0 : Hid (∃ y, wr.drew = W y) := hid (hI _ ⟨1, rfl⟩)
    have hne : Nonempty X0 := ⟨H0.out.choose⟩
    have HTT := hid hT
    have q9 : ∀ z, (W z).cell? ⟨gt, t * 12 + 9, none⟩ = some (.int .u32 (ymn : Int)) := fun y => by obtain ⟨m, e⟩ := hT y; rw [e]; exact y9
    have q1 : ∀ z, (W z).cell? ⟨p, 1, none⟩ = some (.int .u64 (M0 : Int)) := fun y => by obtain ⟨m, e⟩ := hT y; rw [e]; exact a1
    have qz : ∀ z, (W z).frozen? ⟨p, 1, none⟩ = false := fun y => by obtain ⟨m, e⟩ := hT y; rw [e]; exact az1
    clear hT hI
    refine wp_region_class W (by kernel_rfl) (by kernel_rfl) H0.out ?_
    repeat (go_big_quiet_step (fail))
    refine wpQuiet_nil ?_
    intro z
    have HD := hid (HTT.out z)
    have HB := hid ((HTT.out z).below wr.heap.size)
    have q9z := q9 z
    have q1z := q1 z
    have qzz := qz z
    generalize W z = w5 at HD HB q9z q1z qzz ⊢
    clear H0 HTT q9 q1 qz
    have H6 := hid ((HI.out.below HB.out).set 1 (.int .u64 (ymn : Int)))
    clear a0 az0 a1 az1 a2 az2 a3 az3 a4 az4
    go_upto_region 7 with fail
    (try simp only [e9])
    generalize hw3 : w5.setCell _ _ = w6 at H6 ⊢
    clear hw3 HI HB HD q9z q1z qzz y9 k0 t1 t2
    have hz0 := (HYc.out w6 H6.out.2.1).2.1
    have a0 : w6.cell? ⟨p, 0, none⟩ = some (.bool false) := H6.out.1.cell 0
    have az0 : w6.frozen? ⟨p, 0, none⟩ = false := H6.out.1.frozen 0
    have a1 : w6.cell? ⟨p, 1, none⟩ = some (.int .u64 (ymn : Int)) := H6.out.1.cell 1
    have az1 : w6.frozen? ⟨p, 1, none⟩ = false := H6.out.1.frozen 1
    have a2 : w6.cell? ⟨p, 2, none⟩ = some (.int .u64 (Xa : Int)) := H6.out.1.cell 2
    have az2 : w6.frozen? ⟨p, 2, none⟩ = false := H6.out.1.frozen 2
    have a3 : w6.cell? ⟨p, 3, none⟩ = some (.int .u64 0) := H6.out.1.cell 3
    have az3 : w6.frozen? ⟨p, 3, none⟩ = false := H6.out.1.frozen 3
    have a4 : w6.cell? ⟨p, 4, none⟩ = some (.int .i64 (D0 : Int)) := H6.out.1.cell 4
    have az4 : w6.frozen? ⟨p, 4, none⟩ = false := H6.out.1.frozen 4
    by_cases hlt : Xa < ymx
    · skip
      go_upto_region 7 with fail
      obtain ⟨X0, W, hT, hI⟩ := class_mk (fun w' => Drew w6 w')
      have H0 : Hid (∃ y, w6.drew = W y) := hid (hI _ ⟨1, rfl⟩)
      have hne : Nonempty X0 := ⟨H0.out.choose⟩
      have HTT := hid hT
      have c4 : ∀ z, (W z).cell? ⟨p, 2, none⟩ = some (.int .u64 (Xa : Int)) := fun y => by obtain ⟨m, e⟩ := hT y; rw [e]; exact a2
      have cz : ∀ z, (W z).frozen? ⟨p, 2, none⟩ = false := fun y => by obtain ⟨m, e⟩ := hT y; rw [e]; exact az2
      have cd : ∀ z, (W z).cell? ⟨gt, t * 12 + 10, none⟩ = some (.int .u32 (ymx : Int)) := fun y => by obtain ⟨m, e⟩ := hT y; rw [e]; exact hz0
      clear hT hI
      refine wp_region_class_tailT W 8 (by kernel_rfl) (by kernel_rfl) (by kernel_rfl) H0.out ?_
      dsimp only [List.take, List.drop]
      repeat (go_big_quiet_step (fail))
      refine wpQuiet_nil ?_
      intro z
      have HD := hid (HTT.out z)
      have HB := hid ((HTT.out z).below w6.heap.size)
      have c4z := c4 z
      have czz := cz z
      have cdz := cd z
      generalize W z = wc at HD HB c4z czz cdz ⊢
      clear H0 HTT c4 cz cd
      have H13 := hid ((H6.out.below HB.out).set 2 (.int .u64 (ymx : Int)))
      clear a0 az0 a1 az1 a2 az2 a3 az3 a4 az4
      go_upto_region 8 with fail
      generalize hw3 : wc.setCell _ _ = wd at H13 ⊢
      clear hw3 H6 HB HD hz0 c4z czz cdz
      have hz1 := (HYc.out wd H13.out.2.1).2.2
      have a0 : wd.cell? ⟨p, 0, none⟩ = some (.bool false) := H13.out.1.cell 0
      have az0 : wd.frozen? ⟨p, 0, none⟩ = false := H13.out.1.frozen 0
      have a1 : wd.cell? ⟨p, 1, none⟩ = some (.int .u64 (ymn : Int)) := H13.out.1.cell 1
      have az1 : wd.frozen? ⟨p, 1, none⟩ = false := H13.out.1.frozen 1
      have a2 : wd.cell? ⟨p, 2, none⟩ = some (.int .u64 (ymx : Int)) := H13.out.1.cell 2
      have az2 : wd.frozen? ⟨p, 2, none⟩ = false := H13.out.1.frozen 2
      have a3 : wd.cell? ⟨p, 3, none⟩ = some (.int .u64 0) := H13.out.1.cell 3
      have az3 : wd.frozen? ⟨p, 3, none⟩ = false := H13.out.1.frozen 3
      have a4 : wd.cell? ⟨p, 4, none⟩ = some (.int .i64 (D0 : Int)) := H13.out.1.cell 4
      have az4 : wd.frozen? ⟨p, 4, none⟩ = false := H13.out.1.frozen 4
      by_cases hlt2 : D0 < yd
      · skip
        go_upto_region 8 with fail
        obtain ⟨X0, W, hT, hI⟩ := class_mk (fun w' => Drew wd w')
        have H0 : Hid (∃ y, wd.drew = W y) := hid (hI _ ⟨1, rfl⟩)
        have hne : Nonempty X0 := ⟨H0.out.choose⟩
        have HTT := hid hT
        have c4 : ∀ z, (W z).cell? ⟨p, 4, none⟩ = some (.int .i64 (D0 : Int)) := fun y => by obtain ⟨m, e⟩ := hT y; rw [e]; exact a4
        have cz : ∀ z, (W z).frozen? ⟨p, 4, none⟩ = false := fun y => by obtain ⟨m, e⟩ := hT y; rw [e]; exact az4
        have cd : ∀ z, (W z).cell? ⟨gt, t * 12 + 2, none⟩ = some (.int .u8 (yd : Int)) := fun y => by obtain ⟨m, e⟩ := hT y; rw [e]; exact hz1
        clear hT hI
        refine wp_region_class_tailT W 8 (by kernel_rfl) (by kernel_rfl) (by kernel_rfl) H0.out ?_
        dsimp only [List.take, List.drop]
        repeat (go_big_quiet_step (fail))
        refine wpQuiet_nil ?_
        intro z
        have HD := hid (HTT.out z)
        have HB := hid ((HTT.out z).below wd.heap.size)
        have c4z := c4 z
        have czz := cz z
        have cdz := cd z
        generalize W z = we at HD HB c4z czz cdz ⊢
        clear H0 HTT c4 cz cd
        have HFF := hid (HG.out ymn ymx yd _ (by rw [if_neg h0]; omega) (by omega) (by omega) ((H13.out.below HB.out).set 4 (.int .i64 (yd : Int))))
        clear H13 HB HD hz1 HG
        clear a0 az0 a1 az1 a2 az2 a3 az3 a4 az4
        go_wp2
        exact ⟨⟨j + 1, by go_num, by omega, HFF⟩, by simp [intOf]; omega⟩
      · skip
        go_upto_region 8 with fail
        obtain ⟨X0, W, hT, hI⟩ := class_mk (fun w' => Drew wd w')
        have H0 : Hid (∃ y, wd.drew = W y) := hid (hI _ ⟨1, rfl⟩)
        have hne : Nonempty X0 := ⟨H0.out.choose⟩
        have HTT := hid hT
        have c4 : ∀ z, (W z).cell? ⟨p, 4, none⟩ = some (.int .i64 (D0 : Int)) := fun y => by obtain ⟨m, e⟩ := hT y; rw [e]; exact a4
        have cz : ∀ z, (W z).frozen? ⟨p, 4, none⟩ = false := fun y => by obtain ⟨m, e⟩ := hT y; rw [e]; exact az4
        have cd : ∀ z, (W z).cell? ⟨gt, t * 12 + 2, none⟩ = some (.int .u8 (yd : Int)) := fun y => by obtain ⟨m, e⟩ := hT y; rw [e]; exact hz1
        clear hT hI
        refine wp_region_class_tailT W 8 (by kernel_rfl) (by kernel_rfl) (by kernel_rfl) H0.out ?_
        dsimp only [List.take, List.drop]
        repeat (go_big_quiet_step (fail))
        refine wpQuiet_nil ?_
        intro z
        have HD := hid (HTT.out z)
        have HB := hid ((HTT.out z).below wd.heap.size)
        have c4z := c4 z
        have czz := cz z
        have cdz := cd z
        generalize W z = we at HD HB c4z czz cdz ⊢
        clear H0 HTT c4 cz cd
        have HFF := hid (HG.out ymn ymx D0 _ (by rw [if_neg h0]; omega) (by omega) (by omega) ((H13.out.below HB.out).set 4 (.int .i64 (D0 : Int))))
        clear H13 HB HD hz1 HG
        clear a0 az0 a1 az1 a2 az2 a3 az3 a4 az4
        go_wp2
        exact ⟨⟨j + 1, by go_num, by omega, HFF⟩, by simp [intOf]; omega⟩
    · skip
      go_upto_region 7 with fail
      obtain ⟨X0, W, hT, hI⟩ := class_mk (fun w' => Drew w6 w')
      have H0 : Hid (∃ y, w6.drew = W y) := hid (hI _ ⟨1, rfl⟩)
      have hne : Nonempty X0 := ⟨H0.out.choose⟩
      have HTT := hid hT
      have c4 : ∀ z, (W z).cell? ⟨p, 2, none⟩ = some (.int .u64 (Xa : Int)) := fun y => by obtain ⟨m, e⟩ := hT y; rw [e]; exact a2
      have cz : ∀ z, (W z).frozen? ⟨p, 2, none⟩ = false := fun y => by obtain ⟨m, e⟩ := hT y; rw [e]; exact az2
      have cd : ∀ z, (W z).cell? ⟨gt, t * 12 + 10, none⟩ = some (.int .u32 (ymx : Int)) := fun y => by obtain ⟨m, e⟩ := hT y; rw [e]; exact hz0
      clear hT hI
      refine wp_region_class_tailT W 8 (by kernel_rfl) (by kernel_rfl) (by kernel_rfl) H0.out ?_
      dsimp only [List.take, List.drop]
      repeat (go_big_quiet_step (fail))
      refine wpQuiet_nil ?_
      intro z
      have HD := hid (HTT.out z)
      have HB := hid ((HTT.out z).below w6.heap.size)
      have c4z := c4 z
      have czz := cz z
      have cdz := cd z
      generalize W z = wc at HD HB c4z czz cdz ⊢
      clear H0 HTT c4 cz cd
      have H13 := hid ((H6.out.below HB.out).set 2 (.int .u64 (Xa : Int)))
      clear a0 az0 a1 az1 a2 az2 a3 az3 a4 az4
      go_upto_region 8 with fail
      generalize hw3 : wc.setCell _ _ = wd at H13 ⊢
      clear hw3 H6 HB HD hz0 c4z czz cdz
      have hz1 := (HYc.out wd H13.out.2.1).2.2
      have a0 : wd.cell? ⟨p, 0, none⟩ = some (.bool false) := H13.out.1.cell 0
      have az0 : wd.frozen? ⟨p, 0, none⟩ = false := H13.out.1.frozen 0
      have a1 : wd.cell? ⟨p, 1, none⟩ = some (.int .u64 (ymn : Int)) := H13.out.1.cell 1
      have az1 : wd.frozen? ⟨p, 1, none⟩ = false := H13.out.1.frozen 1
      have a2 : wd.cell? ⟨p, 2, none⟩ = some (.int .u64 (Xa : Int)) := H13.out.1.cell 2
      have az2 : wd.frozen? ⟨p, 2, none⟩ = false := H13.out.1.frozen 2
      have a3 : wd.cell? ⟨p, 3, none⟩ = some (.int .u64 0) := H13.out.1.cell 3
      have az3 : wd.frozen? ⟨p, 3, none⟩ = false := H13.out.1.frozen 3
      have a4 : wd.cell? ⟨p, 4, none⟩ = some (.int .i64 (D0 : Int)) := H13.out.1.cell 4
      have az4 : wd.frozen? ⟨p, 4, none⟩ = false := H13.out.1.frozen 4
      by_cases hlt2 : D0 < yd
      · skip
        go_upto_region 8 with fail
        obtain ⟨X0, W, hT, hI⟩ := class_mk (fun w' => Drew wd w')
        have H0 : Hid (∃ y, wd.drew = W y) := hid (hI _ ⟨1, rfl⟩)
        have hne : Nonempty X0 := ⟨H0.out.choose⟩
        have HTT := hid hT
        have c4 : ∀ z, (W z).cell? ⟨p, 4, none⟩ = some (.int .i64 (D0 : Int)) := fun y => by obtain ⟨m, e⟩ := hT y; rw [e]; exact a4
        have cz : ∀ z, (W z).frozen? ⟨p, 4, none⟩ = false := fun y => by obtain ⟨m, e⟩ := hT y; rw [e]; exact az4
        have cd : ∀ z, (W z).cell? ⟨gt, t * 12 + 2, none⟩ = some (.int .u8 (yd : Int)) := fun y => by obtain ⟨m, e⟩ := hT y; rw [e]; exact hz1
        clear hT hI
        refine wp_region_class_tailT W 8 (by kernel_rfl) (by kernel_rfl) (by kernel_rfl) H0.out ?_
        dsimp only [List.take, List.drop]
        repeat (go_big_quiet_step (fail))
        refine wpQuiet_nil ?_
        intro z
        have HD := hid (HTT.out z)
        have HB := hid ((HTT.out z).below wd.heap.size)
        have c4z := c4 z
        have czz := cz z
        have cdz := cd z
        generalize W z = we at HD HB c4z czz cdz ⊢
        clear H0 HTT c4 cz cd
        have HFF := hid (HG.out ymn Xa yd _ (by rw [if_neg h0]; omega) (by omega) (by omega) ((H13.out.below HB.out).set 4 (.int .i64 (yd : Int))))
        clear H13 HB HD hz1 HG
        clear a0 az0 a1 az1 a2 az2 a3 az3 a4 az4
        go_wp2
        exact ⟨⟨j + 1, by go_num, by omega, HFF⟩, by simp [intOf]; omega⟩
      · skip
        go_upto_region 8 with fail
        obtain ⟨X0, W, hT, hI⟩ := class_mk (fun w' => Drew wd w')
        have H0 : Hid (∃ y, wd.drew = W y) := hid (hI _ ⟨1, rfl⟩)
        have hne : Nonempty X0 := ⟨H0.out.choose⟩
        have HTT := hid hT
        have c4 : ∀ z, (W z).cell? ⟨p, 4, none⟩ = some (.int .i64 (D0 : Int)) := fun y => by obtain ⟨m, e⟩ := hT y; rw [e]; exact a4
        have cz : ∀ z, (W z).frozen? ⟨p, 4, none⟩ = false := fun y => by obtain ⟨m, e⟩ := hT y; rw [e]; exact az4
        have cd : ∀ z, (W z).cell? ⟨gt, t * 12 + 2, none⟩ = some (.int .u8 (yd : Int)) := fun y => by obtain ⟨m, e⟩ := hT y; rw [e]; exact hz1
        clear hT hI
        refine wp_region_class_tailT W 8 (by kernel_rfl) (by kernel_rfl) (by kernel_rfl) H0.out ?_
        dsimp only [List.take, List.drop]
        repeat (go_big_quiet_step (fail))
        refine wpQuiet_nil ?_
        intro z
        have HD := hid (HTT.out z)
        have HB := hid ((HTT.out z).below wd.heap.size)
        have c4z := c4 z
        have czz := cz z
        have cdz := cd z
        generalize W z = we at HD HB c4z czz cdz ⊢
        clear H0 HTT c4 cz cd
        have HFF := hid (HG.out ymn Xa D0 _ (by rw [if_neg h0]; omega) (by omega) (by omega) ((H13.out.below HB.out).set 4 (.int .i64 (D0 : Int))))
        clear H13 HB HD hz1 HG
        clear a0 az0 a1 az1 a2 az2 a3 az3 a4 az4
        go_wp2
        exact ⟨⟨j + 1, by go_num, by omega, HFF⟩, by simp [intOf]; omega⟩
  have t2 : decide (ymn < M0) = false := decide_eq_false hmm
  obtain ⟨X0, W, hT, hI⟩ := class_mk (fun w' => Drew wr w')
  have H0 : Hid (∃ y, wr.drew = W y) := hid (hI _ ⟨1, rfl⟩)
  have hne : Nonempty X0 := ⟨H0.out.choose⟩
  have HTT := hid hT
  have q9 : ∀ z, (W z).cell? ⟨gt, t * 12 + 9, none⟩ = some (.int .u32 (ymn : Int)) := fun y => by obtain ⟨m, e⟩ := hT y; rw [e]; exact y9
  have q1 : ∀ z, (W z).cell? ⟨p, 1, none⟩ = some (.int .u64 (M0 : Int)) := fun y => by obtain ⟨m, e⟩ := hT y; rw [e]; exact a1
  clear hT hI
  refine wp_region_class W (by kernel_rfl) (by kernel_rfl) H0.out ?_
  repeat (go_big_quiet_step (fail))
  refine wpQuiet_nil ?_
  intro z
  have HD := hid (HTT.out z)
  have HB := hid ((HTT.out z).below wr.heap.size)
  have q9z := q9 z
  have q1z := q1 z
  generalize W z = w5 at HD HB q9z q1z ⊢
  clear H0 HTT q9 q1
  have H6 := hid (HI.out.below HB.out)
  clear a0 az0 a1 az1 a2 az2 a3 az3 a4 az4
  go_upto_region 7 with fail
  clear HI HB HD q9z q1z y9 k0 t1 t2
  have hz0 := (HYc.out w5 H6.out.2.1).2.1
  have a0 : w5.cell? ⟨p, 0, none⟩ = some (.bool false) := H6.out.1.cell 0
  have az0 : w5.frozen? ⟨p, 0, none⟩ = false := H6.out.1.frozen 0
  have a1 : w5.cell? ⟨p, 1, none⟩ = some (.int .u64 (M0 : Int)) := H6.out.1.cell 1
  have az1 : w5.frozen? ⟨p, 1, none⟩ = false := H6.out.1.frozen 1
  have a2 : w5.cell? ⟨p, 2, none⟩ = some (.int .u64 (Xa : Int)) := H6.out.1.cell 2
  have az2 : w5.frozen? ⟨p, 2, none⟩ = false := H6.out.1.frozen 2
  have a3 : w5.cell? ⟨p, 3, none⟩ = some (.int .u64 0) := H6.out.1.cell 3
  have az3 : w5.frozen? ⟨p, 3, none⟩ = false := H6.out.1.frozen 3
  have a4 : w5.cell? ⟨p, 4, none⟩ = some (.int .i64 (D0 : Int)) := H6.out.1.cell 4
  have az4 : w5.frozen? ⟨p, 4, none⟩ = false := H6.out.1.frozen 4
  by_cases hlt : Xa < ymx
  · skip
    go_upto_region 7 with fail
    obtain ⟨X0, W, hT, hI⟩ := class_mk (fun w' => Drew w5 w')
    have H0 : Hid (∃ y, w5.drew = W y) := hid (hI _ ⟨1, rfl⟩)
    have hne : Nonempty X0 := ⟨H0.out.choose⟩
    have HTT := hid hT
    have c4 : ∀ z, (W z).cell? ⟨p, 2, none⟩ = some (.int .u64 (Xa : Int)) := fun y => by obtain ⟨m, e⟩ := hT y; rw [e]; exact a2
    have cz : ∀ z, (W z).frozen? ⟨p, 2, none⟩ = false := fun y => by obtain ⟨m, e⟩ := hT y; rw [e]; exact az2
    have cd : ∀ z, (W z).cell? ⟨gt, t * 12 + 10, none⟩ = some (.int .u32 (ymx : Int)) := fun y => by obtain ⟨m, e⟩ := hT y; rw [e]; exact hz0
    clear hT hI
    refine wp_region_class_tailT W 8 (by kernel_rfl) (by kernel_rfl) (by kernel_rfl) H0.out ?_
    dsimp only [List.take, List.drop]
    repeat (go_big_quiet_step (fail))
    refine wpQuiet_nil ?_
    intro z
    have HD := hid (HTT.out z)
    have HB := hid ((HTT.out z).below w5.heap.size)
    have c4z := c4 z
    have czz := cz z
    have cdz := cd z
    generalize W z = wc at HD HB c4z czz cdz ⊢
    clear H0 HTT c4 cz cd
    have H13 := hid ((H6.out.below HB.out).set 2 (.int .u64 (ymx : Int)))
    clear a0 az0 a1 az1 a2 az2 a3 az3 a4 az4
    go_upto_region 8 with fail
    generalize hw3 : wc.setCell _ _ = wd at H13 ⊢
    clear hw3 H6 HB HD hz0 c4z czz cdz
    have hz1 := (HYc.out wd H13.out.2.1).2.2
    have a0 : wd.cell? ⟨p, 0, none⟩ = some (.bool false) := H13.out.1.cell 0
    have az0 : wd.frozen? ⟨p, 0, none⟩ = false := H13.out.1.frozen 0
    have a1 : wd.cell? ⟨p, 1, none⟩ = some (.int .u64 (M0 : Int)) := H13.out.1.cell 1
    have az1 : wd.frozen? ⟨p, 1, none⟩ = false := H13.out.1.frozen 1
    have a2 : wd.cell? ⟨p, 2, none⟩ = some (.int .u64 (ymx : Int)) := H13.out.1.cell 2
    have az2 : wd.frozen? ⟨p, 2, none⟩ = false := H13.out.1.frozen 2
    have a3 : wd.cell? ⟨p, 3, none⟩ = some (.int .u64 0) := H13.out.1.cell 3
    have az3 : wd.frozen? ⟨p, 3, none⟩ = false := H13.out.1.frozen 3
    have a4 : wd.cell? ⟨p, 4, none⟩ = some (.int .i64 (D0 : Int)) := H13.out.1.cell 4
    have az4 : wd.frozen? ⟨p, 4, none⟩ = false := H13.out.1.frozen 4
    by_cases hlt2 : D0 < yd
    · skip
      go_upto_region 8 with fail
      obtain ⟨X0, W, hT, hI⟩ := class_mk (fun w' => Drew wd w')
      have H0 : Hid (∃ y, wd.drew = W y) := hid (hI _ ⟨1, rfl⟩)
      have hne : Nonempty X0 := ⟨H0.out.choose⟩
      have HTT := hid hT
      have c4 : ∀ z, (W z).cell? ⟨p, 4, none⟩ = some (.int .i64 (D0 : Int)) := fun y => by obtain ⟨m, e⟩ := hT y; rw [e]; exact a4
      have cz : ∀ z, (W z).frozen? ⟨p, 4, none⟩ = false := fun y => by obtain ⟨m, e⟩ := hT y; rw [e]; exact az4
      have cd : ∀ z, (W z).cell? ⟨gt, t * 12 + 2, none⟩ = some (.int .u8 (yd : Int)) := fun y => by obtain ⟨m, e⟩ := hT y; rw [e]; exact hz1
      clear hT hI
      refine wp_region_class_tailT W 8 (by kernel_rfl) (by kernel_rfl) (by kernel_rfl) H0.out ?_
      dsimp only [List.take, List.drop]
      repeat (go_big_quiet_step (fail))
      refine wpQuiet_nil ?_
      intro z
      have HD := hid (HTT.out z)
      have HB := hid ((HTT.out z).below wd.heap.size)
      have c4z := c4 z
      have czz := cz z
      have cdz := cd z
      generalize W z = we at HD HB c4z czz cdz ⊢
      clear H0 HTT c4 cz cd
      have HFF := hid (HG.out M0 ymx yd _ (by rw [if_neg h0]; omega) (by omega) (by omega) ((H13.out.below HB.out).set 4 (.int .i64 (yd : Int))))
      clear H13 HB HD hz1 HG
      clear a0 az0 a1 az1 a2 az2 a3 az3 a4 az4
      go_wp2
      exact ⟨⟨j + 1, by go_num, by omega, HFF⟩, by simp [intOf]; omega⟩
    · skip
      go_upto_region 8 with fail
      obtain ⟨X0, W, hT, hI⟩ := class_mk (fun w' => Drew wd w')
      have H0 : Hid (∃ y, wd.drew = W y) := hid (hI _ ⟨1, rfl⟩)
      have hne : Nonempty X0 := ⟨H0.out.choose⟩
      have HTT := hid hT
      have c4 : ∀ z, (W z).cell? ⟨p, 4, none⟩ = some (.int .i64 (D0 : Int)) := fun y => by obtain ⟨m, e⟩ := hT y; rw [e]; exact a4
      have cz : ∀ z, (W z).frozen? ⟨p, 4, none⟩ = false := fun y => by obtain ⟨m, e⟩ := hT y; rw [e]; exact az4
      have cd : ∀ z, (W z).cell? ⟨gt, t * 12 + 2, none⟩ = some (.int .u8 (yd : Int)) := fun y => by obtain ⟨m, e⟩ := hT y; rw [e]; exact hz1
      clear hT hI
      refine wp_region_class_tailT W 8 (by kernel_rfl) (by kernel_rfl) (by kernel_rfl) H0.out ?_
      dsimp only [List.take, List.drop]
      repeat (go_big_quiet_step (fail))
      refine wpQuiet_nil ?_
      intro z
      have HD := hid (HTT.out z)
      have HB := hid ((HTT.out z).below wd.heap.size)
      have c4z := c4 z
      have czz := cz z
      have cdz := cd z
      generalize W z = we at HD HB c4z czz cdz ⊢
      clear H0 HTT c4 cz cd
      have HFF := hid (HG.out M0 ymx D0 _ (by rw [if_neg h0]; omega) (by omega) (by omega) ((H13.out.below HB.out).set 4 (.int .i64 (D0 : Int))))
      clear H13 HB HD hz1 HG
      clear a0 az0 a1 az1 a2 az2 a3 az3 a4 az4
      go_wp2
      exact ⟨⟨j + 1, by go_num, by omega, HFF⟩, by simp [intOf]; omega⟩
  · skip
    go_upto_region 7 with fail
    obtain ⟨X0, W, hT, hI⟩ := class_mk (fun w' => Drew w5 w')
    have H0 : Hid (∃ y, w5.drew = W y) := hid (hI _ ⟨1, rfl⟩)
    have hne : Nonempty X0 := ⟨H0.out.choose⟩
    have HTT := hid hT
    have c4 : ∀ z, (W z).cell? ⟨p, 2, none⟩ = some (.int .u64 (Xa : Int)) := fun y => by obtain ⟨m, e⟩ := hT y; rw [e]; exact a2
    have cz : ∀ z, (W z).frozen? ⟨p, 2, none⟩ = false := fun y => by obtain ⟨m, e⟩ := hT y; rw [e]; exact az2
    have cd : ∀ z, (W z).cell? ⟨gt, t * 12 + 10, none⟩ = some (.int .u32 (ymx : Int)) := fun y => by obtain ⟨m, e⟩ := hT y; rw [e]; exact hz0
    clear hT hI
    refine wp_region_class_tailT W 8 (by kernel_rfl) (by kernel_rfl) (by kernel_rfl) H0.out ?_
    dsimp only [List.take, List.drop]
    repeat (go_big_quiet_step (fail))
    refine wpQuiet_nil ?_
    intro z
    have HD := hid (HTT.out z)
    have HB := hid ((HTT.out z).below w5.heap.size)
    have c4z := c4 z
    have czz := cz z
    have cdz := cd z
    generalize W z = wc at HD HB c4z czz cdz ⊢
    clear H0 HTT c4 cz cd
    have H13 := hid ((H6.out.below HB.out).set 2 (.int .u64 (Xa : Int)))
    clear a0 az0 a1 az1 a2 az2 a3 az3 a4 az4
    go_upto_region 8 with fail
    generalize hw3 : wc.setCell _ _ = wd at H13 ⊢
    clear hw3 H6 HB HD hz0 c4z czz cdz
    have hz1 := (HYc.out wd H13.out.2.1).2.2
    have a0 : wd.cell? ⟨p, 0, none⟩ = some (.bool false) := H13.out.1.cell 0
    have az0 : wd.frozen? ⟨p, 0, none⟩ = false := H13.out.1.frozen 0
    have a1 : wd.cell? ⟨p, 1, none⟩ = some (.int .u64 (M0 : Int)) := H13.out.1.cell 1
    have az1 : wd.frozen? ⟨p, 1, none⟩ = false := H13.out.1.frozen 1
    have a2 : wd.cell? ⟨p, 2, none⟩ = some (.int .u64 (Xa : Int)) := H13.out.1.cell 2
    have az2 : wd.frozen? ⟨p, 2, none⟩ = false := H13.out.1.frozen 2
    have a3 : wd.cell? ⟨p, 3, none⟩ = some (.int .u64 0) := H13.out.1.cell 3
    have az3 : wd.frozen? ⟨p, 3, none⟩ = false := H13.out.1.frozen 3
    have a4 : wd.cell? ⟨p, 4, none⟩ = some (.int .i64 (D0 : Int)) := H13.out.1.cell 4
    have az4 : wd.frozen? ⟨p, 4, none⟩ = false := H13.out.1.frozen 4
    by_cases hlt2 : D0 < yd
    · skip
      go_upto_region 8 with fail
      obtain ⟨X0, W, hT, hI⟩ := class_mk (fun w' => Drew wd w')
      have H0 : Hid (∃ y, wd.drew = W y) := hid (hI _ ⟨1, rfl⟩)
      have hne : Nonempty X0 := ⟨H0.out.choose⟩
      have HTT := hid hT
      have c4 : ∀ z, (W z).cell? ⟨p, 4, none⟩ = some (.int .i64 (D0 : Int)) := fun y => by obtain ⟨m, e⟩ := hT y; rw [e]; exact a4
      have cz : ∀ z, (W z).frozen? ⟨p, 4, none⟩ = false := fun y => by obtain ⟨m, e⟩ := hT y; rw [e]; exact az4
      have cd : ∀ z, (W z).cell? ⟨gt, t * 12 + 2, none⟩ = some (.int .u8 (yd : Int)) := fun y => by obtain ⟨m, e⟩ := hT y; rw [e]; exact hz1
      clear hT hI
      refine wp_region_class_tailT W 8 (by kernel_rfl) (by kernel_rfl) (by kernel_rfl) H0.out ?_
      dsimp only [List.take, List.drop]
      repeat (go_big_quiet_step (fail))
      refine wpQuiet_nil ?_
      intro z
      have HD := hid (HTT.out z)
      have HB := hid ((HTT.out z).below wd.heap.size)
      have c4z := c4 z
      have czz := cz z
      have cdz := cd z
      generalize W z = we at HD HB c4z czz cdz ⊢
      clear H0 HTT c4 cz cd
      have HFF := hid (HG.out M0 Xa yd _ (by rw [if_neg h0]; omega) (by omega) (by omega) ((H13.out.below HB.out).set 4 (.int .i64 (yd : Int))))
      clear H13 HB HD hz1 HG
      clear a0 az0 a1 az1 a2 az2 a3 az3 a4 az4
      go_wp2
      exact ⟨⟨j + 1, by go_num, by omega, HFF⟩, by simp [intOf]; omega⟩
    · skip
      go_upto_region 8 with fail
      obtain ⟨X0, W, hT, hI⟩ := class_mk (fun w' => Drew wd w')
      have H0 : Hid (∃ y, wd.drew = W y) := hid (hI _ ⟨1, rfl⟩)
      have hne : Nonempty X0 := ⟨H0.out.choose⟩
      have HTT := hid hT
      have c4 : ∀ z, (W z).cell? ⟨p, 4, none⟩ = some (.int .i64 (D0 : Int)) := fun y => by obtain ⟨m, e⟩ := hT y; rw [e]; exact a4
      have cz : ∀ z, (W z).frozen? ⟨p, 4, none⟩ = false := fun y => by obtain ⟨m, e⟩ := hT y; rw [e]; exact az4
      have cd : ∀ z, (W z).cell? ⟨gt, t * 12 + 2, none⟩ = some (.int .u8 (yd : Int)) := fun y => by obtain ⟨m, e⟩ := hT y; rw [e]; exact hz1
      clear hT hI
      refine wp_region_class_tailT W 8 (by kernel_rfl) (by kernel_rfl) (by kernel_rfl) H0.out ?_
      dsimp only [List.take, List.drop]
      repeat (go_big_quiet_step (fail))
      refine wpQuiet_nil ?_
      intro z
      have HD := hid (HTT.out z)
      have HB := hid ((HTT.out z).below wd.heap.size)
      have c4z := c4 z
      have czz := cz z
      have cdz := cd z
      generalize W z = we at HD HB c4z czz cdz ⊢
      clear H0 HTT c4 cz cd
      have HFF := hid (HG.out M0 Xa D0 _ (by rw [if_neg h0]; omega) (by omega) (by omega) ((H13.out.below HB.out).set 4 (.int .i64 (D0 : Int))))
      clear H13 HB HD hz1 HG
      clear a0 az0 a1 az1 a2 az2 a3 az3 a4 az4
      go_wp2
      exact ⟨⟨j + 1, by go_num, by omega, HFF⟩, by simp [intOf]; omega⟩
end
end Go.Proofs.Qxb6500883aGreatDoor
