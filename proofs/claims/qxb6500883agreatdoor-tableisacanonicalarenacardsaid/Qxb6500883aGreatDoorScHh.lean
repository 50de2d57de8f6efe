/- lowerDecl, containers (written by tools/mk_schh.py). -/
import Derived.Test.Qxb6500883aGreatDoorScHg
namespace Go.Proofs.Qxb6500883aGreatDoor
open Go.RowKit
set_option linter.unusedSimpArgs false
set_option linter.unusedVariables false
/-- The fields under way. -/
def fdS (fs : List FN) (ids : List Nat) : List FD := fdZ fs ids ++ List.replicate (fs.length - ids.length) ⟨⟨#[]⟩, 0⟩
theorem fdS_len (fs : List FN) (ids : List Nat) (h : ids.length ≤ fs.length) : (fdS fs ids).length = fs.length := by
  unfold fdS
  rw [List.length_append, fdZ_len, List.length_replicate]
  omega
theorem fdS_all (fs : List FN) (ids : List Nat) (h : ids.length = fs.length) : fdS fs ids = fdZ fs ids := by
  unfold fdS
  rw [h, Nat.sub_self]
  simp
theorem fdZ_snoc {fs : List FN} {ids : List Nat} {f : FN} (id : Nat) (h : fs[ids.length]? = some f) : fdZ fs (ids ++ [id]) = fdZ fs ids ++ [⟨f.name, id⟩] := by
  have hlt := (List.getElem?_eq_some_iff.1 h).1
  have e : fs = fs.take ids.length ++ f :: fs.drop (ids.length + 1) := by
    rw [← (List.getElem?_eq_some_iff.1 h).2, ← List.drop_eq_getElem_cons hlt, List.take_append_drop]
  have hl : (fs.take ids.length).length = ids.length := by rw [List.length_take]; omega
  generalize fs.take ids.length = a at e hl
  generalize fs.drop (ids.length + 1) = b at e
  subst e
  unfold fdZ
  rw [List.zipWith_append hl]
  have e2 : ids = ids ++ [] := by simp
  have e3 : List.zipWith (fun (f : FN) i => (⟨f.name, i⟩ : FD)) (a ++ f :: b) ids = List.zipWith (fun (f : FN) i => (⟨f.name, i⟩ : FD)) a ids := by
    rw [show List.zipWith (fun (f : FN) i => (⟨f.name, i⟩ : FD)) (a ++ f :: b) ids = List.zipWith (fun (f : FN) i => (⟨f.name, i⟩ : FD)) (a ++ f :: b) (ids ++ []) by simp, List.zipWith_append hl]
    simp
  rw [e3]
  simp
theorem fdS_snoc {fs : List FN} {ids : List Nat} {f : FN} (id : Nat) (h : fs[ids.length]? = some f) : (fdS fs ids).set ids.length ⟨f.name, id⟩ = fdS fs (ids ++ [id]) := by
  have hlt := (List.getElem?_eq_some_iff.1 h).1
  unfold fdS
  have hz : (fdZ fs ids).length = ids.length := by rw [fdZ_len]; omega
  have e : fs.length - ids.length = (fs.length - (ids ++ [id]).length) + 1 := by rw [List.length_append, List.length_singleton]; omega
  rw [List.set_append_right _ _ (by omega), hz, Nat.sub_self, e, List.replicate_succ, List.set_cons_zero, fdZ_snoc id h, List.append_assoc]
  rfl
theorem made_flat {α : Type} (K : RK α) (hp : 0 < K.n) (hl : ∀ x, (K.f x).length = K.n) (x : α) (m : Nat) : (madeCells (K.f x).toArray (m * K.n)).toList = (List.replicate m x).flatMap K.f := by
  apply List.ext_getElem?
  intro i
  rw [getElem?_flatMap_const hp _ (fun x _ => hl x)]
  by_cases hi : i < m * K.n
  · have h1 : i / K.n < m := (Nat.div_lt_iff_lt_mul hp).2 hi
    have h2 : i % K.n < K.n := Nat.mod_lt _ hp
    rw [List.getElem?_replicate, if_pos h1]
    have h3 : i % K.n < (K.f x).length := by rw [hl]; exact h2
    simp [madeCells, hi, hl, h2, h3]
  · have h1 : ¬ i / K.n < m := fun h => hi ((Nat.div_lt_iff_lt_mul hp).1 h)
    rw [List.getElem?_replicate, if_neg h1, List.getElem?_eq_none (by simp [madeCells]; omega)]
    rfl
def fdX (fs : List FN) (go m n1 : Nat) (ids : List Nat) (τ : Rl) (w : World) : Prop := RowX rtFd w τ 0 (.slice (some ⟨go, 0, none⟩) m m) (fdS fs ids) ∧ τ go = 0 ∧ n1 ≤ go ∧ go < w.heap.size
section
variable {N mg : Nat} {ρ : Rl} {w0 w wz : World} {l : PL} {bs : List UInt8} {F : FS} {U : FV} {c : Nat} {V : CV} {gT gV : Nat} {vf rk : Nat → Nat} {L : BLy} {R : Nat} {τ : Rl} {B : BS}
set_option maxRecDepth 100000 in
set_option maxHeartbeats 4000000 in
theorem lowDcnt (hC : LCx N mg ρ w0 l bs F U c V gT gV vf rk) (hLc : L.c = c) {d k : Nat} {y : DN} (hy : F.decls[d]? = some y) (hs : y.sort = 2) (hfl : y.fLo < y.fHi) (hfh : y.fHi ≤ F.fields.length) (hyp : y.pos ≤ l.n) (hk : 2 * k + 1 ≤ wtD F d) (hR : rk d < R) (hT : TLs (TypC l.n F vf rk L w0 (rk d)) ((fldsOf F y).map (·.typ)) k) {τ : Rl} {w : World} {B : BS} (hM : BdM l.n w0.heap.size τ w L F.decls.length B) (hb : Below w0.heap.size w0 w) (hO : BOk B) (hsz : B.size + phi F rk B.dt R ≤ 1000000000) (hdt : B.dt d = -1) :
    Calls Tryz.prog 99 #[.pointer (some ⟨L.b, 0, none⟩), .int .i32 (d : Int)] w (LwP l.n F vf rk L w0.heap.size R 1 (.dcl d) τ w B) := by
  have hlt := (List.getElem?_eq_some_iff.1 hy).1
  obtain ⟨gd, qd, hud, hnd⟩ := hC.dcl hy
  obtain ⟨nd, hnd1⟩ : ∃ m, F.decls.length = m := ⟨_, rfl⟩
  have c0 := (hC.chk hb).1
  have f1 := (hC.fil hb).1
  rw [hud] at f1
  obtain ⟨b0, b1, b2⟩ := hM.cells
  rw [hLc] at b0
  have cd : w.cell? ⟨L.gD, d, none⟩ = some (.int .i32 (-1)) := by
    obtain ⟨_, _, _, _, _, hX, _⟩ := hM
    have := hX.dt.get hlt
    rw [hdt] at this
    exact this
  rw [hnd1] at hlt b2 f1
  have i1 : (d : Int) < (nd : Int) := by omega
  have n0 : w.cell? ⟨gd, d * 11, none⟩ = some (.int .u8 (y.sort : Int)) := hnd w hb 0 (by decide)
  have n5 : w.cell? ⟨gd, d * 11 + 5, none⟩ = some (.int .i32 (y.fLo : Int)) := hnd w hb 5 (by decide)
  have n6 : w.cell? ⟨gd, d * 11 + 6, none⟩ = some (.int .i32 (y.fHi : Int)) := hnd w hb 6 (by decide)
  obtain ⟨nF, hnF⟩ : ∃ m, F.fields.length = m := ⟨_, rfl⟩
  have hnF2 : nF ≤ 65536 := by rw [← hnF]; exact hC.sz.f
  obtain ⟨aF, qF, hUF⟩ := hC.m.fr.f.shape
  have hcap := hC.m.fr.f
  rw [hUF] at hcap
  have hcq := hcap.cap
  have f4 := (hC.fil hb).2.2.1
  rw [hUF, hnF] at f4
  rw [hnF] at hUF hcq hfh
  obtain ⟨y0, hy0⟩ : ∃ y0, F.fields[y.fLo]? = some y0 := ⟨_, List.getElem?_eq_getElem (by rw [hnF]; omega)⟩
  obtain ⟨gf, egf⟩ : ∃ gf, aF = some ⟨gf, 0, none⟩ := by
    obtain ⟨gf, q', hv, _⟩ := hC.m.fr.f.get (by decide) (fun _ => rfl) hy0
    rw [hUF] at hv
    injection hv with e1 e2 e3
    exact ⟨gf, e1⟩
  subst egf
  have HFd : Hid (∀ wz, Below w0.heap.size w0 wz → ∀ (i : Nat) (f : FN), (fldsOf F y)[i]? = some f → wz.cell? ⟨gf, y.fLo * 3 + i * 3, none⟩ = some (.string f.name) ∧ wz.cell? ⟨gf, y.fLo * 3 + i * 3 + 2, none⟩ = some (.int .i32 (f.typ : Int))) := hid (fun wz hz i f hi => by
    have hi2 := (List.getElem?_eq_some_iff.1 hi).1
    unfold fldsOf at hi hi2
    rw [List.length_take, List.length_drop, hnF] at hi2
    rw [List.getElem?_take, if_pos (by omega), List.getElem?_drop] at hi
    obtain ⟨gf', q', hv, hlt', hc'⟩ := (hC.m.below hz).fr.f.get (by decide) (fun _ => rfl) hi
    rw [hUF] at hv
    injection hv with e1 e2 e3
    injection e1 with e1
    injection e1 with e1
    subst e1
    refine ⟨?_, ?_⟩
    · have := hc' 0 (by decide)
      rw [show (y.fLo + i) * rtF.n + 0 = y.fLo * 3 + i * 3 by show (y.fLo + i) * 3 + 0 = _; omega] at this
      exact this
    · have := hc' 2 (by decide)
      rw [show (y.fLo + i) * rtF.n + 2 = y.fLo * 3 + i * 3 + 2 by show (y.fLo + i) * 3 + 2 = _; omega] at this
      exact this)
  have hax : subA (some ⟨gf, 0, none⟩) (y.fLo * 3) (qF == y.fLo) = some ⟨gf, y.fLo * 3, none⟩ := by
    have hne : (qF == y.fLo) = false := by rw [beq_eq_false_iff_ne]; have := hcq.2; omega
    unfold subA
    rw [hne]
    simp [Addr.add]
    intro h0
    exact h0.symm
  have hsl := slice_fn (a := some ⟨gf, 0, none⟩) (n := nF) (cp := qF) (lo := y.fLo) (hi := y.fHi) (by omega) hfh hcq.2 hcq.1 (fun h => by cases h)
  rw [hax] at hsl
  obtain ⟨fs, hfs⟩ : ∃ fs, fldsOf F y = fs := ⟨_, rfl⟩
  obtain ⟨m, hm⟩ : ∃ m, y.fHi - y.fLo = m := ⟨_, rfl⟩
  obtain ⟨qx, hqx⟩ : ∃ qx, qF - y.fLo = qx := ⟨_, rfl⟩
  have hfsl : fs.length = m := by rw [← hfs, ← hm]; unfold fldsOf; rw [List.length_take, List.length_drop, hnF]; omega
  rw [hm, hqx] at hsl
  have hm2 : m ≤ 65536 := by omega
  rw [hfs] at hT HFd
  obtain ⟨lo, hlo1⟩ : ∃ q, y.fLo = q := ⟨_, rfl⟩
  obtain ⟨hi, hhi1⟩ : ∃ q, y.fHi = q := ⟨_, rfl⟩
  rw [hlo1] at hsl n5 HFd
  rw [hhi1] at hsl n6
  obtain ⟨fo, hfo⟩ : ∃ q, lo * 3 = q := ⟨_, rfl⟩
  rw [hfo] at hsl HFd
  rw [hs] at n0
  have hin := phi_in (F := F) (rk := rk) (dt := B.dt) (R := R) (by rw [hnd1]; exact hlt) hdt hR
  have Hlt : Hid (d < F.decls.length) := hid (by rw [hnd1]; exact hlt)
  have Hnd1 := hid hnd1
  have Hx := hid (And.intro hy (And.intro hs (And.intro hdt hfs)))
  have Hin := hid hin
  have HK := hid (And.intro hk hR)
  have HW := hid (And.intro hC.wf hO)
  have HM := hid hM
  have HBw := hid hb
  have Hsz := hid hsz
  have HTT := hid hT
  have Hfsl := hid hfsl
  have Hnd := hid hnd
  have Hyp := hid hyp
  have HLc := hid hLc
  have hmk : ∀ wz : World, (Instr.makeSlice 60 (.int .i64 (m : Int)) (.int .i64 (m : Int))).run Tryz.prog wz = .ok (.slice (some ⟨wz.heap.size, 0, none⟩) m m) (wz.alloc (.cells (madeCells #[.string ⟨#[]⟩, .int .i32 0] (m * 2)) 63)) := fun wz =>
    run_make_k 60 63 (.agg #[.string ⟨#[]⟩, .int .i32 0]) 2 24 Tryz.underlying60 (by kernel_rfl) .i64 .i64 m m (Nat.le_refl _) (by omega) (by omega) wz
  clear hC hM hb hO hT hud hnd hy hs hk hsz hdt hLc hnd1 hin hUF hcap hcq hax hy0 hfs hfl hfh hlo1 hhi1 hfo hqx hm hnF hfsl hyp
  go_enter Tryz.func99, Tryz.ntmps99
  go_upto_region 9 with fail
  go_quiet (fail)
  have HD1 : Hid (Below w.heap.size w (w.drewN nq)) := hid (((Drew.refl w).next nq).below _)
  generalize w.drewN nq = w1 at HD1 ⊢
  clear hsl n0 n5 n6 f4 f1 c0 b0 b1 b2 cd
  have hmw := hmk w1
  clear hmk
  obtain ⟨go, hgo⟩ : ∃ p, w1.heap.size = p := ⟨_, rfl⟩
  obtain ⟨wa, hwa⟩ : ∃ wa, w1.alloc (.cells (madeCells #[.string ⟨#[]⟩, .int .i32 0] (m * 2)) 63) = wa := ⟨_, rfl⟩
  rw [hgo, hwa] at hmw
  have HBa : Hid (Below w.heap.size w wa) := hid (by rw [← hwa]; exact HD1.out.trans ((nbel w1 _).mono HD1.out.size))
  have HSt : Hid (LpI l.n F vf rk L w0 (rk d) (fs.map (·.typ)) k τ w B 0 (fdX fs go m w.heap.size) wa) := hid (by
    refine ⟨τ, B, [], 0, k, ?_, rfl, HM.out.below HBa.out, Fr.below HBa.out, HBw.out.trans (HBa.out.mono HBw.out.size), ?_, by omega, fun _ _ => rfl, HTT.out, by omega⟩
    · rw [List.take_zero]; exact .nil
    · have e0 : τ go = 0 := by
        cases e : τ go with
        | zero => rfl
        | succ z =>
          obtain ⟨_, _, _, _, _, hX, _⟩ := HM.out
          have := hX.tb.dom go (by rw [e]; exact Nat.succ_ne_zero z)
          have := HD1.out.size
          omega
      have k0 := Blk.new w1 (madeCells #[.string ⟨#[]⟩, .int .i32 0] (m * 2)).toList 63
      rw [hgo] at k0
      have k1 : Blk wa go 63 (madeCells #[.string ⟨#[]⟩, .int .i32 0] (m * 2)).toList := by rw [← hwa]; exact k0
      have k2 : (madeCells #[.string ⟨#[]⟩, .int .i32 0] (m * 2)).toList = (fdS fs []).flatMap rtFd.f := by
        have e : fdS fs [] = List.replicate m ⟨⟨#[]⟩, 0⟩ := by
          unfold fdS fdZ
          rw [Hfsl.out]
          simp
        rw [e]
        exact made_flat rtFd (by decide) (fun _ => rfl) ⟨⟨#[]⟩, 0⟩ m
      refine ⟨RowX.made (K := rtFd) (cs := (madeCells #[.string ⟨#[]⟩, .int .i32 0] (m * 2)).toList) k1 (by decide) (fun _ => rfl) ?_ (by show m ≤ 9223372036854775807; omega) (by rw [fdS_len _ _ (Nat.zero_le _)]; exact Hfsl.out) (Nat.le_refl _) ?_ e0, e0, by rw [← hgo]; exact HD1.out.size, k1.lt⟩
      · show (madeCells #[.string ⟨#[]⟩, .int .i32 0] (m * 2)).toList.length = m * 2
        simp [madeCells]
      · rw [← k2, List.take_of_length_le (by show (madeCells #[.string ⟨#[]⟩, .int .i32 0] (m * 2)).toList.length ≤ m * 2; simp [madeCells])])
  clear hwa hgo
  go_upto_region 12 with fail
  clear hmw
  go_loopw [64] (fun t wr => ∃ (i : Nat), t = .int .i64 (i : Int) ∧ i ≤ m ∧ Hid (LpI l.n F vf rk L w0 (rk d) (fs.map (·.typ)) k τ w B i (fdX fs go m w.heap.size) wr)) (fun t _ => m - (intOf t).toNat)
  case atStart => exact ⟨0, rfl, Nat.zero_le _, HSt⟩
  case round =>
  obtain ⟨i, rfl, hi2, HI⟩ := hrel
  by_cases hin : i < m
  · have d1 : decide ((i : Int) < (m : Int)) = true := decide_eq_true (by omega)
    have i2 : (i : Int) < (m : Int) := by omega
    obtain ⟨f, hf⟩ : ∃ f, fs[i]? = some f := ⟨_, List.getElem?_eq_getElem (by rw [Hfsl.out]; exact hin)⟩
    have ho : (fs.map (·.typ))[i]? = some f.typ := by rw [List.getElem?_map, hf]; rfl
    obtain ⟨τi, Bi, ids, ki, kr, l1, l2, l3, l4, l5, l6, l7, l8, l9, l10⟩ := HI.out
    have HCl : Hid (∀ wz, Below w0.heap.size w0 wz → wz.cell? ⟨gf, fo + i * 3, none⟩ = some (.string f.name) ∧ wz.cell? ⟨gf, fo + i * 3 + 2, none⟩ = some (.int .i32 (f.typ : Int))) := hid (fun wz hz => HFd.out wz hz i f hf)
    have hOi := (l1.ok HW.out.1 HW.out.2).1
    have hdr : (fs.map (·.typ)).drop i = f.typ :: (fs.map (·.typ)).drop (i + 1) := by
      have hlt := (List.getElem?_eq_some_iff.1 ho).1
      rw [List.drop_eq_getElem_cons hlt, (List.getElem?_eq_some_iff.1 ho).2]
    rw [hdr] at l9
    obtain ⟨ka, kb, hka, hkb, hkk⟩ : ∃ ka kb, TypC l.n F vf rk L w0 (rk d) f.typ ka ∧ TLs (TypC l.n F vf rk L w0 (rk d)) ((fs.map (·.typ)).drop (i + 1)) kb ∧ ka + kb = kr := by
      cases l9 with
      | cons h1 h2 => exact ⟨_, _, h1, h2, rfl⟩
    have HL := hid (And.intro l1 (And.intro l2 (And.intro l4 (And.intro l5 (And.intro l6 (And.intro l7 (And.intro l8 (And.intro l10 (And.intro l3 (And.intro hkb (And.intro hkk (And.intro hf (And.intro ho (And.intro hka hOi))))))))))))))
    have hszI : Bi.size + phi F rk Bi.dt (rk d) + 2 * ka ≤ 1000000000 := by have := Hsz.out; have := Hin.out; have := HK.out.1; omega
    clear hdr hkb hkk hka hOi l1 l2 l3 l4 l5 l6 l7 l8 l9 l10 HI hf ho
    go_upto_region 14 with fail
    have HBd : Hid (Below wr.heap.size wr wr.drew) := hid (Drew.below ⟨1, rfl⟩ _)
    have HBz := hid (HL.out.2.2.2.1.trans (HBd.out.mono HL.out.2.2.2.1.size))
    refine wp_region_heavy (fun wz => wz.cell? ⟨gf, fo + i * 3, none⟩ = some (.string f.name) ∧ wz.cell? ⟨gf, fo + i * 3 + 2, none⟩ = some (.int .i32 (f.typ : Int))) 15 [0, 1, 2, 3, 4, 5, 6, 7, 8, 9, 10, 11, 12] [13, 14] rfl (by kernel_rfl) (by kernel_rfl) (fun d _ _ _ _ h => by cases d <;> exact h) (HCl.out _ HBz.out) ?_
    apply Exists.intro
    refine ⟨?_, ?_⟩
    · intro W hW
      have q0 : ∀ z, (W z).cell? ⟨gf, fo + i * 3, none⟩ = some (.string f.name) := fun z => (hW z).1
      have q1 : ∀ z, (W z).cell? ⟨gf, fo + i * 3 + 2, none⟩ = some (.int .i32 (f.typ : Int)) := fun z => (hW z).2
      clear hW
      simp only [List.take, opsAt, List.drop, List.cons_append, List.nil_append]
      repeat (go_big_quiet_step (fail))
      exact rfl
    simp only [List.take, List.drop, opsAt, List.cons_append, List.nil_append, wpHv]
    have HMz := hid (HL.out.2.2.2.2.2.2.2.2.1.below HBd.out)
    generalize wr.drew = wd at HBd HBz HMz ⊢
    have HA := hid (HL.out.2.2.2.2.2.2.2.2.2.2.2.2.2.1 τi wd Bi HMz.out HBz.out HL.out.2.2.2.2.2.2.2.2.2.2.2.2.2.2 hszI)
    go_wp2_with fail
    refine HA.out.mono ?_
    rintro e w3 ⟨id, rfl, h3⟩
    clear HA
    obtain ⟨l1, l2, l4, l5, l6, l7, l8, l10, l3, hkb, hkk, hf, ho, hka, hOi⟩ := HL.out
    obtain ⟨τ3, B3, k1, k2, k3, k4, k5⟩ := h3.out
    have hg3 : ∀ g, τi g ≠ 0 → w0.heap.size ≤ g := by obtain ⟨_, _, _, _, _, _, _, _, h5⟩ := l3; exact h5
    have hb3 := Below.frL k3 hg3 HBz.out
    have HS3 := hid (HCl.out w3 hb3)
    have hr3 := (l6.1.fr (Fr.below HBd.out : Fr XL τi wr τi wd) rfl).fr k3 rfl
    have hgo3 : τ3 go = 0 := by rw [k3.old go (Nat.lt_of_lt_of_le l6.2.2.2 HBd.out.size)]; exact l6.2.1
    have hgl3 : go < w3.heap.size := Nat.lt_of_lt_of_le (Nat.lt_of_lt_of_le l6.2.2.2 HBd.out.size) k3.size
    obtain ⟨x0, hx0⟩ : ∃ x0, (fdS fs ids)[i]? = some x0 := ⟨_, List.getElem?_eq_getElem (by rw [fdS_len _ _ (by rw [l2, Hfsl.out]; omega), Hfsl.out]; exact hin)⟩
    obtain ⟨g9, q9, hv9, _, hc9⟩ := hr3.get (by decide) (fun _ => rfl) hx0
    injection hv9 with e1 e2 e3
    injection e1 with e1
    injection e1 with e1
    subst e1
    obtain ⟨hp1, _, hz1⟩ := hr3.put (by decide) (fun _ => rfl) rfl hx0 (x' := ⟨f.name, x0.typ⟩) (u := .string f.name) (j := 0) (show 0 < 2 by decide) rfl
    have hx1 : ((fdS fs ids).set i ⟨f.name, x0.typ⟩)[i]? = some ⟨f.name, x0.typ⟩ := List.getElem?_set_self (List.getElem?_eq_some_iff.1 hx0).1
    obtain ⟨hp2, _, hz2⟩ := hp1.put (by decide) (fun _ => rfl) rfl hx1 (x' := ⟨f.name, id⟩) (u := .int .i32 (id : Int)) (j := 1) (show 1 < 2 by decide) rfl
    obtain ⟨g8, q8, hv8, _, hc8⟩ := hp1.get (by decide) (fun _ => rfl) hx1
    injection hv8 with e1 e2' e3'
    injection e1 with e1
    injection e1 with e1
    subst e1
    have s0 : w3.cell? ⟨go, i * 2, none⟩ = some (.string x0.name) := hc9 0 (show 0 < 2 by decide)
    have z0 : w3.frozen? ⟨go, i * 2, none⟩ = false := hz1
    have s1 : (w3.setCell ⟨go, i * 2, none⟩ (.string f.name)).cell? ⟨go, i * 2 + 1, none⟩ = some (.int .i32 (x0.typ : Int)) := hc8 1 (show 1 < 2 by decide)
    have z1 : (w3.setCell ⟨go, i * 2, none⟩ (.string f.name)).frozen? ⟨go, i * 2 + 1, none⟩ = false := hz2
    have HE : Hid (LpI l.n F vf rk L w0 (rk d) (fs.map (·.typ)) k τ w B (i + 1) (fdX fs go m w.heap.size) ((w3.setCell ⟨go, i * 2, none⟩ (.string f.name)).setCell ⟨go, i * 2 + 1, none⟩ (.int .i32 (id : Int)))) := hid (by
      have hup : Upd go w3 ((w3.setCell ⟨go, i * 2, none⟩ (.string f.name)).setCell ⟨go, i * 2 + 1, none⟩ (.int .i32 (id : Int))) := ((Upd.refl go w3).setCell rfl _).setCell rfl _
      have hgo0 := HBw.out.size
      refine ⟨τ3, B3, ids ++ [id], ki + ka, kb, ?_, by rw [List.length_append, l2]; rfl, k2.upd hup hgo3, ((l4.trans (Fr.below HBd.out)).trans k3).updN hup l6.2.2.1, Below.updN hb3 hup (by have := l6.2.2.1; omega) hb3.size, ⟨?_, hgo3, l6.2.2.1, Nat.lt_of_lt_of_le hgl3 hup.size⟩, by omega, fun j hj => (k5 j hj).trans (l8 j hj), hkb, by omega⟩
      · rw [List.take_add_one, ho]
        exact .snoc l1 k1
      · have e4 := fdS_snoc (fs := fs) (ids := ids) id (by rw [l2]; exact hf)
        rw [← e4, l2]
        rw [List.set_set] at hp2
        exact hp2)
    clear l1 l2 l3 l4 l5 l6 l7 l8 l10 hkb hkk hf ho hka hOi k1 k2 k3 k4 k5 h3 HL hp1 hp2 hr3 hc9 hc8 hx0 hx1 hz1 hz2 hg3 hb3 hgo3 hgl3 e2 e3 e2' e3'
    go_wp2_with fail
    refine ⟨HS3.out, ?_⟩
    go_wp2_with fail
    refine ⟨HS3.out, ?_⟩
    simp only [QN]
    go_wp2
    exact ⟨⟨i + 1, by go_num, by omega, HE⟩, by simp [intOf]; omega⟩
  have d1 : decide ((i : Int) < (m : Int)) = false := decide_eq_false (by omega)
  obtain ⟨τ3, B3, ids, ki, kr, l1, l2, l3, l4, l5, l6, l7, l8, l9, l10⟩ := HI.out
  have him : i = m := by omega
  rw [him] at l2 l1
  rw [List.take_of_length_le (by rw [List.length_map, Hfsl.out]; exact Nat.le_refl _)] at l1
  have hki : ki ≤ k := by omega
  have hO3 := l1.ok HW.out.1 HW.out.2
  have hp3 : B3.size + phi F rk B3.dt (rk d) + m ≤ B.size + phi F rk B.dt (rk d) + 2 * k := by omega
  have hsz3 : B3.size + m + 1 ≤ 1000000000 := by have := Hsz.out; have := Hin.out; have := HK.out.1; omega
  have hlen3 : B3.T.types.length + 1 ≤ 1000000000 ∧ B3.T.flds.length + m ≤ 1000000000 := by unfold BS.size at hsz3; omega
  obtain ⟨V3, ms, mu, vF, fps, hX3, hfl3, hfn3, hg3⟩ := l3
  obtain ⟨ys, hys⟩ : ∃ ys, fdZ fs ids = ys := ⟨_, rfl⟩
  have hysl : ys.length = m := by rw [← hys, fdZ_len, Hfsl.out, l2]; omega
  have hr6 := l6.1
  rw [fdS_all _ _ (by rw [l2, Hfsl.out]), hys] at hr6
  have HCn : Hid (∀ wz, Below w0.heap.size w0 wz → wz.cell? ⟨gd, d * 11 + 1, none⟩ = some (.string y.name) ∧ wz.cell? ⟨gd, d * 11 + 2, none⟩ = some (.int .i64 (y.pos : Int))) := hid (fun wz hz => ⟨Hnd.out wz hz 1 (by decide), Hnd.out wz hz 2 (by decide)⟩)
  have HX3 := hid hX3
  have Hr6 := hid hr6
  have Hys := hid (And.intro hys hysl)
  have HL3 := hid (And.intro l1 (And.intro l2 (And.intro l4 (And.intro l5 (And.intro hp3 (And.intro l8 (And.intro hfl3 (And.intro hfn3 (And.intro hg3 hO3.1)))))))))
  clear l1 l2 l4 l5 l6 l7 l8 l9 l10 hO3 hX3 hfl3 hfn3 hg3 hr6 hys HI him hki hp3
  go_upto_region 16 with fail
  have HBd : Hid (Below wr.heap.size wr wr.drew) := hid (Drew.below ⟨1, rfl⟩ _)
  have HBz := hid (HL3.out.2.2.2.1.trans (HBd.out.mono HL3.out.2.2.2.1.size))
  have HXd := hid (HX3.out.below HBd.out)
  refine wp_region_heavy (fun wz => wz.cell? ⟨L.b, 1, none⟩ = some (.pointer (some ⟨L.t, 0, none⟩)) ∧ wz.cell? ⟨gd, d * 11 + 1, none⟩ = some (.string y.name)) 10 [0, 1, 2, 3, 4, 5, 6, 7, 8] [9] rfl (by kernel_rfl) (by kernel_rfl) (fun d _ _ _ _ h => by cases d <;> exact h) ⟨HXd.out.cells.2.1, (HCn.out _ HBz.out).1⟩ ?_
  apply Exists.intro
  refine ⟨?_, ?_⟩
  · intro W hW
    have q0 : ∀ z, (W z).cell? ⟨L.b, 1, none⟩ = some (.pointer (some ⟨L.t, 0, none⟩)) := fun z => (hW z).1
    have q1 : ∀ z, (W z).cell? ⟨gd, d * 11 + 1, none⟩ = some (.string y.name) := fun z => (hW z).2
    clear hW
    simp only [List.take, opsAt, List.drop, List.cons_append, List.nil_append]
    repeat (go_big_quiet_step (fail))
    exact rfl
  simp only [List.take, List.drop, opsAt, List.cons_append, List.nil_append, wpHv]
  have HrD := hid (Hr6.out.fr (Fr.below HBd.out : Fr XL τ3 wr τ3 wr.drew) rfl)
  generalize wr.drew = wd at HBd HBz HXd HrD ⊢
  obtain ⟨j, hj⟩ : ∃ j, B3.T.types.length = j := ⟨_, rfl⟩
  have Hj := hid hj
  have HA0 := hid (addContainerW HXd.out.tb y.name (.slice (some ⟨go, 0, none⟩) m m) ys (by
    obtain ⟨e1, e2, e3⟩ := HrD.out.src
    exact ⟨some ⟨go, 0, none⟩, m, by rw [Hys.out.2], fun h => (by cases h), e1⟩) (by omega) (by rw [hysl]; omega))
  have HA : Hid (Calls Tryz.prog 122 #[.pointer (some ⟨L.t, 0, none⟩), .string y.name, .slice (some ⟨go, 0, none⟩) m m] wd fun e w' => e = .returned (.int .i32 (j : Int)) ∧ Hid (∃ τ' V', BdX τ' w' L F.decls.length (B3.con y.name ys) V' ms mu vF fps ∧ Fr X52 τ3 wd τ' w')) := hid (HA0.out.mono fun e w' hh => ⟨by rw [← hj]; exact hh.1, hid (by
    obtain ⟨τ', V', a1, a2, a3⟩ := hh.2.out
    exact ⟨τ', V', HXd.out.tab a2 rfl rfl rfl a1 rfl a3, a2⟩)⟩)
  clear HA0 hj hysl
  go_wp2_with fail
  refine HA.out.mono ?_
  rintro e4 w4 ⟨rfl, h4⟩
  obtain ⟨τ4, V4, h4a, h4b⟩ := h4.out
  have HX4 := hid h4a
  have Hf4 : Hid (Fr XL τ3 wr τ4 w4) := hid ((Fr.below HBd.out).trans (h4b.mono (fun c hc => by unfold X52 at hc; unfold XL; simp at hc; simp; omega)))
  have HBq : Hid (Below w0.heap.size w0 w4) := hid (Below.frL Hf4.out HL3.out.2.2.2.2.2.2.2.2.1 HL3.out.2.2.2.1)
  clear h4a h4b h4 HA HXd HrD HBz HBd
  go_wp2_with fail
  refine ⟨⟨HX4.out.cells.2.1, (HCn.out _ HBq.out).1⟩, ?_⟩
  simp only [QN]
  obtain ⟨af, qf, hvf⟩ := HX4.out.fp.shape
  obtain ⟨mf, hmf⟩ : ∃ m, fps.length = m := ⟨_, rfl⟩
  rw [hmf] at hvf
  have Hvf := hid hvf
  have Hmf := hid hmf
  have hmb : mf ≤ 1000000000 := by have := HL3.out.2.2.2.2.2.2.1; omega
  clear hvf hmf
  go_upto_region 17 with fail
  have HBd : Hid (Below w4.heap.size w4 w4.drew) := hid (Drew.below ⟨1, rfl⟩ _)
  refine wp_region_heavy (fun wz => wz.cell? ⟨L.b, 3, none⟩ = some (.slice af mf qf) ∧ wz.cell? ⟨gd, d * 11 + 2, none⟩ = some (.int .i64 (y.pos : Int))) 11 [0, 1, 2, 3, 4, 5, 6, 7, 8] [9, 10] rfl (by kernel_rfl) (by kernel_rfl) (fun d _ _ _ _ h => by cases d <;> exact h) ⟨by rw [← Hvf.out]; exact (HX4.out.below HBd.out).cells.2.2.2, (HCn.out _ (HBq.out.trans (HBd.out.mono HBq.out.size))).2⟩ ?_
  apply Exists.intro
  refine ⟨?_, ?_⟩
  · intro W hW
    have q3 : ∀ z, (W z).cell? ⟨L.b, 3, none⟩ = some (.slice af mf qf) := fun z => (hW z).1
    have q2 : ∀ z, (W z).cell? ⟨gd, d * 11 + 2, none⟩ = some (.int .i64 (y.pos : Int)) := fun z => (hW z).2
    clear hW
    simp only [List.take, opsAt, List.drop, List.cons_append, List.nil_append]
    repeat (go_big_quiet_step (fail))
    exact rfl
  simp only [List.take, List.drop, opsAt, List.cons_append, List.nil_append, wpHv]
  generalize w4.drew = wd at HBd ⊢
  go_wp2_with fail
  obtain ⟨k8, hk8⟩ : ∃ k, wd.heap.size = k := ⟨_, rfl⟩
  obtain ⟨wf, hwf⟩ : ∃ wf, wd.alloc (.cells #[.int .i64 (y.pos : Int)] 3) = wf := ⟨_, rfl⟩
  have HBf : Hid (Below w4.heap.size w4 wf) := hid (by rw [← hwf]; exact HBd.out.trans ((nbel wd _).mono HBd.out.size))
  have HNw : Hid (∀ ad, some (⟨k8, 0, none⟩ : Addr) = some ad → ∀ j u, ([y.pos].flatMap rtI.f)[j]? = some u → wf.cell? (ad.add j) = some u) := hid (by rw [← hwf]; exact newX rtI wd y.pos _ hk8.symm)
  (try simp only [hwf, hk8])
  have HXf := hid (HX4.out.below HBf.out)
  refine ⟨⟨by rw [← Hvf.out]; exact HXf.out.cells.2.2.2, (HCn.out _ (HBq.out.trans (HBf.out.mono HBq.out.size))).2⟩, ?_⟩
  clear hwf hk8
  have hrf := HXf.out.fp
  rw [Hvf.out] at hrf
  refine wpList_app_x okI rfl (.tmp 98) (.tmp 103) hrf rfl [y.pos] (by simp [Act.eval, Act.put]; done) (some ⟨k8, 0, none⟩) 1 1 (by simp [Act.eval, Act.put]; done) rfl (fun h => by cases h) HNw.out (by have := Hmf.out; show (fps.length + 1) * 8 ≤ _; omega) ?_
  intro v8 w8 τ8 hr8 hf8 _ _
  obtain ⟨a8, q8, h8⟩ := hr8.out.shape
  rw [List.length_append, List.length_singleton, Hmf.out] at h8
  subst h8
  have HP8 := hid (HXf.out.app hr8.out hf8.out)
  have hk8 : Blk w8 L.b 181 (bdC L F.decls.length vF) := hf8.out.keep HXf.out.bb HXf.out.rb rfl
  have s3 : w8.cell? ⟨L.b, 3, none⟩ = some (.slice af mf qf) := by rw [← Hvf.out]; exact hk8.cell 3
  have f3 : w8.frozen? ⟨L.b, 3, none⟩ = false := hk8.frozen _
  have s2 : w8.cell? ⟨gd, d * 11 + 2, none⟩ = some (.int .i64 (y.pos : Int)) := (HCn.out _ (Below.frL ((Fr.below HBf.out).trans (hf8.out.one rfl)) (fun g hg => by
    by_cases hlt : g < wr.heap.size
    · rw [Hf4.out.old g hlt] at hg; exact HL3.out.2.2.2.2.2.2.2.2.1 g hg
    · have := HL3.out.2.2.2.1.size; omega) HBq.out)).2
  have Hf9 : Hid (Fr XL τ3 wr τ8 (w8.setCell ⟨L.b, 3, none⟩ (.slice a8 (mf + 1) q8))) := hid (Hf4.out.trans ((Fr.below HBf.out).trans HP8.out.2))
  have HX9 := hid HP8.out.1
  clear hrf hr8 hf8 HXf HNw HBf HBd HP8 hk8 HX4 HCn HBq Hf4
  go_wp2_with fail
  refine ⟨⟨s3, s2⟩, ?_⟩
  simp only [QN]
  go_upto_region 18 with fail
  generalize hw9 : w8.setCell _ _ = w9 at HX9 Hf9 ⊢
  clear hw9 s3 s2 f3
  have b2' := HX9.out.cells.2.2.1
  have cd' := HX9.out.dt.get Hlt.out
  have fd' := HX9.out.dt.frozen d
  rw [Hnd1.out] at b2'
  have HF : Hid (∃ (τ' : Rl) (B' : BS), Low F vf (.dcl d) B B' [j] ∧ BdM l.n w0.heap.size τ' (w9.setCell ⟨L.gD, d, none⟩ (.int .i32 (j : Int))) L F.decls.length B' ∧ Fr XL τ w τ' (w9.setCell ⟨L.gD, d, none⟩ (.int .i32 (j : Int))) ∧ B'.size + phi F rk B'.dt R + 1 ≤ B.size + phi F rk B.dt R + 1 ∧ ∀ q, R ≤ rk q → B'.dt q = B.dt q) := hid (by
    obtain ⟨l1, l2, l4, l5, l7, l8, l11, l12, l13, l14⟩ := HL3.out
    obtain ⟨e1, e2, _⟩ := HX9.out.setD Hlt.out (j : Int)
    have hd1 : B3.dt d = -1 := by rw [l8 d (Nat.le_refl _)]; exact Hx.out.2.2.1
    have hps := phi_set (F := F) (rk := rk) (dt := B3.dt) (R := R) (i := (j : Int)) Hlt.out hd1 HK.out.2 (by omega)
    have hpd := phi_diff (F := F) (rk := rk) (R := R) (R' := rk d) l8 (by have := HK.out.2; omega)
    have hin := Hin.out
    have hk := HK.out.1
    have hl := Low.cnt (F := F) (vf := vf) Hx.out.1 Hx.out.2.1 Hx.out.2.2.1 (by rw [Hx.out.2.2.2]; exact l1)
    rw [Hx.out.2.2.2, Hys.out.1, Hj.out] at hl
    have hcs : (B3.con y.name ys).size = B3.size + 1 + m := by
      unfold BS.con BS.size
      simp only [List.length_append, List.length_singleton, Hys.out.2]
      omega
    have hct : (B3.con y.name ys).T.types.length = B3.T.types.length + 1 := by show (B3.T.types ++ [_]).length = _; simp
    refine ⟨τ8, (B3.con y.name ys).set d (j : Int), hl, ⟨V4, ms, mu, _, _, e1, ?_, fun p hp => ?_, fun g hg => ?_⟩, (l4.trans Hf9.out).trans e2, ?_, fun q hq => ?_⟩
    · rw [List.length_append, List.length_singleton]
      show fps.length + 1 = (B3.con y.name ys).T.types.length
      omega
    · rcases List.mem_append.1 hp with h | h
      · exact l12 p h
      · simp at h; subst h; exact Hyp.out
    · by_cases hlt : g < wr.heap.size
      · rw [Hf9.out.old g hlt] at hg; exact l13 g hg
      · have := l5.size; omega
    · show (B3.con y.name ys).size + phi F rk (fup B3.dt d (j : Int)) R + 1 ≤ _
      omega
    · show fup B3.dt d (j : Int) q = B.dt q
      have := HK.out.2
      rw [fup_ne _ _ (by intro e; subst e; omega)]
      exact l8 q (by omega))
  clear HX9 Hf9 HL3 HX3 Hr6 Hys HM HBw HW HSt HBa HD1 HFd HTT
  go_wp2
  go_ret
  exact ⟨j, rfl, HF⟩
end
end Go.Proofs.Qxb6500883aGreatDoor
