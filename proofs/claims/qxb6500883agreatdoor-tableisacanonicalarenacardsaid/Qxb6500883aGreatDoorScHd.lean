/- lowerType, bracketed forms (written by tools/mk_schd.py). -/
import Derived.Test.Qxb6500883aGreatDoorScHc
namespace Go.Proofs.Qxb6500883aGreatDoor
open Go.RowKit
set_option linter.unusedSimpArgs false
set_option linter.unusedVariables false
/-- Behind interning: the positions want one more if the type is new. -/
def MidP (n n0 : Nat) (τ : Rl) (w : World) (L : BLy) (nd : Nat) (B : BS) (id : Nat) (nw : Bool) : Prop := ∃ V ms mu vF fps, BdX τ w L nd B V ms mu vF fps ∧ (∀ p ∈ fps, p ≤ n) ∧ (∀ g, τ g ≠ 0 → n0 ≤ g) ∧ (nw = true → fps.length + 1 = B.T.types.length) ∧ (nw = false → fps.length = B.T.types.length ∧ id < fps.length)
/-- All that is left is to note the position. -/
def MidL (n : Nat) (F : FS) (vf rk : Nat → Nat) (L : BLy) (n0 R c : Nat) (job : LJ) (τ : Rl) (w : World) (B : BS) (id : Nat) (nw : Bool) (w' : World) : Prop :=
  ∃ (τ' : Rl) (B' : BS), Low F vf job B B' [id] ∧ MidP n n0 τ' w' L F.decls.length B' id nw ∧ Fr XL τ w τ' w' ∧ B'.size + phi F rk B'.dt R + 1 ≤ B.size + phi F rk B.dt R + c ∧ (∀ j, R ≤ rk j → B'.dt j = B.dt j) ∧ B'.T.types.length ≤ 1000000000
section
variable {N mg : Nat} {ρ : Rl} {w0 w wz : World} {l : PL} {bs : List UInt8} {F : FS} {U : FV} {c : Nat} {V : CV} {gT gV : Nat} {vf rk : Nat → Nat} {L : BLy} {R : Nat} {τ : Rl} {B : BS}
theorem MidL.below {n n0 cc id : Nat} {job : LJ} {nw : Bool} {w1 w2 : World} (h : MidL n F vf rk L n0 R cc job τ w B id nw w1) (hb : Below w1.heap.size w1 w2) : MidL n F vf rk L n0 R cc job τ w B id nw w2 := by
  obtain ⟨τ', B', k1, ⟨V, ms, mu, vF, fps, x1, x2⟩, k3, k4⟩ := h
  exact ⟨τ', B', k1, ⟨V, ms, mu, vF, fps, x1.below hb, x2⟩, k3.trans (Fr.below hb), k4⟩
set_option maxRecDepth 100000 in
set_option maxHeartbeats 4000000 in
theorem lowTser3 (hC : LCx N mg ρ w0 l bs F U c V gT gV vf rk) (hLc : L.c = c) {r e ct k : Nat} {x : TN} (hx : F.types[r]? = some x) (h : x.form = 3) (he : x.elem = (e : Int)) (hct : x.count = (ct : Int)) (hcl : ct < F.exprs.length) (hxp : x.pos ≤ l.n) (hT : TypC l.n F vf rk L w0 R e k) : TypC l.n F vf rk L w0 R r (k + 1) := by
  intro τ w B hM hb hO hsz
  have hlt := (List.getElem?_eq_some_iff.1 hx).1
  obtain ⟨gt, qt, hut, hnd⟩ := hC.node hx
  obtain ⟨nt, hnt⟩ : ∃ m, F.types.length = m := ⟨_, rfl⟩
  rw [hnt] at hut hlt
  have c0 := (hC.chk hb).1
  have f2 := (hC.fil hb).2.1
  rw [hut] at f2
  obtain ⟨b0, b1, _⟩ := hM.cells
  rw [hLc] at b0
  have HLc := hid hLc
  have n0 : w.cell? ⟨gt, r * 8, none⟩ = some (.int .u8 (x.form : Int)) := hnd w hb 0 (by decide)
  obtain ⟨ne, hne⟩ : ∃ m, F.exprs.length = m := ⟨_, rfl⟩
  have HCk : Hid (∀ wz, Below w0.heap.size w0 wz → wz.cell? ⟨c, 0, none⟩ = some (.pointer (some ⟨l.f, 0, none⟩)) ∧ wz.cell? ⟨c, 7, none⟩ = some (.slice (some ⟨gV, 0, none⟩) ne ne) ∧ wz.cell? ⟨gt, r * 8 + 4, none⟩ = some (.int .i32 (e : Int)) ∧ wz.cell? ⟨gt, r * 8 + 5, none⟩ = some (.int .i32 (ct : Int)) ∧ wz.cell? ⟨gV, ct, none⟩ = some (.int .u64 (vf ct : Int))) := hid (fun wz hz => ⟨(hC.chk hz).1, by rw [← hne]; exact (hC.chk hz).2.2, by rw [hnd wz hz 4 (by decide), ← he]; rfl, by rw [hnd wz hz 5 (by decide), ← hct]; rfl, (hC.rv.below hz).get hcl⟩)
  rw [hne] at hcl
  have HA := hid (hT τ w B hM hb hO (by omega))
  have Hx := hid (And.intro hx (And.intro h (And.intro he hct)))
  have HW := hid (And.intro hC.wf hO)
  have HM := hid hM
  have HBw := hid hb
  have Hnd := hid hnd
  have Hxp := hid hxp
  have Hsz := hid hsz
  have hg0 : ∀ g, τ g ≠ 0 → w0.heap.size ≤ g := by obtain ⟨_, _, _, _, _, _, _, _, h5⟩ := hM; exact h5
  have Hg0 := hid hg0
  rw [h] at n0
  have HTT := hid hT
  clear hC hM hb hO hT hnd hut hnt hx h hLc he hct hne hxp hsz hg0
  obtain ⟨vv, hvv⟩ : ∃ v, vf ct = v := ⟨_, rfl⟩
  have Hvv := hid hvv
  rw [hvv] at HCk
  clear hvv
  go_enter Tryz.func121, Tryz.ntmps121
  go_upto_region 13 with fail
  clear n0 f2 c0 b0 b1
  have HBd : Hid (Below w.heap.size w w.drew) := hid (Drew.below ⟨1, rfl⟩ _)
  have HS : Hid (∀ (wz : World), wz.cell? ⟨L.b, 0, none⟩ = some (.pointer (some ⟨L.c, 0, none⟩)) → wz.cell? ⟨L.b, 1, none⟩ = some (.pointer (some ⟨L.t, 0, none⟩)) → Below w0.heap.size w0 wz → wz.cell? ⟨L.b, 0, none⟩ = some (.pointer (some ⟨c, 0, none⟩)) ∧ wz.cell? ⟨L.b, 1, none⟩ = some (.pointer (some ⟨L.t, 0, none⟩)) ∧ wz.cell? ⟨c, 0, none⟩ = some (.pointer (some ⟨l.f, 0, none⟩)) ∧ wz.cell? ⟨c, 7, none⟩ = some (.slice (some ⟨gV, 0, none⟩) ne ne) ∧ wz.cell? ⟨gt, r * 8 + 4, none⟩ = some (.int .i32 (e : Int)) ∧ wz.cell? ⟨gt, r * 8 + 5, none⟩ = some (.int .i32 (ct : Int)) ∧ wz.cell? ⟨gV, ct, none⟩ = some (.int .u64 (vv : Int))) := hid (fun wz hz1 hz3 hz2 => ⟨by rw [← HLc.out]; exact hz1, hz3, (HCk.out wz hz2).1, (HCk.out wz hz2).2.1, (HCk.out wz hz2).2.2.1, (HCk.out wz hz2).2.2.2.1, (HCk.out wz hz2).2.2.2.2⟩)
  refine wp_region_hlh (fun wz => wz.cell? ⟨L.b, 0, none⟩ = some (.pointer (some ⟨c, 0, none⟩)) ∧ wz.cell? ⟨L.b, 1, none⟩ = some (.pointer (some ⟨L.t, 0, none⟩)) ∧ wz.cell? ⟨c, 0, none⟩ = some (.pointer (some ⟨l.f, 0, none⟩)) ∧ wz.cell? ⟨c, 7, none⟩ = some (.slice (some ⟨gV, 0, none⟩) ne ne) ∧ wz.cell? ⟨gt, r * 8 + 4, none⟩ = some (.int .i32 (e : Int)) ∧ wz.cell? ⟨gt, r * 8 + 5, none⟩ = some (.int .i32 (ct : Int)) ∧ wz.cell? ⟨gV, ct, none⟩ = some (.int .u64 (vv : Int))) 28 [0, 1, 2, 3, 4, 5, 6, 7, 8, 10, 11, 12, 13, 14, 15, 16, 17, 18, 19, 20, 21, 22] [9, 23] [24, 25, 26, 27] [] rfl (by kernel_rfl) (by kernel_rfl) (fun d _ _ _ _ h => by cases d <;> exact h) (HS.out w.drew (HM.out.below HBd.out).cells.1 (HM.out.below HBd.out).cells.2.1 (HBw.out.trans (HBd.out.mono HBw.out.size))) ?_
  apply Exists.intro
  refine ⟨?_, ?_⟩
  · intro W hW
    have q0 : ∀ z, (W z).cell? ⟨L.b, 0, none⟩ = some (.pointer (some ⟨c, 0, none⟩)) := fun z => (hW z).1
    have q1 : ∀ z, (W z).cell? ⟨L.b, 1, none⟩ = some (.pointer (some ⟨L.t, 0, none⟩)) := fun z => (hW z).2.1
    have q2 : ∀ z, (W z).cell? ⟨c, 0, none⟩ = some (.pointer (some ⟨l.f, 0, none⟩)) := fun z => (hW z).2.2.1
    have q3 : ∀ z, (W z).cell? ⟨c, 7, none⟩ = some (.slice (some ⟨gV, 0, none⟩) ne ne) := fun z => (hW z).2.2.2.1
    have q4 : ∀ z, (W z).cell? ⟨gt, r * 8 + 4, none⟩ = some (.int .i32 (e : Int)) := fun z => (hW z).2.2.2.2.1
    have q5 : ∀ z, (W z).cell? ⟨gt, r * 8 + 5, none⟩ = some (.int .i32 (ct : Int)) := fun z => (hW z).2.2.2.2.2.1
    have q6 : ∀ z, (W z).cell? ⟨gV, ct, none⟩ = some (.int .u64 (vv : Int)) := fun z => (hW z).2.2.2.2.2.2
    clear hW
    simp only [List.take, opsAt, List.drop, List.cons_append, List.nil_append]
    repeat (go_big_quiet_step (fail))
    exact rfl
  simp only [List.take, List.drop, opsAt, List.cons_append, List.nil_append, wpHvK]
  have HBz := hid (HBw.out.trans (HBd.out.mono HBw.out.size))
  have HMz := hid (HM.out.below HBd.out)
  generalize w.drew = wd at HBd HBz HMz ⊢
  have HA1 := hid (HTT.out τ wd B HMz.out HBz.out HW.out.2 (by have := Hsz.out; omega))
  go_wp2_with fail
  refine HA1.out.mono ?_
  rintro e1 w3 ⟨i1, rfl, h3⟩
  have HB3 : Hid (Below w0.heap.size w0 w3) := hid (by obtain ⟨_, _, _, _, k3, _⟩ := h3.out; exact Below.frL k3 Hg0.out HBz.out)
  obtain ⟨τ3, B3, k1, k2, k3, k4, k5⟩ := h3.out
  have hO3 := k1.ok HW.out.1 HW.out.2
  have hi1 : i1 < B3.T.types.length := hO3.2.2.2 i1 (by simp)
  obtain ⟨V3, ms, mu, vF, fps, hX3, hfl3, hfn3, hg3⟩ := k2
  have HX3 := hid hX3
  have HL3 := hid (And.intro k1 (And.intro k3 (And.intro k4 (And.intro k5 (And.intro hfl3 (And.intro hfn3 (And.intro hg3 hO3.1)))))))
  have hsz3 : B3.size + 2 ≤ 1000000000 := by have := Hsz.out; omega
  have hlen3 : B3.T.types.length + 2 ≤ 1000000000 := by unfold BS.size at hsz3; omega
  clear k1 k3 k4 k5 hX3 hfl3 hfn3 hg3 hO3 h3 HA HA1 HTT
  go_wp2_with fail
  refine ⟨HS.out w3 HX3.out.cells.1 HX3.out.cells.2.1 HB3.out, ?_⟩
  cases hsh : B3.sh ⟨3, (i1 : Int), vv⟩ with
  | some j =>
    have HJ := hid (internShapeY HX3.out.tb ⟨3, (i1 : Int), vv⟩ hsh)
    have Hsh := hid hsh
    clear hsh
    go_wp2_with fail
    refine HJ.out.mono ?_
    rintro e4 w4 ⟨rfl, hb4⟩
    have HX4 := hid (HX3.out.below hb4)
    have HB4 := hid (HB3.out.trans (hb4.mono HB3.out.size))
    have Hb4 := hid hb4
    clear HJ hb4
    go_wp2_with fail
    refine ⟨HS.out w4 HX4.out.cells.1 HX4.out.cells.2.1 HB4.out, ?_⟩
    apply Exists.intro
    refine ⟨?_, ?_⟩
    · intro W hW
      clear hW
      (try simp only [List.take, opsAt, List.drop, List.cons_append, List.nil_append])
      repeat (go_big_quiet_step (fail))
      exact rfl
    (try simp only [wpHv, opsAt, List.take, List.drop, List.cons_append, List.nil_append])
    (try simp only [QN])
    have HMid : Hid (MidL l.n F vf rk L w0.heap.size R (2 * (k + 1)) (.typ r) τ w B j false w4) := hid (by
      obtain ⟨l1, l2, l3, l4, l5, l6, l7, l8⟩ := HL3.out
      refine ⟨τ3, B3, ?_, ⟨V3, ms, mu, vF, fps, HX4.out, l6, l7, fun h => (by cases h), fun _ => ⟨l5, by rw [l5]; exact l8.s _ _ Hsh.out⟩⟩, ((Fr.below HBd.out).trans l2).trans (Fr.below Hb4.out), by omega, l4, by omega⟩
      have := Low.ser (F := F) (vf := vf) Hx.out.1 (by rw [Hx.out.2.1]; decide) Hx.out.2.2.1 Hx.out.2.2.2 l1
      rw [Hx.out.2.1, Hvv.out] at this
      have e1 : B3.shp ⟨3, (i1 : Int), vv⟩ = B3 := by unfold BS.shp; rw [Hsh.out]
      have e2 : B3.shpI ⟨3, (i1 : Int), vv⟩ = j := by unfold BS.shpI; rw [Hsh.out]; rfl
      rw [e1, e2] at this
      exact this)
    have HBq := HB4
    clear HX3 HX4 HL3 HB3 HB4 Hb4 HS HM HBw HBz HMz HBd HCk HW Hsz Hsh Hvv
    have HPn : Hid (∀ wz, Below w0.heap.size w0 wz → wz.cell? ⟨gt, r * 8 + 2, none⟩ = some (.int .i64 (x.pos : Int))) := hid (fun wz hz => Hnd.out wz hz 2 (by decide))
    obtain ⟨τ1, B1, hlow, ⟨V1, ms, mu, vF, fps, hX, hpn, hg0, hn1, hn2⟩, hfr, hsz1, hdt1, hlen1⟩ := HMid.out
    obtain ⟨hfl, hid1⟩ := hn2 rfl
    obtain ⟨p0, hp0⟩ : ∃ p, fps[j]? = some p := ⟨_, List.getElem?_eq_getElem hid1⟩
    obtain ⟨gf, qf, hvf, hgf, hcf⟩ := hX.fp.get (by decide) (fun _ => rfl) hp0
    have p0c := hcf 0 (by decide)
    have e0 : j * rtI.n + 0 = j := by show j * 1 + 0 = j; omega
    rw [e0] at p0c
    have p0c : w4.cell? ⟨gf, j, none⟩ = some (.int .i64 (p0 : Int)) := p0c
    obtain ⟨mf, hmf⟩ : ∃ m, fps.length = m := ⟨_, rfl⟩
    have b3 := hX.cells.2.2.2
    rw [hmf] at hvf hid1
    rw [hvf] at b3
    have Hvf := hid hvf
    have Hmf := hid hmf
    have HX := hid hX
    have Hp0 := hid hp0
    have HL := hid (And.intro hlow (And.intro hfr (And.intro hsz1 (And.intro hdt1 (And.intro hpn hg0)))))
    have Hfl := hid hfl
    have n2 := HPn.out w4 HBq.out
    clear hvf hmf hX hlow hfr hsz1 hdt1 hpn hg0 hfl hn1 hn2 hcf e0 hlen1 HMid hp0
    go_upto_region 31 with fail
    obtain ⟨X0, W, hT, hI⟩ := class_mk (fun w' => Drew w4 w')
    have H0 : Hid (∃ y, w4.drew = W y) := hid (hI _ ⟨1, rfl⟩)
    have hne : Nonempty X0 := ⟨H0.out.choose⟩
    have HTT := hid hT
    have j3 : ∀ z, (W z).cell? ⟨L.b, 3, none⟩ = some (.slice (some ⟨gf, 0, none⟩) mf qf) := fun y => by obtain ⟨m, e⟩ := hT y; rw [e]; exact b3
    have j2 : ∀ z, (W z).cell? ⟨gt, r * 8 + 2, none⟩ = some (.int .i64 (x.pos : Int)) := fun y => by obtain ⟨m, e⟩ := hT y; rw [e]; exact n2
    have jp : ∀ z, (W z).cell? ⟨gf, j, none⟩ = some (.int .i64 (p0 : Int)) := fun y => by obtain ⟨m, e⟩ := hT y; rw [e]; exact p0c
    clear hT hI
    refine wp_region_class W (by kernel_rfl) (by kernel_rfl) H0.out ?_
    repeat (go_big_quiet_step (fail))
    refine wpQuiet_nil ?_
    intro z
    have HD := hid (HTT.out z)
    have HB := hid ((HTT.out z).below w4.heap.size)
    have j3z := j3 z
    have j2z := j2 z
    have jpz := jp z
    generalize W z = wr0 at HD HB j3z j2z jpz ⊢
    clear H0 HTT j3 j2 jp
    clear n2 p0c b3
    have HX0 := hid (HX.out.below HB.out)
    have HB0 := hid (HBq.out.trans (HB.out.mono HBq.out.size))
    by_cases hpp : x.pos < p0
    rotate_left
    · have d1 : decide (x.pos < p0) = false := decide_eq_false hpp
      have HF : Hid (∃ (τ' : Rl) (B' : BS), Low F vf (.typ r) B B' [j] ∧ BdM l.n w0.heap.size τ' wr0 L F.decls.length B' ∧ Fr XL τ w τ' wr0 ∧ B'.size + phi F rk B'.dt R + 1 ≤ B.size + phi F rk B.dt R + 2 * (k + 1) ∧ ∀ j, R ≤ rk j → B'.dt j = B.dt j) := hid (by
        obtain ⟨l1, l2, l3, l4, l5, l6⟩ := HL.out
        exact ⟨τ1, B1, l1, ⟨V1, ms, mu, _, _, HX0.out, Hfl.out, l5, l6⟩, l2.trans (Fr.below HB.out), l3, l4⟩)
      clear HX HX0 HL HPn HBq HB0 HB HD
      go_wp2
      go_ret
      exact ⟨j, rfl, HF⟩
    have d1 : decide (x.pos < p0) = true := decide_eq_true hpp
    have hz2 := (HX0.out.low (p := x.pos) Hvf.out Hp0.out).2.2
    have HF : Hid (∀ wy : World, Below wr0.heap.size wr0 wy → ∃ (τ' : Rl) (B' : BS), Low F vf (.typ r) B B' [j] ∧ BdM l.n w0.heap.size τ' (wy.setCell ⟨gf, j, none⟩ (.int .i64 (x.pos : Int))) L F.decls.length B' ∧ Fr XL τ w τ' (wy.setCell ⟨gf, j, none⟩ (.int .i64 (x.pos : Int))) ∧ B'.size + phi F rk B'.dt R + 1 ≤ B.size + phi F rk B.dt R + 2 * (k + 1) ∧ ∀ j, R ≤ rk j → B'.dt j = B.dt j) := hid (fun wy hy => by
      obtain ⟨l1, l2, l3, l4, l5, l6⟩ := HL.out
      obtain ⟨hX2, hf2, _⟩ := (HX0.out.below hy).low (p := x.pos) Hvf.out Hp0.out
      refine ⟨τ1, B1, l1, ⟨V1, ms, mu, _, _, hX2, by rw [List.length_set]; exact Hfl.out, fun p hp => ?_, l6⟩, ((l2.trans (Fr.below HB.out)).trans (Fr.below hy)).trans hf2, l3, l4⟩
      rcases List.mem_or_eq_of_mem_set hp with h | h
      · exact l5 p h
      · rw [h]; exact Hxp.out)
    clear HL HB0 HPn
    have b3w := j3z
    have n2w := j2z
    have pw := jpz
    clear HD HB
    go_upto_region 32 with fail
    obtain ⟨X0, W, hT, hI⟩ := class_mk (fun w' => Drew wr0 w')
    have H0 : Hid (∃ y, wr0.drew = W y) := hid (hI _ ⟨1, rfl⟩)
    have hne : Nonempty X0 := ⟨H0.out.choose⟩
    have HTT := hid hT
    have i3 : ∀ z, (W z).cell? ⟨L.b, 3, none⟩ = some (.slice (some ⟨gf, 0, none⟩) mf qf) := fun y => by obtain ⟨m, e⟩ := hT y; rw [e]; exact b3w
    have i2 : ∀ z, (W z).cell? ⟨gt, r * 8 + 2, none⟩ = some (.int .i64 (x.pos : Int)) := fun y => by obtain ⟨m, e⟩ := hT y; rw [e]; exact n2w
    have ip : ∀ z, (W z).cell? ⟨gf, j, none⟩ = some (.int .i64 (p0 : Int)) := fun y => by obtain ⟨m, e⟩ := hT y; rw [e]; exact pw
    have iz : ∀ z, (W z).frozen? ⟨gf, j, none⟩ = false := fun y => by obtain ⟨m, e⟩ := hT y; rw [e]; exact hz2
    clear hT hI
    refine wp_region_class_tailT W 9 (by kernel_rfl) (by kernel_rfl) (by kernel_rfl) H0.out ?_
    dsimp only [List.take, List.drop]
    repeat (go_big_quiet_step (fail))
    refine wpQuiet_nil ?_
    intro z
    have HD := hid (HTT.out z)
    have HB := hid ((HTT.out z).below wr0.heap.size)
    have i3z := i3 z
    have i2z := i2 z
    have ipz := ip z
    have izz := iz z
    generalize W z = wr1 at HD HB i3z i2z ipz izz ⊢
    clear H0 HTT i3 i2 ip iz
    have HF2 : Hid (∃ (τ' : Rl) (B' : BS), Low F vf (.typ r) B B' [j] ∧ BdM l.n w0.heap.size τ' (wr1.setCell ⟨gf, j, none⟩ (.int .i64 (x.pos : Int))) L F.decls.length B' ∧ Fr XL τ w τ' (wr1.setCell ⟨gf, j, none⟩ (.int .i64 (x.pos : Int))) ∧ B'.size + phi F rk B'.dt R + 1 ≤ B.size + phi F rk B.dt R + 2 * (k + 1) ∧ ∀ j, R ≤ rk j → B'.dt j = B.dt j) := hid (by
      exact HF.out wr1 HB.out)
    clear HF HX HX0 HBq HB HD b3w n2w pw hz2
    go_wp2
    go_ret
    exact ⟨j, rfl, HF2⟩
  | none =>
    have HJ := hid (internShapeN HX3.out.tb ⟨3, (i1 : Int), vv⟩ hsh (by omega))
    have Hsh := hid hsh
    clear hsh
    obtain ⟨j, hj⟩ : ∃ j, B3.T.types.length = j := ⟨_, rfl⟩
    have Hj := hid hj
    rw [hj] at HJ
    clear hj
    go_wp2_with fail
    refine HJ.out.mono ?_
    rintro e4 w4 ⟨rfl, h4⟩
    obtain ⟨τ4, v4, h4a, h4b⟩ := h4.out
    have HX4 : Hid (BdX τ4 w4 L F.decls.length (B3.shp ⟨3, (i1 : Int), vv⟩) { V3 with t := v4 } ms mu vF fps) := hid (HX3.out.tab h4b rfl rfl rfl (by
      unfold BS.shp
      rw [Hsh.out]
      dsimp only
      rw [Hj.out]
      exact h4a) (BS.shp_dt _ _) rfl)
    have Hf4 : Hid (Fr XL τ3 w3 τ4 w4) := hid (h4b.mono (fun c hc => by unfold X51 at hc; unfold XL; simp at hc; simp; omega))
    have HB4 : Hid (Below w0.heap.size w0 w4) := hid (Below.frL Hf4.out HL3.out.2.2.2.2.2.2.1 HB3.out)
    clear HJ h4 h4a h4b
    go_wp2_with fail
    refine ⟨HS.out w4 HX4.out.cells.1 HX4.out.cells.2.1 HB4.out, ?_⟩
    apply Exists.intro
    refine ⟨?_, ?_⟩
    · intro W hW
      clear hW
      (try simp only [List.take, opsAt, List.drop, List.cons_append, List.nil_append])
      repeat (go_big_quiet_step (fail))
      exact rfl
    (try simp only [wpHv, opsAt, List.take, List.drop, List.cons_append, List.nil_append])
    (try simp only [QN])
    have HMid : Hid (MidL l.n F vf rk L w0.heap.size R (2 * (k + 1)) (.typ r) τ w B j true w4) := hid (by
      obtain ⟨l1, l2, l3, l4, l5, l6, l7, l8⟩ := HL3.out
      have hln : (B3.shp ⟨3, (i1 : Int), vv⟩).T.types.length = B3.T.types.length + 1 := by unfold BS.shp; rw [Hsh.out]; simp
      have hsz := (B3.shp_len ⟨3, (i1 : Int), vv⟩).2
      refine ⟨τ4, B3.shp ⟨3, (i1 : Int), vv⟩, ?_, ⟨_, ms, mu, vF, fps, HX4.out, l6, fun g hg => ?_, fun _ => by omega, fun h => (by cases h)⟩, ((Fr.below HBd.out).trans l2).trans Hf4.out, by rw [BS.shp_dt]; omega, by rw [BS.shp_dt]; exact l4, by omega⟩
      · have := Low.ser (F := F) (vf := vf) Hx.out.1 (by rw [Hx.out.2.1]; decide) Hx.out.2.2.1 Hx.out.2.2.2 l1
        rw [Hx.out.2.1, Hvv.out] at this
        have e2 : B3.shpI ⟨3, (i1 : Int), vv⟩ = j := by unfold BS.shpI; rw [Hsh.out]; exact Hj.out
        rw [e2] at this
        exact this
      · by_cases hlt : g < w3.heap.size
        · rw [Hf4.out.old g hlt] at hg; exact l7 g hg
        · have := HB3.out.size; omega)
    have HBq := HB4
    clear HX3 HX4 HL3 HB3 HB4 Hf4 HS HM HBw HBz HMz HBd HCk HW Hsz Hsh Hvv Hj
    have HPn : Hid (∀ wz, Below w0.heap.size w0 wz → wz.cell? ⟨gt, r * 8 + 2, none⟩ = some (.int .i64 (x.pos : Int))) := hid (fun wz hz => Hnd.out wz hz 2 (by decide))
    obtain ⟨τ1, B1, hlow, ⟨V1, ms, mu, vF, fps, hX, hpn, hg0, hn1, hn2⟩, hfr, hsz1, hdt1, hlen1⟩ := HMid.out
    have hfl := hn1 rfl
    obtain ⟨af, qf, hvf⟩ := hX.fp.shape
    obtain ⟨mf, hmf⟩ : ∃ m, fps.length = m := ⟨_, rfl⟩
    rw [hmf] at hvf
    have Hvf := hid hvf
    have Hmf := hid hmf
    have HX := hid hX
    have HL := hid (And.intro hlow (And.intro hfr (And.intro hsz1 (And.intro hdt1 (And.intro hpn hg0)))))
    have Hfl := hid hfl
    have hmb : mf ≤ 1000000000 := by omega
    clear hvf hmf hX hlow hfr hsz1 hdt1 hpn hg0 hfl hn1 hn2 hlen1 HMid
    go_upto_region 30 with fail
    have HBd : Hid (Below w4.heap.size w4 w4.drew) := hid (Drew.below ⟨1, rfl⟩ _)
    refine wp_region_heavy (fun wz => wz.cell? ⟨L.b, 3, none⟩ = some (.slice af mf qf) ∧ wz.cell? ⟨gt, r * 8 + 2, none⟩ = some (.int .i64 (x.pos : Int))) 11 [0, 1, 2, 3, 4, 5, 6, 7, 8] [9, 10] rfl (by kernel_rfl) (by kernel_rfl) (fun d _ _ _ _ h => by cases d <;> exact h) ⟨by rw [← Hvf.out]; exact (HX.out.below HBd.out).cells.2.2.2, HPn.out _ (HBq.out.trans (HBd.out.mono HBq.out.size))⟩ ?_
    apply Exists.intro
    refine ⟨?_, ?_⟩
    · intro W hW
      have q3 : ∀ z, (W z).cell? ⟨L.b, 3, none⟩ = some (.slice af mf qf) := fun z => (hW z).1
      have q2 : ∀ z, (W z).cell? ⟨gt, r * 8 + 2, none⟩ = some (.int .i64 (x.pos : Int)) := fun z => (hW z).2
      clear hW
      simp only [List.take, opsAt, List.drop, List.cons_append, List.nil_append]
      repeat (go_big_quiet_step (fail))
      exact rfl
    simp only [List.take, List.drop, opsAt, List.cons_append, List.nil_append, wpHv]
    generalize w4.drew = wd at HBd ⊢
    go_wp2_with fail
    obtain ⟨k8, hk8⟩ : ∃ k, wd.heap.size = k := ⟨_, rfl⟩
    obtain ⟨wf, hwf⟩ : ∃ wf, wd.alloc (.cells #[.int .i64 (x.pos : Int)] 3) = wf := ⟨_, rfl⟩
    have HBf : Hid (Below w4.heap.size w4 wf) := hid (by rw [← hwf]; exact HBd.out.trans ((nbel wd _).mono HBd.out.size))
    have HNw : Hid (∀ ad, some (⟨k8, 0, none⟩ : Addr) = some ad → ∀ j u, ([x.pos].flatMap rtI.f)[j]? = some u → wf.cell? (ad.add j) = some u) := hid (by rw [← hwf]; exact newX rtI wd x.pos _ hk8.symm)
    (try simp only [hwf, hk8])
    have HXf := hid (HX.out.below HBf.out)
    refine ⟨⟨by rw [← Hvf.out]; exact HXf.out.cells.2.2.2, HPn.out _ (HBq.out.trans (HBf.out.mono HBq.out.size))⟩, ?_⟩
    clear hwf hk8
    have hrf := HXf.out.fp
    rw [Hvf.out] at hrf
    refine wpList_app_x okI rfl (.tmp 202) (.tmp 207) hrf rfl [x.pos] (by simp [Act.eval, Act.put]; done) (some ⟨k8, 0, none⟩) 1 1 (by simp [Act.eval, Act.put]; done) rfl (fun h => by cases h) HNw.out (by have := Hmf.out; show (fps.length + 1) * 8 ≤ _; omega) ?_
    intro v8 w8 τ8 hr8 hf8 _ _
    obtain ⟨a8, q8, h8⟩ := hr8.out.shape
    rw [List.length_append, List.length_singleton, Hmf.out] at h8
    subst h8
    have HP8 := hid (HXf.out.app hr8.out hf8.out)
    have hk8 : Blk w8 L.b 181 (bdC L F.decls.length vF) := hf8.out.keep HXf.out.bb HXf.out.rb rfl
    have s3 : w8.cell? ⟨L.b, 3, none⟩ = some (.slice af mf qf) := by rw [← Hvf.out]; exact hk8.cell 3
    have f3 : w8.frozen? ⟨L.b, 3, none⟩ = false := hk8.frozen _
    have HF : Hid (∃ (τ' : Rl) (B' : BS), Low F vf (.typ r) B B' [j] ∧ BdM l.n w0.heap.size τ' (w8.setCell ⟨L.b, 3, none⟩ (.slice a8 (mf + 1) q8)) L F.decls.length B' ∧ Fr XL τ w τ' (w8.setCell ⟨L.b, 3, none⟩ (.slice a8 (mf + 1) q8)) ∧ B'.size + phi F rk B'.dt R + 1 ≤ B.size + phi F rk B.dt R + 2 * (k + 1) ∧ ∀ j, R ≤ rk j → B'.dt j = B.dt j) := hid (by
      obtain ⟨l1, l2, l3, l4, l5, l6⟩ := HL.out
      refine ⟨τ8, B1, l1, ⟨V1, ms, mu, _, _, HP8.out.1, by rw [List.length_append, List.length_singleton]; exact Hfl.out, fun p hp => ?_, fun g hg => ?_⟩, l2.trans ((Fr.below HBf.out).trans HP8.out.2), l3, l4⟩
      · rcases List.mem_append.1 hp with h | h
        · exact l5 p h
        · simp at h; subst h; exact Hxp.out
      · have hf := ((Fr.below (X := XL) HBf.out).trans HP8.out.2)
        by_cases hlt : g < w4.heap.size
        · rw [hf.old g hlt] at hg; exact l6 g hg
        · have := HBq.out.size; omega)
    have s2 : w8.cell? ⟨gt, r * 8 + 2, none⟩ = some (.int .i64 (x.pos : Int)) := HPn.out _ (Below.frL ((Fr.below HBf.out).trans (hf8.out.one rfl)) HL.out.2.2.2.2.2 HBq.out)
    clear hrf hr8 hf8 HXf HNw HBf HBd HP8 hk8 HX HL HPn HBq
    go_wp2_with fail
    refine ⟨⟨s3, s2⟩, ?_⟩
    simp only [QN]
    go_wp2
    go_ret
    exact ⟨j, rfl, HF⟩

set_option maxRecDepth 100000 in
set_option maxHeartbeats 4000000 in
theorem lowTser4 (hC : LCx N mg ρ w0 l bs F U c V gT gV vf rk) (hLc : L.c = c) {r e ct k : Nat} {x : TN} (hx : F.types[r]? = some x) (h : x.form = 4) (he : x.elem = (e : Int)) (hct : x.count = (ct : Int)) (hcl : ct < F.exprs.length) (hxp : x.pos ≤ l.n) (hT : TypC l.n F vf rk L w0 R e k) : TypC l.n F vf rk L w0 R r (k + 1) := by
  intro τ w B hM hb hO hsz
  have hlt := (List.getElem?_eq_some_iff.1 hx).1
  obtain ⟨gt, qt, hut, hnd⟩ := hC.node hx
  obtain ⟨nt, hnt⟩ : ∃ m, F.types.length = m := ⟨_, rfl⟩
  rw [hnt] at hut hlt
  have c0 := (hC.chk hb).1
  have f2 := (hC.fil hb).2.1
  rw [hut] at f2
  obtain ⟨b0, b1, _⟩ := hM.cells
  rw [hLc] at b0
  have HLc := hid hLc
  have n0 : w.cell? ⟨gt, r * 8, none⟩ = some (.int .u8 (x.form : Int)) := hnd w hb 0 (by decide)
  obtain ⟨ne, hne⟩ : ∃ m, F.exprs.length = m := ⟨_, rfl⟩
  have HCk : Hid (∀ wz, Below w0.heap.size w0 wz → wz.cell? ⟨c, 0, none⟩ = some (.pointer (some ⟨l.f, 0, none⟩)) ∧ wz.cell? ⟨c, 7, none⟩ = some (.slice (some ⟨gV, 0, none⟩) ne ne) ∧ wz.cell? ⟨gt, r * 8 + 4, none⟩ = some (.int .i32 (e : Int)) ∧ wz.cell? ⟨gt, r * 8 + 5, none⟩ = some (.int .i32 (ct : Int)) ∧ wz.cell? ⟨gV, ct, none⟩ = some (.int .u64 (vf ct : Int))) := hid (fun wz hz => ⟨(hC.chk hz).1, by rw [← hne]; exact (hC.chk hz).2.2, by rw [hnd wz hz 4 (by decide), ← he]; rfl, by rw [hnd wz hz 5 (by decide), ← hct]; rfl, (hC.rv.below hz).get hcl⟩)
  rw [hne] at hcl
  have HA := hid (hT τ w B hM hb hO (by omega))
  have Hx := hid (And.intro hx (And.intro h (And.intro he hct)))
  have HW := hid (And.intro hC.wf hO)
  have HM := hid hM
  have HBw := hid hb
  have Hnd := hid hnd
  have Hxp := hid hxp
  have Hsz := hid hsz
  have hg0 : ∀ g, τ g ≠ 0 → w0.heap.size ≤ g := by obtain ⟨_, _, _, _, _, _, _, _, h5⟩ := hM; exact h5
  have Hg0 := hid hg0
  rw [h] at n0
  have HTT := hid hT
  clear hC hM hb hO hT hnd hut hnt hx h hLc he hct hne hxp hsz hg0
  obtain ⟨vv, hvv⟩ : ∃ v, vf ct = v := ⟨_, rfl⟩
  have Hvv := hid hvv
  rw [hvv] at HCk
  clear hvv
  go_enter Tryz.func121, Tryz.ntmps121
  go_upto_region 15 with fail
  clear n0 f2 c0 b0 b1
  have HBd : Hid (Below w.heap.size w w.drew) := hid (Drew.below ⟨1, rfl⟩ _)
  have HS : Hid (∀ (wz : World), wz.cell? ⟨L.b, 0, none⟩ = some (.pointer (some ⟨L.c, 0, none⟩)) → wz.cell? ⟨L.b, 1, none⟩ = some (.pointer (some ⟨L.t, 0, none⟩)) → Below w0.heap.size w0 wz → wz.cell? ⟨L.b, 0, none⟩ = some (.pointer (some ⟨c, 0, none⟩)) ∧ wz.cell? ⟨L.b, 1, none⟩ = some (.pointer (some ⟨L.t, 0, none⟩)) ∧ wz.cell? ⟨c, 0, none⟩ = some (.pointer (some ⟨l.f, 0, none⟩)) ∧ wz.cell? ⟨c, 7, none⟩ = some (.slice (some ⟨gV, 0, none⟩) ne ne) ∧ wz.cell? ⟨gt, r * 8 + 4, none⟩ = some (.int .i32 (e : Int)) ∧ wz.cell? ⟨gt, r * 8 + 5, none⟩ = some (.int .i32 (ct : Int)) ∧ wz.cell? ⟨gV, ct, none⟩ = some (.int .u64 (vv : Int))) := hid (fun wz hz1 hz3 hz2 => ⟨by rw [← HLc.out]; exact hz1, hz3, (HCk.out wz hz2).1, (HCk.out wz hz2).2.1, (HCk.out wz hz2).2.2.1, (HCk.out wz hz2).2.2.2.1, (HCk.out wz hz2).2.2.2.2⟩)
  refine wp_region_hlh (fun wz => wz.cell? ⟨L.b, 0, none⟩ = some (.pointer (some ⟨c, 0, none⟩)) ∧ wz.cell? ⟨L.b, 1, none⟩ = some (.pointer (some ⟨L.t, 0, none⟩)) ∧ wz.cell? ⟨c, 0, none⟩ = some (.pointer (some ⟨l.f, 0, none⟩)) ∧ wz.cell? ⟨c, 7, none⟩ = some (.slice (some ⟨gV, 0, none⟩) ne ne) ∧ wz.cell? ⟨gt, r * 8 + 4, none⟩ = some (.int .i32 (e : Int)) ∧ wz.cell? ⟨gt, r * 8 + 5, none⟩ = some (.int .i32 (ct : Int)) ∧ wz.cell? ⟨gV, ct, none⟩ = some (.int .u64 (vv : Int))) 28 [0, 1, 2, 3, 4, 5, 6, 7, 8, 10, 11, 12, 13, 14, 15, 16, 17, 18, 19, 20, 21, 22] [9, 23] [24, 25, 26, 27] [] rfl (by kernel_rfl) (by kernel_rfl) (fun d _ _ _ _ h => by cases d <;> exact h) (HS.out w.drew (HM.out.below HBd.out).cells.1 (HM.out.below HBd.out).cells.2.1 (HBw.out.trans (HBd.out.mono HBw.out.size))) ?_
  apply Exists.intro
  refine ⟨?_, ?_⟩
  · intro W hW
    have q0 : ∀ z, (W z).cell? ⟨L.b, 0, none⟩ = some (.pointer (some ⟨c, 0, none⟩)) := fun z => (hW z).1
    have q1 : ∀ z, (W z).cell? ⟨L.b, 1, none⟩ = some (.pointer (some ⟨L.t, 0, none⟩)) := fun z => (hW z).2.1
    have q2 : ∀ z, (W z).cell? ⟨c, 0, none⟩ = some (.pointer (some ⟨l.f, 0, none⟩)) := fun z => (hW z).2.2.1
    have q3 : ∀ z, (W z).cell? ⟨c, 7, none⟩ = some (.slice (some ⟨gV, 0, none⟩) ne ne) := fun z => (hW z).2.2.2.1
    have q4 : ∀ z, (W z).cell? ⟨gt, r * 8 + 4, none⟩ = some (.int .i32 (e : Int)) := fun z => (hW z).2.2.2.2.1
    have q5 : ∀ z, (W z).cell? ⟨gt, r * 8 + 5, none⟩ = some (.int .i32 (ct : Int)) := fun z => (hW z).2.2.2.2.2.1
    have q6 : ∀ z, (W z).cell? ⟨gV, ct, none⟩ = some (.int .u64 (vv : Int)) := fun z => (hW z).2.2.2.2.2.2
    clear hW
    simp only [List.take, opsAt, List.drop, List.cons_append, List.nil_append]
    repeat (go_big_quiet_step (fail))
    exact rfl
  simp only [List.take, List.drop, opsAt, List.cons_append, List.nil_append, wpHvK]
  have HBz := hid (HBw.out.trans (HBd.out.mono HBw.out.size))
  have HMz := hid (HM.out.below HBd.out)
  generalize w.drew = wd at HBd HBz HMz ⊢
  have HA1 := hid (HTT.out τ wd B HMz.out HBz.out HW.out.2 (by have := Hsz.out; omega))
  go_wp2_with fail
  refine HA1.out.mono ?_
  rintro e1 w3 ⟨i1, rfl, h3⟩
  have HB3 : Hid (Below w0.heap.size w0 w3) := hid (by obtain ⟨_, _, _, _, k3, _⟩ := h3.out; exact Below.frL k3 Hg0.out HBz.out)
  obtain ⟨τ3, B3, k1, k2, k3, k4, k5⟩ := h3.out
  have hO3 := k1.ok HW.out.1 HW.out.2
  have hi1 : i1 < B3.T.types.length := hO3.2.2.2 i1 (by simp)
  obtain ⟨V3, ms, mu, vF, fps, hX3, hfl3, hfn3, hg3⟩ := k2
  have HX3 := hid hX3
  have HL3 := hid (And.intro k1 (And.intro k3 (And.intro k4 (And.intro k5 (And.intro hfl3 (And.intro hfn3 (And.intro hg3 hO3.1)))))))
  have hsz3 : B3.size + 2 ≤ 1000000000 := by have := Hsz.out; omega
  have hlen3 : B3.T.types.length + 2 ≤ 1000000000 := by unfold BS.size at hsz3; omega
  clear k1 k3 k4 k5 hX3 hfl3 hfn3 hg3 hO3 h3 HA HA1 HTT
  go_wp2_with fail
  refine ⟨HS.out w3 HX3.out.cells.1 HX3.out.cells.2.1 HB3.out, ?_⟩
  cases hsh : B3.sh ⟨4, (i1 : Int), vv⟩ with
  | some j =>
    have HJ := hid (internShapeY HX3.out.tb ⟨4, (i1 : Int), vv⟩ hsh)
    have Hsh := hid hsh
    clear hsh
    go_wp2_with fail
    refine HJ.out.mono ?_
    rintro e4 w4 ⟨rfl, hb4⟩
    have HX4 := hid (HX3.out.below hb4)
    have HB4 := hid (HB3.out.trans (hb4.mono HB3.out.size))
    have Hb4 := hid hb4
    clear HJ hb4
    go_wp2_with fail
    refine ⟨HS.out w4 HX4.out.cells.1 HX4.out.cells.2.1 HB4.out, ?_⟩
    apply Exists.intro
    refine ⟨?_, ?_⟩
    · intro W hW
      clear hW
      (try simp only [List.take, opsAt, List.drop, List.cons_append, List.nil_append])
      repeat (go_big_quiet_step (fail))
      exact rfl
    (try simp only [wpHv, opsAt, List.take, List.drop, List.cons_append, List.nil_append])
    (try simp only [QN])
    have HMid : Hid (MidL l.n F vf rk L w0.heap.size R (2 * (k + 1)) (.typ r) τ w B j false w4) := hid (by
      obtain ⟨l1, l2, l3, l4, l5, l6, l7, l8⟩ := HL3.out
      refine ⟨τ3, B3, ?_, ⟨V3, ms, mu, vF, fps, HX4.out, l6, l7, fun h => (by cases h), fun _ => ⟨l5, by rw [l5]; exact l8.s _ _ Hsh.out⟩⟩, ((Fr.below HBd.out).trans l2).trans (Fr.below Hb4.out), by omega, l4, by omega⟩
      have := Low.ser (F := F) (vf := vf) Hx.out.1 (by rw [Hx.out.2.1]; decide) Hx.out.2.2.1 Hx.out.2.2.2 l1
      rw [Hx.out.2.1, Hvv.out] at this
      have e1 : B3.shp ⟨4, (i1 : Int), vv⟩ = B3 := by unfold BS.shp; rw [Hsh.out]
      have e2 : B3.shpI ⟨4, (i1 : Int), vv⟩ = j := by unfold BS.shpI; rw [Hsh.out]; rfl
      rw [e1, e2] at this
      exact this)
    have HBq := HB4
    clear HX3 HX4 HL3 HB3 HB4 Hb4 HS HM HBw HBz HMz HBd HCk HW Hsz Hsh Hvv
    have HPn : Hid (∀ wz, Below w0.heap.size w0 wz → wz.cell? ⟨gt, r * 8 + 2, none⟩ = some (.int .i64 (x.pos : Int))) := hid (fun wz hz => Hnd.out wz hz 2 (by decide))
    obtain ⟨τ1, B1, hlow, ⟨V1, ms, mu, vF, fps, hX, hpn, hg0, hn1, hn2⟩, hfr, hsz1, hdt1, hlen1⟩ := HMid.out
    obtain ⟨hfl, hid1⟩ := hn2 rfl
    obtain ⟨p0, hp0⟩ : ∃ p, fps[j]? = some p := ⟨_, List.getElem?_eq_getElem hid1⟩
    obtain ⟨gf, qf, hvf, hgf, hcf⟩ := hX.fp.get (by decide) (fun _ => rfl) hp0
    have p0c := hcf 0 (by decide)
    have e0 : j * rtI.n + 0 = j := by show j * 1 + 0 = j; omega
    rw [e0] at p0c
    have p0c : w4.cell? ⟨gf, j, none⟩ = some (.int .i64 (p0 : Int)) := p0c
    obtain ⟨mf, hmf⟩ : ∃ m, fps.length = m := ⟨_, rfl⟩
    have b3 := hX.cells.2.2.2
    rw [hmf] at hvf hid1
    rw [hvf] at b3
    have Hvf := hid hvf
    have Hmf := hid hmf
    have HX := hid hX
    have Hp0 := hid hp0
    have HL := hid (And.intro hlow (And.intro hfr (And.intro hsz1 (And.intro hdt1 (And.intro hpn hg0)))))
    have Hfl := hid hfl
    have n2 := HPn.out w4 HBq.out
    clear hvf hmf hX hlow hfr hsz1 hdt1 hpn hg0 hfl hn1 hn2 hcf e0 hlen1 HMid hp0
    go_upto_region 31 with fail
    obtain ⟨X0, W, hT, hI⟩ := class_mk (fun w' => Drew w4 w')
    have H0 : Hid (∃ y, w4.drew = W y) := hid (hI _ ⟨1, rfl⟩)
    have hne : Nonempty X0 := ⟨H0.out.choose⟩
    have HTT := hid hT
    have j3 : ∀ z, (W z).cell? ⟨L.b, 3, none⟩ = some (.slice (some ⟨gf, 0, none⟩) mf qf) := fun y => by obtain ⟨m, e⟩ := hT y; rw [e]; exact b3
    have j2 : ∀ z, (W z).cell? ⟨gt, r * 8 + 2, none⟩ = some (.int .i64 (x.pos : Int)) := fun y => by obtain ⟨m, e⟩ := hT y; rw [e]; exact n2
    have jp : ∀ z, (W z).cell? ⟨gf, j, none⟩ = some (.int .i64 (p0 : Int)) := fun y => by obtain ⟨m, e⟩ := hT y; rw [e]; exact p0c
    clear hT hI
    refine wp_region_class W (by kernel_rfl) (by kernel_rfl) H0.out ?_
    repeat (go_big_quiet_step (fail))
    refine wpQuiet_nil ?_
    intro z
    have HD := hid (HTT.out z)
    have HB := hid ((HTT.out z).below w4.heap.size)
    have j3z := j3 z
    have j2z := j2 z
    have jpz := jp z
    generalize W z = wr0 at HD HB j3z j2z jpz ⊢
    clear H0 HTT j3 j2 jp
    clear n2 p0c b3
    have HX0 := hid (HX.out.below HB.out)
    have HB0 := hid (HBq.out.trans (HB.out.mono HBq.out.size))
    by_cases hpp : x.pos < p0
    rotate_left
    · have d1 : decide (x.pos < p0) = false := decide_eq_false hpp
      have HF : Hid (∃ (τ' : Rl) (B' : BS), Low F vf (.typ r) B B' [j] ∧ BdM l.n w0.heap.size τ' wr0 L F.decls.length B' ∧ Fr XL τ w τ' wr0 ∧ B'.size + phi F rk B'.dt R + 1 ≤ B.size + phi F rk B.dt R + 2 * (k + 1) ∧ ∀ j, R ≤ rk j → B'.dt j = B.dt j) := hid (by
        obtain ⟨l1, l2, l3, l4, l5, l6⟩ := HL.out
        exact ⟨τ1, B1, l1, ⟨V1, ms, mu, _, _, HX0.out, Hfl.out, l5, l6⟩, l2.trans (Fr.below HB.out), l3, l4⟩)
      clear HX HX0 HL HPn HBq HB0 HB HD
      go_wp2
      go_ret
      exact ⟨j, rfl, HF⟩
    have d1 : decide (x.pos < p0) = true := decide_eq_true hpp
    have hz2 := (HX0.out.low (p := x.pos) Hvf.out Hp0.out).2.2
    have HF : Hid (∀ wy : World, Below wr0.heap.size wr0 wy → ∃ (τ' : Rl) (B' : BS), Low F vf (.typ r) B B' [j] ∧ BdM l.n w0.heap.size τ' (wy.setCell ⟨gf, j, none⟩ (.int .i64 (x.pos : Int))) L F.decls.length B' ∧ Fr XL τ w τ' (wy.setCell ⟨gf, j, none⟩ (.int .i64 (x.pos : Int))) ∧ B'.size + phi F rk B'.dt R + 1 ≤ B.size + phi F rk B.dt R + 2 * (k + 1) ∧ ∀ j, R ≤ rk j → B'.dt j = B.dt j) := hid (fun wy hy => by
      obtain ⟨l1, l2, l3, l4, l5, l6⟩ := HL.out
      obtain ⟨hX2, hf2, _⟩ := (HX0.out.below hy).low (p := x.pos) Hvf.out Hp0.out
      refine ⟨τ1, B1, l1, ⟨V1, ms, mu, _, _, hX2, by rw [List.length_set]; exact Hfl.out, fun p hp => ?_, l6⟩, ((l2.trans (Fr.below HB.out)).trans (Fr.below hy)).trans hf2, l3, l4⟩
      rcases List.mem_or_eq_of_mem_set hp with h | h
      · exact l5 p h
      · rw [h]; exact Hxp.out)
    clear HL HB0 HPn
    have b3w := j3z
    have n2w := j2z
    have pw := jpz
    clear HD HB
    go_upto_region 32 with fail
    obtain ⟨X0, W, hT, hI⟩ := class_mk (fun w' => Drew wr0 w')
    have H0 : Hid (∃ y, wr0.drew = W y) := hid (hI _ ⟨1, rfl⟩)
    have hne : Nonempty X0 := ⟨H0.out.choose⟩
    have HTT := hid hT
    have i3 : ∀ z, (W z).cell? ⟨L.b, 3, none⟩ = some (.slice (some ⟨gf, 0, none⟩) mf qf) := fun y => by obtain ⟨m, e⟩ := hT y; rw [e]; exact b3w
    have i2 : ∀ z, (W z).cell? ⟨gt, r * 8 + 2, none⟩ = some (.int .i64 (x.pos : Int)) := fun y => by obtain ⟨m, e⟩ := hT y; rw [e]; exact n2w
    have ip : ∀ z, (W z).cell? ⟨gf, j, none⟩ = some (.int .i64 (p0 : Int)) := fun y => by obtain ⟨m, e⟩ := hT y; rw [e]; exact pw
    have iz : ∀ z, (W z).frozen? ⟨gf, j, none⟩ = false := fun y => by obtain ⟨m, e⟩ := hT y; rw [e]; exact hz2
    clear hT hI
    refine wp_region_class_tailT W 9 (by kernel_rfl) (by kernel_rfl) (by kernel_rfl) H0.out ?_
    dsimp only [List.take, List.drop]
    repeat (go_big_quiet_step (fail))
    refine wpQuiet_nil ?_
    intro z
    have HD := hid (HTT.out z)
    have HB := hid ((HTT.out z).below wr0.heap.size)
    have i3z := i3 z
    have i2z := i2 z
    have ipz := ip z
    have izz := iz z
    generalize W z = wr1 at HD HB i3z i2z ipz izz ⊢
    clear H0 HTT i3 i2 ip iz
    have HF2 : Hid (∃ (τ' : Rl) (B' : BS), Low F vf (.typ r) B B' [j] ∧ BdM l.n w0.heap.size τ' (wr1.setCell ⟨gf, j, none⟩ (.int .i64 (x.pos : Int))) L F.decls.length B' ∧ Fr XL τ w τ' (wr1.setCell ⟨gf, j, none⟩ (.int .i64 (x.pos : Int))) ∧ B'.size + phi F rk B'.dt R + 1 ≤ B.size + phi F rk B.dt R + 2 * (k + 1) ∧ ∀ j, R ≤ rk j → B'.dt j = B.dt j) := hid (by
      exact HF.out wr1 HB.out)
    clear HF HX HX0 HBq HB HD b3w n2w pw hz2
    go_wp2
    go_ret
    exact ⟨j, rfl, HF2⟩
  | none =>
    have HJ := hid (internShapeN HX3.out.tb ⟨4, (i1 : Int), vv⟩ hsh (by omega))
    have Hsh := hid hsh
    clear hsh
    obtain ⟨j, hj⟩ : ∃ j, B3.T.types.length = j := ⟨_, rfl⟩
    have Hj := hid hj
    rw [hj] at HJ
    clear hj
    go_wp2_with fail
    refine HJ.out.mono ?_
    rintro e4 w4 ⟨rfl, h4⟩
    obtain ⟨τ4, v4, h4a, h4b⟩ := h4.out
    have HX4 : Hid (BdX τ4 w4 L F.decls.length (B3.shp ⟨4, (i1 : Int), vv⟩) { V3 with t := v4 } ms mu vF fps) := hid (HX3.out.tab h4b rfl rfl rfl (by
      unfold BS.shp
      rw [Hsh.out]
      dsimp only
      rw [Hj.out]
      exact h4a) (BS.shp_dt _ _) rfl)
    have Hf4 : Hid (Fr XL τ3 w3 τ4 w4) := hid (h4b.mono (fun c hc => by unfold X51 at hc; unfold XL; simp at hc; simp; omega))
    have HB4 : Hid (Below w0.heap.size w0 w4) := hid (Below.frL Hf4.out HL3.out.2.2.2.2.2.2.1 HB3.out)
    clear HJ h4 h4a h4b
    go_wp2_with fail
    refine ⟨HS.out w4 HX4.out.cells.1 HX4.out.cells.2.1 HB4.out, ?_⟩
    apply Exists.intro
    refine ⟨?_, ?_⟩
    · intro W hW
      clear hW
      (try simp only [List.take, opsAt, List.drop, List.cons_append, List.nil_append])
      repeat (go_big_quiet_step (fail))
      exact rfl
    (try simp only [wpHv, opsAt, List.take, List.drop, List.cons_append, List.nil_append])
    (try simp only [QN])
    have HMid : Hid (MidL l.n F vf rk L w0.heap.size R (2 * (k + 1)) (.typ r) τ w B j true w4) := hid (by
      obtain ⟨l1, l2, l3, l4, l5, l6, l7, l8⟩ := HL3.out
      have hln : (B3.shp ⟨4, (i1 : Int), vv⟩).T.types.length = B3.T.types.length + 1 := by unfold BS.shp; rw [Hsh.out]; simp
      have hsz := (B3.shp_len ⟨4, (i1 : Int), vv⟩).2
      refine ⟨τ4, B3.shp ⟨4, (i1 : Int), vv⟩, ?_, ⟨_, ms, mu, vF, fps, HX4.out, l6, fun g hg => ?_, fun _ => by omega, fun h => (by cases h)⟩, ((Fr.below HBd.out).trans l2).trans Hf4.out, by rw [BS.shp_dt]; omega, by rw [BS.shp_dt]; exact l4, by omega⟩
      · have := Low.ser (F := F) (vf := vf) Hx.out.1 (by rw [Hx.out.2.1]; decide) Hx.out.2.2.1 Hx.out.2.2.2 l1
        rw [Hx.out.2.1, Hvv.out] at this
        have e2 : B3.shpI ⟨4, (i1 : Int), vv⟩ = j := by unfold BS.shpI; rw [Hsh.out]; exact Hj.out
        rw [e2] at this
        exact this
      · by_cases hlt : g < w3.heap.size
        · rw [Hf4.out.old g hlt] at hg; exact l7 g hg
        · have := HB3.out.size; omega)
    have HBq := HB4
    clear HX3 HX4 HL3 HB3 HB4 Hf4 HS HM HBw HBz HMz HBd HCk HW Hsz Hsh Hvv Hj
    have HPn : Hid (∀ wz, Below w0.heap.size w0 wz → wz.cell? ⟨gt, r * 8 + 2, none⟩ = some (.int .i64 (x.pos : Int))) := hid (fun wz hz => Hnd.out wz hz 2 (by decide))
    obtain ⟨τ1, B1, hlow, ⟨V1, ms, mu, vF, fps, hX, hpn, hg0, hn1, hn2⟩, hfr, hsz1, hdt1, hlen1⟩ := HMid.out
    have hfl := hn1 rfl
    obtain ⟨af, qf, hvf⟩ := hX.fp.shape
    obtain ⟨mf, hmf⟩ : ∃ m, fps.length = m := ⟨_, rfl⟩
    rw [hmf] at hvf
    have Hvf := hid hvf
    have Hmf := hid hmf
    have HX := hid hX
    have HL := hid (And.intro hlow (And.intro hfr (And.intro hsz1 (And.intro hdt1 (And.intro hpn hg0)))))
    have Hfl := hid hfl
    have hmb : mf ≤ 1000000000 := by omega
    clear hvf hmf hX hlow hfr hsz1 hdt1 hpn hg0 hfl hn1 hn2 hlen1 HMid
    go_upto_region 30 with fail
    have HBd : Hid (Below w4.heap.size w4 w4.drew) := hid (Drew.below ⟨1, rfl⟩ _)
    refine wp_region_heavy (fun wz => wz.cell? ⟨L.b, 3, none⟩ = some (.slice af mf qf) ∧ wz.cell? ⟨gt, r * 8 + 2, none⟩ = some (.int .i64 (x.pos : Int))) 11 [0, 1, 2, 3, 4, 5, 6, 7, 8] [9, 10] rfl (by kernel_rfl) (by kernel_rfl) (fun d _ _ _ _ h => by cases d <;> exact h) ⟨by rw [← Hvf.out]; exact (HX.out.below HBd.out).cells.2.2.2, HPn.out _ (HBq.out.trans (HBd.out.mono HBq.out.size))⟩ ?_
    apply Exists.intro
    refine ⟨?_, ?_⟩
    · intro W hW
      have q3 : ∀ z, (W z).cell? ⟨L.b, 3, none⟩ = some (.slice af mf qf) := fun z => (hW z).1
      have q2 : ∀ z, (W z).cell? ⟨gt, r * 8 + 2, none⟩ = some (.int .i64 (x.pos : Int)) := fun z => (hW z).2
      clear hW
      simp only [List.take, opsAt, List.drop, List.cons_append, List.nil_append]
      repeat (go_big_quiet_step (fail))
      exact rfl
    simp only [List.take, List.drop, opsAt, List.cons_append, List.nil_append, wpHv]
    generalize w4.drew = wd at HBd ⊢
    go_wp2_with fail
    obtain ⟨k8, hk8⟩ : ∃ k, wd.heap.size = k := ⟨_, rfl⟩
    obtain ⟨wf, hwf⟩ : ∃ wf, wd.alloc (.cells #[.int .i64 (x.pos : Int)] 3) = wf := ⟨_, rfl⟩
    have HBf : Hid (Below w4.heap.size w4 wf) := hid (by rw [← hwf]; exact HBd.out.trans ((nbel wd _).mono HBd.out.size))
    have HNw : Hid (∀ ad, some (⟨k8, 0, none⟩ : Addr) = some ad → ∀ j u, ([x.pos].flatMap rtI.f)[j]? = some u → wf.cell? (ad.add j) = some u) := hid (by rw [← hwf]; exact newX rtI wd x.pos _ hk8.symm)
    (try simp only [hwf, hk8])
    have HXf := hid (HX.out.below HBf.out)
    refine ⟨⟨by rw [← Hvf.out]; exact HXf.out.cells.2.2.2, HPn.out _ (HBq.out.trans (HBf.out.mono HBq.out.size))⟩, ?_⟩
    clear hwf hk8
    have hrf := HXf.out.fp
    rw [Hvf.out] at hrf
    refine wpList_app_x okI rfl (.tmp 202) (.tmp 207) hrf rfl [x.pos] (by simp [Act.eval, Act.put]; done) (some ⟨k8, 0, none⟩) 1 1 (by simp [Act.eval, Act.put]; done) rfl (fun h => by cases h) HNw.out (by have := Hmf.out; show (fps.length + 1) * 8 ≤ _; omega) ?_
    intro v8 w8 τ8 hr8 hf8 _ _
    obtain ⟨a8, q8, h8⟩ := hr8.out.shape
    rw [List.length_append, List.length_singleton, Hmf.out] at h8
    subst h8
    have HP8 := hid (HXf.out.app hr8.out hf8.out)
    have hk8 : Blk w8 L.b 181 (bdC L F.decls.length vF) := hf8.out.keep HXf.out.bb HXf.out.rb rfl
    have s3 : w8.cell? ⟨L.b, 3, none⟩ = some (.slice af mf qf) := by rw [← Hvf.out]; exact hk8.cell 3
    have f3 : w8.frozen? ⟨L.b, 3, none⟩ = false := hk8.frozen _
    have HF : Hid (∃ (τ' : Rl) (B' : BS), Low F vf (.typ r) B B' [j] ∧ BdM l.n w0.heap.size τ' (w8.setCell ⟨L.b, 3, none⟩ (.slice a8 (mf + 1) q8)) L F.decls.length B' ∧ Fr XL τ w τ' (w8.setCell ⟨L.b, 3, none⟩ (.slice a8 (mf + 1) q8)) ∧ B'.size + phi F rk B'.dt R + 1 ≤ B.size + phi F rk B.dt R + 2 * (k + 1) ∧ ∀ j, R ≤ rk j → B'.dt j = B.dt j) := hid (by
      obtain ⟨l1, l2, l3, l4, l5, l6⟩ := HL.out
      refine ⟨τ8, B1, l1, ⟨V1, ms, mu, _, _, HP8.out.1, by rw [List.length_append, List.length_singleton]; exact Hfl.out, fun p hp => ?_, fun g hg => ?_⟩, l2.trans ((Fr.below HBf.out).trans HP8.out.2), l3, l4⟩
      · rcases List.mem_append.1 hp with h | h
        · exact l5 p h
        · simp at h; subst h; exact Hxp.out
      · have hf := ((Fr.below (X := XL) HBf.out).trans HP8.out.2)
        by_cases hlt : g < w4.heap.size
        · rw [hf.old g hlt] at hg; exact l6 g hg
        · have := HBq.out.size; omega)
    have s2 : w8.cell? ⟨gt, r * 8 + 2, none⟩ = some (.int .i64 (x.pos : Int)) := HPn.out _ (Below.frL ((Fr.below HBf.out).trans (hf8.out.one rfl)) HL.out.2.2.2.2.2 HBq.out)
    clear hrf hr8 hf8 HXf HNw HBf HBd HP8 hk8 HX HL HPn HBq
    go_wp2_with fail
    refine ⟨⟨s3, s2⟩, ?_⟩
    simp only [QN]
    go_wp2
    go_ret
    exact ⟨j, rfl, HF⟩

end
end Go.Proofs.Qxb6500883aGreatDoor
