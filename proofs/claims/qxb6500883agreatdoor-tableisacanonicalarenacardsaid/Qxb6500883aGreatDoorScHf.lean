/- lowerType, unions (written by tools/mk_schf.py). -/
import Derived.Test.Qxb6500883aGreatDoorScHe
namespace Go.Proofs.Qxb6500883aGreatDoor
open Go.RowKit
set_option linter.unusedSimpArgs false
set_option linter.unusedVariables false
/-- A contract for each of a list, with the sum of their costs. -/
inductive TLs (P : Nat → Nat → Prop) : List Nat → Nat → Prop
  | nil : TLs P [] 0
  | cons {r a b : Nat} {rs : List Nat} : P r a → TLs P rs b → TLs P (r :: rs) (a + b)
def idF (ids : List Nat) (j : Nat) : Nat := ids.getD j 0
theorem idF_snoc (ids : List Nat) (id : Nat) : fup (idF ids) ids.length id = idF (ids ++ [id]) := by
  funext j
  unfold idF
  by_cases h : j = ids.length
  · subst h; rw [fup_self]; simp
  · rw [fup_ne _ _ h]
    rcases Nat.lt_or_ge j ids.length with h1 | h1
    · simp [List.getD_eq_getElem?_getD, List.getElem?_append_left h1]
    · simp only [List.getD_eq_getElem?_getD]
      rw [List.getElem?_eq_none (by omega), List.getElem?_eq_none (by simp; omega)]
theorem idF_cells {ids : List Nat} {m : Nat} (h : ids.length = m) : fnC m (fun j => Value.int .i32 (idF ids j : Int)) = idC ids := by
  apply List.ext_getElem?
  intro j
  unfold idC
  rw [List.getElem?_map]
  by_cases hj : j < m
  · rw [fnC_get _ hj]
    unfold idF
    rw [List.getD_eq_getElem?_getD, List.getElem?_eq_getElem (by omega)]
    rfl
  · rw [List.getElem?_eq_none (by rw [fnC_len]; omega), List.getElem?_eq_none (by omega)]
    rfl
/-- Some of a list lowered; a block of one's own holds their types. -/
def LpI (n : Nat) (F : FS) (vf rk : Nat → Nat) (L : BLy) (w0 : World) (R : Nat) (rs : List Nat) (k : Nat) (τ : Rl) (w : World) (B : BS) (i : Nat) (X : List Nat → Rl → World → Prop) (w' : World) : Prop :=
  ∃ (τi : Rl) (Bi : BS) (ids : List Nat) (ki kr : Nat), Low F vf (.typs (rs.take i)) B Bi ids ∧ ids.length = i ∧ BdM n w0.heap.size τi w' L F.decls.length Bi ∧ Fr XL τ w τi w' ∧ Below w0.heap.size w0 w' ∧ X ids τi w' ∧ Bi.size + phi F rk Bi.dt R + i ≤ B.size + phi F rk B.dt R + 2 * ki ∧ (∀ j, R ≤ rk j → Bi.dt j = B.dt j) ∧ TLs (TypC n F vf rk L w0 R) (rs.drop i) kr ∧ ki + kr = k
def idX (go m n1 : Nat) (ids : List Nat) (τ : Rl) (w : World) : Prop := RwK 47 (fun x : Nat => .int .i32 (x : Int)) go m (idF ids) 0 τ w ∧ n1 ≤ go
theorem Fr.updN {X : Nat → Bool} {τ τ' : Rl} {w w1 w2 : World} {q : Nat} (h : Fr X τ w τ' w1) (hu : Upd q w1 w2) (hq : w.heap.size ≤ q) : Fr X τ w τ' w2 := by
  refine ⟨hu.os.trans h.os, hu.tape.trans h.tape, hu.output.trans h.output, Nat.le_trans h.size hu.size, h.old, fun g hg => h.nw g (Nat.le_trans hu.size hg), fun g hg h0 => ?_⟩
  rw [hu.block g (Nat.lt_of_lt_of_le hg h.size) (by omega)]
  exact h.blk g hg h0
theorem Below.updN {w w1 w2 : World} {q n0 : Nat} (h : Below n0 w w1) (hu : Upd q w1 w2) (hq : n0 ≤ q) (hs : n0 ≤ w1.heap.size) : Below n0 w w2 :=
  ⟨hu.os.trans h.os, hu.tape.trans h.tape, hu.output.trans h.output, Nat.le_trans h.size hu.size, fun g hg => (hu.block g (by omega) (by omega)).trans (h.block g hg)⟩
section
variable {N mg : Nat} {ρ : Rl} {w0 w wz : World} {l : PL} {bs : List UInt8} {F : FS} {U : FV} {c : Nat} {V : CV} {gT gV : Nat} {vf rk : Nat → Nat} {L : BLy} {R : Nat} {τ : Rl} {B : BS}
set_option maxRecDepth 100000 in
set_option maxHeartbeats 4000000 in
theorem lowTuni (hC : LCx N mg ρ w0 l bs F U c V gT gV vf rk) (hLc : L.c = c) {r k : Nat} {x : TN} (hx : F.types[r]? = some x) (h : x.form = 7) (hlo : x.lo < x.hi) (hhi : x.hi ≤ F.opts.length) (hxp : x.pos ≤ l.n) (hT : TLs (TypC l.n F vf rk L w0 R) (kids F x) k) : TypC l.n F vf rk L w0 R r (k + 1) := by
  intro τ w B hM hb hO hsz
  have hlt := (List.getElem?_eq_some_iff.1 hx).1
  obtain ⟨gt, qt, hut, hnd⟩ := hC.node hx
  obtain ⟨nt, hnt⟩ : ∃ m, F.types.length = m := ⟨_, rfl⟩
  rw [hnt] at hut hlt
  have c0 := (hC.chk hb).1
  have f2 := (hC.fil hb).2.1
  rw [hut] at f2
  obtain ⟨b0, b1, _⟩ := hM.cells
  rw [hLc] at b0
  have n0 : w.cell? ⟨gt, r * 8, none⟩ = some (.int .u8 (x.form : Int)) := hnd w hb 0 (by decide)
  have n6 : w.cell? ⟨gt, r * 8 + 6, none⟩ = some (.int .i32 (x.lo : Int)) := hnd w hb 6 (by decide)
  have n7 : w.cell? ⟨gt, r * 8 + 7, none⟩ = some (.int .i32 (x.hi : Int)) := hnd w hb 7 (by decide)
  obtain ⟨nO, hnO⟩ : ∃ m, F.opts.length = m := ⟨_, rfl⟩
  have hnO2 : nO ≤ 65536 := by rw [← hnO]; exact hC.sz.o
  obtain ⟨aO, qO, hUO⟩ := hC.m.fr.o.shape
  have hcap := hC.m.fr.o
  rw [hUO] at hcap
  have hcq := hcap.cap
  have f5 := (hC.fil hb).2.2.2
  rw [hUO, hnO] at f5
  rw [hnO] at hUO hcq hhi
  obtain ⟨o0, ho0⟩ : ∃ o, F.opts[x.lo]? = some o := ⟨_, List.getElem?_eq_getElem (by rw [hnO]; omega)⟩
  obtain ⟨gO, egO, hgO, _⟩ := hC.m.opt hUO ho0
  subst egO
  have HOp : Hid (∀ wz, Below w0.heap.size w0 wz → ∀ (i o : Nat), F.opts[i]? = some o → wz.cell? ⟨gO, i, none⟩ = some (.int .i32 (o : Int))) := hid (fun wz hz i o hi => by
    obtain ⟨gO', e, _, hc⟩ := (hC.m.below hz).opt hUO hi
    cases e
    exact hc)
  have hsl := slice_o (a := some ⟨gO, 0, none⟩) (n := nO) (cp := qO) (lo := x.lo) (hi := x.hi) (by omega) hhi hcq.2 hcq.1 (fun h => by cases h)
  have hax : subA (some ⟨gO, 0, none⟩) x.lo (qO == x.lo) = some ⟨gO, x.lo, none⟩ := by
    have hne : (qO == x.lo) = false := by rw [beq_eq_false_iff_ne]; have := hcq.2; omega
    unfold subA
    rw [hne]
    simp [Addr.add]
    intro h0
    exact h0.symm
  rw [hax] at hsl
  obtain ⟨lo, hlo1⟩ : ∃ q, x.lo = q := ⟨_, rfl⟩
  obtain ⟨hi, hhi1⟩ : ∃ q, x.hi = q := ⟨_, rfl⟩
  obtain ⟨m, hm⟩ : ∃ m, hi - lo = m := ⟨_, rfl⟩
  obtain ⟨qx, hqx⟩ : ∃ qx, qO - lo = qx := ⟨_, rfl⟩
  rw [hlo1, hhi1] at hsl
  rw [hm, hqx] at hsl
  rw [hlo1] at n6 hlo
  rw [hhi1] at n7 hhi hlo
  have hm2 : m ≤ 65536 := by omega
  obtain ⟨rs, hrs⟩ : ∃ rs, kids F x = rs := ⟨_, rfl⟩
  have hrs1 : rs = (F.opts.drop lo).take m := by rw [← hrs, ← hm, ← hlo1, ← hhi1]; unfold kids; rw [if_neg (by omega), if_pos h]
  have hrl : rs.length = m := by rw [hrs1, List.length_take, List.length_drop, hnO]; omega
  have Hrg : Hid (∀ i o, rs[i]? = some o → F.opts[lo + i]? = some o) := hid (fun i o hi => by
    rw [hrs1] at hi
    have hi2 := (List.getElem?_eq_some_iff.1 hi).1
    rw [List.length_take] at hi2
    rw [List.getElem?_take, if_pos (by omega), List.getElem?_drop] at hi
    exact hi)
  rw [hrs] at hT
  have Hrs := hid hrs
  have Hrl := hid hrl
  have Hx := hid (And.intro hx h)
  have HW := hid (And.intro hC.wf hO)
  have HM := hid hM
  have HBw := hid hb
  have Hnd := hid hnd
  have Hxp := hid hxp
  have Hsz := hid hsz
  have HTT := hid hT
  have HLc2 := hid (And.intro hLc (by obtain ⟨_, _, _, _, _, _, _, _, h5⟩ := hM; exact h5 : ∀ g, τ g ≠ 0 → w0.heap.size ≤ g))
  rw [h] at n0
  have hmk : ∀ wz : World, (Instr.makeSlice 58 (.int .i64 (m : Int)) (.int .i64 (m : Int))).run Tryz.prog wz = .ok (.slice (some ⟨wz.heap.size, 0, none⟩) m m) (wz.alloc (.cells (madeCells #[.int .i32 0] m) 47)) := fun wz =>
    run_make_lc 58 47 (.int .i32 0) 4 Tryz.underlying58 (by kernel_rfl) rfl .i64 .i64 m m (Nat.le_refl _) (by omega) (by omega) wz
  clear hC hM hb hO hT hnd hut hnt hx h hLc hxp hsz hUO hcap hcq ho0 hax hrs1 hrl hrs hlo1 hhi1 hqx hnO hgO
  go_enter Tryz.func121, Tryz.ntmps121
  go_upto_region 21 with fail
  go_quiet (fail)
  have HD1 : Hid (Below w.heap.size w (w.drewN nq)) := hid (((Drew.refl w).next nq).below _)
  generalize w.drewN nq = w1 at HD1 ⊢
  clear hsl n0 n6 n7 f5 f2 c0 b0 b1
  have hmw := hmk w1
  clear hmk
  obtain ⟨go, hgo⟩ : ∃ p, w1.heap.size = p := ⟨_, rfl⟩
  obtain ⟨wa, hwa⟩ : ∃ wa, w1.alloc (.cells (madeCells #[.int .i32 0] m) 47) = wa := ⟨_, rfl⟩
  rw [hgo, hwa] at hmw
  have HBa : Hid (Below w.heap.size w wa) := hid (by rw [← hwa]; exact HD1.out.trans ((nbel w1 _).mono HD1.out.size))
  have HSt : Hid (LpI l.n F vf rk L w0 R rs k τ w B 0 (idX go m w.heap.size) wa) := hid (by
    refine ⟨τ, B, [], 0, k, ?_, rfl, HM.out.below HBa.out, Fr.below HBa.out, HBw.out.trans (HBa.out.mono HBw.out.size), ⟨?_, by rw [← hgo]; exact HD1.out.size⟩, by omega, fun _ _ => rfl, HTT.out, by omega⟩
    · rw [List.take_zero]; exact .nil
    · have e0 : τ go = 0 := by
        cases e : τ go with
        | zero => rfl
        | succ z =>
          obtain ⟨_, _, _, _, _, hX, _⟩ := HM.out
          have := hX.tb.dom go (by rw [e]; exact Nat.succ_ne_zero z)
          have := HD1.out.size
          omega
      have k0 := RwK.new 47 (fun x : Nat => Value.int .i32 (x : Int)) τ w1 m 0 0
      rw [hgo] at k0
      have k1 : wa = w1.alloc (.cells (madeCells #[.int .i32 ((0 : Nat) : Int)] m) 47) := by rw [← hwa]; rfl
      refine ⟨?_, e0⟩
      rw [k1]
      have k2 : (fun _ : Nat => (0 : Nat)) = idF [] := by funext j; simp [idF]
      rw [← k2]
      exact k0.1)
  clear hwa hgo
  go_upto_region 24 with fail
  clear hmw
  go_loopw [176] (fun t wr => ∃ (i : Nat), t = .int .i64 (i : Int) ∧ i ≤ m ∧ Hid (LpI l.n F vf rk L w0 R rs k τ w B i (idX go m w.heap.size) wr)) (fun t _ => m - (intOf t).toNat)
  case atStart => exact ⟨0, rfl, Nat.zero_le _, HSt⟩
  case round =>
  obtain ⟨i, rfl, hi2, HI⟩ := hrel
  by_cases hin : i < m
  · as_aux_lemma =>
    have d1 : decide ((i : Int) < (m : Int)) = true := decide_eq_true (by omega)
    have i1 : (i : Int) < (m : Int) := by omega
    obtain ⟨o, ho⟩ : ∃ o, rs[i]? = some o := ⟨_, List.getElem?_eq_getElem (by rw [Hrl.out]; exact hin)⟩
    obtain ⟨τi, Bi, ids, ki, kr, l1, l2, l3, l4, l5, l6, l7, l8, l9, l10⟩ := HI.out
    have co : wr.cell? ⟨gO, lo + i, none⟩ = some (.int .i32 (o : Int)) := HOp.out wr l5 _ _ (Hrg.out i o ho)
    have hOi := (l1.ok HW.out.1 HW.out.2).1
    have hdr : rs.drop i = o :: rs.drop (i + 1) := by
      have hlt := (List.getElem?_eq_some_iff.1 ho).1
      rw [List.drop_eq_getElem_cons hlt, (List.getElem?_eq_some_iff.1 ho).2]
    rw [hdr] at l9
    obtain ⟨ka, kb, hka, hkb, hkk⟩ : ∃ ka kb, TypC l.n F vf rk L w0 R o ka ∧ TLs (TypC l.n F vf rk L w0 R) (rs.drop (i + 1)) kb ∧ ka + kb = kr := by
      cases l9 with
      | cons h1 h2 => exact ⟨_, _, h1, h2, rfl⟩
    have HA := hid (hka τi wr Bi l3 l5 hOi (by have := Hsz.out; omega))
    have HL := hid (And.intro l1 (And.intro l2 (And.intro l4 (And.intro l5 (And.intro l6 (And.intro l7 (And.intro l8 (And.intro l10 (And.intro l3 (And.intro hkb (And.intro hkk ho)))))))))))
    clear hdr hkb hkk hka hOi l1 l2 l3 l4 l5 l6 l7 l8 l9 l10 HI
    go_wp2_with fail
    refine HA.out.mono ?_
    rintro e w3 ⟨id, rfl, h3⟩
    clear HA
    obtain ⟨l1, l2, l4, l5, l6, l7, l8, l10, l3, hkb, hkk, ho⟩ := HL.out
    obtain ⟨τ3, B3, k1, k2, k3, k4, k5⟩ := h3.out
    have hx3 := l6.1.fr k3 rfl
    have cz : w3.cell? ⟨go, i, none⟩ = some (.int .i32 (idF ids i : Int)) := hx3.get hin
    have cf : w3.frozen? ⟨go, i, none⟩ = false := hx3.frozen i
    have hup : Upd go w3 (w3.setCell ⟨go, i, none⟩ (.int .i32 (id : Int))) := (Upd.refl go w3).setCell rfl _
    have HE : Hid (LpI l.n F vf rk L w0 R rs k τ w B (i + 1) (idX go m w.heap.size) (w3.setCell ⟨go, i, none⟩ (.int .i32 (id : Int)))) := hid (by
      have hg3 : ∀ g, τi g ≠ 0 → w0.heap.size ≤ g := by obtain ⟨_, _, _, _, _, _, _, _, h5⟩ := l3; exact h5
      have hgo0 := HBw.out.size
      have hb3 := Below.frL k3 hg3 l5
      refine ⟨τ3, B3, ids ++ [id], ki + ka, kb, ?_, by rw [List.length_append, l2]; rfl, k2.upd hup hx3.2, (l4.trans k3).updN hup l6.2, Below.updN hb3 hup (by have := l6.2; omega) hb3.size, ⟨?_, l6.2⟩, by omega, fun j hj => (k5 j hj).trans (l8 j hj), hkb, by omega⟩
      · rw [List.take_add_one, ho]
        exact .snoc l1 k1
      · have := hx3.set hin id
        rw [← idF_snoc, l2]
        exact this)
    clear l1 l2 l3 l4 l5 l6 l7 l8 l10 hkb hkk ho k1 k2 k3 k4 k5 hx3 h3 HL hup
    go_wp2
    exact ⟨⟨i + 1, by go_num, by omega, HE⟩, by simp [intOf]; omega⟩
  have d1 : decide ((i : Int) < (m : Int)) = false := decide_eq_false (by omega)
  obtain ⟨τ3, B3, ids, ki, kr, l1, l2, l3, l4, l5, l6, l7, l8, l9, l10⟩ := HI.out
  have him : i = m := by omega
  rw [him] at l2 l1
  rw [List.take_of_length_le (by rw [Hrl.out]; exact Nat.le_refl _)] at l1
  have hki : ki ≤ k := by omega
  have hO3 := l1.ok HW.out.1 HW.out.2
  have hsz3 : B3.size + m + 2 ≤ 1000000000 := by have := Hsz.out; omega
  have hlen3 : B3.T.types.length + 2 ≤ 1000000000 ∧ B3.T.opts.length + m ≤ 1000000000 := by unfold BS.size at hsz3; omega
  obtain ⟨V3, ms, mu, vF, fps, hX3, hfl3, hfn3, hg3⟩ := l3
  have hblk : Blk wr go 47 (idC ids) := by have := l6.1.1; rw [idF_cells l2] at this; exact this
  have HJ0 := hid (internUnionW hX3.tb hblk l6.1.2 (fun q hq => by have := hO3.2.2.2 q hq; omega) (by omega) (by rw [l2]; omega))
  have HJ : Hid (Calls Tryz.prog 148 #[.pointer (some ⟨L.t, 0, none⟩), .slice (some ⟨go, 0, none⟩) m m] wr fun e w' => Hid (IuP τ3 wr L.t V3 B3.T ⟨ms, mu, B3.sh, B3.un⟩ ids e w')) := hid (by have := HJ0.out; rw [l2] at this; exact this)
  have b1 := hX3.cells.2.1
  have HX3 := hid hX3
  have HL3 := hid (And.intro l1 (And.intro l2 (And.intro l4 (And.intro l5 (And.intro (show B3.size + phi F rk B3.dt R + m ≤ B.size + phi F rk B.dt R + 2 * k by omega) (And.intro l8 (And.intro hfl3 (And.intro hfn3 (And.intro hg3 hO3.1)))))))))
  clear l1 l2 l4 l5 l6 l7 l8 l9 l10 hO3 hX3 hfl3 hfn3 hg3 hblk HJ0 HI him
  go_wp2_with fail
  refine HJ.out.mono ?_
  rintro e4 w4 h4
  clear HJ b1
  rcases h4.out with ⟨j, hun, rfl, hb4⟩ | ⟨hun, rfl, τ4, V4, h4a, h4b, h4c⟩
  · as_aux_lemma =>
    have HMid : Hid (MidL l.n F vf rk L w0.heap.size R (2 * (k + 1)) (.typ r) τ w B j false w4) := hid (by
      obtain ⟨l1, l2, l4, l5, l7, l8, l11, l12, l13, l14⟩ := HL3.out
      have hun : B3.un (ukB ids) = some j := hun
      have e1 : B3.uni ids = B3 := by unfold BS.uni; rw [hun]
      have e2 : B3.uniI ids = j := by unfold BS.uniI; rw [hun]; rfl
      have hl := Low.uni (F := F) (vf := vf) Hx.out.1 Hx.out.2 (by rw [Hrs.out]; exact l1)
      rw [e1, e2] at hl
      exact ⟨τ3, B3, hl, ⟨V3, ms, mu, vF, fps, HX3.out.below hb4, l12, l13, fun h => (by cases h), fun _ => ⟨l11, by rw [l11]; exact l14.u _ _ hun⟩⟩, l4.trans (Fr.below hb4), by omega, l8, by omega⟩)
    have HBq : Hid (Below w0.heap.size w0 w4) := hid (HL3.out.2.2.2.1.trans (hb4.mono HL3.out.2.2.2.1.size))
    clear hun hb4 h4 HX3 HL3 HM HBw HW HSt HBa HD1 HOp HTT HLc2
    have HPn : Hid (∀ wz, Below w0.heap.size w0 wz → wz.cell? ⟨gt, r * 8 + 2, none⟩ = some (.int .i64 (x.pos : Int))) := hid (fun wz hz => Hnd.out wz hz 2 (by decide))
    obtain ⟨τ1, B1, hlow, ⟨V1, ms, mu, vF, fps, hX, hpn, hg0, hn1, hn2⟩, hfr, hsz1, hdt1, hlen1⟩ := HMid.out
    obtain ⟨hfl, hid1⟩ := hn2 rfl
    obtain ⟨p0, hp0⟩ : ∃ p, fps[j]? = some p := ⟨_, List.getElem?_eq_getElem hid1⟩
    obtain ⟨gf, qf, hvf, hgf, hcf⟩ := hX.fp.get (by decide) (fun _ => rfl) hp0
    have p0c := hcf 0 (by decide)
    have e0 : j * rtI.n + 0 = j := by show j * 1 + 0 = j; omega
    rw [e0] at p0c
    have p0c : w4.cell? ⟨gf, j, none⟩ = some (.int .i64 (p0 : Int)) := p0c
    obtain ⟨mf, hmf⟩ : ∃ m, fps.length = m := ⟨_, rfl⟩
    have b3 := hX.cells.2.2.2
    rw [hmf] at hvf hid1
    rw [hvf] at b3
    have Hvf := hid hvf
    have Hmf := hid hmf
    have HX := hid hX
    have Hp0 := hid hp0
    have HL := hid (And.intro hlow (And.intro hfr (And.intro hsz1 (And.intro hdt1 (And.intro hpn hg0)))))
    have Hfl := hid hfl
    have n2 := HPn.out w4 HBq.out
    clear hvf hmf hX hlow hfr hsz1 hdt1 hpn hg0 hfl hn1 hn2 hcf e0 hlen1 HMid hp0
    go_upto_region 31 with fail
    obtain ⟨X0, W, hT, hI⟩ := class_mk (fun w' => Drew w4 w')
    have H0 : Hid (∃ y, w4.drew = W y) := hid (hI _ ⟨1, rfl⟩)
    have hne : Nonempty X0 := ⟨H0.out.choose⟩
    have HTT := hid hT
    have j3 : ∀ z, (W z).cell? ⟨L.b, 3, none⟩ = some (.slice (some ⟨gf, 0, none⟩) mf qf) := fun y => by obtain ⟨m, e⟩ := hT y; rw [e]; exact b3
    have j2 : ∀ z, (W z).cell? ⟨gt, r * 8 + 2, none⟩ = some (.int .i64 (x.pos : Int)) := fun y => by obtain ⟨m, e⟩ := hT y; rw [e]; exact n2
    have jp : ∀ z, (W z).cell? ⟨gf, j, none⟩ = some (.int .i64 (p0 : Int)) := fun y => by obtain ⟨m, e⟩ := hT y; rw [e]; exact p0c
    clear hT hI
    refine wp_region_class W (by kernel_rfl) (by kernel_rfl) H0.out ?_
    repeat (go_big_quiet_step (fail))
    refine wpQuiet_nil ?_
    intro z
    have HD := hid (HTT.out z)
    have HB := hid ((HTT.out z).below w4.heap.size)
    have j3z := j3 z
    have j2z := j2 z
    have jpz := jp z
    generalize W z = wr0 at HD HB j3z j2z jpz ⊢
    clear H0 HTT j3 j2 jp
    clear n2 p0c b3
    have HX0 := hid (HX.out.below HB.out)
    have HB0 := hid (HBq.out.trans (HB.out.mono HBq.out.size))
    by_cases hpp : x.pos < p0
    rotate_left
    · have d1 : decide (x.pos < p0) = false := decide_eq_false hpp
      have HF : Hid (∃ (τ' : Rl) (B' : BS), Low F vf (.typ r) B B' [j] ∧ BdM l.n w0.heap.size τ' wr0 L F.decls.length B' ∧ Fr XL τ w τ' wr0 ∧ B'.size + phi F rk B'.dt R + 1 ≤ B.size + phi F rk B.dt R + 2 * (k + 1) ∧ ∀ j, R ≤ rk j → B'.dt j = B.dt j) := hid (by
        obtain ⟨l1, l2, l3, l4, l5, l6⟩ := HL.out
        exact ⟨τ1, B1, l1, ⟨V1, ms, mu, _, _, HX0.out, Hfl.out, l5, l6⟩, l2.trans (Fr.below HB.out), l3, l4⟩)
      clear HX HX0 HL HPn HBq HB0 HB HD
      go_wp2
      go_ret
      exact ⟨j, rfl, HF⟩
    have d1 : decide (x.pos < p0) = true := decide_eq_true hpp
    have hz2 := (HX0.out.low (p := x.pos) Hvf.out Hp0.out).2.2
    have HF : Hid (∀ wy : World, Below wr0.heap.size wr0 wy → ∃ (τ' : Rl) (B' : BS), Low F vf (.typ r) B B' [j] ∧ BdM l.n w0.heap.size τ' (wy.setCell ⟨gf, j, none⟩ (.int .i64 (x.pos : Int))) L F.decls.length B' ∧ Fr XL τ w τ' (wy.setCell ⟨gf, j, none⟩ (.int .i64 (x.pos : Int))) ∧ B'.size + phi F rk B'.dt R + 1 ≤ B.size + phi F rk B.dt R + 2 * (k + 1) ∧ ∀ j, R ≤ rk j → B'.dt j = B.dt j) := hid (fun wy hy => by
      obtain ⟨l1, l2, l3, l4, l5, l6⟩ := HL.out
      obtain ⟨hX2, hf2, _⟩ := (HX0.out.below hy).low (p := x.pos) Hvf.out Hp0.out
      refine ⟨τ1, B1, l1, ⟨V1, ms, mu, _, _, hX2, by rw [List.length_set]; exact Hfl.out, fun p hp => ?_, l6⟩, ((l2.trans (Fr.below HB.out)).trans (Fr.below hy)).trans hf2, l3, l4⟩
      rcases List.mem_or_eq_of_mem_set hp with h | h
      · exact l5 p h
      · rw [h]; exact Hxp.out)
    clear HL HB0 HPn
    have b3w := j3z
    have n2w := j2z
    have pw := jpz
    clear HD HB
    go_upto_region 32 with fail
    obtain ⟨X0, W, hT, hI⟩ := class_mk (fun w' => Drew wr0 w')
    have H0 : Hid (∃ y, wr0.drew = W y) := hid (hI _ ⟨1, rfl⟩)
    have hne : Nonempty X0 := ⟨H0.out.choose⟩
    have HTT := hid hT
    have i3 : ∀ z, (W z).cell? ⟨L.b, 3, none⟩ = some (.slice (some ⟨gf, 0, none⟩) mf qf) := fun y => by obtain ⟨m, e⟩ := hT y; rw [e]; exact b3w
    have i2 : ∀ z, (W z).cell? ⟨gt, r * 8 + 2, none⟩ = some (.int .i64 (x.pos : Int)) := fun y => by obtain ⟨m, e⟩ := hT y; rw [e]; exact n2w
    have ip : ∀ z, (W z).cell? ⟨gf, j, none⟩ = some (.int .i64 (p0 : Int)) := fun y => by obtain ⟨m, e⟩ := hT y; rw [e]; exact pw
    have iz : ∀ z, (W z).frozen? ⟨gf, j, none⟩ = false := fun y => by obtain ⟨m, e⟩ := hT y; rw [e]; exact hz2
    clear hT hI
    refine wp_region_class_tailT W 9 (by kernel_rfl) (by kernel_rfl) (by kernel_rfl) H0.out ?_
    dsimp only [List.take, List.drop]
    repeat (go_big_quiet_step (fail))
    refine wpQuiet_nil ?_
    intro z
    have HD := hid (HTT.out z)
    have HB := hid ((HTT.out z).below wr0.heap.size)
    have i3z := i3 z
    have i2z := i2 z
    have ipz := ip z
    have izz := iz z
    generalize W z = wr1 at HD HB i3z i2z ipz izz ⊢
    clear H0 HTT i3 i2 ip iz
    have HF2 : Hid (∃ (τ' : Rl) (B' : BS), Low F vf (.typ r) B B' [j] ∧ BdM l.n w0.heap.size τ' (wr1.setCell ⟨gf, j, none⟩ (.int .i64 (x.pos : Int))) L F.decls.length B' ∧ Fr XL τ w τ' (wr1.setCell ⟨gf, j, none⟩ (.int .i64 (x.pos : Int))) ∧ B'.size + phi F rk B'.dt R + 1 ≤ B.size + phi F rk B.dt R + 2 * (k + 1) ∧ ∀ j, R ≤ rk j → B'.dt j = B.dt j) := hid (by
      exact HF.out wr1 HB.out)
    clear HF HX HX0 HBq HB HD b3w n2w pw hz2
    go_wp2
    go_ret
    exact ⟨j, rfl, HF2⟩
  · as_aux_lemma =>
    obtain ⟨j, hj⟩ : ∃ j, B3.T.types.length = j := ⟨_, rfl⟩
    have Hj := hid hj
    have HMid : Hid (MidL l.n F vf rk L w0.heap.size R (2 * (k + 1)) (.typ r) τ w B j true w4) := hid (by
      obtain ⟨l1, l2, l4, l5, l7, l8, l11, l12, l13, l14⟩ := HL3.out
      have hun : B3.un (ukB ids) = none := hun
      have e2 : B3.uniI ids = j := by unfold BS.uniI; rw [hun]; exact hj
      have hl := Low.uni (F := F) (vf := vf) Hx.out.1 Hx.out.2 (by rw [Hrs.out]; exact l1)
      rw [e2] at hl
      have hln : (B3.uni ids).T.types.length = B3.T.types.length + 1 := by unfold BS.uni; rw [hun]; simp
      have hsz := (B3.uni_len ids).2
      have hX4 : BdX τ4 w4 L F.decls.length (B3.uni ids) V4 ms mu vF fps := HX3.out.tab h4b rfl rfl rfl (by
        unfold BS.uni
        rw [hun]
        exact h4a) (BS.uni_dt _ _) h4c
      have hf4 : Fr XL τ3 wr τ4 w4 := h4b.mono (fun c hc => by unfold X53 at hc; unfold XL; simp at hc; simp; omega)
      refine ⟨τ4, B3.uni ids, hl, ⟨V4, ms, mu, vF, fps, hX4, l12, fun g hg => ?_, fun _ => by omega, fun h => (by cases h)⟩, l4.trans hf4, by rw [BS.uni_dt]; omega, by rw [BS.uni_dt]; exact l8, by omega⟩
      by_cases hlt : g < wr.heap.size
      · rw [hf4.old g hlt] at hg; exact l13 g hg
      · have := l5.size; omega)
    have HBq : Hid (Below w0.heap.size w0 w4) := hid (Below.frL (h4b.mono (fun c hc => by unfold X53 at hc; unfold XL; simp at hc; simp; omega) : Fr XL τ3 wr τ4 w4) HL3.out.2.2.2.2.2.2.2.2.1 HL3.out.2.2.2.1)
    rw [hj]
    clear hun h4a h4b h4c h4 HX3 HL3 HM HBw HW HSt HBa HD1 HOp HTT HLc2 hj
    have HPn : Hid (∀ wz, Below w0.heap.size w0 wz → wz.cell? ⟨gt, r * 8 + 2, none⟩ = some (.int .i64 (x.pos : Int))) := hid (fun wz hz => Hnd.out wz hz 2 (by decide))
    obtain ⟨τ1, B1, hlow, ⟨V1, ms, mu, vF, fps, hX, hpn, hg0, hn1, hn2⟩, hfr, hsz1, hdt1, hlen1⟩ := HMid.out
    have hfl := hn1 rfl
    obtain ⟨af, qf, hvf⟩ := hX.fp.shape
    obtain ⟨mf, hmf⟩ : ∃ m, fps.length = m := ⟨_, rfl⟩
    rw [hmf] at hvf
    have Hvf := hid hvf
    have Hmf := hid hmf
    have HX := hid hX
    have HL := hid (And.intro hlow (And.intro hfr (And.intro hsz1 (And.intro hdt1 (And.intro hpn hg0)))))
    have Hfl := hid hfl
    have hmb : mf ≤ 1000000000 := by omega
    clear hvf hmf hX hlow hfr hsz1 hdt1 hpn hg0 hfl hn1 hn2 hlen1 HMid
    go_upto_region 30 with fail
    have HBd : Hid (Below w4.heap.size w4 w4.drew) := hid (Drew.below ⟨1, rfl⟩ _)
    refine wp_region_heavy (fun wz => wz.cell? ⟨L.b, 3, none⟩ = some (.slice af mf qf) ∧ wz.cell? ⟨gt, r * 8 + 2, none⟩ = some (.int .i64 (x.pos : Int))) 11 [0, 1, 2, 3, 4, 5, 6, 7, 8] [9, 10] rfl (by kernel_rfl) (by kernel_rfl) (fun d _ _ _ _ h => by cases d <;> exact h) ⟨by rw [← Hvf.out]; exact (HX.out.below HBd.out).cells.2.2.2, HPn.out _ (HBq.out.trans (HBd.out.mono HBq.out.size))⟩ ?_
    apply Exists.intro
    refine ⟨?_, ?_⟩
    · intro W hW
      have q3 : ∀ z, (W z).cell? ⟨L.b, 3, none⟩ = some (.slice af mf qf) := fun z => (hW z).1
      have q2 : ∀ z, (W z).cell? ⟨gt, r * 8 + 2, none⟩ = some (.int .i64 (x.pos : Int)) := fun z => (hW z).2
      clear hW
      simp only [List.take, opsAt, List.drop, List.cons_append, List.nil_append]
      repeat (go_big_quiet_step (fail))
      exact rfl
    simp only [List.take, List.drop, opsAt, List.cons_append, List.nil_append, wpHv]
    generalize w4.drew = wd at HBd ⊢
    go_wp2_with fail
    obtain ⟨k8, hk8⟩ : ∃ k, wd.heap.size = k := ⟨_, rfl⟩
    obtain ⟨wf, hwf⟩ : ∃ wf, wd.alloc (.cells #[.int .i64 (x.pos : Int)] 3) = wf := ⟨_, rfl⟩
    have HBf : Hid (Below w4.heap.size w4 wf) := hid (by rw [← hwf]; exact HBd.out.trans ((nbel wd _).mono HBd.out.size))
    have HNw : Hid (∀ ad, some (⟨k8, 0, none⟩ : Addr) = some ad → ∀ j u, ([x.pos].flatMap rtI.f)[j]? = some u → wf.cell? (ad.add j) = some u) := hid (by rw [← hwf]; exact newX rtI wd x.pos _ hk8.symm)
    (try simp only [hwf, hk8])
    have HXf := hid (HX.out.below HBf.out)
    refine ⟨⟨by rw [← Hvf.out]; exact HXf.out.cells.2.2.2, HPn.out _ (HBq.out.trans (HBf.out.mono HBq.out.size))⟩, ?_⟩
    clear hwf hk8
    have hrf := HXf.out.fp
    rw [Hvf.out] at hrf
    refine wpList_app_x okI rfl (.tmp 202) (.tmp 207) hrf rfl [x.pos] (by simp [Act.eval, Act.put]; done) (some ⟨k8, 0, none⟩) 1 1 (by simp [Act.eval, Act.put]; done) rfl (fun h => by cases h) HNw.out (by have := Hmf.out; show (fps.length + 1) * 8 ≤ _; omega) ?_
    intro v8 w8 τ8 hr8 hf8 _ _
    obtain ⟨a8, q8, h8⟩ := hr8.out.shape
    rw [List.length_append, List.length_singleton, Hmf.out] at h8
    subst h8
    have HP8 := hid (HXf.out.app hr8.out hf8.out)
    have hk8 : Blk w8 L.b 181 (bdC L F.decls.length vF) := hf8.out.keep HXf.out.bb HXf.out.rb rfl
    have s3 : w8.cell? ⟨L.b, 3, none⟩ = some (.slice af mf qf) := by rw [← Hvf.out]; exact hk8.cell 3
    have f3 : w8.frozen? ⟨L.b, 3, none⟩ = false := hk8.frozen _
    have HF : Hid (∃ (τ' : Rl) (B' : BS), Low F vf (.typ r) B B' [j] ∧ BdM l.n w0.heap.size τ' (w8.setCell ⟨L.b, 3, none⟩ (.slice a8 (mf + 1) q8)) L F.decls.length B' ∧ Fr XL τ w τ' (w8.setCell ⟨L.b, 3, none⟩ (.slice a8 (mf + 1) q8)) ∧ B'.size + phi F rk B'.dt R + 1 ≤ B.size + phi F rk B.dt R + 2 * (k + 1) ∧ ∀ j, R ≤ rk j → B'.dt j = B.dt j) := hid (by
      obtain ⟨l1, l2, l3, l4, l5, l6⟩ := HL.out
      refine ⟨τ8, B1, l1, ⟨V1, ms, mu, _, _, HP8.out.1, by rw [List.length_append, List.length_singleton]; exact Hfl.out, fun p hp => ?_, fun g hg => ?_⟩, l2.trans ((Fr.below HBf.out).trans HP8.out.2), l3, l4⟩
      · rcases List.mem_append.1 hp with h | h
        · exact l5 p h
        · simp at h; subst h; exact Hxp.out
      · have hf := ((Fr.below (X := XL) HBf.out).trans HP8.out.2)
        by_cases hlt : g < w4.heap.size
        · rw [hf.old g hlt] at hg; exact l6 g hg
        · have := HBq.out.size; omega)
    have s2 : w8.cell? ⟨gt, r * 8 + 2, none⟩ = some (.int .i64 (x.pos : Int)) := HPn.out _ (Below.frL ((Fr.below HBf.out).trans (hf8.out.one rfl)) HL.out.2.2.2.2.2 HBq.out)
    clear hrf hr8 hf8 HXf HNw HBf HBd HP8 hk8 HX HL HPn HBq
    go_wp2_with fail
    refine ⟨⟨s3, s2⟩, ?_⟩
    simp only [QN]
    go_wp2
    go_ret
    exact ⟨j, rfl, HF⟩
end
end Go.Proofs.Qxb6500883aGreatDoor
