/- Immutable: the law. -/
import Derived.Test.Qxb6500884aClImP
import Derived.Test.Qxb6500884aClTot
namespace Go.Proofs.Qxb6500884a
open Go.RowKit
set_option linter.unusedSimpArgs false
set_option linter.unusedVariables false

/-- The keys of the map: those that stood, and those of the first y pushed. -/
def KeyOf (L2 L : List (Nat × Value)) (ps : List (Nat × List (Int × Int))) (y : Nat) : Prop := L2.map (·.1) = L.map (·.1) ++ (ps.take y).map (·.1)
set_option maxRecDepth 100000 in
set_option maxHeartbeats 4000000 in
theorem immLaw_walk (a : Option Addr) (n c : Nat) (l : List COp) (w : World) (hs : Script w a n c l) :
    Calls Try.prog 8 #[.slice a n c] w fun e w' => e = .returned (.bool true) ∧ Below w.heap.size w w' := by
  have HS := hid hs
  have hl := hs.1.1
  clear hs
  go_enter Try.func8, Try.ntmps8
  go_wp2_with fail
  refine (small_walk a n c l _ HS.out).mono ?_
  rintro e w' ⟨r, rfl, rfl, hr⟩
  cases r with
  | false =>
    go_wp2
    go_ret
    exact ⟨rfl, Below.refl _ _⟩
  | true =>
  obtain ⟨hsm, hob⟩ := hr rfl
  have HOb := hid hob
  clear hr hob
  obtain ⟨mb, hmb⟩ : ∃ mb, w'.heap.size = mb := ⟨_, rfl⟩
  obtain ⟨mm, hmm⟩ : ∃ mm, mb + 1 = mm := ⟨_, rfl⟩
  have HM0 := hid (Im.start w' hmb hmm)
  have hmm' : mb + 1 = mm := hmm
  have hmk := @run_makeMap Try.prog
  go_upto_region 6 with fail
  generalize (w'.alloc (.cells #[.slice none 0 0] 46)).alloc (.map #[] 0) = w1 at HM0 ⊢
  have Hmb := hid hmb
  clear hmb hmm hmm'
  go_loopw [26] (fun i wr => ∃ (k : Nat) (ma : Option Addr) (S : List (Nat × List (Int × Int))) (L : List (Nat × Value)), k ≤ n ∧ i = .int .i64 k ∧ Hid (Im w' mb ma S mm L wr)) (fun i _ => n - (intOf i).toNat)
  case atStart => exact ⟨0, none, [], [], Nat.zero_le _, rfl, HM0⟩
  case round =>
    clear HM0
    obtain ⟨k, ma, S, L, hk, rfl, HM⟩ := hrel
    by_cases hlt : k < n
    · as_aux_lemma =>
      obtain ⟨o, ho, hok, b, off, rfl, hb, c0, c1, c2, c3, c4⟩ := (HS.out.below HM.out.mw.bel).at hlt
      have hob := HOb.out o (List.mem_of_getElem? ho)
      obtain ⟨kind, oa, ob, ia, inn, ic, iv, ra, rn, rc, rg⟩ := o
      dsimp only at c0 c1 c2 c3 c4 hob
      have HOk := hid (HS.out.2 _ (List.mem_of_getElem? ho))
      have dk : decide ((k : Int) < (n : Int)) = true := decide_eq_true (by omega)
      have i1 : (k : Int) < (n : Int) := by omega
      obtain ⟨pO, hpO⟩ : ∃ pO, wr.heap.size = pO := ⟨_, rfl⟩
      have HM2 : Hid (Im w' mb ma S mm L (wr.alloc (.cells #[Value.int .i64 kind, .int .i64 oa, .int .i64 ob, .slice ia inn ic, .slice ra rn rc] 28)) ∧ Blk (wr.alloc (.cells #[Value.int .i64 kind, .int .i64 oa, .int .i64 ob, .slice ia inn ic, .slice ra rn rc] 28)) pO 28 [Value.int .i64 kind, .int .i64 oa, .int .i64 ob, .slice ia inn ic, .slice ra rn rc]) := hid ⟨HM.out.below (nbel wr _), by
        have := Blk.new wr [Value.int .i64 kind, .int .i64 oa, .int .i64 ob, .slice ia inn ic, .slice ra rn rc] 28
        rw [hpO] at this
        exact this⟩
      clear ho hok
      go_upto_region 8 with fail
      generalize wr.alloc (.cells #[Value.int .i64 kind, .int .i64 oa, .int .i64 ob, .slice ia inn ic, .slice ra rn rc] 28) = w2 at HM2 ⊢
      clear c0 c1 c2 c3 c4 HM dk
      have HpO := hid hpO
      clear hpO
      have o3 : w2.cell? ⟨pO, 3, none⟩ = some (.slice ia inn ic) := HM2.out.2.cell 3
      obtain ⟨i0, hi, hz0, hz1, hz2⟩ := info_ivz
      have HI := hid (And.intro hi (And.intro hz0 (And.intro hz1 hz2)))
      clear hi hz0 hz1 hz2
      have HIv : Hid (IvRow w2 ia inn ic iv) := hid (HOk.out.below HM2.out.1.mw.bel).iv
      have hl := HIv.out.len
      have HO : Hid (w2.ownsRow w2.heap.size 67 2 (.slice none 0 0) 0 []) := hid (World.ownsRow_nil _ _ _ _)
      have hlen : (iv.flatMap ivC).length = inn * 2 := by rw [length_flatMap_const (f := ivC) (sz := 2) iv (fun x _ => rfl), hl]
      have hin := hob.1
      have hbb : (0 + inn) * 16 ≤ 140737488355328 := by omega
      have HCe := hid (HIv.out.1.cells (by omega) (fun _ => rfl))
      have HNil := hid (fun (h : ia = none) => HIv.out.1.nil h)
      go_upto_region 9 with (at_builtin; refine wpList_append_row _ rfl (.const (.slice none 0 0)) (.tmp 31) 25 rfl w2.heap.size 67 i0 (.agg #[.int .i64 0, .int .i64 0]) 2 16 Try.underlying25 HI.out.1 HI.out.2.1 HI.out.2.2.1 HI.out.2.2.2 rfl (by decide) _ _ _ rfl HO.out ia inn ic (iv.flatMap ivC) rfl hlen HNil.out HCe.out (iv_one iv) hbb (by decide) (Nat.le_refl _) ?_; intro v8 w8 hown8 hb8 hk8 hg8; have HOw8 := hid hown8; have HB8 := hid hb8; clear hown8 hb8 hk8 hg8)
      have HM3 : Hid (Im w' mb ma S mm L w8 ∧ Blk w8 pO 28 [Value.int .i64 kind, .int .i64 oa, .int .i64 ob, .slice ia inn ic, .slice ra rn rc] ∧ OwnIv w8 w2.heap.size v8 iv) := hid ⟨HM2.out.1.below HB8.out, HM2.out.2.below HB8.out, by
        have ho := HOw8.out
        rw [Nat.zero_add, List.nil_append, ← hl] at ho
        exact ho⟩
      clear HOw8 HB8 HCe HNil HO HIv hlen hbb hl o3
      obtain ⟨va, vn, vc, hv8, hvr, hvt, _⟩ := HM3.out.2.2.row (by have h := HOk.out.iv.len; have h2 := hob.1; dsimp only at h; omega) HOk.out.iv.2
      subst hv8
      have HV := hid (And.intro hvr hvt)
      clear hvr hvt
      have o4 : w8.cell? ⟨pO, 4, none⟩ = some (.slice ra rn rc) := HM3.out.2.1.cell 4
      obtain ⟨j0, hi, hz0, hz1, hz2⟩ := info_int
      have HJ := hid (And.intro hi (And.intro hz0 (And.intro hz1 hz2)))
      clear hi hz0 hz1 hz2
      have HIn : Hid (InRow w8 ra rn rc rg) := hid (HOk.out.below HM3.out.1.mw.bel).rg
      have hl := HIn.out.len
      have HO : Hid (w8.ownsRow w8.heap.size 3 1 (.slice none 0 0) 0 []) := hid (World.ownsRow_nil _ _ _ _)
      have hlen : (rg.flatMap inC).length = rn * 1 := by rw [length_flatMap_const (f := inC) (sz := 1) rg (fun x _ => rfl), hl]
      have hrn := hob.2
      have hbb : (0 + rn) * 8 ≤ 140737488355328 := by omega
      have HCe := hid (HIn.out.1.cells (by omega) (fun _ => rfl))
      have HNil := hid (fun (h : ra = none) => HIn.out.1.nil h)
      go_upto_region 10 with (at_builtin; refine wpList_append_row _ rfl (.const (.slice none 0 0)) (.tmp 34) 26 rfl w8.heap.size 3 j0 (.int .i64 0) 1 8 Try.underlying26 HJ.out.1 HJ.out.2.1 HJ.out.2.2.1 HJ.out.2.2.2 rfl (by decide) _ _ _ rfl HO.out ra rn rc (rg.flatMap inC) rfl hlen HNil.out HCe.out (in_one rg) hbb (by decide) (Nat.le_refl _) ?_; intro v9 w9 hown9 hb9 hk9 hg9; have HOw9 := hid hown9; have HB9 := hid hb9; clear hown9 hb9 hk9 hg9)
      have HCo : Hid (∃ a n c, v9 = .slice a n c ∧ InOwn w9 a n c rg) := hid (by
        have ho := HOw9.out
        rw [Nat.zero_add, List.nil_append, ← hl] at ho
        exact InOwn.mk' ho (by omega) HOk.out.rg.2)
      obtain ⟨ga, gn, gc, hv9, hgo⟩ := HCo.out
      subst hv9
      have HX : Hid (Im w' mb ma S mm L w9 ∧ Blk w9 pO 28 [Value.int .i64 kind, .int .i64 oa, .int .i64 ob, .slice ia inn ic, .slice ra rn rc] ∧ IvRow w9 va vn vc iv ∧ Ty67 w9 va vn ∧ InOwn w9 ga gn gc rg) := hid ⟨HM3.out.1.below HB9.out, HM3.out.2.1.below HB9.out, HV.out.1.below HB9.out, HV.out.2.below HB9.out, hgo⟩
      clear HOw9 HB9 HCe HNil HO HIn hlen hbb hl o4 HCo hgo HM2 HM3 HV
      have o0 : w9.cell? ⟨pO, 0, none⟩ = some (.int .i64 kind) := HX.out.2.1.cell 0
      have o1 : w9.cell? ⟨pO, 1, none⟩ = some (.int .i64 oa) := HX.out.2.1.cell 1
      have o2 : w9.cell? ⟨pO, 2, none⟩ = some (.int .i64 ob) := HX.out.2.1.cell 2
      have o3 : w9.cell? ⟨pO, 3, none⟩ = some (.slice ia inn ic) := HX.out.2.1.cell 3
      have o4 : w9.cell? ⟨pO, 4, none⟩ = some (.slice ra rn rc) := HX.out.2.1.cell 4
      have HSt := hid (step_walk mb ma S ⟨kind, oa, ob, ia, inn, ic, iv, ra, rn, rc, rg⟩ w9 HX.out.1.mw.mach (HOk.out.below HX.out.1.mw.bel) hob.1 hob.2)
      go_wp2_with fail
      refine HSt.out.mono ?_
      rintro e w3 hp
      obtain ⟨res, pa, pn, pc, ps, a', rfl, hms⟩ := HX.out.1.mw.step hp
      obtain ⟨rp, rok, rv, hres⟩ := hms.st.isRes
      subst hres
      have hpn : pn ≤ 196608 := by have h1 := hms.len; have h2 := hms.fl.len; rw [List.length_map] at h2; omega
      have hkt : KeepT w9 w3 := UpdM.keep HX.out.1.mw.mach hms.upd
      have HPm : Hid (PMp w3 mm L) := hid (HX.out.1.pm.of (hms.upd.block mm HX.out.1.pm.lt (fun e => by
        obtain ⟨c, m1, _⟩ := HX.out.1.mw.mach.out
        exact HX.out.1.pm.ne m1 e) (fun e => by
        obtain ⟨c, _, m2⟩ := HX.out.1.mw.mach.out
        obtain ⟨cs, hc⟩ := m2.ty mm e
        exact HX.out.1.pm.ne hc rfl)))
      have HKs : Hid (∀ p ∈ L, p.1 < w9.heap.size) := hid (fun p hp => by
        obtain ⟨ds, h⟩ := HX.out.1.ent.isReg p hp
        exact h.lt)
      have HFr := hid (And.intro hms.fr hms.pw)
      have HSz := hid hms.upd.size
      have HHi : Hid (∀ p ∈ ps.foldl push12 S, p.1 ∈ L.map (·.1) ∨ p ∈ ps) := hid (fun p hp => by
        rcases fold_sub ps S hp with h | h
        · exact .inl (HX.out.1.hit p h)
        · exact .inr h)
      have HU : Hid (LP w' mb a' (ps.foldl push12 S) pa pn pc ps w3 ∧ Blk w3 pO 28 [Value.int .i64 kind, .int .i64 oa, .int .i64 ob, .slice ia inn ic, .slice ra rn rc] ∧ IvRow w3 va vn vc iv ∧ Ty67 w3 va vn ∧ InOwn w3 ga gn gc rg ∧ PMp w3 mm L ∧ Ent w3 L ∧ w'.heap.size ≤ mm) := hid ⟨hms.lp HX.out.1.mw.bel, HX.out.1.mw.mach.blkT hms.upd HX.out.2.1 (by decide) (by decide), HX.out.2.2.1.keep HX.out.2.2.2.1 hkt, HX.out.2.2.2.1.keep hkt, HX.out.2.2.2.2.of (fun g cs hg => HX.out.1.mw.mach.blkT hms.upd hg (by decide) (by decide)), HPm.out, HX.out.1.ent.keep hkt, HX.out.1.low⟩
      clear hp hms HSt HX o0 o1 o2 o3 o4 hkt HPm
      generalize ps.foldl push12 S = S' at HU HHi
      have HY : Hid (LP w' mb a' S' pa pn pc ps (w3.alloc (.cells #[.int .i64 rp, .bool rok, .int .i64 rv] 51)) ∧ Blk (w3.alloc (.cells #[.int .i64 rp, .bool rok, .int .i64 rv] 51)) pO 28 [Value.int .i64 kind, .int .i64 oa, .int .i64 ob, .slice ia inn ic, .slice ra rn rc] ∧ IvRow (w3.alloc (.cells #[.int .i64 rp, .bool rok, .int .i64 rv] 51)) va vn vc iv ∧ InOwn (w3.alloc (.cells #[.int .i64 rp, .bool rok, .int .i64 rv] 51)) ga gn gc rg ∧ PMp (w3.alloc (.cells #[.int .i64 rp, .bool rok, .int .i64 rv] 51)) mm L ∧ Ent (w3.alloc (.cells #[.int .i64 rp, .bool rok, .int .i64 rv] 51)) L ∧ w'.heap.size ≤ mm) := hid ⟨HU.out.1.below (nbel w3 _), HU.out.2.1.below (nbel w3 _), HU.out.2.2.1.below (nbel w3 _), HU.out.2.2.2.2.1.below (nbel w3 _), HU.out.2.2.2.2.2.1.below (nbel w3 _), HU.out.2.2.2.2.2.2.1.keep (KeepT.below (nbel w3 _)), HU.out.2.2.2.2.2.2.2⟩
      unfold resC
      go_upto_region 11 with fail
      generalize w3.alloc (.cells #[.int .i64 rp, .bool rok, .int .i64 rv] 51) = w4 at HY ⊢
      clear HU
      have o3 : w4.cell? ⟨pO, 3, none⟩ = some (.slice ia inn ic) := HY.out.2.1.cell 3
      have HSa := hid (sameIvs_walk va vn vc ia inn ic iv w4 HY.out.2.2.1 (HOk.out.below HY.out.1.mw.bel).iv)
      go_wp2_with fail
      refine HSa.out.mono ?_
      rintro e w5 ⟨rfl, hb5⟩
      have HZ : Hid (LP w' mb a' S' pa pn pc ps w5 ∧ Blk w5 pO 28 [Value.int .i64 kind, .int .i64 oa, .int .i64 ob, .slice ia inn ic, .slice ra rn rc] ∧ InOwn w5 ga gn gc rg ∧ PMp w5 mm L ∧ Ent w5 L ∧ w'.heap.size ≤ mm) := hid ⟨HY.out.1.below hb5, HY.out.2.1.below hb5, HY.out.2.2.2.1.below hb5, HY.out.2.2.2.2.1.below hb5, HY.out.2.2.2.2.2.1.keep (KeepT.below hb5), HY.out.2.2.2.2.2.2⟩
      clear hb5 HSa HY o3
      have hgl := HZ.out.2.2.1.row.len
      have hrl := HOk.out.rg.len
      dsimp only at hrl
      have hgn : gn = rn := by omega
      subst hgn
      clear hgl hrl
      go_upto_region 14 with fail
      go_loopw [49] (fun i wr2 => ∃ (y : Nat), y ≤ gn ∧ i = .int .i64 y ∧ Hid (Below w5.heap.size w5 wr2)) (fun i _ => gn - (intOf i).toNat)
      case atStart => exact ⟨0, by omega, rfl, hid (Below.refl _ _)⟩
      case round =>
        obtain ⟨y, hy, rfl, HB⟩ := hrel
        by_cases hlty : y < gn
        · as_aux_lemma =>
          have dy : decide ((y : Int) < (gn : Int)) = true := decide_eq_true (by omega)
          have jy : (y : Int) < (gn : Int) := by omega
          have jy2 : (y : Int) < (gn : Int) := by omega
          obtain ⟨x, hx, fx, b1, off1, rfl, hb1, e1⟩ := InRow.get (HZ.out.2.2.1.row.below HB.out) hlty
          obtain ⟨x2, hx2, fx2, b2, off2, rfl, hb2, e2⟩ := InRow.get ((HOk.out.below HZ.out.1.mw.bel).rg.below HB.out) (k := y) (by dsimp only; omega)
          dsimp only at hx2
          rw [hx] at hx2
          cases hx2
          have t1 : ∀ nn, (wr.drewN nn).cell? ⟨b1, off1 + y, none⟩ = some (.int .i64 x) := fun nn => e1
          have t2 : ∀ nn, (wr.drewN nn).cell? ⟨b2, off2 + y, none⟩ = some (.int .i64 x) := fun nn => e2
          have o4 : ∀ nn, (wr.drewN nn).cell? ⟨pO, 4, none⟩ = some (.slice (some ⟨b2, off2, none⟩) gn rc) := fun nn => (HZ.out.2.1.below HB.out).cell 4
          have dx : (x != x) = false := by simp
          clear hx e1 e2
          go_upto_region 16 with fail
          go_quiet (fail)
          have HB3 := hid (HB.out.trans ((Drew.below ⟨nq, rfl⟩ _ : Below wr.heap.size wr (wr.drewN nq)).mono HB.out.size))
          generalize wr.drewN nq = w6 at HB3 ⊢
          clear t1 t2 o4
          go_wp2
          exact ⟨⟨y + 1, by omega, by go_num, HB3⟩, by simp [intOf]; omega⟩
        as_aux_lemma =>
        have dy : decide ((y : Int) < (gn : Int)) = false := decide_eq_false (by omega)
        have HQ : Hid (QB w' mb a' S' pa pn pc ps mm L wr) := hid ⟨HZ.out.1.below HB.out, HZ.out.2.2.2.1.below HB.out, HZ.out.2.2.2.2.1.keep (KeepT.below HB.out), HZ.out.2.2.2.2.2⟩
        clear HZ
        go_upto_region 20 with fail
        go_loopw [65] (fun i wr2 => ∃ (y2 : Nat), y2 ≤ pn ∧ i = .int .i64 y2 ∧ Hid (∃ L2, QB w' mb a' S' pa pn pc ps mm L2 wr2 ∧ KeyOf L2 L ps y2)) (fun i _ => pn - (intOf i).toNat)
        case atStart => exact ⟨0, by omega, rfl, hid ⟨L, HQ.out, by unfold KeyOf; simp⟩⟩
        case round =>
          clear HQ
          obtain ⟨y2, hy2, rfl, HQL⟩ := hrel
          obtain ⟨L2, hql, hqk⟩ := HQL.out
          have HQ := hid hql
          unfold KeyOf at hqk
          have HK2 := hid hqk
          clear hql hqk HQL
          by_cases hlt2 : y2 < pn
          · as_aux_lemma =>
            have d2 : decide ((y2 : Int) < (pn : Int)) = true := decide_eq_true (by omega)
            have j2 : (y2 : Int) < (pn : Int) := by omega
            obtain ⟨p, gp, offp, hp, hr, hw, hpa, ce⟩ := HQ.out.lp.at hlt2
            subst hpa
            obtain ⟨xa, xn, xc, tb, h1, h2, h3, h4⟩ := hr.out
            have hshort := hr.nrm.short
            have hxl := h2.len
            have cx : wr.cell? ⟨p.1, 0, none⟩ = some (.slice xa xn xc) := h1.cell 0
            have HBr := hid h1
            have HR := hid hr
            have HXr := hid (And.intro h2 h3)
            have HFn : Hid (findK p.1 L2 = none) := hid (findK_none (by
              rw [HK2.out, List.mem_append]
              rintro (h5 | h5)
              · obtain ⟨q, hq, hq2⟩ := List.mem_map.1 h5
                have h6 := HKs.out q hq
                have h7 := HFr.out.1 p (List.mem_of_getElem? hp)
                omega
              · obtain ⟨q, hq, hq2⟩ := List.mem_map.1 h5
                obtain ⟨z, hz⟩ := List.mem_iff_getElem?.1 hq
                have hzl : z < y2 := by
                  have := (List.getElem?_eq_some_iff.1 hz).1
                  rw [List.length_take] at this
                  omega
                rw [List.getElem?_take_of_lt hzl] at hz
                have hzz := (List.getElem?_eq_some_iff.1 hz).1
                have hpp := (List.getElem?_eq_some_iff.1 hp).1
                have h8 := List.pairwise_iff_getElem.1 HFr.out.2 z y2 hzz hpp hzl
                rw [(List.getElem?_eq_some_iff.1 hz).2, (List.getElem?_eq_some_iff.1 hp).2] at h8
                omega))
            have HTk : Hid ((ps.take (y2 + 1)).map (·.1) = (ps.take y2).map (·.1) ++ [p.1]) := hid (by rw [List.take_add_one, hp]; simp)
            have Hw := hid hw
            clear hp hr hw h1 h2 h3 h4
            have HI1 := hid (intervals_own xa xn xc p.2 wr HXr.out.1 (by omega))
            go_upto_region 22 with fail
            clear ce
            go_wp2_with fail
            refine HI1.out.mono ?_
            rintro e wI ⟨v75, rfl, hbI, hoI⟩
            obtain ⟨ya, yn, yc, hv, hyr, hyt, _⟩ := hoI.row (by omega) HXr.out.1.2
            subst hv
            have HQ1 := hid (HQ.out.below hbI)
            have HR1 := hid (HR.out.below hbI)
            have HBr1 := hid (HBr.out.below hbI)
            have HYr := hid hyr
            have hyl := hyr.len
            have HFt := hid HXr.out.1.2
            have HX1 := hid (And.intro (HXr.out.1.below hbI) (HXr.out.2.below hbI))
            clear hbI hoI hyr hyt HI1 HQ HR HBr HXr
            obtain ⟨i0, hi, hz0, hz1, hz2⟩ := info_ivz
            have HI := hid (And.intro hi (And.intro hz0 (And.intro hz1 hz2)))
            clear hi hz0 hz1 hz2
            have HO : Hid (wI.ownsRow wI.heap.size 67 2 (.slice none 0 0) 0 []) := hid (World.ownsRow_nil _ _ _ _)
            have hlen : (p.2.flatMap ivC).length = yn * 2 := by rw [length_flatMap_const (f := ivC) (sz := 2) p.2 (fun x _ => rfl), hyl]
            have hbb : (0 + yn) * 16 ≤ 140737488355328 := by omega
            have HCe := hid (HYr.out.1.cells (by omega) (fun _ => rfl))
            have HNil := hid (fun (h : ya = none) => HYr.out.1.nil h)
            have HPut : Hid (∀ (v : Value) (w7 : World), w7.ownsRow wI.heap.size 67 2 v (0 + yn) ([] ++ p.2.flatMap ivC) → Below wI.heap.size wI w7 → ∃ za zn zc w8, v = .slice za zn zc ∧ (Instr.mapUpdate 64 (.map (some mm)) (.pointer (some ⟨p.1, 0, none⟩)) (.slice za zn zc)).run Try.prog w7 = .ok () w8 ∧ QB w' mb a' S' (some ⟨gp, offp, none⟩) pn pc ps mm (L2 ++ [(p.1, .slice za zn zc)]) w8 ∧ RegOk w8 p.1 p.2 ∧ w8.cell? ⟨p.1, 0, none⟩ = some (.slice xa xn xc) ∧ IvRow w8 xa xn xc p.2) := hid (fun v w7 hown hb => by
              rw [Nat.zero_add, List.nil_append, ← hyl] at hown
              obtain ⟨za, zn, zc, hv, h1, h2, _⟩ := OwnIv.row hown (by omega) HFt.out
              obtain ⟨w8, h3, h4, h5⟩ := (HQ1.out.below hb).put (HR1.out.below hb) za zn zc h1 h2 HFn.out
              exact ⟨za, zn, zc, w8, hv, h3, h4, (HR1.out.below hb).keep h5.keepT, ((HBr1.out.below hb).keepC h5).cell 0, (HX1.out.1.below hb).keep (HX1.out.2.below hb) h5.keepT⟩)
            go_upto_region 23 with (at_builtin; refine wpList_append_row _ rfl (.const (.slice none 0 0)) (.tmp 75) 25 rfl wI.heap.size 67 i0 (.agg #[.int .i64 0, .int .i64 0]) 2 16 Try.underlying25 HI.out.1 HI.out.2.1 HI.out.2.2.1 HI.out.2.2.2 rfl (by decide) _ _ _ rfl HO.out ya yn yc (p.2.flatMap ivC) rfl hlen HNil.out HCe.out (iv_one p.2) hbb (by decide) (Nat.le_refl _) ?_; intro v76 w7 hown7 hb7 hk7 hg7; obtain ⟨za, zn, zc, w8, hv76, hup, hq8, hr8, hc8, hx8⟩ := HPut.out v76 w7 hown7 hb7; subst hv76; have HQ8 := hid hq8; have HX8 := hid hx8; clear hown7 hb7 hk7 hg7 hq8 hr8 hx8)
            clear hup HPut HO hlen hbb HCe HNil HYr HX1 HQ1 HR1 HBr1 HI
            have HI2 := hid (intervals_own xa xn xc p.2 w8 HX8.out (by omega))
            go_wp2_with fail
            refine HI2.out.mono ?_
            rintro e wK ⟨v81, rfl, hbK, hoK⟩
            obtain ⟨sa, sn, sc, hv, hsr, _, hsb⟩ := hoK.row (by omega) HFt.out
            subst hv
            have hsl := hsr.len
            have hsx : sn ≤ 98304 := by omega
            obtain ⟨g, hg⟩ : ∃ g, w8.heap.size ≤ g ∧ (0 < sn → sa = some ⟨g, 0, none⟩ ∧ ∃ cs, Blk wK g 67 cs ∧ sn * 2 ≤ cs.length) := by
              by_cases h0 : 0 < sn
              · obtain ⟨g, cs, h1, h2, h3⟩ := hsb h0
                refine ⟨g, h2, fun _ => ⟨h1, cs, h3, ?_⟩⟩
                obtain ⟨q, hq, _, _, bq, oq, hb1, hb2, e1, e2⟩ := hsr.get (k := sn - 1) (by omega)
                rw [h1] at hb1
                cases hb1
                rw [h3.cell] at e2
                have := (List.getElem?_eq_some_iff.1 e2).1
                omega
              · exact ⟨w8.heap.size, Nat.le_refl _, fun h => absurd h h0⟩
            have HG := hid hg
            have HbK : Hid (Below w8.heap.size w8 wK) := hid hbK
            clear hbK hoK hsr hsb hg HI2 HX8
            have I1 : Hid ((Try.prog.info? 67).map (·.size) = some 2) := hid info_iv1
            go_upto_region 25 with fail
            go_loopw [84] (fun i wr2 => ∃ (z : Nat), z ≤ sn ∧ i = .int .i64 z ∧ Hid (Below w8.heap.size w8 wr2 ∧ (0 < sn → ∃ cs, Blk wr2 g 67 cs ∧ sn * 2 ≤ cs.length))) (fun i _ => sn - (intOf i).toNat)
            case atStart => exact ⟨0, Nat.zero_le _, rfl, hid ⟨HbK.out, fun h => (HG.out.2 h).2⟩⟩
            case round =>
              obtain ⟨z, hz, rfl, HE⟩ := hrel
              by_cases hltz : z < sn
              · as_aux_lemma =>
                have dz : decide ((z : Int) < (sn : Int)) = true := decide_eq_true (by omega)
                have jz : (z : Int) < (sn : Int) := by omega
                obtain ⟨hsa, _⟩ := HG.out.2 (by omega)
                subst hsa
                obtain ⟨cs, hcs, hcl⟩ := HE.out.2 (by omega)
                have HCs := hid hcs
                have hfit : z * 2 + 2 ≤ cs.length := by omega
                clear hcs
                go_wp2_with (refine wpList_store_at rfl 67 _ _ rfl g (z * 2) (by simp [Act.eval, Act.put]; done) [.int .i64 (-7), .int .i64 (-7)] rfl HCs.out hfit I1.out (fun v hv => by simp at hv; subst hv; rfl) ?_; intro w9 HB9 HU9)
                have HE9 : Hid (Below w8.heap.size w8 w9 ∧ (0 < sn → ∃ cs, Blk w9 g 67 cs ∧ sn * 2 ≤ cs.length)) := hid ⟨HE.out.1.trans (HU9.out.below HG.out.1 HE.out.1.size), fun _ => ⟨_, HB9.out, by rw [splice_len hfit]; exact hcl⟩⟩
                exact ⟨⟨z + 1, by omega, by go_num, HE9⟩, by simp [intOf]; omega⟩
              as_aux_lemma =>
              have dz : decide ((z : Int) < (sn : Int)) = false := decide_eq_false (by omega)
              have HQe := hid (HQ8.out.below HE.out.1)
              have HKe : Hid (KeyOf (L2 ++ [(p.1, Value.slice za zn zc)]) L ps (y2 + 1)) := hid (by unfold KeyOf; rw [List.map_append, HK2.out, HTk.out, List.append_assoc]; rfl)
              go_wp2
              exact ⟨⟨y2 + 1, by omega, by go_num, hid ⟨_, HQe.out, HKe.out⟩⟩, by simp [intOf]; omega⟩
          as_aux_lemma =>
          have d2 : decide ((y2 : Int) < (pn : Int)) = false := decide_eq_false (by omega)
          have HIm : Hid (Im w' mb a' S' mm L2 wr) := hid ⟨HQ.out.lp.mw, HQ.out.pm, HQ.out.low, HQ.out.ent, fun q hq => by
            rw [HK2.out, List.mem_append]
            rcases HHi.out q hq with h | h
            · exact .inl h
            · right
              rw [List.take_of_length_le]
              · exact List.mem_map_of_mem h
              · have := HQ.out.lp.fl.len
                rw [List.length_map] at this
                omega⟩
          clear HQ HK2
          obtain ⟨N, hN⟩ : ∃ N, S'.length = N := ⟨_, rfl⟩
          have HN := hid hN
          have hN12 : N ≤ 12 := by rw [← hN]; exact HIm.out.mw.mach.len
          obtain ⟨mc, hmc, _⟩ := HIm.out.mw.mach.out
          rw [hN] at hmc
          clear hN
          have cm : wr.cell? ⟨mb, 0, none⟩ = some (.slice a' N mc) := hmc.cell 0
          obtain ⟨wA, rfl⟩ : ∃ wA, wA = wr := ⟨_, rfl⟩
          clear hmc
          go_upto_region 31 with fail
          clear cm d2
          go_loopw [98] (fun i wr2 => ∃ (y3 : Nat), y3 ≤ N ∧ i = .int .i64 y3 ∧ Hid (Below wA.heap.size wA wr2)) (fun i _ => N - (intOf i).toNat)
          case atStart => exact ⟨0, Nat.zero_le _, rfl, hid (Below.refl _ _)⟩
          case round =>
            obtain ⟨y3, hy3, rfl, HB1⟩ := hrel
            by_cases hlt3 : y3 < N
            rotate_left
            · as_aux_lemma =>
              have d3 : decide ((y3 : Int) < (N : Int)) = false := decide_eq_false (by omega)
              have HIe := hid (HIm.out.below HB1.out)
              go_wp2
              exact ⟨⟨k + 1, a', S', L2, by omega, by go_num, HIe⟩, by simp [intOf]; omega⟩
            as_aux_lemma =>
            have d3 : decide ((y3 : Int) < (N : Int)) = true := decide_eq_true (by omega)
            have j3 : (y3 : Int) < (N : Int) := by omega
            have HIr := hid (HIm.out.below HB1.out)
            obtain ⟨p1, g, off, _, xa1, xn1, xc1, hp1, hma, _, ce1, cx1, hr1, hn1, ht1⟩ := HIr.out.mw.cls (k := y3) (by rw [HN.out]; exact hlt3)
            subst hma
            obtain ⟨za, zn, zc, hzr, hlook⟩ := HIr.out.lookB (List.mem_of_getElem? hp1)
            have HL := hid hlook
            have HZr := hid hzr
            have HXr := hid hr1
            have hsh : xn1 ≤ 1000000 := by have h1 := hn1.short; have h2 := hr1.len; omega
            have HC1 : Hid (∀ w2 : World, Below wr.heap.size wr w2 → w2.cell? ⟨p1.1, 0, none⟩ = some (.slice xa1 xn1 xc1)) := hid (fun w2 hb => by rw [hb.cell (block_lt_of_cell cx1)]; exact cx1)
            have HB0 : Hid (Below wr.heap.size wr wr.drew) := hid (Drew.below ⟨1, rfl⟩ _)
            clear hp1 cx1 hr1 hn1 ht1 hlook hzr
            go_upto_region 33 with fail
            clear ce1
            refine wp_region_heavy (fun w3 => Below wr.heap.size wr w3) 9 [0, 1, 2, 3, 4, 5, 6] [7, 8] rfl (by kernel_rfl) (by kernel_rfl) (fun d _ _ _ _ h => by cases d <;> exact h) HB0.out ?_
            apply Exists.intro
            refine ⟨?_, ?_⟩
            · intro W hW
              have e0 : ∀ x, (W x).cell? ⟨p1.1, 0, none⟩ = some (.slice xa1 xn1 xc1) := fun x => HC1.out _ (hW x)
              have el : ∀ x, (Instr.lookup 64 (.map (some mm)) (.pointer (some ⟨p1.1, 0, none⟩)) false).run Try.prog (W x) = .ok (.slice za zn zc) (W x) := fun x => HL.out _ (hW x)
              clear hW
              simp only [List.take, opsAt, List.drop, List.cons_append, List.nil_append]
              repeat (go_big_quiet_step (fail))
              exact rfl
            simp only [List.take, List.drop, opsAt, List.cons_append, List.nil_append, wpHv]
            generalize wr.drew = wd at HB0 ⊢
            go_wp2_with fail
            refine (intervals_walk xa1 xn1 xc1 p1.2 wd (HXr.out.below HB0.out) hsh).mono ?_
            rintro e wI ⟨ya, yn, yc, rfl, hbI, hyr⟩
            have HBI := hid (HB0.out.trans (hbI.mono HB0.out.size))
            have HYr := hid hyr
            clear hbI hyr
            go_wp2_with fail
            refine ⟨HBI.out, ?_⟩
            go_wp2_with fail
            refine (sameIvs_walk za zn zc ya yn yc p1.2 wI (HZr.out.below HBI.out) HYr.out).mono ?_
            rintro e wJ ⟨rfl, hbJ⟩
            have HBJ := hid (HBI.out.trans (hbJ.mono HBI.out.size))
            clear hbJ
            go_wp2_with fail
            refine ⟨HBJ.out, ?_⟩
            simp only [QN]
            have HBe := hid (HB1.out.trans (HBJ.out.mono HB1.out.size))
            go_wp2
            exact ⟨⟨y3 + 1, by omega, by go_num, HBe⟩, by simp [intOf]; omega⟩
    as_aux_lemma =>
    have dk : decide ((k : Int) < (n : Int)) = false := decide_eq_false (by omega)
    go_wp2
    go_ret
    exact ⟨rfl, HM.out.mw.bel⟩
end Go.Proofs.Qxb6500884a
