/- Replace. -/
import Derived.Test.Qxb6500892aDoorTqOp4
namespace Go.Proofs.Qxb6500892aDoor
open Go.RowKit
set_option linter.unusedSimpArgs false
set_option linter.unusedVariables false

/-- pageOut, seen at the slots. -/
structure PgV (i : Nat) (s s1 : ES) : Prop where
  cf : Cf s s1
  whr : ∀ j, j < s.slots → s1.whr j = upd s.whr i 0 j
  key : ∀ j, j < s.slots → s1.key j = upd s.key i 0 j
  neg : s1.neg = upd s.neg i false
  pin : s1.pin = s.pin
theorem PgS.v {i : Nat} {s s' : ES} {L L' : Nat → List Nat} (h : PgS i s L s' L') : PgV i s s' := by
  obtain ⟨s1, L1, hL, hR⟩ := h
  rcases hR with ⟨_, _, r⟩ | ⟨_, rfl, rfl⟩
  · refine ⟨hL.cf.trans r.cf, fun j hj => ?_, fun j hj => ?_, by rw [r.neg, hL.neg], by rw [r.pin, hL.pin]⟩
    · rw [r.whr j (by rw [hL.cf.slots]; exact hj), hL.whr]
    · rw [r.key j (by rw [hL.cf.slots]; exact hj), hL.key]
  · exact ⟨hL.cf, fun j _ => by rw [hL.whr], fun j _ => by rw [hL.key], hL.neg, hL.pin⟩
/-- What Replace does. -/
inductive RepS (x : Int) (k : Nat) (B : Bool) (s : ES) (L : Nat → List Nat) : Nat → ES → (Nat → List Nat) → Prop
  | busy (c : Nat) (h : idleC s x = c) (h0 : c ≠ 0) : RepS x k B s L c s L
  | dup (i : Nat) (hx : x = (i : Int)) (h : idleC s x = 0) (j : Nat) (hj : j < s.slots) (hji : j ≠ i) (hw : s.whr j = 1 ∨ s.whr j = 2) (hk : s.key j = k) : RepS x k B s L 2 s L
  | ok (i : Nat) (hx : x = (i : Int)) (h : idleC s x = 0) (q : Nat) (hq : (q = 2 ∧ B = false ∧ ∃ g, g < s.n ∧ s.whr g = 3 ∧ s.key g = k) ∨ (q = 1 ∧ (B = true ∨ ∀ g, g < s.n → s.whr g = 3 → s.key g ≠ k))) (hnd : ∀ j, j < s.slots → j ≠ i → (s.whr j = 1 ∨ s.whr j = 2) → s.key j ≠ k)
      (s1 : ES) (L1 : Nat → List Nat) (h1 : PgS i s L s1 L1) (s2 : ES) (L2 : Nat → List Nat) (h2 : ((∀ j, Hs s1 j → s1.key j ≠ k) ∧ s2 = s1 ∧ L2 = L1) ∨ ∃ g, s1.key g = k ∧ DropS g s1 L1 s2 L2) (s' : ES) (L' : Nat → List Nat) (he : EntS i k B q s2 L2 s' L') : RepS x k B s L 0 s' L'
section
variable {e gn gb : Nat} {w0 : World} {s : ES} {L C : Nat → List Nat} {w : World}
set_option maxRecDepth 100000 in
set_option maxHeartbeats 2000000 in
theorem replace_ee (h : EE e gn gb w0 s L C w) (x : Int) (k : Nat) (B : Bool) :
    Calls Tryd.prog 32 #[.pointer (some ⟨e, 0, none⟩), .int .i64 x, .int .u64 (k : Int), .bool B] w fun y w' => ∃ c s' L' C', y = Rtn c ∧ EE e gn gb w0 s' L' C' w' ∧ RepS x k B s L c s' L' := by
  have HE := hid h
  have HI := hid (idle_walk h.em h.ei.sn x)
  obtain ⟨c, hc⟩ : ∃ c, idleC s x = c := ⟨_, rfl⟩
  rw [hc] at HI
  have Hc := hid hc
  clear h hc
  go_enter Tryd.func32, Tryd.ntmps32
  go_wp2_with fail
  refine HI.out.mono ?_
  rintro y w1 ⟨⟨p, rfl⟩, rfl⟩
  by_cases h0 : c = 0
  rotate_left
  · as_aux_lemma =>
    have dc : ((c : Int) != 0) = true := bne_iff_ne.2 (by omega)
    have HG : Hid (∃ s' L' C', EE e gn gb w0 s' L' C' w1 ∧ RepS x k B s L c s' L') := hid ⟨s, L, C, HE.out, .busy c Hc.out h0⟩
    go_wp2
    go_ret
    obtain ⟨s', L', C', h1, h2⟩ := HG.out
    exact ⟨c, s', L', C', rfl, h1, h2⟩
  subst h0
  obtain ⟨i, rfl, hi, hw, hp⟩ := idleC_0 HE.out.ei Hc.out
  have Hw := hid hw
  have Hp := hid hp
  have hib : i < 65536 := by have := HE.out.ei.s1; omega
  clear hw hp HI
  have HF := hid (find_ee HE.out k)
  have dc : (((0 : Nat) : Int) != 0) = false := by decide
  go_wp2_with fail
  refine HF.out.mono ?_
  rintro y w2 ⟨⟨v, rfl, hv⟩, hE, _⟩
  have HE2 := hid hE
  have Hei := hid hE.ei
  clear hE HF HE dc
  obtain ⟨V, hV⟩ : ∃ V : Int, V = v := ⟨_, rfl⟩
  have HV := hid hv
  by_cases hdup : ∃ j : Nat, v = (j : Int) ∧ j < s.slots ∧ j ≠ i
  · as_aux_lemma =>
    obtain ⟨j, rfl, hj, hji⟩ := hdup
    have hjb : j < 65536 := by have := Hei.out.s1; omega
    have hw64 : wrap64 (j : Int) = (j : Int) := by unfold wrap64; omega
    have HIg := hid (isGhost_walk HE2.out.em j (by omega))
    rw [decide_eq_false (show ¬ s.slots ≤ j by omega)] at HIg
    have dv : ((j : Int) != -1) = true := bne_iff_ne.2 (by omega)
    have dv2 : ((j : Int) != (i : Int)) = true := bne_iff_ne.2 (by omega)
    have HG : Hid (∃ s' L' C', EE e gn gb w0 s' L' C' w2 ∧ RepS (i : Int) k B s L 2 s' L') := hid (by
      obtain ⟨hw3, hk3⟩ : (s.whr j = 1 ∨ s.whr j = 2) ∧ s.key j = k := by
        generalize hvj : (j : Int) = vj at hv
        cases hv with
        | none _ => omega
        | live j' hj' hw' hk' => have : j = j' := by omega
                                 subst this; exact ⟨hw', hk'⟩
        | ghost g hs hg hw' hk' => omega
      exact ⟨s, L, C, HE2.out, .dup i rfl Hc.out j hj hji hw3 hk3⟩)
    clear hv HV hV
    go_wp2_with fail
    refine HIg.out.mono ?_
    rintro y w3 ⟨rfl, rfl⟩
    go_wp2
    go_ret
    obtain ⟨s', L', C', h1, h2⟩ := HG.out
    exact ⟨2, s', L', C', rfl, h1, h2⟩
  have HNd : Hid (∀ j, j < s.slots → j ≠ i → (s.whr j = 1 ∨ s.whr j = 2) → s.key j ≠ k) := hid (fun j hj hji hwj hkj => by
    have hHj : Hs s j := ⟨by rw [Hei.out.nn]; omega, by omega⟩
    have hv2 := HV.out
    cases hv2 with
    | none hn => exact hn j hHj hkj
    | live j' hj' hw' hk' =>
      have : j = j' := Hei.out.uq j j' hHj ⟨by rw [Hei.out.nn]; omega, by omega⟩ (hkj.trans hk'.symm)
      subst this
      exact hdup ⟨j, rfl, hj, hji⟩
    | ghost g hs hg hw' hk' =>
      have : j = g := Hei.out.uq j g hHj ⟨hg, .inr (.inr hw')⟩ (hkj.trans hk'.symm)
      omega)
  have HPg := hid (pageOut_ee HE2.out hi Hw.out Hp.out)
  obtain ⟨tq, hto⟩ : ∃ tq : Nat, (if (s.slots : Int) ≤ v ∧ B = false then 2 else 1) = tq := ⟨_, rfl⟩
  have HTo : Hid ((tq = 2 ∧ B = false ∧ ∃ g, g < s.n ∧ s.whr g = 3 ∧ s.key g = k) ∨ (tq = 1 ∧ (B = true ∨ ∀ g, g < s.n → s.whr g = 3 → s.key g ≠ k))) := hid (by
    by_cases hgB : (s.slots : Int) ≤ v ∧ B = false
    · rw [if_pos hgB] at hto
      obtain ⟨hg2, hB⟩ := hgB
      refine .inl ⟨hto.symm, hB, ?_⟩
      cases hv with
      | none _ => omega
      | live j' hj' hw' hk' => omega
      | ghost g' hs hg hw' hk' => exact ⟨g', hg, hw', hk'⟩
    · rw [if_neg hgB] at hto
      refine .inr ⟨hto.symm, ?_⟩
      cases B with
      | true => exact .inl rfl
      | false =>
        refine .inr (fun g hg hwg hkg => ?_)
        have hgs : s.slots ≤ g := by
          rcases Nat.lt_or_ge g s.slots with h1 | h1
          · have := Hei.out.slot g h1; omega
          · exact h1
        cases hv with
        | none hn => exact hn g ⟨hg, .inr (.inr hwg)⟩ hkg
        | live j' hj' hw' hk' =>
          have : g = j' := Hei.out.uq g j' ⟨hg, .inr (.inr hwg)⟩ ⟨by rw [Hei.out.nn]; omega, by omega⟩ (hkg.trans hk'.symm)
          omega
        | ghost g' hs hg' hw' hk' => exact hgB ⟨by omega, rfl⟩)
  have Hto := hid hto
  have HnD := hid hdup
  obtain ⟨B33, hB33⟩ : ∃ B33, decide ((s.slots : Int) ≤ v) = B33 := ⟨_, rfl⟩
  have HB33 := hid hB33
  clear hto hdup hB33 hV
  go_upto_region 6 with fail
  go_cut [33] from 26 to 33 (fun v33 wc => v33 = .bool B33 ∧ wc = w2)
  case first =>
    as_aux_lemma =>
    cases hv with
    | none hn =>
      have hb : B33 = false := by rw [← HB33.out]; exact decide_eq_false (by omega)
      subst hb
      clear hn
      go_wp2
      go_meet
      case rel => exact ⟨rfl, rfl⟩
    | live j hj hw hk =>
      have hji : j = i := by
        by_cases e1 : j = i
        · exact e1
        · exact absurd ⟨j, rfl, hj, e1⟩ HnD.out
      subst hji
      have hb : B33 = false := by rw [← HB33.out]; exact decide_eq_false (by omega)
      subst hb
      have hw64 : wrap64 (j : Int) = (j : Int) := by unfold wrap64; omega
      have dv : ((j : Int) != -1) = true := bne_iff_ne.2 (by omega)
      have dv2 : ((j : Int) != (j : Int)) = false := by simp
      clear hw hk
      go_wp2
      go_meet
      case rel => exact ⟨rfl, rfl⟩
    | ghost g hs hg hw hk =>
      have hb : B33 = true := by rw [← HB33.out]; exact decide_eq_true (by omega)
      subst hb
      have hgb : g < 1000000 := by have := Hei.out.q.nb; omega
      have hw64 : wrap64 (g : Int) = (g : Int) := by unfold wrap64; omega
      have dv : ((g : Int) != -1) = true := bne_iff_ne.2 (by omega)
      have dv2 : ((g : Int) != (i : Int)) = true := bne_iff_ne.2 (by omega)
      clear hw hk
      go_wp2
      go_meet
      case rel => exact ⟨rfl, rfl⟩
  case rest =>
  as_aux_lemma =>
  obtain ⟨rfl, hwc⟩ := hcut
  have hwc' := hwc.symm
  clear hwc
  subst hwc'
  go_upto_if 33 with fail
  go_cut [11] from 34 to 39 (fun v11 wc => v11 = .int .u8 (tq : Int) ∧ wc = w2)
  case first =>
    as_aux_lemma =>
    cases B33 with
    | false =>
      have ht : tq = 1 := by
        rw [← Hto.out, if_neg (fun h => by have := of_decide_eq_false HB33.out; exact this h.1)]
      subst ht
      clear hv
      go_wp2
      go_meet
      case rel => exact ⟨rfl, rfl⟩
    | true =>
      have hsv := of_decide_eq_true HB33.out
      obtain ⟨g, hgv⟩ : ∃ g : Nat, v = (g : Int) := ⟨v.toNat, by omega⟩
      subst hgv
      have hs : s.slots ≤ g := by omega
      have hgb : g < 1000000 := by
        have hv2 := HV.out
        generalize hvg : (g : Int) = vg at hv2
        have hnb := Hei.out.q.nb
        cases hv2 with
        | none _ => omega
        | live j hj hw hk => omega
        | ghost g' hs hg hw hk => omega
      have HIg := hid (isGhost_walk HE2.out.em g hgb)
      rw [decide_eq_true hs] at HIg
      clear hv
      go_wp2_with fail
      refine HIg.out.mono ?_
      rintro y w3 ⟨rfl, rfl⟩
      cases B with
      | true =>
        have ht : tq = 1 := by rw [← Hto.out, if_neg (fun h => by cases h.2)]
        subst ht
        go_wp2
        go_meet
        case rel => exact ⟨rfl, rfl⟩
      | false =>
        have ht : tq = 2 := by rw [← Hto.out, if_pos ⟨hsv, rfl⟩]
        subst ht
        go_wp2
        go_meet
        case rel => exact ⟨rfl, rfl⟩
  case rest =>
  as_aux_lemma =>
  obtain ⟨rfl, hwc⟩ := hcut
  have hwc' := hwc.symm
  clear hwc
  subst hwc'
  clear hv
  go_wp2_with fail
  refine HPg.out.mono ?_
  rintro y w3 ⟨rfl, s3, L3, C3, h3, hS3⟩
  have HE3 := hid h3
  have HS3 := hid hS3
  have HPv := hid hS3.v
  have HF3 := hid (find_ee h3 k)
  clear h3 hS3 HPg
  have hi3 : i < s3.slots := by rw [HPv.out.cf.slots]; exact hi
  have hw3 : s3.whr i = 0 := by rw [HPv.out.whr i hi, upd_same]
  have Hw3 := hid hw3
  clear hw3
  have htq : tq = 1 ∨ tq = 2 := by rcases HTo.out with h1 | h1 <;> omega
  have hBt : B = true → tq = 1 := fun hB => by
    rcases HTo.out with h1 | h1
    · rw [hB] at h1; cases h1.2.1
    · exact h1.1
  have Htq := hid (And.intro htq hBt)
  clear htq hBt
  go_wp2_with fail
  refine HF3.out.mono ?_
  rintro y w4 ⟨⟨v4, rfl, hv4⟩, h4, _⟩
  have HE4 := hid h4
  clear h4 HF3
  cases hv4 with
  | none hn =>
    as_aux_lemma =>
    have HEn := hid (enter_ee HE4.out (i := i) (k := k) (q := tq) (B := B) hi3 Hw3.out Htq.out.1 Htq.out.2 hn)
    have Hn := hid hn
    clear hn
    have dv : ((-1 : Int) != -1) = false := by decide
    go_wp2_with fail
    refine HEn.out.mono ?_
    rintro y w5 ⟨rfl, s5, L5, C5, h5, hS5⟩
    have HG : Hid (∃ s' L' C', EE e gn gb w0 s' L' C' w5 ∧ RepS (i : Int) k B s L 0 s' L') := hid ⟨s5, L5, C5, h5, .ok i rfl Hc.out tq HTo.out HNd.out s3 L3 HS3.out s3 L3 (.inl ⟨Hn.out, rfl, rfl⟩) s5 L5 hS5⟩
    clear h5 hS5 HEn
    go_wp2
    go_ret
    obtain ⟨s', L', C', h1, h2⟩ := HG.out
    exact ⟨0, s', L', C', rfl, h1, h2⟩
  | live j hj hw hk =>
    exfalso
    have hj2 : j < s.slots := by rw [HPv.out.cf.slots] at hj; exact hj
    by_cases e1 : j = i
    · subst e1
      have := Hw3.out
      omega
    · rw [HPv.out.whr j hj2, upd_ne _ _ e1] at hw
      rw [HPv.out.key j hj2, upd_ne _ _ e1] at hk
      exact HNd.out j hj2 e1 hw hk
  | ghost g hs hg hw hk =>
    as_aux_lemma =>
    have dv : ((g : Int) != -1) = true := bne_iff_ne.2 (by omega)
    have HD := hid (dropGhost_ee HE4.out hg hw)
    have Hk := hid hk
    have Hwg := hid hw
    clear hw hk
    go_wp2_with fail
    refine HD.out.mono ?_
    rintro y w5 ⟨rfl, s5, C5, h5, f5, r5⟩
    have hdr : DropS g s3 L3 s5 _ := ⟨hg, Hwg.out, f5, r5, rfl⟩
    have hfr := DropS.fresh HE4.out.ei hdr
    rw [Hk.out] at hfr
    have HEn := hid (enter_ee h5 (i := i) (k := k) (q := tq) (B := B) (by rw [f5.slots]; exact hi3) (by rw [r5, upd_ne _ _ (by omega)]; exact Hw3.out) Htq.out.1 Htq.out.2 hfr)
    have HDr := hid hdr
    clear h5 f5 r5 hdr hfr HD
    go_wp2_with fail
    refine HEn.out.mono ?_
    rintro y w6 ⟨rfl, s6, L6, C6, h6, hS6⟩
    have HG : Hid (∃ s' L' C', EE e gn gb w0 s' L' C' w6 ∧ RepS (i : Int) k B s L 0 s' L') := hid ⟨s6, L6, C6, h6, .ok i rfl Hc.out tq HTo.out HNd.out s3 L3 HS3.out s5 _ (.inr ⟨g, Hk.out, HDr.out⟩) s6 L6 hS6⟩
    clear h6 hS6 HEn
    go_wp2
    go_ret
    obtain ⟨s', L', C', h1, h2⟩ := HG.out
    exact ⟨0, s', L', C', rfl, h1, h2⟩
end
end Go.Proofs.Qxb6500892aDoor
