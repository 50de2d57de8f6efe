/- play (written by tools/mk_plw.py). -/
import Derived.Test.Qxb6500889aDoorMuW2
namespace Go.Proofs.Qxb6500889aDoor
open Go.RowKit
set_option linter.unusedSimpArgs false
set_option linter.unusedVariables false
/-- The handles given out by a step. -/
def gvL (o : OpP) (z : Rz) : List Nat := if z.c = 0 ∧ o.ac < 4 ∧ (o.k = 0 ∨ o.k = 1 ∨ o.k = 6) ∧ z.v ≠ 0 then [z.v] else []
section
variable {w w' w'' : World} {ρ ρ' ρ'' : Rl} {L L' : HL} {T T' : XL} {V V' : WL} {H H' : HS} {X X' : XS} {ks ks' : Nat → List Nat} {G G' : List Nat} {o : OpP} {z : Rz}
theorem hN_inj {g m s g' m' s' : Nat} (h1 : m < 4) (h2 : s < 256) (h3 : m' < 4) (h4 : s' < 256) (h : hN g m s = hN g' m' s') : g = g' ∧ m = m' ∧ s = s' := by unfold hN at h; omega
theorem hN_ne (g m s : Nat) : hN g m s ≠ 0 := by unfold hN; omega
theorem lvK_give (x q m i : Nat) : lvK (givX { X with al := q } m x) i = if i = m then lvK X m ++ [hN (X.tb m).gen m (X.tb m).ad.length] else lvK X i := by
  unfold lvK
  rw [givX_tb]
  by_cases e : i = m
  · subst e
    simp [List.range_succ]
  · rw [if_neg e, if_neg e]
theorem lvK_fresh {m : Nat} (hm : m < 4) (h : (X.tb m).ad.length < 128) : hN (X.tb m).gen m (X.tb m).ad.length ∉ lvK X m := by
  intro hx
  unfold lvK at hx
  obtain ⟨s, hs, he⟩ := List.mem_map.1 hx
  have hs' := List.mem_range.1 hs
  have := hN_inj hm (by omega) hm (by omega) he
  omega
theorem lvK_safe (m i : Nat) : lvK (spX X m) i = if i = m then [] else lvK X i := by
  unfold lvK
  rw [spX_tb]
  by_cases e : i = m
  · subst e
    simp [retT]
  · rw [if_neg e, if_neg e]
theorem lvK_do (X : XS) (z : Rz) : lvK (doX X z) = lvK X := rfl
def PlP (w : World) (ρ : Rl) (L : HL) (T : XL) (V : WL) (H : HS) (X : XS) (G : List Nat) (o : OpP) (e : Ending) (w' : World) : Prop := ∃ H' X' z, e = .returned (.agg (rzC z).toArray) ∧ DoS H X o H' X' z ∧ WO w ρ L T V H' (doX X' z) (lvK (doX X' z)) (G ++ gvL o z) w'
/-- Do, on the world's machine. -/
theorem EB.doo {xs : List XBk} {wz : World} (h : EB w ρ L T V H X ks G xs wz) (hi : HI H X) {n : Nat} (hn : XN X n) (hn2 : n < 100000000000) (o : OpP) (hob : OpB o) :
    Calls Tryd.prog 21 #[.pointer (some ⟨T.xB, 0, none⟩), .agg (opC o).toArray] wz fun e w' => ∃ H' X' z, e = .returned (.agg (rzC z).toArray) ∧ DoS H X o H' X' z ∧ EB w ρ L T V H' (doX X' z) ks G xs w' := by
  obtain ⟨ρ', L', T', V', h1, h2, h3, h4, h5, h6⟩ := h.ex
  have := Do_walk h1.mm hi hn hn2 o hob
  rw [h4] at this
  refine this.mono ?_
  rintro e w' ⟨H', X', z, k1, k2, ρ2, L2, T2, k3, k4, k5, k6⟩
  refine ⟨H', X', z, k1, k2, ⟨ρ2, L2, T2, V', h1.mach k3 k4 k5 k6, h2, k4.trans h3, k5.trans h4, h5.trans k6.fw, fun x hx => by rw [k6.old _ (h.bl x hx).1.lt]; exact h6 x hx⟩, fun x hx => ⟨(h.bl x hx).1.of (k6.blk _ (h.bl x hx).1.lt (by rw [h6 x hx]; omega)), (h.bl x hx).2⟩, h.nd⟩
theorem EB.run1 {xs : List XBk} {wz : World} (h : EB w ρ L T V H X ks G xs wz) (hW : WK wz ρ' L' T' V' H X ks G) (hE : V'.wB = V.wB ∧ L'.hB = L.hB ∧ T'.xB = T.xB ∧ Fw ρ w ρ' wz ∧ ∀ x ∈ xs, ρ' x.1 = 0) (k : WO wz ρ' L' T' V' H' X' ks' G' w'') : EB w ρ L T V H' X' ks' G' xs w'' := by
  obtain ⟨ρ2, L2, T2, V2, k1, k2, k3, k4, k5⟩ := k
  obtain ⟨h2, h3, h4, h5, h6⟩ := hE
  exact ⟨⟨ρ2, L2, T2, V2, k1, k2.trans h2, k3.trans h3, k4.trans h4, h5.trans k5, fun x hx => by rw [k5.old _ (h.bl x hx).1.lt]; exact h6 x hx⟩, fun x hx => ⟨(h.bl x hx).1.of (k5.blk _ (h.bl x hx).1.lt (by rw [h6 x hx]; omega)), (h.bl x hx).2⟩, h.nd⟩
set_option maxRecDepth 1000000 in
set_option maxHeartbeats 4000000 in
theorem play_walk (h : WM w ρ L T V H X G) (hi : HI H X) {n : Nat} (hn : XN X n) (hn2 : n < 100000000000) (hG : G.length ≤ n) (o : OpP) (hob : OpB o) :
    Calls Tryd.prog 8 #[.pointer (some ⟨V.wB, 0, none⟩), .agg (opC o).toArray] w fun e w' => PlP w ρ L T V H X G o e w' := by
  have HE00 := (EB.start h).alloc (opC o) 31
  have HE0 := hid (HE00.alloc (rzC (rzR 0)) 36)
  obtain ⟨q, hq⟩ : ∃ q, w.heap.size = q := ⟨_, rfl⟩
  have hq1 : (w.alloc (.cells (opC o).toArray 31)).heap.size = q + 1 := by simp [hq]
  rw [hq1, hq] at HE0
  have Hi := hid hi
  have Hn := hid hn
  have HG := hid hG
  have Hob := hid hob
  have I0 : Hid ((Tryd.prog.info? 36).map (·.size) = some 8) := hid info_rz
  have b0 : (o.ac : Int) < 256 := by have := hob.ac; omega
  have b1 : (o.k : Int) < 256 := by have := hob.k; omega
  obtain ⟨wB, hwB⟩ : ∃ b, V.wB = b := ⟨_, rfl⟩
  obtain ⟨xB, hxB⟩ : ∃ b, T.xB = b := ⟨_, rfl⟩
  have HwB := hid hwB
  have HxB := hid hxB
  rw [hwB]
  clear h hi hn hob hxB hwB HE00 hq1 hG
  go_enter Tryd.func8, Tryd.ntmps8
  go_upto_region 1 with fail
  obtain ⟨w1, hw1⟩ : ∃ w1, (w.alloc (.cells (opC o).toArray 31)).alloc (.cells (rzC (rzR 0)).toArray 36) = w1 := ⟨_, rfl⟩
  have HE : Hid (EB w ρ L T V H X (lvK X) G [(q + 1, 36, rzC (rzR 0)), (q, 31, opC o)] w1) := by rw [← hw1]; exact HE0
  rw [show (w.alloc (.cells (opC o).toArray 31)).alloc (.cells #[.int .u8 0, .int .u64 0, .int .u64 0, .int .u64 0, .int .u64 0, .int .u64 0, .int .i64 0, .int .i64 0] 36) = w1 from hw1]
  clear hw1 HE0
  go_cut [5] from 6 to 11 (fun v wc => ∃ r z H2 X2, v = .pointer (some ⟨r, 0, none⟩) ∧ Hid (DoS H X o H2 X2 z) ∧ Hid (EB w ρ L T V H2 (doX X2 z) (lvK X) G [(r, 36, rzC z), (q + 1, 36, rzC (rzR 0)), (q, 31, opC o)] wc))
  case first =>
    as_aux_lemma =>
    have HSa : Hid (∀ (wz : World) (xs : List XBk), EB w ρ L T V H X (lvK X) G (xs ++ [(q, 31, opC o)]) wz → wz.cell? ⟨wB, 1, none⟩ = some (.pointer (some ⟨xB, 0, none⟩)) ∧ Blk wz q 31 (opC o)) := hid (fun wz xs hz => ⟨by have := hz.cells.2; rw [HwB.out, HxB.out] at this; exact this, (hz.bl (q, 31, opC o) (by simp)).1⟩)
    have HDo : Hid (∀ (wz : World) (xs : List XBk), EB w ρ L T V H X (lvK X) G xs wz → Calls Tryd.prog 21 #[.pointer (some ⟨xB, 0, none⟩), .agg (opC o).toArray] wz fun e w' => ∃ H' X' z, e = .returned (.agg (rzC z).toArray) ∧ DoS H X o H' X' z ∧ EB w ρ L T V H' (doX X' z) (lvK X) G xs w') := hid (fun wz xs hz => by
      have := hz.doo Hi.out Hn.out hn2 o Hob.out
      rw [HxB.out] at this
      exact this)
    have HS2 : Hid (∀ (H' : HS) (X' : XS) (wz : World) (xs : List XBk), EB w ρ L T V H' X' (lvK X) G (xs ++ [(q, 31, opC o)]) wz → wz.cell? ⟨wB, 1, none⟩ = some (.pointer (some ⟨xB, 0, none⟩)) ∧ Blk wz q 31 (opC o)) := hid (fun H' X' wz xs hz => ⟨by have := hz.cells.2; rw [HwB.out, HxB.out] at this; exact this, (hz.bl (q, 31, opC o) (by simp)).1⟩)
    refine wp_region_fork (fun wz => wz.cell? ⟨wB, 1, none⟩ = some (.pointer (some ⟨xB, 0, none⟩)) ∧ Blk wz q 31 (opC o)) 7 [0, 1, 2, 3, 4] 5 6 [] rfl (by kernel_rfl) (by kernel_rfl) (fun d _ _ _ _ h => by cases d <;> exact h) (HSa.out _ [(q + 1, 36, rzC (rzR 0))] (HE.out.below (Drew.below ⟨1, rfl⟩ _))) ?_
    apply Exists.intro
    refine ⟨?_, ?_, ?_⟩
    · intro W hW
      have d0 : ∀ x, (W x).cell? ⟨wB, 1, none⟩ = some (.pointer (some ⟨xB, 0, none⟩)) := fun x => (hW x).1
      have d1 : ∀ x, (W x).cell? ⟨q, 0, none⟩ = some (.int .u8 (o.ac : Int)) := fun x => (hW x).2.cell 0
      have d2 : ∀ x, (W x).cell? ⟨q, 1, none⟩ = some (.int .u8 (o.k : Int)) := fun x => (hW x).2.cell 1
      have d3 : ∀ x, (W x).cell? ⟨q, 2, none⟩ = some (.int .u64 (o.a : Int)) := fun x => (hW x).2.cell 2
      have d4 : ∀ x, (W x).cell? ⟨q, 3, none⟩ = some (.int .u64 (o.b : Int)) := fun x => (hW x).2.cell 3
      have d5 : ∀ x, (W x).cell? ⟨q, 4, none⟩ = some (.int .u64 (o.c : Int)) := fun x => (hW x).2.cell 4
      clear hW
      simp only [List.take, opsAt, List.drop, List.cons_append, List.nil_append]
      repeat (go_big_quiet_step (fail))
      exact rfl
    · simp only [List.take, List.drop, opsAt, List.cons_append, List.nil_append, wpHv]
      as_aux_lemma =>
      have HE1 : Hid (EB w ρ L T V H X (lvK X) G [(q + 1, 36, rzC (rzR 0)), (q, 31, opC o)] w1.drew) := hid (HE.out.below (Drew.below ⟨1, rfl⟩ _))
      generalize w1.drew = w1d at HE1 ⊢
      clear HE HSa
      go_wp2_with fail
      refine (HDo.out _ _ HE1.out).mono ?_
      rintro e w2 ⟨H2, X2, z, rfl, hs2, hE2⟩
      have HDs := hid hs2
      have HE2 := hid hE2
      clear hs2 hE2 HE1 HDo
      go_wp2_with fail
      refine ⟨HS2.out _ _ _ [(q + 1, 36, rzC (rzR 0))] HE2.out, ?_⟩
      have HE3 := hid (HE2.out.alloc (rzC (rzR 0)) 36)
      go_wp2_with fail
      obtain ⟨r, hr⟩ : ∃ r, w2.heap.size = r := ⟨_, rfl⟩
      obtain ⟨w3, hw3⟩ : ∃ w3, w2.alloc (.cells (rzC (rzR 0)).toArray 36) = w3 := ⟨_, rfl⟩
      rw [hr, hw3] at HE3
      rw [show w2.alloc (.cells #[.int .u8 0, .int .u64 0, .int .u64 0, .int .u64 0, .int .u64 0, .int .u64 0, .int .i64 0, .int .i64 0] 36) = w3 from hw3, hr]
      clear hw3 hr HE2
      refine ⟨HS2.out _ _ _ [_, (q + 1, 36, rzC (rzR 0))] HE3.out, ?_⟩
      simp only [QN]
      go_wp2_with (refine wpList_store_blk rfl 36 _ _ rfl r rfl (rzC z) rfl (HE3.out.bl _ (List.mem_cons_self ..)).1 rfl I0.out (rz_one _) ?_; intro w9 HB9 HU9)
      go_meet
      case rel => exact ⟨r, z, H2, X2, rfl, HDs, hid (HE3.out.set (i := 0) rfl HB9.out HU9.out)⟩
    · simp only [List.take, List.drop, opsAt, List.cons_append, List.nil_append, wpHv]
      as_aux_lemma =>
      have HE1 : Hid (EB w ρ L T V H X (lvK X) G [(q + 1, 36, rzC (rzR 0)), (q, 31, opC o)] w1.drew) := hid (HE.out.below (Drew.below ⟨1, rfl⟩ _))
      generalize w1.drew = w1d at HE1 ⊢
      clear HE HSa
      have HE3 := hid (HE1.out.alloc (rzC (rzR 0)) 36)
      go_wp2_with fail
      obtain ⟨r, hr⟩ : ∃ r, w1d.heap.size = r := ⟨_, rfl⟩
      obtain ⟨w3, hw3⟩ : ∃ w3, w1d.alloc (.cells (rzC (rzR 0)).toArray 36) = w3 := ⟨_, rfl⟩
      rw [hr, hw3] at HE3
      rw [show w1d.alloc (.cells #[.int .u8 0, .int .u64 0, .int .u64 0, .int .u64 0, .int .u64 0, .int .u64 0, .int .i64 0, .int .i64 0] 36) = w3 from hw3, hr]
      clear hw3 hr HE1
      refine ⟨HS2.out _ _ _ [_, (q + 1, 36, rzC (rzR 0))] HE3.out, ?_⟩
      go_wp2_with fail
      refine (HDo.out _ _ HE3.out).mono ?_
      rintro e w2 ⟨H2, X2, z, rfl, hs2, hE2⟩
      have HDs := hid hs2
      have HE2 := hid hE2
      clear hs2 hE2 HE3 HDo
      go_wp2_with fail
      refine ⟨HS2.out _ _ _ [_, (q + 1, 36, rzC (rzR 0))] HE2.out, ?_⟩
      simp only [QN]
      go_wp2_with (refine wpList_store_blk rfl 36 _ _ rfl r rfl (rzC z) rfl (HE2.out.bl _ (List.mem_cons_self ..)).1 rfl I0.out (rz_one _) ?_; intro w9 HB9 HU9)
      go_meet
      case rel => exact ⟨r, z, H2, X2, rfl, HDs, hid (HE2.out.set (i := 0) rfl HB9.out HU9.out)⟩
  case rest =>
    obtain ⟨r, z, H2, X2, rfl, HDs, HE2⟩ := hcut
    clear HE
    have HCs : Hid (wc.cell? ⟨r, 0, none⟩ = some (.int .u8 (z.c : Int)) ∧ wc.cell? ⟨r, 1, none⟩ = some (.int .u64 (z.v : Int)) ∧ wc.cell? ⟨q, 0, none⟩ = some (.int .u8 (o.ac : Int)) ∧ wc.cell? ⟨q, 1, none⟩ = some (.int .u8 (o.k : Int))) := hid (by
      have h1 := (HE2.out.bl (r, 36, rzC z) (by simp)).1
      have h2 := (HE2.out.bl (q, 31, opC o) (by simp)).1
      exact ⟨h1.cell 0, h1.cell 1, h2.cell 0, h2.cell 1⟩)
    have hk9 : o.k < 256 := by omega
    obtain ⟨c0, c1, c2, c3⟩ := HCs.out
    clear HCs
    by_cases hc : z.c = 0
    rotate_left
    · as_aux_lemma =>
      have dc : ((z.c : Int) != 0) = true := by simp [hc]
      obtain ⟨rfl, -⟩ := HDs.out.refused hc
      have Hg : Hid (gvL o z = []) := hid (by unfold gvL; rw [if_neg (fun h => hc h.1)])
      clear hc
      go_wp2_with (first | (refine wpList_load_blk rfl 36 _ rfl r rfl (rzC z) (HE2.out.bl _ (List.mem_cons_self ..)).1 _ Tryd.underlying36 rfl I0.out ?_) | (refine wpList_store_blk rfl 36 _ _ rfl (q + 1) rfl (rzC z) rfl (HE2.out.bl (q + 1, 36, rzC (rzR 0)) (by simp)).1 rfl I0.out (rz_one _) ?_; intro w9 HB9 HU9))
      have HE9 := hid (HE2.out.set (i := 1) rfl HB9.out HU9.out)
      exact bodyPost_ret (results_blk Tryd.results8 rfl (show AggOf Tryd.prog 36 (rzC z).length from AggOf.struct Tryd.underlying36 info_rz) HB9.out) rfl
        ⟨_, _, _, rfl, HDs.out, by rw [Hg.out, List.append_nil]; exact HE9.out.out⟩
    have dc : ((z.c : Int) != 0) = false := by simp [hc]
    by_cases hac : 4 ≤ o.ac
    · as_aux_lemma =>
      have da : decide ((o.ac : Int) ≥ 4) = true := decide_eq_true (by omega)
      have da2 : decide ((4 : Int) ≤ (o.ac : Int)) = true := decide_eq_true (by omega)
      have hX : X2 = X := by
        cases HDs.out.tbs with
        | keep _ _ => rfl
        | give x q' h1 _ _ _ _ _ => omega
        | safe h1 _ _ => omega
      subst hX
      have Hg : Hid (gvL o z = []) := hid (by unfold gvL; rw [if_neg (fun h => by omega)])
      clear hc
      go_wp2_with (first | (refine wpList_load_blk rfl 36 _ rfl r rfl (rzC z) (HE2.out.bl (r, 36, rzC z) (by simp)).1 _ Tryd.underlying36 rfl I0.out ?_) | (refine wpList_store_blk rfl 36 _ _ rfl (q + 1) rfl (rzC z) rfl (HE2.out.bl (q + 1, 36, rzC (rzR 0)) (by simp)).1 rfl I0.out (rz_one _) ?_; intro w9 HB9 HU9))
      have HE9 := hid (HE2.out.set (i := 1) rfl HB9.out HU9.out)
      exact bodyPost_ret (results_blk Tryd.results8 rfl (show AggOf Tryd.prog 36 (rzC z).length from AggOf.struct Tryd.underlying36 info_rz) HB9.out) rfl
        ⟨_, _, _, rfl, HDs.out, by rw [Hg.out, List.append_nil]; exact HE9.out.out⟩
    have da : decide ((o.ac : Int) ≥ 4) = false := decide_eq_false (by omega)
    have da2 : decide ((4 : Int) ≤ (o.ac : Int)) = false := decide_eq_false (by omega)
    cases HDs.out.tbs with
    | keep hk1 hk2 =>
      as_aux_lemma =>
      have d7 : ((o.k : Int) == 7) = false := by simp; omega
      obtain ⟨bg, hbg⟩ : ∃ b, decide (o.k = 0 ∨ o.k = 1 ∨ o.k = 6) = b := ⟨_, rfl⟩
      have hgv : gvL o z = [] := by
        unfold gvL
        rw [if_neg]
        rintro ⟨h1, h2, h3, h4⟩
        exact h4 (hk2 h1 h2 h3)
      have Hg := hid hgv
      cases bg with
      | true =>
        have hv : z.v = 0 := hk2 hc (by omega) (of_decide_eq_true hbg)
        have dv : ((z.v : Int) != 0) = false := by simp [hv]
        have Hbg := hid hbg
        clear hc hk1 hk2 hgv hbg
        have HGv : Hid (∀ wz : World, Calls Tryd.prog 22 #[.int .u8 (o.k : Int)] wz fun e w' => e = .returned (.bool true) ∧ w' = wz) := hid (fun wz => by have := gives_walk o.k hk9 wz; rw [Hbg.out] at this; exact this)
        go_upto_region 4 with fail
        go_wp2_with fail
        refine (HGv.out _).mono ?_
        rintro e wg ⟨rfl, rfl⟩
        go_wp2_with (first | (refine wpList_load_blk rfl 36 _ rfl r rfl (rzC z) (HE2.out.bl (r, 36, rzC z) (by simp)).1 _ Tryd.underlying36 rfl I0.out ?_) | (refine wpList_store_blk rfl 36 _ _ rfl (q + 1) rfl (rzC z) rfl (HE2.out.bl (q + 1, 36, rzC (rzR 0)) (by simp)).1 rfl I0.out (rz_one _) ?_; intro w9 HB9 HU9))
        have HE9 := hid (HE2.out.set (i := 1) rfl HB9.out HU9.out)
        exact bodyPost_ret (results_blk Tryd.results8 rfl (show AggOf Tryd.prog 36 (rzC z).length from AggOf.struct Tryd.underlying36 info_rz) HB9.out) rfl
          ⟨_, _, _, rfl, HDs.out, by rw [Hg.out, List.append_nil]; exact HE9.out.out⟩
      | false =>
        have Hbg := hid hbg
        clear hc hk1 hk2 hgv hbg
        have HGv : Hid (∀ wz : World, Calls Tryd.prog 22 #[.int .u8 (o.k : Int)] wz fun e w' => e = .returned (.bool false) ∧ w' = wz) := hid (fun wz => by have := gives_walk o.k hk9 wz; rw [Hbg.out] at this; exact this)
        go_upto_region 4 with fail
        go_wp2_with fail
        refine (HGv.out _).mono ?_
        rintro e wg ⟨rfl, rfl⟩
        go_wp2_with (first | (refine wpList_load_blk rfl 36 _ rfl r rfl (rzC z) (HE2.out.bl (r, 36, rzC z) (by simp)).1 _ Tryd.underlying36 rfl I0.out ?_) | (refine wpList_store_blk rfl 36 _ _ rfl (q + 1) rfl (rzC z) rfl (HE2.out.bl (q + 1, 36, rzC (rzR 0)) (by simp)).1 rfl I0.out (rz_one _) ?_; intro w9 HB9 HU9))
        have HE9 := hid (HE2.out.set (i := 1) rfl HB9.out HU9.out)
        exact bodyPost_ret (results_blk Tryd.results8 rfl (show AggOf Tryd.prog 36 (rzC z).length from AggOf.struct Tryd.underlying36 info_rz) HB9.out) rfl
          ⟨_, _, _, rfl, HDs.out, by rw [Hg.out, List.append_nil]; exact HE9.out.out⟩
    | give x q' h1 h2 h3 h4 h5 h6 =>
      as_aux_lemma =>
      have hl := full_len (X := X) (m := o.ac) (Hn.out.len o.ac) (by rw [h2]; simp)
      have d7 : ((o.k : Int) == 7) = false := by simp; omega
      obtain ⟨v, hv⟩ : ∃ v, z.v = v := ⟨_, rfl⟩
      have hv0 : v ≠ 0 := by rw [← hv, h5]; exact hN_ne _ _ _
      have dv : ((v : Int) != 0) = true := by simp [hv0]
      have Hg : Hid (gvL o z = [v]) := hid (by unfold gvL; rw [if_pos ⟨hc, by omega, h4, by rw [hv]; exact hv0⟩, hv])
      have Hfr : Hid (v ∉ lvK X o.ac) := hid (by rw [← hv, h5]; exact lvK_fresh (by omega) hl.1)
      have Hks : Hid (fup (lvK X) o.ac (lvK X o.ac ++ [v]) = lvK (doX (givX { X with al := q' } o.ac x) z)) := hid (by
        funext i
        rw [lvK_do, lvK_give, ← hv, h5]
        rfl)
      have hbg : decide (o.k = 0 ∨ o.k = 1 ∨ o.k = 6) = true := decide_eq_true h4
      have HGv : Hid (∀ wz : World, Calls Tryd.prog 22 #[.int .u8 (o.k : Int)] wz fun e w' => e = .returned (.bool true) ∧ w' = wz) := hid (fun wz => by have := gives_walk o.k hk9 wz; rw [hbg] at this; exact this)
      have hm : o.ac < 4 := by omega
      have i4 : (o.ac : Int) < 4 := by omega
      rw [hv] at c1
      have Hv := hid hv
      obtain ⟨ρ1, L1, T1, V1, hW, e1, e2, e3, e4, e5⟩ := HE2.out.ex
      have HW := hid hW
      have HEq : Hid (V1.wB = V.wB ∧ L1.hB = L.hB ∧ T1.xB = T.xB ∧ Fw ρ w ρ1 wc ∧ ∀ y ∈ [(r, 36, rzC z), (q + 1, 36, rzC (rzR 0)), (q, 31, opC o)], ρ1 y.1 = 0) := hid ⟨e1, e2, e3, e4, e5⟩
      obtain ⟨lm, hlm⟩ : ∃ g, V1.lm o.ac = g := ⟨_, rfl⟩
      have Hlm := hid hlm
      have hcm := hW.lcell hm
      rw [hlm, e1, HwB.out] at hcm
      have hlt : Hid (wB < wc.heap.size ∧ r < wc.heap.size ∧ q < wc.heap.size) := hid (by
        have h1 := hW.wb.lt
        rw [e1, HwB.out] at h1
        exact ⟨h1, (HE2.out.bl (r, 36, rzC z) (by simp)).1.lt, (HE2.out.bl (q, 31, opC o) (by simp)).1.lt⟩)
      clear hc h2 h3 h4 h5 h6 hl hbg hv hW e1 e2 e3 e4 e5 hlm hv0
      go_upto_region 4 with fail
      go_wp2_with fail
      refine (HGv.out _).mono ?_
      rintro e wg ⟨rfl, rfl⟩
      go_upto_region 5 with fail
      have HSb : Hid (∀ wz, Below wg.heap.size wg wz → wz.cell? ⟨wB, 2 + o.ac, none⟩ = some (.map (some lm)) ∧ wz.cell? ⟨r, 1, none⟩ = some (.int .u64 (v : Int)) ∧ wz.cell? ⟨q, 0, none⟩ = some (.int .u8 (o.ac : Int))) := hid (fun wz hz => ⟨by rw [hz.cell hlt.out.1]; exact hcm, by rw [hz.cell hlt.out.2.1]; exact c1, by rw [hz.cell hlt.out.2.2]; exact c2⟩)
      refine wp_region_heavy (fun wz => Below wg.heap.size wg wz) 9 [0, 1, 2, 3, 4, 5, 6, 7, 8] [] rfl (by kernel_rfl) (by kernel_rfl) (fun d _ _ _ _ h => by cases d <;> exact h) (Drew.below ⟨1, rfl⟩ _) ?_
      apply Exists.intro
      refine ⟨?_, ?_⟩
      · intro W hW
        have d0 : ∀ x, (W x).cell? ⟨wB, 2 + o.ac, none⟩ = some (.map (some lm)) := fun x => (HSb.out _ (hW x)).1
        have d1 : ∀ x, (W x).cell? ⟨r, 1, none⟩ = some (.int .u64 (v : Int)) := fun x => (HSb.out _ (hW x)).2.1
        have d2 : ∀ x, (W x).cell? ⟨q, 0, none⟩ = some (.int .u8 (o.ac : Int)) := fun x => (HSb.out _ (hW x)).2.2
        clear hW
        simp only [List.take, opsAt, List.drop, List.cons_append, List.nil_append]
        repeat (go_big_quiet_step (fail))
        exact rfl
      simp only [List.take, List.drop, opsAt, List.cons_append, List.nil_append, wpHv]
      have HBd : Hid (Below wg.heap.size wg wg.drew) := hid (Drew.below ⟨1, rfl⟩ _)
      generalize wg.drew = wd at HBd ⊢
      obtain ⟨w3, hrun, hWO, hu3⟩ := (HW.out.below HBd.out).putLive hm Hfr.out
      rw [Hlm.out] at hrun
      have HE3 : Hid (EB w ρ L T V H2 (doX (givX { X with al := q' } o.ac x) z) (fup (lvK X) o.ac (lvK X o.ac ++ [v])) G [(r, 36, rzC z), (q + 1, 36, rzC (rzR 0)), (q, 31, opC o)] w3) := hid ((HE2.out.below HBd.out).run1 (HW.out.below HBd.out) ⟨HEq.out.1, HEq.out.2.1, HEq.out.2.2.1, HEq.out.2.2.2.1.trans (Fw.below HBd.out), HEq.out.2.2.2.2⟩ hWO)
      clear hWO hu3 HBd HSb hcm c0 c1 c2 HW HEq HE2 hlt Hlm HGv Hfr
      simp only [QN]
      go_upto_region 6 with fail
      have HCs : Hid (w3.cell? ⟨r, 1, none⟩ = some (.int .u64 (v : Int)) ∧ w3.cell? ⟨q, 1, none⟩ = some (.int .u8 (o.k : Int))) := hid (by
        have h1 := (HE3.out.bl (r, 36, rzC z) (by simp)).1
        have h2 := (HE3.out.bl (q, 31, opC o) (by simp)).1
        have h3 := h1.cell 1
        rw [← Hv.out]
        exact ⟨h3, h2.cell 1⟩)
      obtain ⟨c1, c3'⟩ := HCs.out
      obtain ⟨ρ1, L1, T1, V1, hW, e1, e2, e3, e4, e5⟩ := HE3.out.ex
      have HW := hid hW
      have HEq : Hid (V1.wB = V.wB ∧ L1.hB = L.hB ∧ T1.xB = T.xB ∧ Fw ρ w ρ1 w3 ∧ ∀ y ∈ [(r, 36, rzC z), (q + 1, 36, rzC (rzR 0)), (q, 31, opC o)], ρ1 y.1 = 0) := hid ⟨e1, e2, e3, e4, e5⟩
      obtain ⟨aa, ak, hav⟩ := hW.al.shape
      have hcv := hW.cells.2.2
      rw [hav, e1, HwB.out] at hcv
      obtain ⟨ng, hng⟩ : ∃ k, G.length = k := ⟨_, rfl⟩
      rw [hng] at hcv hav
      have Hav := hid hav
      have Hng := hid hng
      have hlt : Hid (wB < w3.heap.size ∧ r < w3.heap.size) := hid (by
        have h1 := hW.wb.lt
        rw [e1, HwB.out] at h1
        exact ⟨h1, (HE3.out.bl (r, 36, rzC z) (by simp)).1.lt⟩)
      have ng9 : ng ≤ 100000000000 := by have := HG.out; omega
      clear hW e1 e2 e3 e4 e5 hav hng HCs
      have HSb : Hid (∀ wz, Below w3.heap.size w3 wz → wz.cell? ⟨wB, 6, none⟩ = some (.slice aa ng ak) ∧ wz.cell? ⟨r, 1, none⟩ = some (.int .u64 (v : Int))) := hid (fun wz hz => ⟨by rw [hz.cell hlt.out.1]; exact hcv, by rw [hz.cell hlt.out.2]; exact c1⟩)
      refine wp_region_heavy (fun wz => wz.cell? ⟨wB, 6, none⟩ = some (.slice aa ng ak) ∧ wz.cell? ⟨r, 1, none⟩ = some (.int .u64 (v : Int))) 9 [0, 1, 2, 3, 4, 5, 6] [7, 8] rfl (by kernel_rfl) (by kernel_rfl) (fun d _ _ _ _ h => by cases d <;> exact h) (HSb.out _ (Drew.below ⟨1, rfl⟩ _)) ?_
      apply Exists.intro
      refine ⟨?_, ?_⟩
      · intro W hW
        have d0 : ∀ x, (W x).cell? ⟨wB, 6, none⟩ = some (.slice aa ng ak) := fun x => (hW x).1
        have d1 : ∀ x, (W x).cell? ⟨r, 1, none⟩ = some (.int .u64 (v : Int)) := fun x => (hW x).2
        clear hW
        simp only [List.take, opsAt, List.drop, List.cons_append, List.nil_append]
        repeat (go_big_quiet_step (fail))
        exact rfl
      simp only [List.take, List.drop, opsAt, List.cons_append, List.nil_append, wpHv]
      have HBd : Hid (Below w3.heap.size w3 w3.drew) := hid (Drew.below ⟨1, rfl⟩ _)
      generalize w3.drew = wd3 at HBd ⊢
      clear c1 hcv
      go_wp2_with fail
      obtain ⟨wf, hwf⟩ : ∃ wf, wd3.alloc (.cells #[.int .u64 (v : Int)] 39) = wf := ⟨_, rfl⟩
      have HBf : Hid (Below w3.heap.size w3 wf) := hid (by rw [← hwf]; exact HBd.out.trans ((nbel wd3 _).mono HBd.out.size))
      have HNw : Hid (∀ ad, some (⟨wd3.heap.size, 0, none⟩ : Addr) = some ad → ∀ j u, (aK .u64 [v])[j]? = some u → wf.cell? (ad.add j) = some u) := hid (by rw [← hwf]; exact newRow wd3 (aK .u64 [v]) 39 _ rfl)
      (try simp only [hwf])
      refine ⟨HSb.out _ HBf.out, ?_⟩
      clear hwf
      have HWf := hid (HW.out.below HBf.out)
      have hal := HWf.out.al
      rw [Hav.out] at hal
      have hbb : (G.length + 1) * 8 ≤ 140737488355328 := by rw [Hng.out]; omega
      refine wpList_app_rowK rfl (.tmp 42) (.tmp 45) 39 40 .u64 rfl Tryd.underlying40 info_hand wf ρ1 44 (.slice aa ng ak) G [v] (by simp [Act.eval, Act.put]; done) hal HWf.out.dom (some ⟨wd3.heap.size, 0, none⟩) 1 1 (by simp [Act.eval, Act.put]; done) rfl (fun h => by cases h) HNw.out hbb ?_
      intro v8 w8 ρ8 hr8 ho8 hk8 hd8 hb8
      obtain ⟨a8, k8, h8⟩ := hr8.out.shape
      rw [List.length_append, List.length_singleton, Hng.out] at h8
      subst h8
      have hWO := HWf.out.setAll hb8 hk8 ho8 hd8 hr8.out
      have HE8 : Hid (EB w ρ L T V H2 (doX (givX { X with al := q' } o.ac x) z) (fup (lvK X) o.ac (lvK X o.ac ++ [v])) (G ++ [v]) [(r, 36, rzC z), (q + 1, 36, rzC (rzR 0)), (q, 31, opC o)] (w8.setCell ⟨wB, 6, none⟩ (.slice a8 (ng + 1) k8))) := hid (by
        have := (HE3.out.below HBf.out).run1 (HW.out.below HBf.out) ⟨HEq.out.1, HEq.out.2.1, HEq.out.2.2.1, HEq.out.2.2.2.1.trans (Fw.below HBf.out), HEq.out.2.2.2.2⟩ hWO
        rw [HEq.out.1, HwB.out] at this
        exact this)
      have hwr : ρ1 wB = 6 := by have := HWf.out.rw; rw [HEq.out.1, HwB.out] at this; exact this
      have hrr : ρ1 r = 0 := HEq.out.2.2.2.2 (r, 36, rzC z) (by simp)
      have hk8w := hk8 wB (Nat.lt_of_lt_of_le hlt.out.1 HBf.out.size) (by rw [hwr]; omega)
      have c8 : w8.cell? ⟨wB, 6, none⟩ = some (.slice aa ng ak) ∧ w8.cell? ⟨r, 1, none⟩ = some (.int .u64 (v : Int)) := by
        have h9 := HSb.out _ HBf.out
        refine ⟨by rw [← h9.1]; exact World.cell?_of_block hk8w, ?_⟩
        rw [← h9.2]
        exact World.cell?_of_block (hk8 r (Nat.lt_of_lt_of_le hlt.out.2 HBf.out.size) (by rw [hrr]; omega))
      have f8 : w8.frozen? ⟨wB, 6, none⟩ = false := by
        rw [World.frozen?_of_block (w := wf) hk8w]
        have := HWf.out.wb.frozen 6
        rw [HEq.out.1, HwB.out] at this
        exact this
      have Hc8 := hid c8
      have c80 := c8.1
      clear c8 hr8 ho8 hk8 hd8 hal HWf HNw HBf HBd HSb HW HEq HE3 hlt hWO hb8 hk8w hwr hrr Hav Hng
      go_wp2_with fail
      refine ⟨Hc8.out, ?_⟩
      simp only [QN]
      go_upto_region 7 with fail
      generalize w8.setCell ⟨wB, 6, none⟩ (.slice a8 (ng + 1) k8) = w7 at HE8 ⊢
      have c7 : w7.cell? ⟨q, 1, none⟩ = some (.int .u8 (o.k : Int)) := (HE8.out.bl (q, 31, opC o) (by simp)).1.cell 1
      clear c80 f8 Hc8 c3
      go_wp2_with (first | (refine wpList_load_blk rfl 36 _ rfl r rfl (rzC z) (HE8.out.bl (r, 36, rzC z) (by simp)).1 _ Tryd.underlying36 rfl I0.out ?_) | (refine wpList_store_blk rfl 36 _ _ rfl (q + 1) rfl (rzC z) rfl (HE8.out.bl (q + 1, 36, rzC (rzR 0)) (by simp)).1 rfl I0.out (rz_one _) ?_; intro w9 HB9 HU9))
      have HE9 := hid (HE8.out.set (i := 1) rfl HB9.out HU9.out)
      exact bodyPost_ret (results_blk Tryd.results8 rfl (show AggOf Tryd.prog 36 (rzC z).length from AggOf.struct Tryd.underlying36 info_rz) HB9.out) rfl
        ⟨_, _, _, rfl, HDs.out, by rw [Hg.out, ← Hks.out]; exact HE9.out.out⟩
    | safe h1 h2 h3 =>
      as_aux_lemma =>
      have d7 : ((o.k : Int) == 7) = true := by simp; omega
      have Hg : Hid (gvL o z = []) := hid (by unfold gvL; rw [if_neg (fun h => by omega)])
      have Hks : Hid (fup (lvK X) o.ac [] = lvK (doX (spX X o.ac) z)) := hid (by
        funext i
        rw [lvK_do, lvK_safe]
        rfl)
      have hbg : decide (o.k = 0 ∨ o.k = 1 ∨ o.k = 6) = false := decide_eq_false (by omega)
      have HGv : Hid (∀ wz : World, Calls Tryd.prog 22 #[.int .u8 (o.k : Int)] wz fun e w' => e = .returned (.bool false) ∧ w' = wz) := hid (fun wz => by have := gives_walk o.k hk9 wz; rw [hbg] at this; exact this)
      have hm : o.ac < 4 := by omega
      have i4 : (o.ac : Int) < 4 := by omega
      obtain ⟨ρ1, L1, T1, V1, hW, e1, e2, e3, e4, e5⟩ := HE2.out.ex
      have HW := hid hW
      have HEq : Hid (V1.wB = V.wB ∧ L1.hB = L.hB ∧ T1.xB = T.xB ∧ Fw ρ w ρ1 wc ∧ ∀ y ∈ [(r, 36, rzC z), (q + 1, 36, rzC (rzR 0)), (q, 31, opC o)], ρ1 y.1 = 0) := hid ⟨e1, e2, e3, e4, e5⟩
      have hlt : Hid (wB < wc.heap.size ∧ q < wc.heap.size) := hid (by
        have h1 := hW.wb.lt
        rw [e1, HwB.out] at h1
        exact ⟨h1, (HE2.out.bl (q, 31, opC o) (by simp)).1.lt⟩)
      have hmk := @run_makeMap Tryd.prog
      obtain ⟨lm, hlm⟩ : ∃ g, V1.lm o.ac = g := ⟨_, rfl⟩
      have hcm := hW.lcell hm
      rw [hlm, e1, HwB.out] at hcm
      clear hc h2 h3 hbg hW e1 e2 e3 e4 e5
      go_upto_region 4 with fail
      go_wp2_with fail
      refine (HGv.out _).mono ?_
      rintro e wg ⟨rfl, rfl⟩
      go_upto_region 8 with fail
      have HSb : Hid (∀ wz, Below wg.heap.size wg wz → wz.cell? ⟨q, 0, none⟩ = some (.int .u8 (o.ac : Int))) := hid (fun wz hz => by rw [hz.cell hlt.out.2]; exact c2)
      refine wp_region_heavy (fun wz => Below wg.heap.size wg wz) 6 [0, 1, 2, 4, 5] [3] rfl (by kernel_rfl) (by kernel_rfl) (fun d _ _ _ _ h => by cases d <;> exact h) (Drew.below ⟨1, rfl⟩ _) ?_
      apply Exists.intro
      refine ⟨?_, ?_⟩
      · intro W hW
        have d2 : ∀ x, (W x).cell? ⟨q, 0, none⟩ = some (.int .u8 (o.ac : Int)) := fun x => HSb.out _ (hW x)
        clear hW
        simp only [List.take, opsAt, List.drop, List.cons_append, List.nil_append]
        repeat (go_big_quiet_step (fail))
        exact rfl
      simp only [List.take, List.drop, opsAt, List.cons_append, List.nil_append, wpHv]
      have HBd : Hid (Below wg.heap.size wg wg.drew) := hid (Drew.below ⟨1, rfl⟩ _)
      generalize wg.drew = wd at HBd ⊢
      have HWd := hid (HW.out.below HBd.out)
      have hWO := HWd.out.newLive hm
      have HE8 : Hid (EB w ρ L T V H2 (doX (spX X o.ac) z) (fup (lvK X) o.ac []) G [(r, 36, rzC z), (q + 1, 36, rzC (rzR 0)), (q, 31, opC o)] ((wd.alloc (.map #[] 0)).setCell ⟨wB, 2 + o.ac, none⟩ (.map (some wd.heap.size)))) := hid (by
        have := (HE2.out.below HBd.out).run1 (HW.out.below HBd.out) ⟨HEq.out.1, HEq.out.2.1, HEq.out.2.2.1, HEq.out.2.2.2.1.trans (Fw.below HBd.out), HEq.out.2.2.2.2⟩ hWO
        rw [HEq.out.1, HwB.out] at this
        exact this)
      have HBm : Hid (Below wg.heap.size wg (wd.alloc (.map #[] 0))) := hid (HBd.out.trans ((nbel wd _).mono HBd.out.size))
      have hcm2 : (wd.alloc (.map #[] 0)).cell? ⟨wB, 2 + o.ac, none⟩ = some (.map (some lm)) := by rw [HBm.out.cell hlt.out.1]; exact hcm
      have hfz : (wd.alloc (.map #[] 0)).frozen? ⟨wB, 2 + o.ac, none⟩ = false := by
        have := (HW.out.below HBm.out).wb.frozen (2 + o.ac)
        rw [HEq.out.1, HwB.out] at this
        exact this
      clear hWO HWd HSb c0 c1 c2 HGv HEq HW HE2 hcm HBd hlt
      go_wp2_with fail
      refine ⟨HBm.out, ?_⟩
      simp only [QN]
      clear HBm
      go_upto_region 9 with fail
      generalize (wd.alloc (.map #[] 0)).setCell ⟨wB, 2 + o.ac, none⟩ (.map (some wd.heap.size)) = w7 at HE8 ⊢
      clear hcm2 hfz c3
      go_wp2_with (first | (refine wpList_load_blk rfl 36 _ rfl r rfl (rzC z) (HE8.out.bl (r, 36, rzC z) (by simp)).1 _ Tryd.underlying36 rfl I0.out ?_) | (refine wpList_store_blk rfl 36 _ _ rfl (q + 1) rfl (rzC z) rfl (HE8.out.bl (q + 1, 36, rzC (rzR 0)) (by simp)).1 rfl I0.out (rz_one _) ?_; intro w9 HB9 HU9))
      have HE9 := hid (HE8.out.set (i := 1) rfl HB9.out HU9.out)
      exact bodyPost_ret (results_blk Tryd.results8 rfl (show AggOf Tryd.prog 36 (rzC z).length from AggOf.struct Tryd.underlying36 info_rz) HB9.out) rfl
        ⟨_, _, _, rfl, HDs.out, by rw [Hg.out, List.append_nil, ← Hks.out]; exact HE9.out.out⟩
end
end Go.Proofs.Qxb6500889aDoor
