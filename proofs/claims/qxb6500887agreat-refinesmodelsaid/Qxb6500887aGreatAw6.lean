/- The model's objects, auditLines (written by tools/mk_aw6.py). -/
import Derived.Test.Qxb6500887aGreatAw5
import Derived.Deep.DeepCutAuto
namespace Go.Proofs.Qxb6500887aGreat
open Go.RowKit
set_option linter.unusedSimpArgs false
set_option linter.unusedVariables false
def rtR : RK (Nat × Nat) := ⟨243, 240, 2, 16, fun x => [.int .i64 (x.1 : Int), .int .i64 (x.2 : Int)]⟩
theorem okR : RKok Tryz.prog rtR := ⟨Tryz.underlying240, info_of' (z := .agg #[.int .i64 0, .int .i64 0]) (by kernel_rfl) rfl, by decide, by decide, fun _ => rfl, fun x u hu => by
  simp only [rtR, List.mem_cons, List.not_mem_nil, or_false] at hu
  rcases hu with rfl | rfl <;> rfl⟩
/-- The grounds of the counted objects with readable headers. -/
def obsL (E : ES) : Nat → List (Nat × Nat)
  | 0 => []
  | g + 1 => obsL E g ++ (if E.C g = 0 then [] else if opW E.W g = 0 then [(2 * g, 2 * g + szN E.W g)] else [])
theorem obsL_ok (E : ES) : ∀ g, g ≤ 16384 → (obsL E g).length ≤ g ∧ ∀ o ∈ obsL E g, o.1 < 32768 ∧ o.2 < 32768
  | 0, _ => ⟨Nat.le_refl _, fun o ho => by cases ho⟩
  | g + 1, hg => by
    obtain ⟨h1, h2⟩ := obsL_ok E g (by omega)
    unfold obsL
    split
    · rw [List.append_nil]; exact ⟨by omega, h2⟩
    · split
      · rename_i _ ho
        have := opW_ok ho (by omega)
        refine ⟨by simp; omega, fun o hm => ?_⟩
        rcases List.mem_append.1 hm with hm | hm
        · exact h2 o hm
        · rw [List.mem_singleton] at hm
          subst hm
          show 2 * g < 32768 ∧ 2 * g + szN E.W g < 32768
          omega
      · rw [List.append_nil]; exact ⟨by omega, h2⟩
/-- A model that is only read, an own row beside it. -/
structure ObV (w0 : World) (l : ML) (E : ES) (xs : List (Nat × Nat)) (v : Value) (w : World) : Prop where
  m0 : MM l E w0
  bel : Below w0.heap.size w0 w
  row : OwR rtR w0.heap.size w v xs
section
variable {l : ML} {E : ES} {w w' w0 : World} {xs ys : List (Nat × Nat)} {v v' : Value}
theorem ObV.mm (h : ObV w0 l E xs v w) : MM l E w := h.m0.below h.bel
theorem ObV.below (h : ObV w0 l E xs v w) (hb : Below w.heap.size w w') : ObV w0 l E xs v w' := ⟨h.m0, h.bel.trans (hb.mono h.bel.size), h.row.below hb⟩
theorem ObV.app (h : ObV w0 l E xs v w) (hk : Kep w v w') (hr : OwR rtR w0.heap.size w' v' ys) : ObV w0 l E ys v' w' := ⟨h.m0, h.bel.trans (hk.below h.row.hi h.bel.size), hr⟩
set_option maxRecDepth 100000 in
set_option maxHeartbeats 4000000 in
theorem objectsM (h : MM l E w) : Calls Tryz.prog 249 #[.pointer (some ⟨l.m, 0, none⟩)] w fun e w' => ∃ v, e = .returned v ∧ Hid (ObV w l E (obsL E 16384) v w') := by
  have H0 : Hid (ObV w l E [] (.slice none 0 0) w) := hid ⟨h, Below.refl _ _, OwR.nil _ _ _⟩
  clear h
  go_enter Tryz.func249, Tryz.ntmps249
  go_upto_region 3 with fail
  go_loopw [3, 4] (fun s u wr => ∃ (g n q : Nat) (ax : Option Addr), s = .slice ax n q ∧ u = .int .i64 (g : Int) ∧ g ≤ 16384 ∧ Hid (ObV w l E (obsL E g) (.slice ax n q) wr)) (fun _ u _ => 16384 - (intOf u).toNat)
  case atStart => exact ⟨0, 0, 0, none, rfl, rfl, by omega, H0⟩
  case round =>
  clear H0
  obtain ⟨g, n, q, ax, rfl, rfl, hg, HK⟩ := hrel
  by_cases hgn : g < 16384
  rotate_left
  · as_aux_lemma =>
    have dg : decide ((g : Int) < 16384) = false := decide_eq_false (by omega)
    have HF : Hid (ObV w l E (obsL E 16384) (.slice ax n q) wr) := hid (by have := HK.out; rw [show g = 16384 by omega] at this; exact this)
    clear HK
    go_wp2
    go_ret
    exact ⟨_, rfl, HF⟩
  as_aux_lemma =>
  have dg : decide ((g : Int) < 16384) = true := decide_eq_true (by omega)
  have Hst : Hid (obsL E (g + 1) = obsL E g ++ (if E.C g = 0 then [] else if opW E.W g = 0 then [(2 * g, 2 * g + szN E.W g)] else [])) := hid rfl
  have HLn := hid (obsL_ok E g (by omega)).1
  have c1 := HK.out.mm.cells.2.1
  have cc := HK.out.mm.count hgn
  obtain ⟨cv, hcv⟩ : ∃ cv, E.C g = cv := ⟨_, rfl⟩
  rw [hcv] at cc Hst
  clear hcv
  generalize obsL E g = xs at *
  by_cases hcz : cv = 0
  · as_aux_lemma =>
    rw [if_pos hcz, List.append_nil] at Hst
    have d0 : ((cv : Int) == 0) = true := by simp; omega
    clear hcz
    go_wp2
    exact ⟨⟨g + 1, n, q, ax, rfl, by go_num, by omega, by rw [Hst.out]; exact HK⟩, by simp [intOf]; omega⟩
  as_aux_lemma =>
  rw [if_neg hcz] at Hst
  have d0 : ((cv : Int) == 0) = false := by simp; omega
  clear hcz
  obtain ⟨k, hk⟩ : ∃ k, 2 * g = k := ⟨_, rfl⟩
  have ek : (g : Int) * 2 = (k : Int) := by omega
  have hkb : k < 32768 := by omega
  have HOw : Hid (∀ wz, MM l E wz → Calls Tryz.prog 192 #[.pointer (some ⟨l.m, 0, none⟩), .int .i64 (k : Int)] wz fun e w' => e = .returned (.tuple (owR E.W g (opW E.W g))) ∧ w' = wz) := hid (fun wz hz => by rw [← hk]; exact owM hz hgn)
  rw [hk] at Hst
  have Hk := hid hk
  clear hk
  by_cases ho : opW E.W g = 0
  rotate_left
  · as_aux_lemma =>
    rw [if_neg ho, List.append_nil] at Hst
    unfold owR at HOw
    rw [if_neg ho] at HOw
    generalize opW E.W g = cd at *
    have dc : (cd != 0) = true := by simpa using ho
    have dc' : (cd == 0) = false := by simpa using ho
    (go_wp2_with fail; refine (HOw.out _ HK.out.mm).mono ?_; rintro e_ w_ ⟨he_, hw_⟩; subst he_; have hs_ := hw_.symm; clear hw_; subst hs_)
    go_wp2
    exact ⟨⟨g + 1, n, q, ax, rfl, by go_num, by omega, by rw [Hst.out]; exact HK⟩, by simp [intOf]; omega⟩
  as_aux_lemma =>
  rw [if_pos ho] at Hst
  unfold owR at HOw
  rw [if_pos ho] at HOw
  obtain ⟨o1, o2, o3, o4, o5, o6⟩ := opW_ok ho hgn
  rw [o1, o2, Hk.out] at HOw
  rw [Hk.out] at o6
  generalize szN E.W g = sz at *
  generalize rfN E.W g = rf at *
  clear ho o1 o2 Hk
  obtain ⟨m1, hm1⟩ : ∃ m1, k + sz = m1 := ⟨_, rfl⟩
  have em1 : (k : Int) + (sz : Int) = (m1 : Int) := by omega
  have hm1b : m1 ≤ 32768 := by omega
  rw [hm1] at Hst
  clear hm1
  (go_wp2_with fail; refine (HOw.out _ HK.out.mm).mono ?_; rintro e_ w_ ⟨he_, hw_⟩; subst he_; have hs_ := hw_.symm; clear hw_; subst hs_)
  clear HOw c1 cc
  go_wp2_with (at_builtin; refine stopHere ?_)
  intro _
  obtain ⟨k8, hk8⟩ : ∃ k, wr.heap.size = k := ⟨_, rfl⟩
  obtain ⟨wf, hwf⟩ : ∃ wf, wr.alloc (.cells #[.int .i64 (k : Int), .int .i64 (m1 : Int)] 243) = wf := ⟨_, rfl⟩
  have HJf : Hid (ObV w l E xs (.slice ax n q) wf) := hid (by rw [← hwf]; exact HK.out.below (nbel wr _))
  have HNw : Hid (∀ ad, some (⟨k8, 0, none⟩ : Addr) = some ad → ∀ j u, ([(k, m1)].flatMap rtR.f)[j]? = some u → wf.cell? (ad.add j) = some u) := hid (by rw [← hwf]; exact newX rtR wr (k, m1) _ hk8.symm)
  (try simp only [hwf, hk8])
  clear hwf hk8 HK
  apply wpList_app_l (P := Tryz.prog) (K := rtR) (n0 := w.heap.size) (w := wf) (v := .slice ax n q) (xs := xs) okR (s := .tmp 32) (x := .tmp 38) (ys := [(k, m1)]) (ax := some ⟨k8, 0, none⟩) (n := 1) (k := 1)
  · rfl
  · exact HJf.out.row
  · rfl
  · rfl
  · rfl
  · rfl
  · exact (fun h => by cases h)
  · exact HNw.out
  · have h1 := HLn.out
    show (xs.length + 1) * 16 ≤ _
    omega
  · exact HJf.out.bel.size
  intro v' w9 HR9 HK9 _
  have H9 := hid (HJf.out.app HK9.out HR9.out)
  clear HR9 HK9 HJf HNw
  obtain ⟨ax2, q2, hv2⟩ := H9.out.row.shape
  generalize (xs ++ [(k, m1)]).length = n2 at hv2
  subst hv2
  simp only [Act.put, List.setIfInBounds_toArray, List.set_cons_succ, List.set_cons_zero]
  go_wp2
  exact ⟨⟨g + 1, n2, q2, ax2, rfl, by go_num, by omega, by rw [Hst.out]; exact H9⟩, by simp [intOf]; omega⟩
/-- How many objects touch a line. -/
def tchB (ln : Nat) (o : Nat × Nat) : Bool := decide (o.1 / 16 ≤ ln) && decide (ln ≤ o.2 / 16)
def tchN (E : ES) (ln : Nat) : Nat := (obsL E 16384).countP (tchB ln)
def liL (E : ES) : List Nat := [cnt (fun i => E.T i == tchN E i) 2048, cnt (fun i => decide (tchN E i < E.T i)) 2048, cnt (fun i => decide (E.T i < tchN E i)) 2048]
/-- Own records, and a row beside them. -/
structure LnV (w0 : World) (l : ML) (E : ES) (xs : List (Nat × Nat)) (v : Value) (gs : List (Nat × TypeId × List Value)) (w : World) : Prop where
  ov : OwV (MM l E) w0 gs w
  row : ∃ n0, OwR rtR n0 w v xs ∧ ∀ p ∈ gs, p.1 < n0
theorem LnV.below {gs : List (Nat × TypeId × List Value)} (h : LnV w0 l E xs v gs w) (hb : Below w.heap.size w w') : LnV w0 l E xs v gs w' := by
  obtain ⟨n0, h1, h2⟩ := h.row
  exact ⟨h.ov.below hb, n0, h1.below hb, h2⟩
theorem LnV.put {gs : List (Nat × TypeId × List Value)} {g k : Nat} {t : TypeId} {cs : List Value} (h : LnV w0 l E xs v gs w) (hk : gs[k]? = some (g, t, cs)) (i : Nat) (x : Value) : LnV w0 l E xs v (gs.set k (g, t, cs.set i x)) (w.setCell ⟨g, i, none⟩ x) := by
  obtain ⟨n0, h1, h2⟩ := h.row
  have hu : Upd g w (w.setCell ⟨g, i, none⟩ x) := (Upd.refl g w).setCell rfl _
  refine ⟨h.ov.put hk i x, n0, h1.upd hu (fun k' hk' e => ?_), fun p hp => ?_⟩
  · have := h1.hi k' hk'
    have := h2 (g, t, cs) (List.mem_of_getElem? hk)
    simp only [] at this
    omega
  · rcases List.mem_or_eq_of_mem_set hp with hp | rfl
    · exact h2 p hp
    · exact h2 (g, t, cs) (List.mem_of_getElem? hk)
set_option maxRecDepth 100000 in
set_option maxHeartbeats 8000000 in
theorem auditLinesM (h : MM l E w) : Calls Tryz.prog 199 #[.pointer (some ⟨l.m, 0, none⟩)] w fun e w' => e = .returned (.agg ((liL E).map natV).toArray) ∧ Hid (Below w.heap.size w w') := by
  have I0 := hid info_lr
  obtain ⟨R, hR⟩ : ∃ R, liL E = R := ⟨_, rfl⟩
  rw [hR]
  unfold liL tchN at hR
  have HRR := hid hR
  clear hR
  have HOk := hid (obsL_ok E 16384 (by omega))
  have HOb := hid (fun wz (hz : MM l E wz) => objectsM hz)
  generalize obsL E 16384 = xs at *
  obtain ⟨r, hr⟩ : ∃ r, w.heap.size = r := ⟨_, rfl⟩
  have H0 : Hid (OwV (MM l E) w [(r, 38, [.int .i64 0, .int .i64 0, .int .i64 0])] (w.alloc (.cells #[.int .i64 0, .int .i64 0, .int .i64 0] 38))) := hid ((OwV.start h MM.stays).new hr 38 [.int .i64 0, .int .i64 0, .int .i64 0])
  clear h
  go_enter Tryz.func199, Tryz.ntmps199
  go_upto_region 1 with fail
  (try simp only [hr])
  generalize hw1 : w.alloc _ = w1 at H0 ⊢
  clear hw1 hr
  obtain ⟨u, hu⟩ : ∃ u, w1.heap.size = u := ⟨_, rfl⟩
  have H1 : Hid (OwV (MM l E) w [(u, 38, [.int .i64 0, .int .i64 0, .int .i64 0]), (r, 38, [.int .i64 0, .int .i64 0, .int .i64 0])] (w1.alloc (.cells #[.int .i64 0, .int .i64 0, .int .i64 0] 38))) := hid (H0.out.new hu 38 [.int .i64 0, .int .i64 0, .int .i64 0])
  go_upto_region 2 with fail
  (try simp only [hu])
  generalize hw2 : w1.alloc _ = w2 at H1 ⊢
  clear hw2 hu H0
  go_wp2_with fail
  refine (HOb.out _ H1.out.b).mono ?_
  rintro e w3 ⟨v, rfl, HV⟩
  obtain ⟨ax, q, hv2⟩ := HV.out.row.shape
  obtain ⟨n, hn⟩ : ∃ n, xs.length = n := ⟨_, rfl⟩
  rw [hn] at hv2
  subst hv2
  have hnb : n ≤ 16384 := by rw [← hn]; exact HOk.out.1
  have Hn := hid hn
  have H2 : Hid (LnV w l E xs (.slice ax n q) [(u, 38, [.int .i64 0, .int .i64 0, .int .i64 0]), (r, 38, [.int .i64 0, .int .i64 0, .int .i64 0])] w3) := hid ⟨H1.out.below HV.out.bel, w2.heap.size, HV.out.row, fun p hp => (H1.out.own p hp).lt⟩
  clear HV H1 HOb hn
  go_upto_region 4 with fail
  go_loopw [5] (fun v wr => ∃ i x0 x1 x2 : Nat, v = .int .i64 (i : Int) ∧ i ≤ 2048 ∧ (x0 ≤ 2048 ∧ x1 ≤ 2048 ∧ x2 ≤ 2048) ∧ Hid (x0 = cnt (fun i => E.T i == xs.countP (tchB i)) i ∧ x1 = cnt (fun i => decide (xs.countP (tchB i) < E.T i)) i ∧ x2 = cnt (fun i => decide (E.T i < xs.countP (tchB i))) i) ∧ Hid (LnV w l E xs (.slice ax n q) [(u, 38, [.int .i64 (x0 : Int), .int .i64 (x1 : Int), .int .i64 (x2 : Int)]), (r, 38, [.int .i64 0, .int .i64 0, .int .i64 0])] wr)) (fun v _ => 2048 - (intOf v).toNat)
  case atStart => exact ⟨0, 0, 0, 0, rfl, by omega, by omega, hid ⟨rfl, rfl, rfl⟩, H2⟩
  case round =>
  clear H2
  obtain ⟨i, x0, x1, x2, rfl, hi, ⟨lx0, lx1, lx2⟩, HS, HK⟩ := hrel
  by_cases hin : i < 2048
  rotate_left
  · as_aux_lemma =>
    have di : decide ((i : Int) < 2048) = false := decide_eq_false (by omega)
    have HE : Hid ([.int .i64 (x0 : Int), .int .i64 (x1 : Int), .int .i64 (x2 : Int)] = R.map natV) := hid (by
      obtain ⟨e0, e1, e2⟩ := HS.out
      rw [← HRR.out, e0, e1, e2, show i = 2048 by omega]
      rfl)
    clear HS HRR
    have Hx := hid (HK.out.ov.blk (k := 0) rfl)
    have Hy := hid (HK.out.ov.blk (k := 1) rfl)
    go_wp2_with (first | (refine wpList_load_blk rfl 38 _ rfl u rfl [.int .i64 (x0 : Int), .int .i64 (x1 : Int), .int .i64 (x2 : Int)] Hx.out _ Tryz.underlying38 rfl I0.out ?_) | (refine wpList_store_blk rfl 38 _ _ rfl r rfl [.int .i64 (x0 : Int), .int .i64 (x1 : Int), .int .i64 (x2 : Int)] rfl Hy.out rfl I0.out (by rw [HE.out]; exact natV_one _) ?_; intro w9 HB9 HU9))
    refine bodyPost_ret (results_blk (cs := [.int .i64 (x0 : Int), .int .i64 (x1 : Int), .int .i64 (x2 : Int)]) Tryz.results199 rfl agg_lr HB9.out) rfl ?_
    exact ⟨by rw [HE.out], hid (HK.out.ov.out (k := 1) rfl HU9.out)⟩
  have di : decide ((i : Int) < 2048) = true := decide_eq_true (by omega)
  have HXs : Hid (cnt (fun i => E.T i == xs.countP (tchB i)) (i + 1) = x0 + (E.T i == xs.countP (tchB i)).toNat ∧ cnt (fun i => decide (xs.countP (tchB i) < E.T i)) (i + 1) = x1 + (decide (xs.countP (tchB i) < E.T i)).toNat ∧ cnt (fun i => decide (E.T i < xs.countP (tchB i))) (i + 1) = x2 + (decide (E.T i < xs.countP (tchB i))).toNat) := hid (by
    obtain ⟨e0, e1, e2⟩ := HS.out
    rw [e0, e1, e2]
    exact ⟨rfl, rfl, rfl⟩)
  have hxi : x0 ≤ i ∧ x1 ≤ i ∧ x2 ≤ i := by
    obtain ⟨e0, e1, e2⟩ := HS.out
    rw [e0, e1, e2]
    exact ⟨cnt_bound _ _, cnt_bound _ _, cnt_bound _ _⟩
  clear HS
  go_upto_region 8 with fail
  go_loopw [6, 17] (fun t v wr => ∃ j c : Nat, v = .int .i64 (j : Int) ∧ t = .int .i64 (c : Int) ∧ j ≤ n ∧ c ≤ j ∧ Hid (c = (xs.take j).countP (tchB i)) ∧ Hid (LnV w l E xs (.slice ax n q) [(u, 38, [.int .i64 (x0 : Int), .int .i64 (x1 : Int), .int .i64 (x2 : Int)]), (r, 38, [.int .i64 0, .int .i64 0, .int .i64 0])] wr)) (fun _ v _ => n - (intOf v).toNat)
  case atStart => exact ⟨0, 0, rfl, rfl, by omega, by omega, hid rfl, HK⟩
  case round =>
  clear HK
  obtain ⟨j, c, rfl, rfl, hj, hcj, HC, HK⟩ := hrel
  by_cases hjn : j < n
  · have dj : decide ((j : Int) < (n : Int)) = true := decide_eq_true (by omega)
    obtain ⟨o, ho⟩ : ∃ o, xs[j]? = some o := ⟨_, List.getElem?_eq_getElem (by rw [Hn.out]; exact hjn)⟩
    have Hst : Hid ((xs.take (j + 1)).countP (tchB i) = c + (tchB i o).toNat) := hid (by
      rw [List.take_add_one, ho, List.countP_append, ← HC.out]
      simp only [Option.toList_some, List.countP_singleton]
      cases tchB i o <;> rfl)
    obtain ⟨hb1, hb2⟩ := HOk.out.2 o (List.mem_of_getElem? ho)
    obtain ⟨n0, hrow, hlow⟩ := HK.out.row
    obtain ⟨gx, q9, he, hgx, hcell⟩ := hrow.rx.get (by show 0 < 2; decide) (fun _ => rfl) ho
    injection he with e1 e2 e3
    subst e1
    have d0 : wr.cell? ⟨gx, j * 2, none⟩ = some (.int .i64 (o.1 : Int)) := hcell 0 (by show 0 < 2; decide)
    have d1 : wr.cell? ⟨gx, j * 2 + 1, none⟩ = some (.int .i64 (o.2 : Int)) := hcell 1 (by show 1 < 2; decide)
    clear e2 e3 hcell ho hgx hrow hlow HC
    rw [show tchB i o = (decide (o.1 / 16 ≤ i) && decide (i ≤ o.2 / 16)) from rfl] at Hst
    generalize o.1 = o1 at *
    generalize o.2 = o2 at *
    obtain ⟨f1, hf1⟩ : ∃ f1, o1 / 16 = f1 := ⟨_, rfl⟩
    obtain ⟨f2, hf2⟩ : ∃ f2, o2 / 16 = f2 := ⟨_, rfl⟩
    have ef1 : (o1 : Int).tdiv 16 = (f1 : Int) := by rw [Int.tdiv_eq_ediv_of_nonneg (by omega)]; omega
    have ef1' : (o1 : Int) / 16 = (f1 : Int) := by omega
    have ef2 : (o2 : Int).tdiv 16 = (f2 : Int) := by rw [Int.tdiv_eq_ediv_of_nonneg (by omega)]; omega
    have ef2' : (o2 : Int) / 16 = (f2 : Int) := by omega
    rw [hf1, hf2] at Hst
    clear hf1 hf2
    have lf : f1 ≤ 2048 ∧ f2 ≤ 2048 := by omega
    obtain ⟨z, hz⟩ : ∃ z, wr.heap.size = z := ⟨_, rfl⟩
    have H6 : Hid (LnV w l E xs (.slice (some ⟨gx, 0, none⟩) n q) [(u, 38, [.int .i64 (x0 : Int), .int .i64 (x1 : Int), .int .i64 (x2 : Int)]), (r, 38, [.int .i64 0, .int .i64 0, .int .i64 0])] (wr.alloc (.cells #[.int .i64 (o1 : Int), .int .i64 (o2 : Int)] 243)) ∧ Blk (wr.alloc (.cells #[.int .i64 (o1 : Int), .int .i64 (o2 : Int)] 243)) z 243 [.int .i64 (o1 : Int), .int .i64 (o2 : Int)]) := hid (by
      have kk := Blk.new wr [.int .i64 (o1 : Int), .int .i64 (o2 : Int)] 243
      rw [hz] at kk
      exact ⟨HK.out.below (nbel _ _), kk⟩)
    go_upto_region 10 with fail
    (try simp only [hz])
    generalize hwv : World.alloc wr _ = wv at H6 ⊢
    clear hwv d0 d1 hz HK
    have p0 := H6.out.2.cell 0
    have p1 := H6.out.2.cell 1
    simp only [List.getElem?_cons_zero, List.getElem?_cons_succ] at p0 p1
    have H7 := hid H6.out.1
    clear H6
    by_cases h1 : f1 ≤ i
    · have k1 : decide ((f1 : Int) ≤ (i : Int)) = true := decide_eq_true (by omega)
      have k1n : decide (f1 ≤ i) = true := decide_eq_true h1
      rw [decide_eq_true h1] at Hst
      by_cases h2 : i ≤ f2
      · as_aux_lemma =>
        have k2 : decide ((i : Int) ≤ (f2 : Int)) = true := decide_eq_true (by omega)
        have k2n : decide (i ≤ f2) = true := decide_eq_true h2
        rw [decide_eq_true h2] at Hst
        go_wp2
        exact ⟨⟨j + 1, c + 1, by go_num, by go_num, by omega, by omega, hid (by rw [Hst.out]; rfl), H7⟩, by simp [intOf]; omega⟩
      · as_aux_lemma =>
        have k2 : decide ((i : Int) ≤ (f2 : Int)) = false := decide_eq_false (by omega)
        have k2n : decide (i ≤ f2) = false := decide_eq_false h2
        rw [decide_eq_false h2] at Hst
        go_wp2
        exact ⟨⟨j + 1, c, by go_num, rfl, by omega, by omega, hid (by rw [Hst.out]; rfl), H7⟩, by simp [intOf]; omega⟩
    · as_aux_lemma =>
      have k1 : decide ((f1 : Int) ≤ (i : Int)) = false := decide_eq_false (by omega)
      have k1n : decide (f1 ≤ i) = false := decide_eq_false h1
      rw [decide_eq_false h1] at Hst
      go_wp2
      exact ⟨⟨j + 1, c, by go_num, rfl, by omega, by omega, hid (by rw [Hst.out]; rfl), H7⟩, by simp [intOf]; omega⟩
  have dj : decide ((j : Int) < (n : Int)) = false := decide_eq_false (by omega)
  have hcf : c = xs.countP (tchB i) := by
    have := HC.out
    rw [List.take_of_length_le (by rw [Hn.out]; omega)] at this
    exact this
  rw [← hcf] at HXs
  clear HC hcf
  have c4 := HK.out.ov.b.cells.2.2.2.2.1
  have ct := HK.out.ov.b.tally hin
  have htl := HK.out.ov.b.tl i
  obtain ⟨tv, htv⟩ : ∃ tv, E.T i = tv := ⟨_, rfl⟩
  rw [htv] at ct HXs htl
  have HTv := hid htv
  clear htv
  rcases (by omega : tv = c ∨ c < tv ∨ tv < c) with hcs | hcs | hcs
  · as_aux_lemma =>
    have s0 : ((tv : Int) == (c : Int)) = true := by simp; omega
    have s1 : decide ((tv : Int) > (c : Int)) = false := decide_eq_false (by omega)
    have s1' : decide ((c : Int) < (tv : Int)) = false := decide_eq_false (by omega)
    have s1n : decide (c < tv) = false := decide_eq_false (by omega)
    have s2 : decide ((tv : Int) < (c : Int)) = false := decide_eq_false (by omega)
    have s2n : decide (tv < c) = false := decide_eq_false (by omega)
    have s0n : (tv == c) = true := by simp; omega
    obtain ⟨y, hy⟩ : ∃ y, x0 + 1 = y := ⟨_, rfl⟩
    have ey : (x0 : Int) + 1 = (y : Int) := by omega
    have HN : Hid (y = cnt (fun i => E.T i == xs.countP (tchB i)) (i + 1) ∧ x1 = cnt (fun i => decide (xs.countP (tchB i) < E.T i)) (i + 1) ∧ x2 = cnt (fun i => decide (E.T i < xs.countP (tchB i))) (i + 1)) := hid (by
      obtain ⟨e0, e1, e2⟩ := HXs.out
      rw [s0n] at e0
      rw [s1n] at e1
      rw [s2n] at e2
      rw [e0, e1, e2, ← hy]
      exact ⟨rfl, rfl, rfl⟩)
    have lyb : y ≤ 2048 := by omega
    have cx_ : wr.cell? ⟨u, 0, none⟩ = some (.int .i64 (x0 : Int)) := HK.out.ov.cell (k := 0) rfl 0
    have zx_ : wr.frozen? ⟨u, 0, none⟩ = false := HK.out.ov.frozen (k := 0) rfl 0
    have HP : Hid (LnV w l E xs (.slice ax n q) [(u, 38, [.int .i64 (y : Int), .int .i64 (x1 : Int), .int .i64 (x2 : Int)]), (r, 38, [.int .i64 0, .int .i64 0, .int .i64 0])] (wr.setCell ⟨u, 0, none⟩ (.int .i64 (y : Int)))) := hid (HK.out.put (k := 0) rfl 0 (.int .i64 (y : Int)))
    clear HXs hy s0n hcs
    go_upto_region 15 with fail
    generalize hw7 : wr.setCell _ _ = w7 at HP ⊢
    clear hw7 cx_ zx_ c4 ct HK
    have c4 := HP.out.ov.b.cells.2.2.2.2.1
    have ct := HP.out.ov.b.tally hin
    rw [HTv.out] at ct
    go_wp2
    exact ⟨⟨i + 1, y, x1, x2, by go_num, by omega, by omega, HN, HP⟩, by simp [intOf]; omega⟩
  · as_aux_lemma =>
    have s0 : ((tv : Int) == (c : Int)) = false := by simp; omega
    have s1 : decide ((tv : Int) > (c : Int)) = true := decide_eq_true (by omega)
    have s1' : decide ((c : Int) < (tv : Int)) = true := decide_eq_true (by omega)
    have s1n : decide (c < tv) = true := decide_eq_true (by omega)
    have s2 : decide ((tv : Int) < (c : Int)) = false := decide_eq_false (by omega)
    have s2n : decide (tv < c) = false := decide_eq_false (by omega)
    have s0n : (tv == c) = false := by simp; omega
    obtain ⟨y, hy⟩ : ∃ y, x1 + 1 = y := ⟨_, rfl⟩
    have ey : (x1 : Int) + 1 = (y : Int) := by omega
    have HN : Hid (x0 = cnt (fun i => E.T i == xs.countP (tchB i)) (i + 1) ∧ y = cnt (fun i => decide (xs.countP (tchB i) < E.T i)) (i + 1) ∧ x2 = cnt (fun i => decide (E.T i < xs.countP (tchB i))) (i + 1)) := hid (by
      obtain ⟨e0, e1, e2⟩ := HXs.out
      rw [s0n] at e0
      rw [s1n] at e1
      rw [s2n] at e2
      rw [e0, e1, e2, ← hy]
      exact ⟨rfl, rfl, rfl⟩)
    have lyb : y ≤ 2048 := by omega
    have cx_ : wr.cell? ⟨u, 1, none⟩ = some (.int .i64 (x1 : Int)) := HK.out.ov.cell (k := 0) rfl 1
    have zx_ : wr.frozen? ⟨u, 1, none⟩ = false := HK.out.ov.frozen (k := 0) rfl 1
    have HP : Hid (LnV w l E xs (.slice ax n q) [(u, 38, [.int .i64 (x0 : Int), .int .i64 (y : Int), .int .i64 (x2 : Int)]), (r, 38, [.int .i64 0, .int .i64 0, .int .i64 0])] (wr.setCell ⟨u, 1, none⟩ (.int .i64 (y : Int)))) := hid (HK.out.put (k := 0) rfl 1 (.int .i64 (y : Int)))
    clear HXs hy s0n hcs
    go_upto_region 17 with fail
    generalize hw7 : wr.setCell _ _ = w7 at HP ⊢
    clear hw7 cx_ zx_ c4 ct HK
    have c4 := HP.out.ov.b.cells.2.2.2.2.1
    have ct := HP.out.ov.b.tally hin
    rw [HTv.out] at ct
    go_wp2
    exact ⟨⟨i + 1, x0, y, x2, by go_num, by omega, by omega, HN, HP⟩, by simp [intOf]; omega⟩
  · as_aux_lemma =>
    have s0 : ((tv : Int) == (c : Int)) = false := by simp; omega
    have s1 : decide ((tv : Int) > (c : Int)) = false := decide_eq_false (by omega)
    have s1' : decide ((c : Int) < (tv : Int)) = false := decide_eq_false (by omega)
    have s1n : decide (c < tv) = false := decide_eq_false (by omega)
    have s2 : decide ((tv : Int) < (c : Int)) = true := decide_eq_true (by omega)
    have s2n : decide (tv < c) = true := decide_eq_true (by omega)
    have s0n : (tv == c) = false := by simp; omega
    obtain ⟨y, hy⟩ : ∃ y, x2 + 1 = y := ⟨_, rfl⟩
    have ey : (x2 : Int) + 1 = (y : Int) := by omega
    have HN : Hid (x0 = cnt (fun i => E.T i == xs.countP (tchB i)) (i + 1) ∧ x1 = cnt (fun i => decide (xs.countP (tchB i) < E.T i)) (i + 1) ∧ y = cnt (fun i => decide (E.T i < xs.countP (tchB i))) (i + 1)) := hid (by
      obtain ⟨e0, e1, e2⟩ := HXs.out
      rw [s0n] at e0
      rw [s1n] at e1
      rw [s2n] at e2
      rw [e0, e1, e2, ← hy]
      exact ⟨rfl, rfl, rfl⟩)
    have lyb : y ≤ 2048 := by omega
    have cx_ : wr.cell? ⟨u, 2, none⟩ = some (.int .i64 (x2 : Int)) := HK.out.ov.cell (k := 0) rfl 2
    have zx_ : wr.frozen? ⟨u, 2, none⟩ = false := HK.out.ov.frozen (k := 0) rfl 2
    have HP : Hid (LnV w l E xs (.slice ax n q) [(u, 38, [.int .i64 (x0 : Int), .int .i64 (x1 : Int), .int .i64 (y : Int)]), (r, 38, [.int .i64 0, .int .i64 0, .int .i64 0])] (wr.setCell ⟨u, 2, none⟩ (.int .i64 (y : Int)))) := hid (HK.out.put (k := 0) rfl 2 (.int .i64 (y : Int)))
    clear HXs hy s0n hcs
    go_wp2
    exact ⟨⟨i + 1, x0, x1, y, by go_num, by omega, by omega, HN, HP⟩, by simp [intOf]; omega⟩
end
end Go.Proofs.Qxb6500887aGreat
