/- listOK. -/
import Derived.Test.Qxb6500892aDoorTqRawM
namespace Go.Proofs.Qxb6500892aDoor
open Go.RowKit
set_option linter.unusedSimpArgs false
set_option linter.unusedVariables false

/-- The rows of a Raw, to be read. -/
structure RR (s : ES) (V : Nat → Value) (g cp : Nat → Nat) (w : World) : Prop where
  v : ∀ j, j < 7 → V j = .slice (some ⟨g j, 0, none⟩) s.n (cp j)
  v7 : V 7 = .slice (some ⟨g 7, 0, none⟩) s.m (cp 7)
  c : ∀ j i, j < 7 → i < s.n → w.cell? ⟨g j, i, none⟩ = (XN s s.n j)[i]?
  c7 : ∀ i, i < s.m → w.cell? ⟨g 7, i, none⟩ = some (.int .i64 (cv (s.bk i)))
  lt : ∀ j, j < 8 → g j < w.heap.size
theorem RR.below {s : ES} {V : Nat → Value} {g cp : Nat → Nat} {w w' : World} (h : RR s V g cp w) (hb : Below w.heap.size w w') : RR s V g cp w' :=
  ⟨h.v, h.v7, fun j i hj hi => by rw [hb.cell (h.lt j (by omega))]; exact h.c j i hj hi, fun i hi => by rw [hb.cell (h.lt 7 (by omega))]; exact h.c7 i hi, fun j hj => Nat.lt_of_lt_of_le (h.lt j hj) hb.size⟩
theorem RR.upd {s : ES} {V : Nat → Value} {g cp : Nat → Nat} {w w' : World} {sb : Nat} (h : RR s V g cp w) (hu : Upd sb w w') (hne : ∀ j, j < 8 → g j ≠ sb) : RR s V g cp w' :=
  ⟨h.v, h.v7, fun j i hj hi => by rw [keepCell i (hu.block (g j) (h.lt j (by omega)) (hne j (by omega)))]; exact h.c j i hj hi, fun i hi => by rw [keepCell i (hu.block (g 7) (h.lt 7 (by omega)) (hne 7 (by omega)))]; exact h.c7 i hi, fun j hj => Nat.lt_of_lt_of_le (h.lt j hj) hu.size⟩
def seenL (n : Nat) (f : Nat → Int) : List Value := fnL n fun c => .int .i64 (f c)
def inc (M : List Nat) (f : Nat → Int) (c : Nat) : Int := f c + if c ∈ M then 1 else 0
theorem lastI_take {M : List Nat} {k : Nat} (hk : k < M.length) : lastI (M.take (k + 1)) = (M[k] : Int) := by
  have : M.take (k + 1) = M.take k ++ [M[k]] := by rw [List.take_add_one, List.getElem?_eq_getElem hk]; rfl
  rw [this]
  exact lastI_snoc _ _
theorem rw_hd (s : ES) (V : Nat → Value) {q : Nat} (h : q < 5) : (rwC s 5 V)[4 + q]? = some (.int .i64 (cv (s.hd q))) := by
  rw [rwC_get s 5 V (by omega)]
  unfold rwV
  rw [if_neg (by omega), if_neg (by omega), if_neg (by omega), if_neg (by omega), if_pos (by omega), if_pos (by omega), show 4 + q - 4 = q by omega]
theorem rw_tl (s : ES) (V : Nat → Value) {q : Nat} (h : q < 5) : (rwC s 5 V)[9 + q]? = some (.int .i64 (cv (s.tl q))) := by
  rw [rwC_get s 5 V (by omega)]
  unfold rwV
  rw [if_neg (by omega), if_neg (by omega), if_neg (by omega), if_neg (by omega), if_neg (by omega), if_pos (by omega), if_pos (by omega), show 9 + q - 9 = q by omega]
theorem rw_sz (s : ES) (V : Nat → Value) {q : Nat} (h : q < 5) : (rwC s 5 V)[14 + q]? = some (.int .i64 (s.sz q)) := by
  rw [rwC_get s 5 V (by omega)]
  unfold rwV
  rw [if_neg (by omega), if_neg (by omega), if_neg (by omega), if_neg (by omega), if_neg (by omega), if_neg (by omega), if_pos (by omega), if_pos (by omega), show 14 + q - 14 = q by omega]
theorem seen_set (n : Nat) (f : Nat → Int) {M : List Nat} {k : Nat} (hk : k < M.length) (hnd : M.Nodup) (hi : M[k] < n) : (seenL n (inc (M.take k) f)).set M[k] (.int .i64 (inc (M.take k) f M[k] + 1)) = seenL n (inc (M.take (k + 1)) f) := by
  unfold seenL
  rw [fnL_set _ hi]
  refine fnL_ext fun c hc => ?_
  have ht : M.take (k + 1) = M.take k ++ [M[k]] := by rw [List.take_add_one, List.getElem?_eq_getElem hk]; rfl
  have hnot : M[k] ∉ M.take k := fun hm => by
    have h1 : M = M.take k ++ M[k] :: M.drop (k + 1) := by simp
    rw [h1, List.nodup_append] at hnd
    exact hnd.2.2 _ hm _ List.mem_cons_self rfl
  by_cases e : c = M[k]
  · rw [if_pos e, e]
    unfold inc
    rw [if_neg hnot, if_pos (by rw [ht]; exact List.mem_append_right _ (List.mem_singleton.2 rfl)), Int.add_zero]
  · rw [if_neg e]
    unfold inc
    rw [ht]
    congr 2
    by_cases h1 : c ∈ M.take k
    · rw [if_pos h1, if_pos (List.mem_append_left _ h1)]
    · rw [if_neg h1, if_neg (fun h2 => by
        rcases List.mem_append.1 h2 with h3 | h3
        · exact h1 h3
        · exact e (List.mem_singleton.1 h3))]
theorem headI_bd {M : List Nat} {n : Nat} (h : ∀ i ∈ M, i < n) (hn : n ≤ 131072) : -1 ≤ headI M ∧ headI M ≤ 1000000 := by
  cases M with
  | nil => exact ⟨by decide, by decide⟩
  | cons a l =>
    have := h a (by simp)
    show -1 ≤ (a : Int) ∧ (a : Int) ≤ 1000000
    omega
theorem lastI_bd {M : List Nat} {n : Nat} (h : ∀ i ∈ M, i < n) (hn : n ≤ 131072) : -1 ≤ lastI M ∧ lastI M ≤ 1000000 := by
  rcases lastI_cases M with ⟨_, e⟩ | ⟨A, i, e1, e2⟩
  · rw [e]; exact ⟨by decide, by decide⟩
  · have := h i (by rw [e1]; simp)
    rw [e2]
    omega
section
variable {s : ES} {V : Nat → Value} {g cp : Nat → Nat} {w : World} {q sb : Nat} {M : List Nat} {f : Nat → Int}
set_option maxRecDepth 100000 in
set_option maxHeartbeats 4000000 in
theorem listOK_walk (hR : RR s V g cp w) (hD : DL s q M) (hn : s.n ≤ 131072) (hq : q < 5) (hs : Blk w sb 3 (seenL s.n f)) (hne : ∀ j, j < 8 → g j ≠ sb) (hf : ∀ c, 0 ≤ f c ∧ f c ≤ 1000) (hpr : ∀ i ∈ M, -1 ≤ s.prv i ∧ s.prv i ≤ 1000000) :
    Calls Tryd.prog 37 #[.agg (rwC s 5 V).toArray, .int .u8 (q : Int), .slice (some ⟨sb, 0, none⟩) s.n s.n] w fun y w' => y = .returned (.bool true) ∧ Hid (Blk w' sb 3 (seenL s.n (inc M f)) ∧ Upd sb w w') := by
  have HR := hid hR
  have HD := hid hD
  have HS := hid hs
  have HNe := hid hne
  have HF := hid hf
  have hml : M.length ≤ 131072 := Nat.le_trans (nodup_len hD.nd hD.lt) hn
  obtain ⟨N, hN⟩ : ∃ N, s.n = N := ⟨_, rfl⟩
  obtain ⟨RC, hRC⟩ : ∃ l, rwC s 5 V = l := ⟨_, rfl⟩
  have q5 : (q : Int) < 5 := by omega
  rw [hN, hRC]
  have HN := hid hN
  have HRC := hid hRC
  have hN1 : N ≤ 131072 := by omega
  clear hR hD hs hne hf hN hRC hn
  obtain ⟨pr, hprr⟩ : ∃ p, w.heap.size = p := ⟨_, rfl⟩
  go_enter Tryd.func37, Tryd.ntmps37
  go_upto_region 2 with fail
  obtain ⟨w1, hw1⟩ : ∃ w1, w.alloc (.cells RC.toArray 56) = w1 := ⟨_, rfl⟩
  have hb1 : Below w.heap.size w w1 := by rw [← hw1]; exact nbel w _
  have HB : Hid (Blk w1 pr 56 RC) := hid (by
    have k1 := Blk.new w RC 56
    rw [hprr] at k1
    rw [← hw1]
    exact k1)
  have hprs : sb < pr := by have := HS.out.lt; omega
  have HR1 := hid (HR.out.below hb1)
  have HS1 := hid (HS.out.below hb1)
  have HU1 : Hid (Upd sb w w1) := hid ((Upd.refl sb w).ofBelow hb1)
  have Hgp : Hid (∀ j, j < 8 → g j ≠ pr) := hid (fun j hj => by have := HR.out.lt j hj; omega)
  try simp only [hw1]
  clear hw1 hprr HR HS hb1
  obtain ⟨x0, hx0⟩ : ∃ x, headI M = x := ⟨_, rfl⟩
  obtain ⟨xl, hxl⟩ : ∃ x, lastI M = x := ⟨_, rfl⟩
  obtain ⟨Z, hZ⟩ : ∃ Z, M.length = Z := ⟨_, rfl⟩
  have HC : Hid (∀ wr, Upd sb w1 wr → wr.cell? ⟨pr, 4 + q, none⟩ = some (.int .i64 x0) ∧ wr.cell? ⟨pr, 9 + q, none⟩ = some (.int .i64 xl) ∧ wr.cell? ⟨pr, 14 + q, none⟩ = some (.int .i64 (Z : Int)) ∧ wr.cell? ⟨pr, 19, none⟩ = some (.slice (some ⟨g 0, 0, none⟩) N (cp 0)) ∧ wr.cell? ⟨pr, 20, none⟩ = some (.slice (some ⟨g 1, 0, none⟩) N (cp 1)) ∧ wr.cell? ⟨pr, 22, none⟩ = some (.slice (some ⟨g 3, 0, none⟩) N (cp 3))) := hid (fun wr hu => by
    have hB := HB.out.upd hu (by omega)
    rw [hB.cell, hB.cell, hB.cell, hB.cell, hB.cell, hB.cell, ← HRC.out]
    have e1 := headI_bd HD.out.lt (by rw [HN.out]; exact hN1)
    have e2 := lastI_bd HD.out.lt (by rw [HN.out]; exact hN1)
    refine ⟨?_, ?_, ?_, ?_, ?_, ?_⟩
    · rw [rw_hd s V hq, HD.out.hd, cv_of e1.1 e1.2, hx0]
    · rw [rw_tl s V hq, HD.out.tl, cv_of e2.1 e2.2, hxl]
    · rw [rw_sz s V hq, HD.out.sz, hZ]
    · exact (rwC_row s 5 V (j := 0) (by omega)).trans (by rw [HR1.out.v 0 (by omega), HN.out])
    · exact (rwC_row s 5 V (j := 1) (by omega)).trans (by rw [HR1.out.v 1 (by omega), HN.out])
    · exact (rwC_row s 5 V (j := 3) (by omega)).trans (by rw [HR1.out.v 3 (by omega), HN.out]))
  have HX0 := hid hx0
  have HXl := hid hxl
  have HZ := hid hZ
  have hZb : Z ≤ 131072 := by omega
  clear hx0 hxl hZ
  obtain ⟨cc0, cc1, cc2, cc3, cc4, cc5⟩ := HC.out w1 (Upd.refl _ _)
  go_upto_region 3 with fail
  clear cc0 cc1 cc2 cc3 cc4 cc5
  go_loopw [7, 8, 9] (fun v7 v8 v9 wr => ∃ (pv x : Int) (k : Nat), v7 = .int .i64 pv ∧ v8 = .int .i64 (k : Int) ∧ v9 = .int .i64 x ∧ k ≤ Z ∧ Hid (pv = lastI (M.take k) ∧ x = headI (M.drop k) ∧ Blk wr sb 3 (seenL N (inc (M.take k) f)) ∧ Upd sb w1 wr)) (fun _ _ v9 _ => sufL M (intOf v9))
  case atStart => exact ⟨-1, x0, 0, rfl, rfl, rfl, by omega, hid ⟨rfl, HX0.out.symm, by
    have h1 : seenL N (inc (M.take 0) f) = seenL N f := by
      unfold seenL
      refine fnL_ext fun c hc => ?_
      unfold inc
      rw [List.take_zero, if_neg (by simp), Int.add_zero]
    rw [h1, ← HN.out]
    exact HS1.out, Upd.refl _ _⟩⟩
  case round =>
  clear HS1
  obtain ⟨pv, x, k, rfl, rfl, rfl, hk, HK⟩ := hrel
  obtain ⟨cc0, cc1, cc2, cc3, cc4, cc5⟩ := HC.out wr HK.out.2.2.2
  by_cases hkl : k < Z
  rotate_left
  · as_aux_lemma =>
    have hkz : k = M.length := by have := HZ.out; omega
    have hx : x = -1 := by rw [HK.out.2.1, List.drop_eq_nil_of_le (by omega)]; rfl
    have hpv : pv = xl := by rw [HK.out.1, List.take_of_length_le (by omega)]; exact HXl.out
    subst hx hpv
    have hkZ : (k : Int) = (Z : Int) := by have := HZ.out; omega
    have hkZ' : k = Z := by omega
    subst hkZ'
    have dx : ((-1 : Int) != -1) = false := by decide
    have HFn : Hid (Blk wr sb 3 (seenL N (inc M f)) ∧ Upd sb w wr) := hid ⟨by
      have := HK.out.2.2.1
      rw [List.take_of_length_le (by omega)] at this
      exact this, HU1.out.trans HK.out.2.2.2⟩
    clear HK hkz hkZ
    go_wp2
    go_ret
    exact ⟨rfl, HFn⟩
  as_aux_lemma =>
  have hkM : k < M.length := by rw [HZ.out]; exact hkl
  obtain ⟨i, hi⟩ : ∃ i, M[k] = i := ⟨_, rfl⟩
  have hin : i ∈ M := by rw [← hi]; exact List.getElem_mem hkM
  have hx : x = (i : Int) := by rw [HK.out.2.1, headI_drop hkM, hi]
  subst hx
  have hiN : i < N := by rw [← HN.out]; exact HD.out.lt i hin
  have hisn : i < s.n := by rw [HN.out]; exact hiN
  obtain ⟨hnx, hsuf⟩ := HD.out.next hkM
  rw [hi] at hnx hsuf
  have hpv : s.prv i = pv := by
    rw [HK.out.1]
    refine HD.out.pr (M.take k) i (M.drop (k + 1)) ?_
    rw [← hi]
    simp
  have hsp := hpr i hin
  have hHR := HR1.out.upd HK.out.2.2.2 HNe.out
  have e0 : wr.cell? ⟨g 0, i, none⟩ = some (.int .i64 pv) := by
    rw [hHR.c 0 i (by omega) hisn]
    show (fnL s.n _)[i]? = _
    rw [fnL_get _ hisn, cv_of hsp.1 hsp.2, hpv]
  obtain ⟨y, hy⟩ : ∃ y, headI (M.drop (k + 1)) = y := ⟨_, rfl⟩
  have hyb := headI_bd (M := M.drop (k + 1)) (n := N) (fun j hj => by rw [← HN.out]; exact HD.out.lt j (List.mem_of_mem_drop hj)) hN1
  have e1 : ∀ wz, Upd sb wr wz → wz.cell? ⟨g 1, i, none⟩ = some (.int .i64 y) := fun wz hz => by
    rw [(hHR.upd hz HNe.out).c 1 i (by omega) hisn]
    show (fnL s.n _)[i]? = _
    rw [fnL_get _ hisn, hnx, cv_of hyb.1 hyb.2, hy]
  have e3 : wr.cell? ⟨g 3, i, none⟩ = some (.int .u8 (q : Int)) := by
    rw [hHR.c 3 i (by omega) hisn]
    show (fnL s.n _)[i]? = _
    rw [fnL_get _ hisn, HD.out.wh i hin]
  obtain ⟨z, hz⟩ : ∃ z, inc (M.take k) f i = z := ⟨_, rfl⟩
  have hzb : 0 ≤ z ∧ z ≤ 1001 := by
    rw [← hz]
    unfold inc
    have := HF.out i
    split <;> omega
  have zc : wr.cell? ⟨sb, i, none⟩ = some (.int .i64 z) := by
    rw [HK.out.2.2.1.cell, ← hz]
    exact fnL_get _ hiN
  have zf : wr.frozen? ⟨sb, i, none⟩ = false := HK.out.2.2.1.frozen i
  have HU2 : Hid (Upd sb wr (wr.setCell ⟨sb, i, none⟩ (.int .i64 (z + 1)))) := hid ((Upd.refl sb wr).setCell rfl _)
  have HFn : Hid (i = M[k]?.getD 0 ∧ pv = pv ∧ Blk (wr.setCell ⟨sb, i, none⟩ (.int .i64 (z + 1))) sb 3 (seenL N (inc (M.take (k + 1)) f)) ∧ Upd sb w1 (wr.setCell ⟨sb, i, none⟩ (.int .i64 (z + 1)))) := hid ⟨by rw [List.getElem?_eq_getElem hkM, hi]; rfl, rfl, by
    have h1 := HK.out.2.2.1.set i (.int .i64 (z + 1))
    have h2 := seen_set N f hkM HD.out.nd (by rw [hi]; exact hiN)
    rw [hi, hz] at h2
    rw [h2] at h1
    exact h1, HK.out.2.2.2.trans HU2.out⟩
  have HG : Hid ((i : Int) = lastI (M.take (k + 1)) ∧ y = headI (M.drop (k + 1)) ∧ Blk (wr.setCell ⟨sb, i, none⟩ (.int .i64 (z + 1))) sb 3 (seenL N (inc (M.take (k + 1)) f)) ∧ Upd sb w1 (wr.setCell ⟨sb, i, none⟩ (.int .i64 (z + 1)))) := hid ⟨by rw [lastI_take hkM, hi], hy.symm, HFn.out.2.2.1, HFn.out.2.2.2⟩
  have HSuf : Hid (sufL M y < sufL M (i : Int)) := hid (by rw [← hy]; exact hsuf)
  have e1' := e1 _ HU2.out
  obtain ⟨_, _, _, _, cc4', _⟩ := HC.out _ HFn.out.2.2.2
  have dx : ((i : Int) != -1) = true := bne_iff_ne.2 (by omega)
  have d1 : decide ((i : Int) < 0) = false := decide_eq_false (by omega)
  have d2 : decide ((i : Int) ≥ (N : Int)) = false := decide_eq_false (by omega)
  have d3 : decide ((N : Int) ≤ (i : Int)) = false := decide_eq_false (by omega)
  have d4 : decide (N ≤ i) = false := decide_eq_false (by omega)
  have d5 : decide ((k : Int) ≥ (Z : Int)) = false := decide_eq_false (by omega)
  have d6 : decide ((Z : Int) ≤ (k : Int)) = false := decide_eq_false (by omega)
  have d7 : decide (Z ≤ k) = false := decide_eq_false (by omega)
  have hii : (i : Int) < (N : Int) := by omega
  clear hHR hsp hpv hin hisn hi hnx hsuf hy hyb hz HK HFn e1 HU2 hkM
  go_wp2
  exact ⟨⟨(i : Int), y, k + 1, by go_num, by go_num, rfl, by omega, HG⟩, HSuf.out⟩
end
end Go.Proofs.Qxb6500892aDoor
