/- Plain: every step of the machine refines the model's. -/
import Derived.Test.Qxb6500889aDoorMuP4
namespace Go.Proofs.Qxb6500889aDoor
open Go.RowKit
set_option linter.unusedSimpArgs false
set_option linter.unusedVariables false
section
variable {H H' : HS} {X X' : XS} {n m : Nat} {o : OpP} {z : Rz} {G : List Nat} {M M' : MS} {φ : Nat → Nat}
theorem ref_alloc (h : RM H X G M φ) (hi : HI H X) (hn : XN X n) (hb : n ≤ 100000000000) (hob : OpB o) (h1 : o.ac < 4) (h2 : o.k = 0) :
    Refd (alO H X o.ac (numX o.a) (numX o.b)).1 (alO H X o.ac (numX o.a) (numX o.b)).2.1 G M o (rzA (alO H X o.ac (numX o.a) (numX o.b)).2.2.1 (alO H X o.ac (numX o.a) (numX o.b)).2.2.2) := by
  have e : ∀ room, mDo M o room = mAlloc M o.ac o.a o.b room := fun room => by
    unfold mDo
    rw [if_neg (by omega), if_neg (by omega), if_pos h2]
  have ha := numX_of hob.a
  have hbb := numX_of hob.b
  unfold alO
  by_cases c1 : numX o.a < 1 ∨ 8192 < numX o.a
  · rw [if_pos c1]
    refine h.same2 (gvL_c (by rw [rzA_c]; simp)) ?_
    rw [e]
    unfold mAlloc
    rw [if_pos (by omega)]
    rfl
  rw [if_neg c1]
  by_cases c2 : numX o.b < 0 ∨ numX o.a < numX o.b
  · rw [if_pos c2]
    refine h.same2 (gvL_c (by rw [rzA_c]; simp)) ?_
    rw [e]
    unfold mAlloc
    rw [if_neg (by omega), if_pos (by omega)]
    rfl
  rw [if_neg c2]
  by_cases c3 : fullB (X.tb o.ac) = true
  · rw [if_pos c3]
    refine h.same2 (gvL_c (by rw [rzA_c]; simp)) ?_
    rw [e]
    unfold mAlloc
    rw [if_neg (by omega), if_neg (by omega), if_pos (by rw [h.full hn hb h1]; exact c3)]
    rfl
  rw [if_neg c3]
  have ea : (numX o.a).toNat = o.a := by omega
  have eb : (numX o.b).toNat = o.b := by omega
  rw [ea, eb]
  cases hp : placeP (baseH H (1 + o.a)).taken (1 + o.a) with
  | none =>
    refine (h.base hi (1 + o.a)).same2 (gvL_c (by rw [rzA_c]; simp)) ?_
    rw [e]
    unfold mAlloc
    rw [if_neg (by omega), if_neg (by omega), if_neg (by rw [h.full hn hb h1]; exact c3), if_pos (by simp [rzA_c])]
    rfl
  | some s =>
    obtain ⟨φ', hφ⟩ := (h.base hi (1 + o.a)).mkOb (hi.base (1 + o.a)) h1 (size := o.a) (refs := o.b) (by omega) hp
    have em : mDo M o (decide ((rzA (hN (X.tb o.ac).gen o.ac (X.tb o.ac).ad.length) 0).c ≠ 8)) = (mGive { M with objs := M.objs ++ [⟨List.replicate o.b 0, List.replicate (o.a - o.b) 0⟩], alt := M.alt + wrdM o.a } o.ac (M.objs.length + 1), rzA (hN (M.gen o.ac) o.ac (M.held o.ac).length) 0) := by
      rw [e]
      unfold mAlloc
      rw [if_neg (by omega), if_neg (by omega), if_neg (by rw [h.full hn hb h1]; exact c3), if_neg (by simp [rzA_c])]
    refine ⟨φ', ?_, ?_⟩
    · show RM _ _ _ (mDo M o (decide ((rzA (hN (X.tb o.ac).gen o.ac (X.tb o.ac).ad.length) 0).c ≠ 8))).1 φ'
      rw [em, gvL_h h1 (.inl h2)]
      exact hφ
    · show (mDo M o (decide ((rzA (hN (X.tb o.ac).gen o.ac (X.tb o.ac).ad.length) 0).c ≠ 8))).2 = rzA (hN (X.tb o.ac).gen o.ac (X.tb o.ac).ad.length) 0
      rw [em, h.gen _ h1, h.held _ h1, List.length_map]
theorem ref_rf (h : RM H X G M φ) (hi : HI H X) (hn : XN X n) (hb : n ≤ 100000000000) (hob : OpB o) (hsz : ∀ a x, H.objs a = some x → x.refs.length + x.data.length ≤ 8192) (h1 : o.ac < 4) (h2 : o.k = 1) :
    Refd H (rdF H X o.ac (opX X o.a) (numX o.b)).1 G M o (rzA (rdF H X o.ac (opX X o.a) (numX o.b)).2.1 (rdF H X o.ac (opX X o.a) (numX o.b)).2.2) := by
  unfold rdF
  rcases h.target (room := true) hi h1 (by omega) with ⟨k1, k2⟩ | ⟨a, x, q, k1, k2, k3, k4, k5, k6, k7⟩
  · rw [fld_bad k1, if_neg k1]
    refine h.same2 (gvL_c (by rw [rzA_c]; exact k1)) ?_
    rw [show decide ((rzA 0 (tgtX X o.ac (opX X o.a)).2).c ≠ 8) = true by rw [rzA_c]; have := (tgtX_code X o.ac (opX X o.a)).1; simp; omega, k2]
    unfold rzA
    rw [if_neg k1]
  · have hl := hsz a x k3
    rw [fld_of k1 k3]
    by_cases hc : numX o.b < 0 ∨ (obN x true : Int) ≤ numX o.b
    · rw [if_pos hc]
      have hc2 := (idx_of (len := x.refs.length) hob.b (by omega)).1 hc
      refine h.same2 (gvL_c (by rw [rzA_c]; simp)) ?_
      show mDo M o true = _
      rw [k7]
      unfold mObj
      rw [if_neg (by omega), if_neg (by omega), if_neg (by omega), if_pos h2, if_pos (by rw [k5, List.length_map]; exact hc2)]
      rfl
    · rw [if_neg hc]
      have hc2 : ¬ (x.refs.length ≤ o.b) := fun k => hc ((idx_of (len := x.refs.length) hob.b (by omega)).2 k)
      have ei := num_toNat hob.b hc
      rw [if_pos rfl]
      show Refd H (match H.objs a with | none => (X, 0, 0) | some x => if x.refs.getD (numX o.b).toNat 0 = 0 then (X, 0, 0) else if fullB (X.tb o.ac) = true then (X, 0, 11) else (givX X o.ac (x.refs.getD (numX o.b).toNat 0), hN (X.tb o.ac).gen o.ac (X.tb o.ac).ad.length, 0)).1 G M o (rzA (match H.objs a with | none => (X, 0, 0) | some x => if x.refs.getD (numX o.b).toNat 0 = 0 then (X, 0, 0) else if fullB (X.tb o.ac) = true then (X, 0, 11) else (givX X o.ac (x.refs.getD (numX o.b).toNat 0), hN (X.tb o.ac).gen o.ac (X.tb o.ac).ad.length, 0)).2.1 (match H.objs a with | none => (X, 0, 0) | some x => if x.refs.getD (numX o.b).toNat 0 = 0 then (X, 0, 0) else if fullB (X.tb o.ac) = true then (X, 0, 11) else (givX X o.ac (x.refs.getD (numX o.b).toNat 0), hN (X.tb o.ac).gen o.ac (X.tb o.ac).ad.length, 0)).2.2)
      rw [k3, ei]
      dsimp only
      have em : ∀ room, mDo M o room = (if q.refs.getD o.b 0 = 0 then (M, rzR 0) else if mFull M o.ac = true then (M, rzR 11) else (mGive M o.ac (q.refs.getD o.b 0), rzA (hN (M.gen o.ac) o.ac (M.held o.ac).length) 0)) := fun room => by
        have k7' : mDo M o room = mObj M o.ac o (φ a) q := by
          rw [← k7, mDo_obj h1 (by omega), mDo_obj h1 (by omega)]
        rw [k7']
        unfold mObj
        rw [if_neg (by omega), if_neg (by omega), if_neg (by omega), if_pos h2, if_neg (by rw [k5, List.length_map]; exact hc2)]
      rw [k5, getD_map h.mt.z] at em
      by_cases c1 : x.refs.getD o.b 0 = 0
      · rw [if_pos c1]
        refine h.same2 (gvL_v rfl) ?_
        rw [em, c1, h.mt.z, if_pos rfl]
        rfl
      · rw [if_neg c1]
        have hnr : Nm H X (x.refs.getD o.b 0) := .ref a _ x k2 k3 (getD_mem c1) c1
        have := h.node hnr
        by_cases c2 : fullB (X.tb o.ac) = true
        · rw [if_pos c2]
          refine h.same2 (gvL_c (by rw [rzA_c]; simp)) ?_
          rw [em, if_neg (by omega), if_pos (by rw [h.full hn hb h1]; exact c2)]
          rfl
        · rw [if_neg c2]
          have em2 : ∀ room, mDo M o room = (mGive M o.ac (φ (x.refs.getD o.b 0)), rzA (hN (M.gen o.ac) o.ac (M.held o.ac).length) 0) := fun room => by
            rw [em, if_neg (by omega), if_neg (by rw [h.full hn hb h1]; exact c2)]
          refine ⟨φ, ?_, ?_⟩
          · rw [em2, gvL_h h1 (.inr (.inl h2))]
            exact h.give h1 hnr rfl rfl
          · rw [em2, h.gen _ h1, h.held _ h1, List.length_map]
theorem ref_wf (h : RM H X G M φ) (hi : HI H X) (hob : OpB o) (hsz : ∀ a x, H.objs a = some x → x.refs.length + x.data.length ≤ 8192) (h1 : o.ac < 4) (h2 : o.k = 2) :
    Refd (wrF H X o.ac (opX X o.a) (numX o.b) (opX X o.c)).1 X G M o (rzR (wrF H X o.ac (opX X o.a) (numX o.b) (opX X o.c)).2) := by
  unfold wrF
  rcases h.target (room := true) hi h1 (by omega) with ⟨k1, k2⟩ | ⟨a, x, q, k1, k2, k3, k4, k5, k6, k7⟩
  · rw [fld_bad k1, if_neg k1]
    refine h.same2 (gvL_k (by omega)) ?_
    rw [show decide ((rzR (tgtX X o.ac (opX X o.a)).2).c ≠ 8) = true by show decide ((tgtX X o.ac (opX X o.a)).2 ≠ 8) = true; have := (tgtX_code X o.ac (opX X o.a)).1; simp; omega, k2]
  · have hl := hsz a x k3
    rw [fld_of k1 k3]
    by_cases hc : numX o.b < 0 ∨ (obN x true : Int) ≤ numX o.b
    · rw [if_pos hc]
      have hc2 := (idx_of (len := x.refs.length) hob.b (by omega)).1 hc
      refine h.same2 (gvL_k (by omega)) ?_
      show mDo M o true = _
      rw [k7]
      unfold mObj
      rw [if_neg (by omega), if_neg (by omega), if_neg (by omega), if_neg (by omega), if_pos (by rw [k5, List.length_map]; exact hc2)]
      rfl
    · rw [if_neg hc]
      have hc2 : ¬ (x.refs.length ≤ o.b) := fun k => hc ((idx_of (len := x.refs.length) hob.b (by omega)).2 k)
      have ei := num_toNat hob.b hc
      have em : mDo M o true = (if mOp M o.c = 0 then (mSetR M (φ a) o.b 0, rzR 0) else match mLook M o.ac (mOp M o.c) with
          | none => (M, rzR 3)
          | some v => (mSetR M (φ a) o.b v, rzR 0)) := by
        rw [k7]
        unfold mObj
        rw [if_neg (by omega), if_neg (by omega), if_neg (by omega), if_neg (by omega), if_neg (by rw [k5, List.length_map]; exact hc2)]
        rfl
      have hset : ∀ v, v = 0 ∨ Nm H X v → RM (setR H a o.b v) X G (mSetR M (φ a) o.b (φ v)) φ := fun v hv => by
        unfold setR mSetR
        rw [k3, k4]
        dsimp only
        refine h.setOb hi k2 k3 k4 (by show q.refs.set _ _ = (x.refs.set _ _).map φ; rw [k5, List.map_set]) k6 (fun b hb0 hb1 => ?_)
        rcases set_mem hb0 with e | e
        · exact .ref a b x k2 k3 e hb1
        · rcases hv with hv | hv
          · exact absurd (e.trans hv) hb1
          · rw [e]; exact hv
      rw [h.op, h.look h1] at em
      rw [if_pos rfl, ei]
      dsimp only
      by_cases c0 : opX X o.c = 0
      · rw [if_pos c0]
        rw [if_pos c0] at em
        refine ⟨φ, ?_, ?_⟩
        · show RM _ _ _ (mDo M o true).1 φ
          rw [em, gvL_k (by omega), List.append_nil]
          have := hset 0 (.inl rfl)
          rw [h.mt.z] at this
          exact this
        · show (mDo M o true).2 = _
          rw [em]
      · rw [if_neg c0]
        rw [if_neg c0] at em
        rcases tgt_of X o.ac (opX X o.c) with ⟨e1, e2⟩ | ⟨e1, e2, e3⟩ | ⟨v, e1, e2, e3⟩
        · exact absurd e1 c0
        · rw [e3]
          rw [e2] at em
          refine h.same2 (gvL_k (by omega)) ?_
          show mDo M o true = _
          rw [em]
          rfl
        · rw [e3]
          rw [e2] at em
          have hv := tgt_nm hi h1 (v := opX X o.c) (by rw [e3])
          rw [e3] at hv
          refine ⟨φ, ?_, ?_⟩
          · show RM _ _ _ (mDo M o true).1 φ
            rw [em, gvL_k (by omega), List.append_nil]
            exact hset v (.inr hv)
          · show (mDo M o true).2 = _
            rw [em]
            rfl
theorem ref_rd (h : RM H X G M φ) (hi : HI H X) (hob : OpB o) (hsz : ∀ a x, H.objs a = some x → x.refs.length + x.data.length ≤ 8192) (h1 : o.ac < 4) (h2 : o.k = 3) :
    Refd H X G M o (rzA (rdD H X o.ac (opX X o.a) (numX o.b)).1 (rdD H X o.ac (opX X o.a) (numX o.b)).2) := by
  unfold rdD
  rcases h.target (room := true) hi h1 (by omega) with ⟨k1, k2⟩ | ⟨a, x, q, k1, k2, k3, k4, k5, k6, k7⟩
  · rw [fld_bad k1, if_neg k1]
    refine h.same2 (gvL_k (by omega)) ?_
    rw [show decide ((rzA 0 (tgtX X o.ac (opX X o.a)).2).c ≠ 8) = true by rw [rzA_c]; have := (tgtX_code X o.ac (opX X o.a)).1; simp; omega, k2]
    unfold rzA
    rw [if_neg k1]
  · have hl := hsz a x k3
    rw [fld_of k1 k3]
    by_cases hc : numX o.b < 0 ∨ (obN x false : Int) ≤ numX o.b
    · rw [if_pos hc]
      have hc2 := (idx_of (len := x.data.length) hob.b (by omega)).1 hc
      refine h.same2 (gvL_k (by omega)) ?_
      show mDo M o true = _
      rw [k7]
      unfold mObj
      rw [if_neg (by omega), if_pos h2, if_pos (by rw [k6]; exact hc2)]
      rfl
    · rw [if_neg hc]
      have hc2 : ¬ (x.data.length ≤ o.b) := fun k => hc ((idx_of (len := x.data.length) hob.b (by omega)).2 k)
      have ei := num_toNat hob.b hc
      rw [if_pos rfl]
      dsimp only
      rw [k3]
      dsimp only
      rw [ei]
      refine h.same2 (gvL_k (by omega)) ?_
      show mDo M o true = _
      rw [k7]
      unfold mObj
      rw [if_neg (by omega), if_pos h2, if_neg (by rw [k6]; exact hc2), k6]
theorem ref_wd (h : RM H X G M φ) (hi : HI H X) (hob : OpB o) (hsz : ∀ a x, H.objs a = some x → x.refs.length + x.data.length ≤ 8192) (h1 : o.ac < 4) (h2 : o.k = 4) :
    Refd (wrD H X o.ac (opX X o.a) (numX o.b) o.c).1 X G M o (rzR (wrD H X o.ac (opX X o.a) (numX o.b) o.c).2) := by
  unfold wrD
  rcases h.target (room := true) hi h1 (by omega) with ⟨k1, k2⟩ | ⟨a, x, q, k1, k2, k3, k4, k5, k6, k7⟩
  · rw [fld_bad k1, if_neg k1]
    refine h.same2 (gvL_k (by omega)) ?_
    rw [show decide ((rzR (tgtX X o.ac (opX X o.a)).2).c ≠ 8) = true by show decide ((tgtX X o.ac (opX X o.a)).2 ≠ 8) = true; have := (tgtX_code X o.ac (opX X o.a)).1; simp; omega, k2]
  · have hl := hsz a x k3
    rw [fld_of k1 k3]
    by_cases hc : numX o.b < 0 ∨ (obN x false : Int) ≤ numX o.b
    · rw [if_pos hc]
      have hc2 := (idx_of (len := x.data.length) hob.b (by omega)).1 hc
      refine h.same2 (gvL_k (by omega)) ?_
      show mDo M o true = _
      rw [k7]
      unfold mObj
      rw [if_neg (by omega), if_neg (by omega), if_pos h2, if_pos (by rw [k6]; exact hc2)]
      rfl
    · rw [if_neg hc]
      have hc2 : ¬ (x.data.length ≤ o.b) := fun k => hc ((idx_of (len := x.data.length) hob.b (by omega)).2 k)
      have ei := num_toNat hob.b hc
      rw [if_pos rfl, ei]
      have em : mDo M o true = (mSetD M (φ a) o.b o.c, rzR 0) := by
        rw [k7]
        unfold mObj
        rw [if_neg (by omega), if_neg (by omega), if_pos h2, if_neg (by rw [k6]; exact hc2)]
      refine ⟨φ, ?_, ?_⟩
      · show RM _ _ _ (mDo M o true).1 φ
        rw [em, gvL_k (by omega), List.append_nil]
        show RM (setD H a o.b o.c) X G (mSetD M (φ a) o.b o.c) φ
        unfold setD mSetD
        rw [k3, k4]
        dsimp only
        exact h.setOb hi k2 k3 k4 k5 (by show q.data.set _ _ = x.data.set _ _; rw [k6]) (fun b hb0 hb1 => .ref a b x k2 k3 hb0 hb1)
      · show (mDo M o true).2 = _
        rw [em]
theorem ref_pu (h : RM H X G M φ) (hi : HI H X) (h1 : o.ac < 4) (h2 : o.k = 5) : Refd (psR H X o.ac (opX X o.a)).1 X G M o (rzR (psR H X o.ac (opX X o.a)).2) := by
  unfold psR
  rcases h.target (room := true) hi h1 (by omega) with ⟨k1, k2⟩ | ⟨a, x, q, k1, k2, k3, k4, k5, k6, k7⟩
  · rw [if_neg k1]
    refine h.same2 (gvL_k (by omega)) ?_
    rw [show decide ((rzR (tgtX X o.ac (opX X o.a)).2).c ≠ 8) = true by show decide ((tgtX X o.ac (opX X o.a)).2 ≠ 8) = true; have := (tgtX_code X o.ac (opX X o.a)).1; simp; omega, k2]
  · rw [k1, if_pos rfl]
    by_cases c : (H.roots o.ac).length = 64
    · rw [if_pos c]
      refine h.same2 (gvL_k (by omega)) ?_
      show mDo M o true = _
      rw [k7]
      unfold mObj
      rw [if_pos h2, if_pos (by rw [h.roots _ h1, List.length_map]; exact c)]
    · rw [if_neg c]
      have em : mDo M o true = ({ M with roots := fup M.roots o.ac (M.roots o.ac ++ [φ a]) }, rzR 0) := by
        rw [k7]
        unfold mObj
        rw [if_pos h2, if_neg (by rw [h.roots _ h1, List.length_map]; exact c)]
      refine ⟨φ, ?_, ?_⟩
      · show RM _ _ _ (mDo M o true).1 φ
        rw [em, gvL_k (by omega), List.append_nil]
        refine ⟨h.mt.less (Nm.into (H := { H with roots := fup H.roots o.ac (H.roots o.ac ++ [a]) }) (P := Nm H X) (fun i b j1 j2 j3 => ?_) (fun i b j1 j2 j3 => .hand i b j1 j2 j3) (fun b y j1 j2 c j3 j4 => .ref b c y j1 j2 j3 j4)) (fun _ _ => rfl), fun i hi' => ?_, h.held, h.gen, h.iss, h.rg, h.al, h.st, h.rf, h.sf⟩
        · have j2' : b ∈ fup H.roots o.ac (H.roots o.ac ++ [a]) i := j2
          by_cases e : i = o.ac
          · rw [e, fup_self] at j2'
            rcases List.mem_append.1 j2' with j4 | j4
            · exact .root _ b h1 j4 j3
            · rw [List.mem_singleton.1 j4]; exact k2
          · rw [fup_ne _ _ e] at j2'
            exact .root i b j1 j2' j3
        · show fup M.roots o.ac _ i = (fup H.roots o.ac _ i).map φ
          by_cases e : i = o.ac
          · rw [e, fup_self, fup_self, h.roots _ h1]
            simp
          · rw [fup_ne _ _ e, fup_ne _ _ e]; exact h.roots i hi'
      · show (mDo M o true).2 = _
        rw [em]
theorem ref_po (h : RM H X G M φ) (hi : HI H X) (hn : XN X n) (hb : n ≤ 100000000000) (h1 : o.ac < 4) (h2 : o.k = 6) :
    Refd (ppR H X o.ac).1 (ppR H X o.ac).2.1 G M o (rzA (ppR H X o.ac).2.2.1 (ppR H X o.ac).2.2.2) := by
  have e : ∀ room, mDo M o room = mPop M o.ac := fun room => by
    unfold mDo
    rw [if_neg (by omega), if_neg (by omega), if_neg (by omega), if_pos h2]
  have hgl : (M.roots o.ac).getLast? = ((H.roots o.ac).getLast?).map φ := by rw [h.roots _ h1, List.getLast?_map]
  unfold ppR
  cases hg : (H.roots o.ac).getLast? with
  | none =>
    refine h.same2 (gvL_c (by rw [rzA_c]; simp)) ?_
    rw [e]
    unfold mPop
    rw [hgl, hg]
    rfl
  | some x =>
    dsimp only
    by_cases c : fullB (X.tb o.ac) = true
    · rw [if_pos c]
      refine h.same2 (gvL_c (by rw [rzA_c]; simp)) ?_
      rw [e]
      unfold mPop
      rw [hgl, hg]
      show (if mFull M o.ac = true then _ else _) = _
      rw [if_pos (by rw [h.full hn hb h1]; exact c)]
      rfl
    · rw [if_neg c]
      have hmem := List.mem_of_getLast? hg
      have hxn : Nm H X x := .root _ x h1 hmem (fun e => hi.rz _ h1 (by rw [← e]; exact hmem))
      have em : ∀ room, mDo M o room = (mGive { M with roots := fup M.roots o.ac (M.roots o.ac).dropLast } o.ac (φ x), rzA (hN (M.gen o.ac) o.ac (M.held o.ac).length) 0) := fun room => by
        rw [e]
        unfold mPop
        rw [hgl, hg]
        show (if mFull M o.ac = true then _ else _) = _
        rw [if_neg (by rw [h.full hn hb h1]; exact c)]
      have hR : RM { H with roots := fup H.roots o.ac (H.roots o.ac).dropLast, run := fup H.run o.ac true } (givX X o.ac x) (G ++ [hN (X.tb o.ac).gen o.ac (X.tb o.ac).ad.length]) (mGive { M with roots := fup M.roots o.ac (M.roots o.ac).dropLast } o.ac (φ x)) φ := by
        have hg1 := h.give h1 hxn (H' := H) rfl rfl
        have hrt : ∀ i b, b ∈ fup H.roots o.ac (H.roots o.ac).dropLast i → b ∈ H.roots i := by
          intro i b hb'
          by_cases e : i = o.ac
          · rw [e, fup_self] at hb'; rw [e]; exact List.dropLast_subset _ hb'
          · rw [fup_ne _ _ e] at hb'; exact hb'
        refine ⟨hg1.mt.less (Nm.into (H := { H with roots := fup H.roots o.ac (H.roots o.ac).dropLast, run := fup H.run o.ac true }) (P := Nm H (givX X o.ac x)) (fun i b j1 j2 j3 => .root i b j1 (hrt i b j2) j3) (fun i b j1 j2 j3 => .hand i b j1 j2 j3) (fun b y j1 j2 c j3 j4 => .ref b c y j1 j2 j3 j4)) (fun _ _ => rfl), fun i hi' => ?_, hg1.held, hg1.gen, hg1.iss, hg1.rg, hg1.al, hg1.st, hg1.rf, hg1.sf⟩
        show fup M.roots o.ac _ i = (fup H.roots o.ac _ i).map φ
        by_cases e : i = o.ac
        · rw [e, fup_self, fup_self, h.roots _ h1, List.map_dropLast]
        · rw [fup_ne _ _ e, fup_ne _ _ e]; exact h.roots i hi'
      refine ⟨φ, ?_, ?_⟩
      · rw [em, gvL_h h1 (.inr (.inr h2))]
        exact hR
      · rw [em, h.gen _ h1, h.held _ h1, List.length_map]
theorem ref_sf (h : RM H X G M φ) (hi : HI H X) (hn : XN X n) (hb : n ≤ 100000000000) (h1 : o.ac < 4) (h2 : o.k = 7) : Refd (safeH H o.ac) (spX X o.ac) G M o (rzR 0) := by
  have em : ∀ room, mDo M o room = (mSafe M o.ac, rzR 0) := fun room => by
    unfold mDo
    rw [if_neg (by omega), if_neg (by omega), if_neg (by omega), if_neg (by omega), if_pos h2]
  have hro : (safeH H o.ac).roots = H.roots ∧ (safeH H o.ac).objs = H.objs := by
    unfold safeH
    split <;> exact ⟨rfl, rfl⟩
  have hnn : ∀ a, Nm (safeH H o.ac) (spX X o.ac) a → Nm H X a := by
    refine Nm.into (P := Nm H X) (fun i a j1 j2 j3 => .root i a j1 (by rw [← hro.1]; exact j2) j3) (fun i a j1 j2 j3 => ?_) (fun b x j1 j2 a j3 j4 => .ref b a x j1 (by rw [← hro.2]; exact j2) j3 j4)
    rw [spX_tb] at j2
    split at j2
    · simp [retT] at j2
    · exact .hand i a j1 j2 j3
  refine ⟨φ, ?_, by rw [em]⟩
  rw [em, gvL_k (by omega), List.append_nil]
  refine ⟨h.mt.less hnn (fun a _ => by rw [hro.2]), fun i hi' => by rw [hro.1]; exact h.roots i hi', fun i hi' => ?_, fun i hi' => ?_, h.iss, h.rg.same rfl rfl rfl, h.al, h.st, h.rf, ?_⟩
  · show fup M.held o.ac [] i = _
    rw [spX_tb]
    by_cases e : i = o.ac
    · rw [e, fup_self, if_pos rfl]; rfl
    · rw [fup_ne _ _ e, if_neg e]; exact h.held i hi'
  · show fup M.gen o.ac (M.gen o.ac + 1) i = _
    rw [spX_tb]
    by_cases e : i = o.ac
    · have := hn.gen o.ac
      rw [e, fup_self, if_pos rfl, h.gen _ h1]
      unfold retT
      rw [if_pos (by omega)]
    · rw [fup_ne _ _ e, if_neg e]; exact h.gen i hi'
  · show M.sf + 1 = X.sf + 1
    rw [h.sf]
theorem ref_st (h : RM H X G M φ) (h1 : o.ac < 4) (h2 : o.k = 8) : Refd H X G M o (stX H X 4) := by
  refine h.same2 (gvL_k (by omega)) ?_
  unfold mDo
  rw [if_neg (by omega), if_neg (by omega), if_neg (by omega), if_neg (by omega), if_neg (by omega), if_pos h2]
  unfold mStat stX
  rw [h.st, h.rf, h.sf, h.al]
  congr 2
  · simp only [sumT]
    rw [h.held 0 (by omega), h.held 1 (by omega), h.held 2 (by omega), h.held 3 (by omega)]
    simp
  · simp only [sumT]
    rw [h.roots 0 (by omega), h.roots 1 (by omega), h.roots 2 (by omega), h.roots 3 (by omega)]
    simp
theorem RM.refd (h : RM H X G M φ) (hi : HI H X) (hn : XN X n) (hb : n ≤ 100000000000) (hob : OpB o) (hsz : ∀ a x, H.objs a = some x → x.refs.length + x.data.length ≤ 8192) (hs : DoS H X o H' X' z) : Refd H' X' G M o z := by
  cases hs with
  | bad h1 =>
    refine h.same2 (gvL_ac (by omega)) ?_
    unfold mDo
    rw [if_pos h1]
  | coll H' h1 h2 h3 =>
    refine (h.step5 hi h3).same2 (gvL_ac (by omega)) ?_
    unfold mDo
    rw [if_neg (by omega), if_pos h1]
  | al h1 h2 => exact ref_alloc h hi hn hb hob h1 h2
  | rf h1 h2 => exact ref_rf h hi hn hb hob hsz h1 h2
  | wf h1 h2 => exact ref_wf h hi hob hsz h1 h2
  | rd h1 h2 => exact ref_rd h hi hob hsz h1 h2
  | wd h1 h2 => exact ref_wd h hi hob hsz h1 h2
  | pu h1 h2 => exact ref_pu h hi h1 h2
  | po h1 h2 => exact ref_po h hi hn hb h1 h2
  | sf h1 h2 => exact ref_sf h hi hn hb h1 h2
  | st h1 h2 => exact ref_st h h1 h2
  | kb h1 h2 =>
    refine h.same2 (gvL_k (by omega)) ?_
    unfold mDo
    rw [if_neg (by omega), if_neg (by omega), if_neg (by omega), if_neg (by omega), if_neg (by omega), if_neg (by omega), if_pos h2]
end
end Go.Proofs.Qxb6500889aDoor
