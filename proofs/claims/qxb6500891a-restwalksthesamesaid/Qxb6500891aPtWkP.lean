/- Walk: Next at the end, Peek. -/
import Derived.Test.Qxb6500891aPtWkN
namespace Go.Proofs.Qxb6500891a
open Go.RowKit
set_option linter.unusedSimpArgs false
set_option linter.unusedVariables false

theorem WOk.tkoff {cs : List Value} {S : WS} (h : WOk cs S) (h9 : S.lv.length ≤ 9) : WOk (cs.set 8094 (.bool false)) { S with tk := false } := by
  have hl := h.len
  have hk : ∀ i, i ≠ 8094 → (cs.set 8094 (.bool false))[i]? = cs[i]? := fun i h1 => List.getElem?_set_ne (by omega)
  refine ⟨⟨by simp [hl], by repeat (first | exact h.one | refine one_set ?_ rfl)⟩, fun k L hL => ?_, ?_, ?_, ?_, ?_, ?_⟩
  · have hL' : S.lv[k]? = some L := hL
    have hlt := (List.getElem?_eq_some_iff.1 hL').1
    exact (h.lv k L hL').keep (fun i h1 h2 => hk i (by omega))
  · rw [hk _ (by omega)]; exact h.dp
  · rw [hk _ (by omega)]; exact h.lk
  · rw [hk _ (by omega)]; exact h.st
  · rw [get_set (by omega)]
  · rw [hk _ (by omega)]; exact h.tn
set_option maxRecDepth 1000000 in
set_option maxHeartbeats 4000000 in
theorem next_nil (g : Nat) (t : TypeId) (cs : List Value) (S : WS) (w : World) (hb : Blk w g t cs) (hk : WOk cs S) (hv : S.lv = []) :
    Calls Try.prog 37 #[.pointer (some ⟨g, 0, none⟩)] w fun e w' => NextP g t (compC [] 0 0 false false) false { S with tk := false } w e w' := by
  have hg0 := hb.lt
  obtain ⟨q, hq⟩ : ∃ q, w.heap.size = q := ⟨_, rfl⟩
  have hqg : q ≠ g := by omega
  have hqw : w.heap.size ≤ q := by omega
  obtain ⟨w1, hw1⟩ : ∃ w1, w.alloc (.cells (compC [] 0 0 false false).toArray 40) = w1 := ⟨_, rfl⟩
  have HN1 : Hid (Nb w g t cs q (compC [] 0 0 false false) w1) := hid (by
    have h1 := Blk.new w (compC [] 0 0 false false) 40
    rw [hq] at h1
    subst hw1
    exact ⟨(Upd.refl g w).alloc _, hb.alloc _, h1⟩)
  have c1 : w1.cell? ⟨g, 8091, none⟩ = some (.int .i64 0) := by
    have := (hk.cells HN1.out.bg).1
    rw [hv] at this
    exact this
  have c2 := (hk.cells HN1.out.bg).2.2.2.1
  have f2 := HN1.out.bg.frozen 8094
  have HK := hid (hk.tkoff (by rw [hv]; simp))
  have I0 : Hid ((Try.prog.info? 40).map (·.size) = some (compC [] 0 0 false false).length) := hid info_comp
  clear hb hk
  go_enter Try.func37, Try.ntmps37
  go_upto_region 1 with fail
  simp only [zero_comp, hw1]
  clear hw1
  go_upto_region 3 with fail
  have HN2 := hid (HN1.out.set hqg 8094 (.bool false))
  generalize w1.setCell ⟨g, 8094, none⟩ (.bool false) = w2 at HN2 ⊢
  clear c1 c2 f2 HN1
  go_wp2_with (refine wpList_store_blk rfl 40 _ _ rfl q rfl (compC [] 0 0 false false) rfl HN2.out.bq rfl I0.out (one_comp _ _ _ _ _) ?_; intro w9 HB9 HU9)
  have HN9 := HN2.out.store hqg hqw HU9.out HB9.out
  exact bodyPost_ret (results_cell_tmp Try.results37 rfl (by rw [compC_len (by simp)]; exact aggComp) HB9.out) rfl ⟨rfl, HN9.upd, _, HN9.bg, HK.out⟩

/-- Nothing below is touched; a component in block q. -/
structure Kb (w : World) (g : Nat) (t : TypeId) (cs : List Value) (q : Nat) (C : List Value) (wr : World) : Prop where
  bel : Below w.heap.size w wr
  bg : Blk wr g t cs
  bq : Blk wr q 40 C
theorem Kb.below {w wr w' : World} {g q : Nat} {t : TypeId} {cs C : List Value} (h : Kb w g t cs q C wr) (hb : Below wr.heap.size wr w') : Kb w g t cs q C w' := ⟨h.bel.trans (hb.mono h.bel.size), h.bg.below hb, h.bq.below hb⟩
theorem Kb.setq {w wr : World} {g q : Nat} {t : TypeId} {cs C : List Value} (h : Kb w g t cs q C wr) (hne : q ≠ g) (hq : w.heap.size ≤ q) (i : Nat) (v : Value) : Kb w g t cs q (C.set i v) (wr.setCell ⟨q, i, none⟩ v) :=
  ⟨h.bel.trans (((Upd.refl q wr).setCell rfl v).below hq h.bel.size), h.bg.setOther hne v, h.bq.set i v⟩
theorem Kb.store {w wr w' : World} {g q : Nat} {t : TypeId} {cs C D : List Value} (h : Kb w g t cs q C wr) (hne : q ≠ g) (hq : w.heap.size ≤ q) (hu : Upd q wr w') (hd : Blk w' q 40 D) : Kb w g t cs q D w' :=
  ⟨h.bel.trans (hu.below hq h.bel.size), h.bg.upd hu hne.symm, hd⟩
set_option maxRecDepth 1000000 in
set_option maxHeartbeats 4000000 in
theorem peek_nil (g : Nat) (t : TypeId) (cs : List Value) (S : WS) (w : World) (hb : Blk w g t cs) (hk : WOk cs S) (hv : S.lv = []) :
    Calls Try.prog 36 #[.pointer (some ⟨g, 0, none⟩)] w fun e w' => e = .returned (.tuple #[.agg (compC [] 0 0 false false).toArray, .bool false]) ∧ Below w.heap.size w w' := by
  have hg0 := hb.lt
  obtain ⟨q, hq⟩ : ∃ q, w.heap.size = q := ⟨_, rfl⟩
  have hqg : q ≠ g := by omega
  have hqw : w.heap.size ≤ q := by omega
  obtain ⟨w1, hw1⟩ : ∃ w1, w.alloc (.cells (compC [] 0 0 false false).toArray 40) = w1 := ⟨_, rfl⟩
  have HN1 : Hid (Kb w g t cs q (compC [] 0 0 false false) w1) := hid (by
    have h1 := Blk.new w (compC [] 0 0 false false) 40
    rw [hq] at h1
    subst hw1
    exact ⟨nbel w _, hb.alloc _, h1⟩)
  have c1 : w1.cell? ⟨g, 8091, none⟩ = some (.int .i64 0) := by
    have := (hk.cells HN1.out.bg).1
    rw [hv] at this
    exact this
  have I0 : Hid ((Try.prog.info? 40).map (·.size) = some (compC [] 0 0 false false).length) := hid info_comp
  clear hb hk
  go_enter Try.func36, Try.ntmps36
  go_upto_region 1 with fail
  simp only [zero_comp, hw1]
  clear hw1
  go_wp2_with (refine wpList_store_blk rfl 40 _ _ rfl q rfl (compC [] 0 0 false false) rfl HN1.out.bq rfl I0.out (one_comp _ _ _ _ _) ?_; intro w9 HB9 HU9)
  have HN9 := HN1.out.store hqg hqw HU9.out HB9.out
  exact bodyPost_ret (results_cell_tmp Try.results36 rfl (by rw [compC_len (by simp)]; exact aggComp) HB9.out) rfl ⟨rfl, HN9.bel⟩
set_option maxRecDepth 1000000 in
set_option maxHeartbeats 4000000 in
theorem peek_walk (g : Nat) (t : TypeId) (cs : List Value) (S : WS) (w : World) (hb : Blk w g t cs) (hk : WOk cs S) (ls : List Lvl) (L : Lvl) (s : Sp) (hv : S.lv = ls ++ [L]) (hs : L.sp[L.nx]? = some s) (h9 : S.lv.length ≤ 9) :
    Calls Try.prog 36 #[.pointer (some ⟨g, 0, none⟩)] w fun e w' => e = .returned (.tuple #[.agg (cOf ls L s).toArray, .bool true]) ∧ Below w.heap.size w w' := by
  obtain ⟨d, hd⟩ : ∃ d, ls.length = d := ⟨_, rfl⟩
  have hdl : S.lv.length = d + 1 := by rw [hv]; simp [hd]
  have hL : S.lv[d]? = some L := by rw [hv, List.getElem?_append_right (by omega), hd]; simp
  have hlo := hk.lv d L hL
  have h128 := hlo.path.n128
  have hlt := hlo.lt
  have hso := hlo.path.cp.ok s (List.mem_of_getElem? hs)
  have hg0 := hb.lt
  obtain ⟨q, hq⟩ : ∃ q, w.heap.size = q := ⟨_, rfl⟩
  have hqg : q ≠ g := by omega
  have hqw : w.heap.size ≤ q := by omega
  obtain ⟨w1, hw1⟩ : ∃ w1, w.alloc (.cells (compC [] 0 0 false false).toArray 40) = w1 := ⟨_, rfl⟩
  have HN1 : Hid (Kb w g t cs q (compC [] 0 0 false false) w1) := hid (by
    have h1 := Blk.new w (compC [] 0 0 false false) 40
    rw [hq] at h1
    subst hw1
    exact ⟨nbel w _, hb.alloc _, h1⟩)
  have c1 : ∀ nn, (w1.drewN nn).cell? ⟨g, 8091, none⟩ = some (.int .i64 ((d : Int) + 1)) := fun nn => by
    have := (hk.cells (HN1.out.bg.drewN nn)).1
    rw [hdl] at this
    simpa using this
  have c1' : w1.cell? ⟨g, 8091, none⟩ = some (.int .i64 ((d : Int) + 1)) := c1 0
  have HK := hid hk
  have HLo := hid hlo
  have HSo := hid hso
  have Hs := hid hs
  have Hv := hid hv
  have Hd := hid hd
  have i9 : (d : Int) < 9 := by omega
  have dz : ((d : Int) + 1 == 0) = false := by simp; omega
  clear hb hk hlo hso hs hv hL hd
  go_enter Try.func36, Try.ntmps36
  go_upto_region 1 with fail
  simp only [zero_comp, hw1]
  clear hw1
  go_upto_region 3 with fail
  go_quiet (fail)
  have HN2 := hid (HN1.out.below (Drew.below ⟨nq, rfl⟩ _))
  generalize w1.drewN nq = w2 at HN2 ⊢
  clear c1 c1' HN1 dz
  obtain ⟨X, W, hT, hI⟩ := class_mk (Kb w g t cs q (compC [] 0 0 false false))
  have HCl : Hid (∀ x w', Below (W x).heap.size (W x) w' → ∃ y, w' = W y) := hid (fun x w' hb => hI _ ((hT x).below hb))
  have H0 : Hid (∃ x, w2.drew = W x) := hid (hI _ (HN2.out.below (Drew.below ⟨1, rfl⟩ _)))
  have hne : Nonempty X := ⟨H0.out.choose⟩
  have c2 : ∀ x, (W x).cell? ⟨g, d * 899 + 897, none⟩ = some (.int .i64 (L.nx : Int)) := fun x => by rw [(hT x).bg.cell]; exact HLo.out.nx
  have HAt := hid (fun x => at_walk g (d * 899) t cs L.l L.sp (W x) (hT x).bg HLo.out.path L.nx s Hs.out)
  have hsub : (sub L.l s.a s.b).length ≤ 32 := by rw [sub_len HSo.out.le]; exact HSo.out.sh
  obtain ⟨nm, hnm⟩ : ∃ nm, sub L.l s.a s.b = nm := ⟨_, rfl⟩
  rw [hnm] at HAt hsub
  obtain ⟨H, hH⟩ : ∃ H, hashL 2166136261 nm = H := ⟨_, rfl⟩
  rw [hH] at HAt
  obtain ⟨cl, hcl⟩ : ∃ cl, s.cls = cl := ⟨_, rfl⟩
  rw [hcl] at HAt
  obtain ⟨sl, hsl⟩ : ∃ sl, s.sl = sl := ⟨_, rfl⟩
  rw [hsl] at HAt
  obtain ⟨la, hla⟩ : ∃ la, decide (L.nx + 1 = L.sp.length) = la := ⟨_, rfl⟩
  rw [hla] at HAt
  obtain ⟨nd0, hnd0⟩ : ∃ nd0, L.nd = nd0 := ⟨_, rfl⟩
  have HC : Hid (∀ b, (compC nm cl H (if la then sl || nd0 else sl) b) = compC (sub L.l s.a s.b) s.cls (hashL 2166136261 (sub L.l s.a s.b)) (ndOf L s) b) := hid (fun b => by
    rw [hnm, hH, hcl]
    unfold ndOf
    rw [hsl, hnd0, ← hla]
    by_cases h : L.nx + 1 = L.sp.length <;> simp [h])
  have Hla := hid hla
  have Hnd0 := hid hnd0
  have Hsl := hid hsl
  unfold compV at HAt
  obtain ⟨C, hC⟩ : ∃ C, compC nm cl H sl la = C := ⟨_, rfl⟩
  rw [hC] at HAt
  have hC37 : C.length = 37 := by rw [← hC]; exact compC_len hsub _ _ _ _
  have HOn : Hid (∀ v ∈ C, v.oneCell' = true) := hid (by rw [← hC]; exact one_comp _ _ _ _ _)
  have I2 : Hid ((Try.prog.info? 40).map (·.size) = some C.length) := hid (by rw [hC37]; exact info_comp)
  have L2 : Hid ((compC [] 0 0 false false).length = C.length) := hid (by rw [hC37]; rfl)
  have HTT := hid hT
  have HCC := hid hC
  clear hT hI hnm hH hcl hsl hla hnd0 hC
  go_upto_region 4 with fail
  refine wp_region_class_lastT W rfl (by kernel_rfl) (by kernel_rfl) (by kernel_rfl) H0.out ?_
  dsimp only [List.dropLast, List.getLast]
  repeat (go_big_quiet_step ((go_at_call 15; exact Calls.class_of HCl.out (HAt.out _))))
  refine wpQuiet_nil ?_
  intro z
  have HN3 := hid (HTT.out z)
  generalize W z = w3 at HN3 ⊢
  clear c2 HAt HCl H0 HTT HN2
  go_upto_region 5 with (refine wpList_store_blk rfl 40 _ _ rfl q rfl C rfl HN3.out.bq L2.out I2.out HOn.out ?_; intro w4 HB4 HU4)
  have HN4 := hid (HN3.out.store hqg hqw HU4.out HB4.out)
  clear HB4 HU4 HN3
  have c5 : w4.cell? ⟨q, 36, none⟩ = some (.bool la) := by rw [HN4.out.bq.cell, ← HCC.out]; exact comp_36 hsub _ _ _ _
  cases la with
  | false =>
    as_aux_lemma =>
    have HDE : Hid (cOf ls L s = C) := hid (by
      have := HC.out false
      unfold cOf
      rw [Hla.out, Bool.false_and, ← this, if_neg Bool.false_ne_true, HCC.out])
    go_wp2_with (first
      | (refine wpList_load_blk rfl 40 _ rfl q rfl C HN4.out.bq _ Try.underlying40 rfl I2.out ?_)
      | (refine wpList_store_blk rfl 40 _ _ rfl q rfl C rfl HN4.out.bq rfl I2.out HOn.out ?_; intro w9 HB9 HU9))
    have HN9 := HN4.out.store hqg hqw HU9.out HB9.out
    exact bodyPost_ret (results_cell_tmp Try.results36 rfl (by rw [hC37]; exact aggComp) HB9.out) rfl ⟨by rw [HDE.out]; rfl, by first | exact HN9.bel | (have h := HN9.bel; rw [hq] at h; exact h)⟩
  | true =>
    have c10 : w4.cell? ⟨q, 35, none⟩ = some (.bool sl) := by rw [HN4.out.bq.cell, ← HCC.out]; exact comp_35 hsub _ _ _ _
    have c11 : w4.cell? ⟨g, d * 899 + 898, none⟩ = some (.bool nd0) := by rw [HN4.out.bg.cell, ← Hnd0.out]; exact HLo.out.nd
    have c12 : w4.cell? ⟨g, 8091, none⟩ = some (.int .i64 ((d : Int) + 1)) := by rw [HN4.out.bg.cell, HK.out.dp, hdl]; simp
    have f10 := HN4.out.bq.frozen 35
    have f11 := HN4.out.bq.frozen 36
    obtain ⟨lb, hlb⟩ : ∃ lb, ((d : Int) + 1 == 1) = lb := ⟨_, rfl⟩
    have hlb2 : ((d : Int) == 0) = lb := by rw [← hlb, Bool.eq_iff_iff, beq_iff_eq, beq_iff_eq]; omega
    have Hlb : Hid (ls.isEmpty = lb) := hid (by rw [← hlb2, ← Hd.out]; cases ls <;> simp; omega)
    cases sl with
    | true =>
      as_aux_lemma =>
      obtain ⟨x5, hx5⟩ : ∃ x5, (true || nd0) = x5 := ⟨_, rfl⟩
      obtain ⟨D, hD⟩ : ∃ D, compC nm cl H x5 lb = D := ⟨_, rfl⟩
      have hD37 : D.length = 37 := by rw [← hD]; exact compC_len hsub _ _ _ _
      have HDo : Hid (∀ v ∈ D, v.oneCell' = true) := hid (by rw [← hD]; exact one_comp _ _ _ _ _)
      have ID : Hid ((Try.prog.info? 40).map (·.size) = some D.length) := hid (by rw [hD37]; exact info_comp)
      have HDE : Hid (cOf ls L s = D) := hid (by
        have := HC.out lb
        unfold cOf
        rw [Hla.out, Bool.true_and, Hlb.out, ← this, if_pos rfl, hx5, hD])
      have HN6 : Hid (Kb w g t cs q D ((w4.setCell ⟨q, 35, none⟩ (.bool true)).setCell ⟨q, 36, none⟩ (.bool lb))) := hid (by
        have := (HN4.out.setq hqg hqw 35 (.bool true)).setq hqg hqw 36 (.bool lb)
        rw [← HCC.out, comp_s35 hsub, comp_s36 hsub] at this
        rw [← hD, show x5 = true from hx5.symm]
        exact this)
      clear hx5 hD
      go_upto_region 8 with fail
      generalize (w4.setCell ⟨q, 35, none⟩ (.bool true)).setCell ⟨q, 36, none⟩ (.bool lb) = w6 at HN6 ⊢
      clear c5 c10 c11 c12 f10 f11 HN4 hlb hlb2
      go_wp2_with (first
        | (refine wpList_load_blk rfl 40 _ rfl q rfl D HN6.out.bq _ Try.underlying40 rfl ID.out ?_)
        | (refine wpList_store_blk rfl 40 _ _ rfl q rfl D rfl HN6.out.bq rfl ID.out HDo.out ?_; intro w9 HB9 HU9))
      have HN9 := HN6.out.store hqg hqw HU9.out HB9.out
      exact bodyPost_ret (results_cell_tmp Try.results36 rfl (by rw [hD37]; exact aggComp) HB9.out) rfl ⟨by rw [HDE.out]; rfl, by first | exact HN9.bel | (have h := HN9.bel; rw [hq] at h; exact h)⟩
    | false =>
      as_aux_lemma =>
      obtain ⟨x5, hx5⟩ : ∃ x5, (false || nd0) = x5 := ⟨_, rfl⟩
      obtain ⟨D, hD⟩ : ∃ D, compC nm cl H x5 lb = D := ⟨_, rfl⟩
      have hD37 : D.length = 37 := by rw [← hD]; exact compC_len hsub _ _ _ _
      have HDo : Hid (∀ v ∈ D, v.oneCell' = true) := hid (by rw [← hD]; exact one_comp _ _ _ _ _)
      have ID : Hid ((Try.prog.info? 40).map (·.size) = some D.length) := hid (by rw [hD37]; exact info_comp)
      have HDE : Hid (cOf ls L s = D) := hid (by
        have := HC.out lb
        unfold cOf
        rw [Hla.out, Bool.true_and, Hlb.out, ← this, if_pos rfl, hx5, hD])
      have HN6 : Hid (Kb w g t cs q D ((w4.setCell ⟨q, 35, none⟩ (.bool nd0)).setCell ⟨q, 36, none⟩ (.bool lb))) := hid (by
        have := (HN4.out.setq hqg hqw 35 (.bool nd0)).setq hqg hqw 36 (.bool lb)
        rw [← HCC.out, comp_s35 hsub, comp_s36 hsub] at this
        rw [← hD, show x5 = nd0 from hx5.symm]
        exact this)
      clear hx5 hD
      go_upto_region 8 with fail
      generalize (w4.setCell ⟨q, 35, none⟩ (.bool nd0)).setCell ⟨q, 36, none⟩ (.bool lb) = w6 at HN6 ⊢
      clear c5 c10 c11 c12 f10 f11 HN4 hlb hlb2
      go_wp2_with (first
        | (refine wpList_load_blk rfl 40 _ rfl q rfl D HN6.out.bq _ Try.underlying40 rfl ID.out ?_)
        | (refine wpList_store_blk rfl 40 _ _ rfl q rfl D rfl HN6.out.bq rfl ID.out HDo.out ?_; intro w9 HB9 HU9))
      have HN9 := HN6.out.store hqg hqw HU9.out HB9.out
      exact bodyPost_ret (results_cell_tmp Try.results36 rfl (by rw [hD37]; exact aggComp) HB9.out) rfl ⟨by rw [HDE.out]; rfl, by first | exact HN9.bel | (have h := HN9.bel; rw [hq] at h; exact h)⟩
end Go.Proofs.Qxb6500891a
