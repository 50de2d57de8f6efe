/- Walk: Next. -/
import Derived.Test.Qxb6500891aPtWk
import Derived.Test.Qxb6500891aMid
import Derived.Test.Qxb6500891aLastT
namespace Go.Proofs.Qxb6500891a
open Go.RowKit
set_option linter.unusedSimpArgs false
set_option linter.unusedVariables false

def ndOf (L : Lvl) (s : Sp) : Bool := if L.nx + 1 = L.sp.length then s.sl || L.nd else s.sl
def lvOf (ls : List Lvl) (L : Lvl) : List Lvl := if L.nx + 1 = L.sp.length then ls else ls ++ [{ L with nx := L.nx + 1 }]
def cOf (ls : List Lvl) (L : Lvl) (s : Sp) : List Value := compC (sub L.l s.a s.b) s.cls (hashL 2166136261 (sub L.l s.a s.b)) (ndOf L s) (decide (L.nx + 1 = L.sp.length) && ls.isEmpty)
def nextS (S : WS) (ls : List Lvl) (L : Lvl) (s : Sp) : WS := { S with lv := lvOf ls L, steps := S.steps + 1, tk := true, tn := ndOf L s }
theorem comp_35 {nm : List Nat} (h : nm.length ≤ 32) (c hh : Int) (a b : Bool) : (compC nm c hh a b)[35]? = some (.bool a) := by
  unfold compC
  rw [List.getElem?_append_right (by rw [nameC_len h]; omega), nameC_len h]
  rfl
theorem comp_36 {nm : List Nat} (h : nm.length ≤ 32) (c hh : Int) (a b : Bool) : (compC nm c hh a b)[36]? = some (.bool b) := by
  unfold compC
  rw [List.getElem?_append_right (by rw [nameC_len h]; omega), nameC_len h]
  rfl
theorem comp_s35 {nm : List Nat} (h : nm.length ≤ 32) (c hh : Int) (a b x : Bool) : (compC nm c hh a b).set 35 (.bool x) = compC nm c hh x b := by
  unfold compC
  rw [List.set_append_right _ _ (by rw [nameC_len h]; omega), nameC_len h]
  rfl
theorem comp_s36 {nm : List Nat} (h : nm.length ≤ 32) (c hh : Int) (a b x : Bool) : (compC nm c hh a b).set 36 (.bool x) = compC nm c hh a x := by
  unfold compC
  rw [List.set_append_right _ _ (by rw [nameC_len h]; omega), nameC_len h]
  rfl
theorem Upd.other {g q : Nat} {a w w' : World} (h : Upd g a w) (hu : Upd q w w') (hq : a.heap.size ≤ q) : Upd g a w' :=
  ⟨hu.os.trans h.os, hu.tape.trans h.tape, hu.output.trans h.output, Nat.le_trans h.size hu.size, fun k hk hg => (hu.block k (Nat.lt_of_lt_of_le hk h.size) (by omega)).trans (h.block k hk hg)⟩
structure Nb (w : World) (g : Nat) (t : TypeId) (cs : List Value) (q : Nat) (C : List Value) (wr : World) : Prop where
  upd : Upd g w wr
  bg : Blk wr g t cs
  bq : Blk wr q 40 C
theorem Nb.below {w wr w' : World} {g q : Nat} {t : TypeId} {cs C : List Value} (h : Nb w g t cs q C wr) (hb : Below wr.heap.size wr w') : Nb w g t cs q C w' := ⟨h.upd.ofBelow hb, h.bg.below hb, h.bq.below hb⟩
theorem Nb.set {w wr : World} {g q : Nat} {t : TypeId} {cs C : List Value} (h : Nb w g t cs q C wr) (hne : q ≠ g) (i : Nat) (v : Value) : Nb w g t (cs.set i v) q C (wr.setCell ⟨g, i, none⟩ v) := ⟨h.upd.setCell rfl v, h.bg.set i v, h.bq.setOther (fun e => hne e.symm) v⟩
theorem Nb.setq {w wr : World} {g q : Nat} {t : TypeId} {cs C : List Value} (h : Nb w g t cs q C wr) (hne : q ≠ g) (hq : w.heap.size ≤ q) (i : Nat) (v : Value) : Nb w g t cs q (C.set i v) (wr.setCell ⟨q, i, none⟩ v) :=
  ⟨h.upd.other ((Upd.refl q wr).setCell rfl v) hq, h.bg.setOther hne v, h.bq.set i v⟩
theorem Nb.store {w wr w' : World} {g q : Nat} {t : TypeId} {cs C D : List Value} (h : Nb w g t cs q C wr) (hne : q ≠ g) (hq : w.heap.size ≤ q) (hu : Upd q wr w') (hd : Blk w' q 40 D) : Nb w g t cs q D w' :=
  ⟨h.upd.other hu hq, h.bg.upd hu hne.symm, hd⟩
/-- The cells ahead of Next's last writes. -/
structure Rdy (ds : List Value) (S : WS) (l0 : List Lvl) : Prop where
  len0 : ds.length = 8096 ∧ ∀ v ∈ ds, v.oneCell' = true
  lv : ∀ k L, l0[k]? = some L → LvOk ds (k * 899) L
  dp : ds[8091]? = some (.int .i64 (l0.length : Int))
  lk : ds[8092]? = some (.int .i64 (S.links : Int))
  st : ds[8093]? = some (.int .i64 (S.steps : Int))
  tk : ds[8094]? = some (.bool S.tk)
  tn : ds[8095]? = some (.bool S.tn)
  d9 : l0.length ≤ 9
theorem Rdy.len {ds : List Value} {S : WS} {l0 : List Lvl} (h : Rdy ds S l0) : ds.length = 8096 := h.len0.1
theorem Rdy.one {ds : List Value} {S : WS} {l0 : List Lvl} (h : Rdy ds S l0) : ∀ v ∈ ds, v.oneCell' = true := h.len0.2
theorem get_set {l : List Value} {i : Nat} {v : Value} (h : i < l.length) : (l.set i v)[i]? = some v := List.getElem?_set_self h
theorem Rdy.fin {ds : List Value} {S : WS} {lv : List Lvl} (h : Rdy ds S lv) (x : Bool) : WOk (((ds.set 8093 (.int .i64 ((S.steps : Int) + 1))).set 8094 (.bool true)).set 8095 (.bool x)) { S with lv := lv, steps := S.steps + 1, tk := true, tn := x } := by
  have hl := h.len
  have hk : ∀ i, i ≠ 8093 → i ≠ 8094 → i ≠ 8095 → (((ds.set 8093 (.int .i64 ((S.steps : Int) + 1))).set 8094 (.bool true)).set 8095 (.bool x))[i]? = ds[i]? := fun i h1 h2 h3 => by
    rw [List.getElem?_set_ne (by omega), List.getElem?_set_ne (by omega), List.getElem?_set_ne (by omega)]
  refine ⟨⟨by simp [hl], by repeat (first | exact h.one | refine one_set ?_ rfl)⟩, fun k L hL => ?_, ?_, ?_, ?_, ?_, ?_⟩
  · have h9 := h.d9
    have hL' : lv[k]? = some L := hL
    have hlt := (List.getElem?_eq_some_iff.1 hL').1
    exact (h.lv k L hL').keep (fun i h1 h2 => hk i (by omega) (by omega) (by omega))
  · rw [hk _ (by omega) (by omega) (by omega)]; exact h.dp
  · rw [hk _ (by omega) (by omega) (by omega)]; exact h.lk
  · rw [List.getElem?_set_ne (by omega), List.getElem?_set_ne (by omega), get_set (by omega)]
    simp
  · rw [List.getElem?_set_ne (by omega), get_set (by simp; omega)]
  · rw [get_set (by simp; omega)]
theorem rdy_on {cs : List Value} {S : WS} {ls : List Lvl} {L : Lvl} {d : Nat} (hk : WOk cs S) (hv : S.lv = ls ++ [L]) (hd : ls.length = d) (h9 : S.lv.length ≤ 9) (hla : L.nx + 1 < L.sp.length) :
    Rdy (cs.set (d * 899 + 897) (.int .i64 ((L.nx : Int) + 1))) S (ls ++ [{ L with nx := L.nx + 1 }]) := by
  have hl := hk.len
  have hd9 : d + 1 ≤ 9 := by rw [hv] at h9; simp at h9; omega
  have hL : S.lv[d]? = some L := by rw [hv, List.getElem?_append_right (by omega), hd]; simp
  have hlo := hk.lv d L hL
  have hkk : ∀ i, i ≠ d * 899 + 897 → (cs.set (d * 899 + 897) (.int .i64 ((L.nx : Int) + 1)))[i]? = cs[i]? := fun i h1 => List.getElem?_set_ne (by omega)
  refine ⟨⟨by simp [hl], by repeat (first | exact hk.one | refine one_set ?_ rfl)⟩, fun k M hM => ?_, ?_, ?_, ?_, ?_, ?_, ?_⟩
  · by_cases hkd : k < d
    · rw [List.getElem?_append_left (by omega)] at hM
      have hM' : S.lv[k]? = some M := by rw [hv, List.getElem?_append_left (by omega)]; exact hM
      exact (hk.lv k M hM').keep (fun i h1 h2 => hkk i (by omega))
    · have hlt := (List.getElem?_eq_some_iff.1 hM).1
      simp at hlt
      have hkd : k = d := by omega
      subst hkd
      rw [List.getElem?_append_right (by omega), hd] at hM
      simp at hM
      subst hM
      refine ⟨hlo.path.keep (fun i h1 h2 => hkk i (by omega)), ?_, ?_, hla⟩
      · rw [get_set (by omega)]; simp
      · rw [hkk _ (by omega)]; exact hlo.nd
  · rw [hkk _ (by omega), hk.dp, hv]; simp
  · rw [hkk _ (by omega)]; exact hk.lk
  · rw [hkk _ (by omega)]; exact hk.st
  · rw [hkk _ (by omega)]; exact hk.tk
  · rw [hkk _ (by omega)]; exact hk.tn
  · simp; omega
theorem rdy_off {cs : List Value} {S : WS} {ls : List Lvl} {L : Lvl} {d : Nat} (hk : WOk cs S) (hv : S.lv = ls ++ [L]) (hd : ls.length = d) (h9 : S.lv.length ≤ 9) :
    Rdy ((cs.set (d * 899 + 897) (.int .i64 ((L.nx : Int) + 1))).set 8091 (.int .i64 (d : Int))) S ls := by
  have hl := hk.len
  have hd9 : d + 1 ≤ 9 := by rw [hv] at h9; simp at h9; omega
  have hkk : ∀ i, i ≠ d * 899 + 897 → i ≠ 8091 → ((cs.set (d * 899 + 897) (.int .i64 ((L.nx : Int) + 1))).set 8091 (.int .i64 (d : Int)))[i]? = cs[i]? := fun i h1 h2 => by rw [List.getElem?_set_ne (by omega), List.getElem?_set_ne (by omega)]
  refine ⟨⟨by simp [hl], by repeat (first | exact hk.one | refine one_set ?_ rfl)⟩, fun k M hM => ?_, ?_, ?_, ?_, ?_, ?_, by omega⟩
  · have hlt := (List.getElem?_eq_some_iff.1 hM).1
    have hM' : S.lv[k]? = some M := by rw [hv, List.getElem?_append_left (by omega)]; exact hM
    exact (hk.lv k M hM').keep (fun i h1 h2 => hkk i (by omega) (by omega))
  · rw [get_set (by simp; omega), hd]
  · rw [hkk _ (by omega) (by omega)]; exact hk.lk
  · rw [hkk _ (by omega) (by omega)]; exact hk.st
  · rw [hkk _ (by omega) (by omega)]; exact hk.tk
  · rw [hkk _ (by omega) (by omega)]; exact hk.tn
/-- What Next answers and leaves. -/
structure NextP (g : Nat) (t : TypeId) (C : List Value) (b : Bool) (S : WS) (w : World) (e : Ending) (w' : World) : Prop where
  ret : e = .returned (.tuple #[.agg C.toArray, .bool b])
  upd : Upd g w w'
  blk : ∃ ds, Blk w' g t ds ∧ WOk ds S
set_option maxRecDepth 1000000 in
set_option maxHeartbeats 4000000 in
theorem next_walk (g : Nat) (t : TypeId) (cs : List Value) (S : WS) (w : World) (hb : Blk w g t cs) (hk : WOk cs S) (ls : List Lvl) (L : Lvl) (s : Sp) (hv : S.lv = ls ++ [L]) (hs : L.sp[L.nx]? = some s) (h9 : S.lv.length ≤ 9) (hst : S.steps ≤ 1152) :
    Calls Try.prog 37 #[.pointer (some ⟨g, 0, none⟩)] w fun e w' => NextP g t (cOf ls L s) true (nextS S ls L s) w e w' := by
  obtain ⟨d, hd⟩ : ∃ d, ls.length = d := ⟨_, rfl⟩
  have hdl : S.lv.length = d + 1 := by rw [hv]; simp [hd]
  have hL : S.lv[d]? = some L := by rw [hv, List.getElem?_append_right (by omega), hd]; simp
  have hlo := hk.lv d L hL
  have h128 := hlo.path.n128
  have hlt := hlo.lt
  have hso := hlo.path.cp.ok s (List.mem_of_getElem? hs)
  have hg0 := hb.lt
  obtain ⟨q, hq⟩ : ∃ q, w.heap.size = q := ⟨_, rfl⟩
  have hqg : q ≠ g := by omega
  have hqw : w.heap.size ≤ q := by omega
  obtain ⟨w1, hw1⟩ : ∃ w1, w.alloc (.cells (compC [] 0 0 false false).toArray 40) = w1 := ⟨_, rfl⟩
  have HN1 : Hid (Nb w g t cs q (compC [] 0 0 false false) w1) := hid (by
    have h1 := Blk.new w (compC [] 0 0 false false) 40
    rw [hq] at h1
    subst hw1
    exact ⟨(Upd.refl g w).alloc _, hb.alloc _, h1⟩)
  have c1 : ∀ nn, (w1.drewN nn).cell? ⟨g, 8091, none⟩ = some (.int .i64 ((d : Int) + 1)) := fun nn => by
    have := (hk.cells (HN1.out.bg.drewN nn)).1
    rw [hdl] at this
    simpa using this
  have c1' : w1.cell? ⟨g, 8091, none⟩ = some (.int .i64 ((d : Int) + 1)) := c1 0
  have HK := hid hk
  have HLo := hid hlo
  have HSo := hid hso
  have Hs := hid hs
  have Hv := hid hv
  have Hd := hid hd
  have i9 : (d : Int) < 9 := by omega
  have dz : ((d : Int) + 1 == 0) = false := by simp; omega
  clear hb hk hlo hso hs hv hL hd
  go_enter Try.func37, Try.ntmps37
  go_upto_region 1 with fail
  simp only [zero_comp, hw1]
  clear hw1
  go_upto_region 4 with fail
  go_quiet (fail)
  have HN2 := hid (HN1.out.below (Drew.below ⟨nq, rfl⟩ _))
  generalize w1.drewN nq = w2 at HN2 ⊢
  clear c1 c1' HN1 dz
  obtain ⟨X, W, hT, hI⟩ := class_mk (Nb w g t cs q (compC [] 0 0 false false))
  have HCl : Hid (∀ x w', Below (W x).heap.size (W x) w' → ∃ y, w' = W y) := hid (fun x w' hb => hI _ ((hT x).below hb))
  have H0 : Hid (∃ x, w2.drew = W x) := hid (hI _ (HN2.out.below (Drew.below ⟨1, rfl⟩ _)))
  have hne : Nonempty X := ⟨H0.out.choose⟩
  have c2 : ∀ x, (W x).cell? ⟨g, d * 899 + 897, none⟩ = some (.int .i64 (L.nx : Int)) := fun x => by rw [(hT x).bg.cell]; exact HLo.out.nx
  have HAt := hid (fun x => at_walk g (d * 899) t cs L.l L.sp (W x) (hT x).bg HLo.out.path L.nx s Hs.out)
  have hsub : (sub L.l s.a s.b).length ≤ 32 := by rw [sub_len HSo.out.le]; exact HSo.out.sh
  obtain ⟨nm, hnm⟩ : ∃ nm, sub L.l s.a s.b = nm := ⟨_, rfl⟩
  rw [hnm] at HAt hsub
  obtain ⟨H, hH⟩ : ∃ H, hashL 2166136261 nm = H := ⟨_, rfl⟩
  rw [hH] at HAt
  obtain ⟨cl, hcl⟩ : ∃ cl, s.cls = cl := ⟨_, rfl⟩
  rw [hcl] at HAt
  obtain ⟨sl, hsl⟩ : ∃ sl, s.sl = sl := ⟨_, rfl⟩
  rw [hsl] at HAt
  obtain ⟨la, hla⟩ : ∃ la, decide (L.nx + 1 = L.sp.length) = la := ⟨_, rfl⟩
  rw [hla] at HAt
  obtain ⟨nd0, hnd0⟩ : ∃ nd0, L.nd = nd0 := ⟨_, rfl⟩
  have HC : Hid (∀ b, (compC nm cl H (if la then sl || nd0 else sl) b) = compC (sub L.l s.a s.b) s.cls (hashL 2166136261 (sub L.l s.a s.b)) (ndOf L s) b) := hid (fun b => by
    rw [hnm, hH, hcl]
    unfold ndOf
    rw [hsl, hnd0, ← hla]
    by_cases h : L.nx + 1 = L.sp.length <;> simp [h])
  have Hla := hid hla
  have Hnd0 := hid hnd0
  have Hsl := hid hsl
  unfold compV at HAt
  obtain ⟨C, hC⟩ : ∃ C, compC nm cl H sl la = C := ⟨_, rfl⟩
  rw [hC] at HAt
  have hC37 : C.length = 37 := by rw [← hC]; exact compC_len hsub _ _ _ _
  have HOn : Hid (∀ v ∈ C, v.oneCell' = true) := hid (by rw [← hC]; exact one_comp _ _ _ _ _)
  have I2 : Hid ((Try.prog.info? 40).map (·.size) = some C.length) := hid (by rw [hC37]; exact info_comp)
  have L2 : Hid ((compC [] 0 0 false false).length = C.length) := hid (by rw [hC37]; rfl)
  have HTT := hid hT
  have HCC := hid hC
  clear hT hI hnm hH hcl hsl hla hnd0 hC
  go_upto_region 5 with fail
  refine wp_region_class_lastT W rfl (by kernel_rfl) (by kernel_rfl) (by kernel_rfl) H0.out ?_
  dsimp only [List.dropLast, List.getLast]
  repeat (go_big_quiet_step ((go_at_call 15; exact Calls.class_of HCl.out (HAt.out _))))
  refine wpQuiet_nil ?_
  intro z
  have HN3 := hid (HTT.out z)
  generalize W z = w3 at HN3 ⊢
  clear c2 HAt HCl H0 HTT HN2
  go_upto_region 6 with (refine wpList_store_blk rfl 40 _ _ rfl q rfl C rfl HN3.out.bq L2.out I2.out HOn.out ?_; intro w4 HB4 HU4)
  have HN4 := hid (HN3.out.store hqg hqw HU4.out HB4.out)
  clear HB4 HU4 HN3
  have c4 : w4.cell? ⟨g, d * 899 + 897, none⟩ = some (.int .i64 (L.nx : Int)) := by rw [HN4.out.bg.cell]; exact HLo.out.nx
  have f4 := HN4.out.bg.frozen (d * 899 + 897)
  go_upto_region 7 with fail
  have HN5 := hid (HN4.out.set hqg (d * 899 + 897) (.int .i64 ((L.nx : Int) + 1)))
  generalize w4.setCell ⟨g, d * 899 + 897, none⟩ (.int .i64 ((L.nx : Int) + 1)) = w5 at HN5 ⊢
  clear c4 f4 HN4
  have c5 : w5.cell? ⟨q, 36, none⟩ = some (.bool la) := by rw [HN5.out.bq.cell, ← HCC.out]; exact comp_36 hsub _ _ _ _
  go_upto_if 39 with fail
  go_cut [60] from 38 to 61 (fun v wc => ∃ (ds6 : List Value) (lv6 : List Lvl) (D : List Value) (x5 : Bool), Hid (Rdy ds6 S lv6) ∧ D.length = 37 ∧ Hid (∀ v ∈ D, v.oneCell' = true) ∧ Hid (D[35]? = some (.bool x5)) ∧ Hid (cOf ls L s = D) ∧ Hid (nextS S ls L s = { S with lv := lv6, steps := S.steps + 1, tk := true, tn := x5 }) ∧ Hid (Nb w g t ds6 q D wc))
  case first =>
    cases la with
    | false =>
      as_aux_lemma =>
      obtain ⟨ds6, hds6⟩ : ∃ ds6, cs.set (d * 899 + 897) (.int .i64 ((L.nx : Int) + 1)) = ds6 := ⟨_, rfl⟩
      have hlaf : L.nx + 1 ≠ L.sp.length := of_decide_eq_false Hla.out
      obtain ⟨lv6, hlv6⟩ : ∃ lv6, ls ++ [{ L with nx := L.nx + 1 }] = lv6 := ⟨_, rfl⟩
      obtain ⟨D, hD⟩ : ∃ D, compC nm cl H sl false = D := ⟨_, rfl⟩
      obtain ⟨x5, hx5⟩ : ∃ x5, sl = x5 := ⟨_, rfl⟩
      rw [hx5] at hD
      have HRd : Hid (Rdy ds6 S lv6) := hid (by rw [← hds6]; exact (by rw [← hlv6]; exact rdy_on HK.out Hv.out Hd.out h9 (by omega)))
      have hD37 : D.length = 37 := by rw [← hD]; exact compC_len hsub _ _ _ _
      have HDo : Hid (∀ v ∈ D, v.oneCell' = true) := hid (by rw [← hD]; exact one_comp _ _ _ _ _)
      have ID : Hid ((Try.prog.info? 40).map (·.size) = some D.length) := hid (by rw [hD37]; exact info_comp)
      have HD35 : Hid (D[35]? = some (.bool x5)) := hid (by rw [← hD]; exact comp_35 hsub _ _ _ _)
      have HDE : Hid (cOf ls L s = D) := hid (by
        have := HC.out false
        unfold cOf
        rw [Hla.out, Bool.false_and, ← this, if_neg Bool.false_ne_true, hx5, hD])
      have HSE : Hid (nextS S ls L s = { S with lv := lv6, steps := S.steps + 1, tk := true, tn := x5 }) := hid (by
        unfold nextS lvOf ndOf
        rw [if_neg hlaf, if_neg hlaf, hlv6, Hsl.out, hx5])
      have HN6 : Hid (Nb w g t ds6 q D w5) := hid (by
        have := HN5.out
        rw [hds6, ← HCC.out, hx5, hD] at this
        exact this)
      clear hds6 hlv6 hD hx5
      go_wp2_with fail
      go_meet
      case rel => exact ⟨ds6, lv6, D, x5, HRd, hD37, HDo, HD35, HDE, HSE, HN6⟩
    | true =>
      cases sl with
      | true =>
        as_aux_lemma =>
        have c10 : w5.cell? ⟨q, 35, none⟩ = some (.bool true) := by rw [HN5.out.bq.cell, ← HCC.out]; exact comp_35 hsub _ _ _ _
        have c11 : w5.cell? ⟨g, d * 899 + 898, none⟩ = some (.bool nd0) := by rw [HN5.out.bg.cell, List.getElem?_set_ne (by omega), ← Hnd0.out]; exact HLo.out.nd
        have c12 : w5.cell? ⟨g, 8091, none⟩ = some (.int .i64 ((d : Int) + 1)) := by rw [HN5.out.bg.cell, List.getElem?_set_ne (by omega), HK.out.dp, hdl]; simp
        have f10 := HN5.out.bq.frozen 35
        have f11 := HN5.out.bq.frozen 36
        have f12 := HN5.out.bg.frozen 8091
        obtain ⟨ds6, hds6⟩ : ∃ ds6, (cs.set (d * 899 + 897) (.int .i64 ((L.nx : Int) + 1))).set 8091 (.int .i64 (d : Int)) = ds6 := ⟨_, rfl⟩
        have hlaf : L.nx + 1 = L.sp.length := of_decide_eq_true Hla.out
        obtain ⟨lv6, hlv6⟩ : ∃ lv6, ls = lv6 := ⟨_, rfl⟩
        obtain ⟨lb, hlb⟩ : ∃ lb, ((d : Int) == 0) = lb := ⟨_, rfl⟩
        obtain ⟨x5, hx5⟩ : ∃ x5, (true || nd0) = x5 := ⟨_, rfl⟩
        obtain ⟨D, hD⟩ : ∃ D, compC nm cl H x5 lb = D := ⟨_, rfl⟩
        have HRd : Hid (Rdy ds6 S lv6) := hid (by rw [← hds6]; exact (by rw [← hlv6]; exact rdy_off HK.out Hv.out Hd.out h9))
        have hD37 : D.length = 37 := by rw [← hD]; exact compC_len hsub _ _ _ _
        have HDo : Hid (∀ v ∈ D, v.oneCell' = true) := hid (by rw [← hD]; exact one_comp _ _ _ _ _)
        have ID : Hid ((Try.prog.info? 40).map (·.size) = some D.length) := hid (by rw [hD37]; exact info_comp)
        have HD35 : Hid (D[35]? = some (.bool x5)) := hid (by rw [← hD]; exact comp_35 hsub _ _ _ _)
        have HDE : Hid (cOf ls L s = D) := hid (by
          have := HC.out lb
          unfold cOf
          rw [Hla.out, Bool.true_and, show ls.isEmpty = lb by rw [← hlb, ← Hd.out]; cases ls <;> simp; omega, ← this, if_pos rfl, hx5, hD])
        have HSE : Hid (nextS S ls L s = { S with lv := lv6, steps := S.steps + 1, tk := true, tn := x5 }) := hid (by
          unfold nextS lvOf ndOf
          rw [if_pos hlaf, if_pos hlaf, hlv6, Hsl.out, Hnd0.out, hx5])
        have HN6 : Hid (Nb w g t ds6 q D (((w5.setCell ⟨q, 35, none⟩ (.bool true)).setCell ⟨g, 8091, none⟩ (.int .i64 (d : Int))).setCell ⟨q, 36, none⟩ (.bool lb))) := hid (by
          have := ((HN5.out.setq hqg hqw 35 (.bool true)).set hqg 8091 (.int .i64 (d : Int))).setq hqg hqw 36 (.bool lb)
          rw [hds6, ← HCC.out, comp_s35 hsub, comp_s36 hsub] at this
          rw [← hD, show x5 = true from hx5.symm]
          exact this)
        clear hds6 hlv6 hD hx5
        go_wp2_with fail
        go_meet
        case rel => exact ⟨ds6, lv6, D, x5, HRd, hD37, HDo, HD35, HDE, HSE, HN6⟩
      | false =>
        as_aux_lemma =>
        have c10 : w5.cell? ⟨q, 35, none⟩ = some (.bool false) := by rw [HN5.out.bq.cell, ← HCC.out]; exact comp_35 hsub _ _ _ _
        have c11 : w5.cell? ⟨g, d * 899 + 898, none⟩ = some (.bool nd0) := by rw [HN5.out.bg.cell, List.getElem?_set_ne (by omega), ← Hnd0.out]; exact HLo.out.nd
        have c12 : w5.cell? ⟨g, 8091, none⟩ = some (.int .i64 ((d : Int) + 1)) := by rw [HN5.out.bg.cell, List.getElem?_set_ne (by omega), HK.out.dp, hdl]; simp
        have f10 := HN5.out.bq.frozen 35
        have f11 := HN5.out.bq.frozen 36
        have f12 := HN5.out.bg.frozen 8091
        obtain ⟨ds6, hds6⟩ : ∃ ds6, (cs.set (d * 899 + 897) (.int .i64 ((L.nx : Int) + 1))).set 8091 (.int .i64 (d : Int)) = ds6 := ⟨_, rfl⟩
        have hlaf : L.nx + 1 = L.sp.length := of_decide_eq_true Hla.out
        obtain ⟨lv6, hlv6⟩ : ∃ lv6, ls = lv6 := ⟨_, rfl⟩
        obtain ⟨lb, hlb⟩ : ∃ lb, ((d : Int) == 0) = lb := ⟨_, rfl⟩
        obtain ⟨x5, hx5⟩ : ∃ x5, (false || nd0) = x5 := ⟨_, rfl⟩
        obtain ⟨D, hD⟩ : ∃ D, compC nm cl H x5 lb = D := ⟨_, rfl⟩
        have HRd : Hid (Rdy ds6 S lv6) := hid (by rw [← hds6]; exact (by rw [← hlv6]; exact rdy_off HK.out Hv.out Hd.out h9))
        have hD37 : D.length = 37 := by rw [← hD]; exact compC_len hsub _ _ _ _
        have HDo : Hid (∀ v ∈ D, v.oneCell' = true) := hid (by rw [← hD]; exact one_comp _ _ _ _ _)
        have ID : Hid ((Try.prog.info? 40).map (·.size) = some D.length) := hid (by rw [hD37]; exact info_comp)
        have HD35 : Hid (D[35]? = some (.bool x5)) := hid (by rw [← hD]; exact comp_35 hsub _ _ _ _)
        have HDE : Hid (cOf ls L s = D) := hid (by
          have := HC.out lb
          unfold cOf
          rw [Hla.out, Bool.true_and, show ls.isEmpty = lb by rw [← hlb, ← Hd.out]; cases ls <;> simp; omega, ← this, if_pos rfl, hx5, hD])
        have HSE : Hid (nextS S ls L s = { S with lv := lv6, steps := S.steps + 1, tk := true, tn := x5 }) := hid (by
          unfold nextS lvOf ndOf
          rw [if_pos hlaf, if_pos hlaf, hlv6, Hsl.out, Hnd0.out, hx5])
        have HN6 : Hid (Nb w g t ds6 q D (((w5.setCell ⟨q, 35, none⟩ (.bool nd0)).setCell ⟨g, 8091, none⟩ (.int .i64 (d : Int))).setCell ⟨q, 36, none⟩ (.bool lb))) := hid (by
          have := ((HN5.out.setq hqg hqw 35 (.bool nd0)).set hqg 8091 (.int .i64 (d : Int))).setq hqg hqw 36 (.bool lb)
          rw [hds6, ← HCC.out, comp_s35 hsub, comp_s36 hsub] at this
          rw [← hD, show x5 = nd0 from hx5.symm]
          exact this)
        clear hds6 hlv6 hD hx5
        go_wp2_with fail
        go_meet
        case rel => exact ⟨ds6, lv6, D, x5, HRd, hD37, HDo, HD35, HDE, HSE, HN6⟩
  case rest =>
  obtain ⟨ds6, lv6, D, x5, HRd, hD37, HDo, HD35, HDE, HSE, HN6⟩ := hcut
  have ID : Hid ((Try.prog.info? 40).map (·.size) = some D.length) := hid (by rw [hD37]; exact info_comp)
  clear c5 HN5 hlt h128 hdl hg0
  generalize wc = w6 at HN6 ⊢
  have c6 : w6.cell? ⟨g, 8093, none⟩ = some (.int .i64 (S.steps : Int)) := by rw [HN6.out.bg.cell]; exact HRd.out.st
  have f6 := HN6.out.bg.frozen 8093
  go_upto_region 12 with fail
  have HN7 := hid (HN6.out.set hqg 8093 (.int .i64 ((S.steps : Int) + 1)))
  generalize w6.setCell ⟨g, 8093, none⟩ (.int .i64 ((S.steps : Int) + 1)) = w7 at HN7 ⊢
  clear c6 f6 HN6
  have c7 : w7.cell? ⟨q, 35, none⟩ = some (.bool x5) := by rw [HN7.out.bq.cell]; exact HD35.out
  have c8 : w7.cell? ⟨g, 8094, none⟩ = some (.bool S.tk) := by rw [HN7.out.bg.cell, List.getElem?_set_ne (by omega)]; exact HRd.out.tk
  have c9 : w7.cell? ⟨g, 8095, none⟩ = some (.bool S.tn) := by rw [HN7.out.bg.cell, List.getElem?_set_ne (by omega)]; exact HRd.out.tn
  have f8 := HN7.out.bg.frozen 8094
  have f9 := HN7.out.bg.frozen 8095
  go_region
  have HN8 := hid (((HN7.out.set hqg 8094 (.bool true)).set hqg 8095 (.bool x5)).below (Drew.below ⟨1, rfl⟩ _))
  obtain ⟨w8, hw8⟩ : ∃ w8, ((w7.setCell ⟨g, 8094, none⟩ (.bool true)).setCell ⟨g, 8095, none⟩ (.bool x5)).drew = w8 := ⟨_, rfl⟩
  have hw8' : ((w7.setCell ⟨g, 8094, none⟩ (.bool true)).setCell ⟨g, 8095, none⟩ (.bool x5)).drewN 1 = w8 := hw8
  rw [hw8'] at HN8
  simp only [hw8]
  clear c7 c8 c9 f8 f9 hw8 hw8' HN7
  go_wp2_with (first
    | (refine wpList_load_blk rfl 40 _ rfl q rfl D HN8.out.bq _ Try.underlying40 rfl ID.out ?_)
    | (refine wpList_store_blk rfl 40 _ _ rfl q rfl D rfl HN8.out.bq rfl ID.out HDo.out ?_; intro w9 HB9 HU9))
  have HN9 := HN8.out.store hqg hqw HU9.out HB9.out
  exact bodyPost_ret (results_cell_tmp Try.results37 rfl (by rw [hD37]; exact aggComp) HB9.out) rfl ⟨by rw [HDE.out]; rfl, HN9.upd, _, HN9.bg, by rw [HSE.out]; exact HRd.out.fin x5⟩
end Go.Proofs.Qxb6500891a
