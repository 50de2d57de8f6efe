/- The player's step: kinds 0 to 8. Written by tools/mk_txp.py. -/
import Derived.Test.Qxb6500890aDoorTxR2
namespace Go.Proofs.Qxb6500890aDoor
open Go.RowKit
set_option linter.unusedSimpArgs false
set_option linter.unusedVariables false

def oz : OutP := ⟨0, false, 0, 0, ByteArray.empty, [], []⟩
def RsP (w : World) (ρ : Rl) (pB : Nat) (O : OutP) (S' : TS) (e : Ending) (w' : World) : Prop := ∃ lv rv bB' a' q' ρ', e = .returned (ouV O lv rv) ∧ OwR rtS w.heap.size w' lv O.list ∧ OwR rtK w.heap.size w' rv O.recs ∧ PlM w' ρ' pB bB' a' q' S' ∧ Fr plX ρ w ρ' w'
/-- The step under way. -/
structure Rs (w : World) (ρ : Rl) (pB p : Nat) (o : TOp) (ρ' : Rl) (bB : Nat) (a : Option Addr) (q : Nat) (S : TS) (wr : World) : Prop where
  pl : PlM wr ρ' pB bB a q S
  ob : Blk wr p 36 (opCells o)
  ou : Blk wr (p + 1) 39 (ouC 0 false 0 0 ByteArray.empty nilV nilV)
  r0 : ρ' p = 0
  r1 : ρ' (p + 1) = 0
  fr : Fr plX ρ w ρ' wr
  lo : w.heap.size = p
theorem Fr.after {X : Nat → Bool} {ρ ρ' : Rl} {w wr w' : World} {g : Nat} (h : Fr X ρ w ρ' wr) (hu : Upd g wr w') (hg : w.heap.size ≤ g) : Fr X ρ w ρ' w' := ⟨hu.os.trans h.os, hu.tape.trans h.tape, hu.output.trans h.output, Nat.le_trans h.size hu.size, h.old, fun k hk => h.nw k (Nat.le_trans hu.size hk), fun k hk h0 => (hu.block k (Nat.lt_of_lt_of_le hk h.size) (by omega)).trans (h.blk k hk h0)⟩
section
variable {w wr w' : World} {ρ ρ' ρ'' : Rl} {pB bB bB' p : Nat} {a a' : Option Addr} {q q' : Nat} {S S' : TS} {o : TOp}
theorem Rs.below (h : Rs w ρ pB p o ρ' bB a q S wr) (hb : Below wr.heap.size wr w') : Rs w ρ pB p o ρ' bB a q S w' := ⟨h.pl.below hb, h.ob.below hb, h.ou.below hb, h.r0, h.r1, h.fr.trans (Fr.below hb), h.lo⟩
theorem Rs.next (h : Rs w ρ pB p o ρ' bB a q S wr) (hp : PlM w' ρ'' pB bB' a' q' S') (hf : Fr plX ρ' wr ρ'' w') : Rs w ρ pB p o ρ'' bB' a' q' S' w' := ⟨hp, hf.keep h.ob h.r0 rfl, hf.keep h.ou h.r1 rfl, by rw [hf.old _ h.ob.lt]; exact h.r0, by rw [hf.old _ h.ou.lt]; exact h.r1, h.fr.trans hf, h.lo⟩
/-- An own block of role 0 is written. -/
theorem Rs.own {g : Nat} (h : Rs w ρ pB p o ρ' bB a q S wr) (hu : Upd g wr w') (hg : w.heap.size ≤ g) (h0 : ρ' g = 0) (hn : p ≠ g) (hn1 : p + 1 ≠ g) : Rs w ρ pB p o ρ' bB a q S w' := by
  have hf : Fr (fun c => c == 0) ρ' wr ρ' w' := Fr.upd hu (by rw [h0]; rfl)
  exact ⟨h.pl.fr hf rfl rfl rfl, h.ob.of (hu.block _ h.ob.lt hn), h.ou.of (hu.block _ h.ou.lt hn1), h.r0, h.r1, h.fr.after hu hg, h.lo⟩
theorem Rs.fin {O : OutP} (h : Rs w ρ pB p o ρ' bB a q S wr) (h0 : O.list = []) (h1 : O.recs = []) (hu : Upd (p + 1) wr w') : RsP w ρ pB O S (.returned (ouV O nilV nilV)) w' := by
  have hf : Fr (fun c => c == 0) ρ' wr ρ' w' := Fr.upd hu (by rw [h.r1]; rfl)
  exact ⟨nilV, nilV, bB, a, q, ρ', rfl, by rw [h0]; exact OwR.nil _ _ _, by rw [h1]; exact OwR.nil _ _ _, h.pl.fr hf rfl rfl rfl, h.fr.after hu (by have := h.lo; omega)⟩
theorem Rs.finL {O : OutP} {lv : Value} (h : Rs w ρ pB p o ρ' bB a q S wr) (hl : OwR rtS (p + 2) wr lv O.list) (h1 : O.recs = []) (hu : Upd (p + 1) wr w') : RsP w ρ pB O S (.returned (ouV O lv nilV)) w' := by
  have hf : Fr (fun c => c == 0) ρ' wr ρ' w' := Fr.upd hu (by rw [h.r1]; rfl)
  exact ⟨lv, nilV, bB, a, q, ρ', rfl, (hl.upd hu (fun k hk => by have := hl.hi k hk; omega)).mono (by have := h.lo; omega), by rw [h1]; exact OwR.nil _ _ _, h.pl.fr hf rfl rfl rfl, h.fr.after hu (by have := h.lo; omega)⟩
theorem Rs.finK {O : OutP} {rv : Value} (h : Rs w ρ pB p o ρ' bB a q S wr) (h1 : O.list = []) (hl : OwR rtK (p + 2) wr rv O.recs) (hu : Upd (p + 1) wr w') : RsP w ρ pB O S (.returned (ouV O nilV rv)) w' := by
  have hf : Fr (fun c => c == 0) ρ' wr ρ' w' := Fr.upd hu (by rw [h.r1]; rfl)
  exact ⟨nilV, rv, bB, a, q, ρ', rfl, by rw [h1]; exact OwR.nil _ _ _, (hl.upd hu (fun k hk => by have := hl.hi k hk; omega)).mono (by have := h.lo; omega), h.pl.fr hf rfl rfl rfl, h.fr.after hu (by have := h.lo; omega)⟩
theorem Rs.new0 (w : World) (A B : List Value) (t1 t2 : TypeId) : Blk ((w.alloc (.cells A.toArray t1)).alloc (.cells B.toArray t2)) w.heap.size t1 A ∧ Blk ((w.alloc (.cells A.toArray t1)).alloc (.cells B.toArray t2)) (w.heap.size + 1) t2 B ∧ Below w.heap.size w ((w.alloc (.cells A.toArray t1)).alloc (.cells B.toArray t2)) := by
  have n1 := nbel w (.cells A.toArray t1)
  have k1 := Blk.new w A t1
  have s1 : (w.alloc (.cells A.toArray t1)).heap.size = w.heap.size + 1 := by simp
  generalize w.alloc (.cells A.toArray t1) = w1 at n1 k1 s1
  have n2 := nbel w1 (.cells B.toArray t2)
  have k2 := Blk.new w1 B t2
  rw [s1] at k2
  exact ⟨k1.below n2, k2, n1.trans (n2.mono n1.size)⟩
theorem Rs.newB (w : World) (o : TOp) : Below w.heap.size w ((w.alloc (.cells (opCells o).toArray 36)).alloc (.cells #[.int .i64 0, .bool false, .int .i64 0, .int .i64 0, .string ⟨#[]⟩, .slice none 0 0, .slice none 0 0] 39)) := (Rs.new0 w (opCells o) (ouC 0 false 0 0 ByteArray.empty nilV nilV) 36 39).2.2
theorem PlM.zero (h : PlM w ρ pB bB a q S) {g : Nat} (hg : w.heap.size ≤ g) : ρ g = 0 := Classical.byContradiction fun hc => by
  have := h.dm g hc
  omega
theorem Rs.new (h : PlM w ρ pB bB a q S) (o : TOp) : Rs w ρ pB w.heap.size o ρ bB a q S ((w.alloc (.cells (opCells o).toArray 36)).alloc (.cells #[.int .i64 0, .bool false, .int .i64 0, .int .i64 0, .string ⟨#[]⟩, .slice none 0 0, .slice none 0 0] 39)) := by
  obtain ⟨h1, h2, h3⟩ := Rs.new0 w (opCells o) (ouC 0 false 0 0 ByteArray.empty nilV nilV) 36 39
  exact ⟨h.below h3, h1, h2, h.zero (Nat.le_refl _), h.zero (by omega), Fr.below h3, rfl⟩
set_option maxRecDepth 100000
set_option maxHeartbeats 2000000
theorem pstep0_walk (h : PlM w ρ pB bB a q S) (o : TOp) (hok : OpOk w o) (hk : o.kind = 0) : Calls Tryd.prog 9 #[.pointer (some ⟨pB, 0, none⟩), .agg (opCells o).toArray] w fun e w' => RsP w ρ pB ({ oz with s := bsA (fmtL o.a) }) (S) e w' := by
  have HR0 := hid (Rs.new h o)
  have HB0 := hid (Rs.newB w o)
  have HZr : Hid (∀ g, w.heap.size ≤ g → ρ g = 0) := hid (fun g hg => h.zero hg)
  have I0 := hid info_ou
  have HOk := hid hok
  obtain ⟨p, hp⟩ : ∃ p, w.heap.size = p := ⟨_, rfl⟩
  rw [hp] at HR0
  obtain ⟨kind, oa, ob, oc, s, t, la, ln, lc, list, ra, rn, rc, recs⟩ := o
  have e0 : (opCells ⟨kind, oa, ob, oc, s, t, la, ln, lc, list, ra, rn, rc, recs⟩).toArray = #[.int .i64 kind, .int .i64 oa, .int .i64 ob, .int .i64 oc, .string s, .string t, .slice la ln lc, .slice ra rn rc] := rfl
  have HCl : Hid (∀ {ρ' bB' a' q' S'} {wx : World}, Rs w ρ pB p ⟨kind, oa, ob, oc, s, t, la, ln, lc, list, ra, rn, rc, recs⟩ ρ' bB' a' q' S' wx → wx.cell? ⟨p, 0, none⟩ = some (.int .i64 kind) ∧ wx.cell? ⟨p, 1, none⟩ = some (.int .i64 oa) ∧ wx.cell? ⟨p, 2, none⟩ = some (.int .i64 ob) ∧ wx.cell? ⟨p, 3, none⟩ = some (.int .i64 oc) ∧ wx.cell? ⟨p, 4, none⟩ = some (.string s) ∧ wx.cell? ⟨p, 5, none⟩ = some (.string t) ∧ wx.cell? ⟨p, 6, none⟩ = some (.slice la ln lc) ∧ wx.cell? ⟨p, 7, none⟩ = some (.slice ra rn rc)) := hid (fun h => ⟨h.ob.cell 0, h.ob.cell 1, h.ob.cell 2, h.ob.cell 3, h.ob.cell 4, h.ob.cell 5, h.ob.cell 6, h.ob.cell 7⟩)
  rw [e0] at HR0 HB0
  rw [show (opCells _).toArray = _ from e0]
  dsimp only at hk hok ⊢
  have k0 : (kind == 0) = true := by rw [hk]; rfl
  clear hok e0 h
  clear hk
  go_enter Tryd.func9, Tryd.ntmps9
  go_upto_region 1 with fail
  generalize hwr : ((w.alloc (Obj.cells #[.int .i64 kind, .int .i64 oa, .int .i64 ob, .int .i64 oc, .string s, .string t, .slice la ln lc, .slice ra rn rc] 36)).alloc (Obj.cells #[.int .i64 0, .bool false, .int .i64 0, .int .i64 0, .string ⟨#[]⟩, .slice none 0 0, .slice none 0 0] 39)) = wr at HR0 HB0 ⊢
  clear hwr hp
  obtain ⟨x0, x1, x2, x3, x4, x5, x6, x7⟩ := HCl.out HR0.out
  have HF := hid (formatInt_walk oa HOk.out.fa.1 HOk.out.fa.2)
  rw [show (⟨(fmtL oa).toArray⟩ : ByteArray) = bsA (fmtL oa) from rfl] at HF
  go_wp2_with fail
  refine (HF.out _).mono ?_
  rintro e1 w1 ⟨rfl, hb1⟩
  have HR1 := hid (HR0.out.below hb1)
  clear hb1 HF HR0 x0 x1 x2 x3 x4 x5 x6 x7
  go_wp2_with (refine wpList_store_blk rfl 39 _ _ rfl (p + 1) rfl (ouC 0 false 0 0 (bsA (fmtL oa)) nilV nilV) rfl HR1.out.ou rfl I0.out (ou_one _ _ _ _ _ _ _ _ _ _ _) ?_; intro w9 HB9 HU9)
  exact bodyPost_ret (results_blk (cs := ouC 0 false 0 0 (bsA (fmtL oa)) nilV nilV) Tryd.results9 rfl aggOu HB9.out) rfl (HR1.out.fin rfl rfl HU9.out)
theorem pstep1_walk (h : PlM w ρ pB bB a q S) (o : TOp) (hok : OpOk w o) (hk : o.kind = 1) : Calls Tryd.prog 9 #[.pointer (some ⟨pB, 0, none⟩), .agg (opCells o).toArray] w fun e w' => RsP w ρ pB ({ oz with c := (parseOut o.s.data.toList).2, i := (parseOut o.s.data.toList).1 }) (S) e w' := by
  have HR0 := hid (Rs.new h o)
  have HB0 := hid (Rs.newB w o)
  have HZr : Hid (∀ g, w.heap.size ≤ g → ρ g = 0) := hid (fun g hg => h.zero hg)
  have I0 := hid info_ou
  have HOk := hid hok
  obtain ⟨p, hp⟩ : ∃ p, w.heap.size = p := ⟨_, rfl⟩
  rw [hp] at HR0
  obtain ⟨kind, oa, ob, oc, s, t, la, ln, lc, list, ra, rn, rc, recs⟩ := o
  have e0 : (opCells ⟨kind, oa, ob, oc, s, t, la, ln, lc, list, ra, rn, rc, recs⟩).toArray = #[.int .i64 kind, .int .i64 oa, .int .i64 ob, .int .i64 oc, .string s, .string t, .slice la ln lc, .slice ra rn rc] := rfl
  have HCl : Hid (∀ {ρ' bB' a' q' S'} {wx : World}, Rs w ρ pB p ⟨kind, oa, ob, oc, s, t, la, ln, lc, list, ra, rn, rc, recs⟩ ρ' bB' a' q' S' wx → wx.cell? ⟨p, 0, none⟩ = some (.int .i64 kind) ∧ wx.cell? ⟨p, 1, none⟩ = some (.int .i64 oa) ∧ wx.cell? ⟨p, 2, none⟩ = some (.int .i64 ob) ∧ wx.cell? ⟨p, 3, none⟩ = some (.int .i64 oc) ∧ wx.cell? ⟨p, 4, none⟩ = some (.string s) ∧ wx.cell? ⟨p, 5, none⟩ = some (.string t) ∧ wx.cell? ⟨p, 6, none⟩ = some (.slice la ln lc) ∧ wx.cell? ⟨p, 7, none⟩ = some (.slice ra rn rc)) := hid (fun h => ⟨h.ob.cell 0, h.ob.cell 1, h.ob.cell 2, h.ob.cell 3, h.ob.cell 4, h.ob.cell 5, h.ob.cell 6, h.ob.cell 7⟩)
  rw [e0] at HR0 HB0
  rw [show (opCells _).toArray = _ from e0]
  dsimp only at hk hok ⊢
  have k0 : (kind == 0) = false := by rw [hk]; rfl
  have k1 : (kind == 1) = true := by rw [hk]; rfl
  clear hok e0 h
  clear hk
  go_enter Tryd.func9, Tryd.ntmps9
  go_upto_region 1 with fail
  generalize hwr : ((w.alloc (Obj.cells #[.int .i64 kind, .int .i64 oa, .int .i64 ob, .int .i64 oc, .string s, .string t, .slice la ln lc, .slice ra rn rc] 36)).alloc (Obj.cells #[.int .i64 0, .bool false, .int .i64 0, .int .i64 0, .string ⟨#[]⟩, .slice none 0 0, .slice none 0 0] 39)) = wr at HR0 HB0 ⊢
  clear hwr hp
  obtain ⟨x0, x1, x2, x3, x4, x5, x6, x7⟩ := HCl.out HR0.out
  have HF := hid (parse_walk s (Nat.le_trans HOk.out.fs (by unfold maxLen; omega)))
  obtain ⟨pp, hpp⟩ : ∃ x, parseOut s.data.toList = x := ⟨_, rfl⟩
  rw [hpp] at HF
  obtain ⟨pv, pc⟩ := pp
  have Hpp := hid hpp
  dsimp only at HF
  clear hpp
  go_wp2_with fail
  refine (HF.out _).mono ?_
  rintro e1 w1 ⟨rfl, rfl⟩
  clear HF x0 x1 x2 x3 x4 x5 x6 x7
  go_wp2_with (refine wpList_store_blk rfl 39 _ _ rfl (p + 1) rfl (ouC pc false pv 0 ByteArray.empty nilV nilV) rfl HR0.out.ou rfl I0.out (ou_one _ _ _ _ _ _ _ _ _ _ _) ?_; intro w9 HB9 HU9)
  have HFin := HR0.out.fin (O := { oz with c := (parseOut s.data.toList).2, i := (parseOut s.data.toList).1 }) rfl rfl HU9.out
  rw [Hpp.out] at HFin
  exact bodyPost_ret (results_blk (cs := ouC pc false pv 0 ByteArray.empty nilV nilV) Tryd.results9 rfl aggOu HB9.out) rfl (by rw [Hpp.out]; exact HFin)
theorem pstep2_walk (h : PlM w ρ pB bB a q S) (o : TOp) (hok : OpOk w o) (hk : o.kind = 2) : Calls Tryd.prog 9 #[.pointer (some ⟨pB, 0, none⟩), .agg (opCells o).toArray] w fun e w' => RsP w ρ pB ({ oz with c := (arithP o.kind o.a o.b).2, i := (arithP o.kind o.a o.b).1 }) (S) e w' := by
  have HR0 := hid (Rs.new h o)
  have HB0 := hid (Rs.newB w o)
  have HZr : Hid (∀ g, w.heap.size ≤ g → ρ g = 0) := hid (fun g hg => h.zero hg)
  have I0 := hid info_ou
  have HOk := hid hok
  obtain ⟨p, hp⟩ : ∃ p, w.heap.size = p := ⟨_, rfl⟩
  rw [hp] at HR0
  obtain ⟨kind, oa, ob, oc, s, t, la, ln, lc, list, ra, rn, rc, recs⟩ := o
  have e0 : (opCells ⟨kind, oa, ob, oc, s, t, la, ln, lc, list, ra, rn, rc, recs⟩).toArray = #[.int .i64 kind, .int .i64 oa, .int .i64 ob, .int .i64 oc, .string s, .string t, .slice la ln lc, .slice ra rn rc] := rfl
  have HCl : Hid (∀ {ρ' bB' a' q' S'} {wx : World}, Rs w ρ pB p ⟨kind, oa, ob, oc, s, t, la, ln, lc, list, ra, rn, rc, recs⟩ ρ' bB' a' q' S' wx → wx.cell? ⟨p, 0, none⟩ = some (.int .i64 kind) ∧ wx.cell? ⟨p, 1, none⟩ = some (.int .i64 oa) ∧ wx.cell? ⟨p, 2, none⟩ = some (.int .i64 ob) ∧ wx.cell? ⟨p, 3, none⟩ = some (.int .i64 oc) ∧ wx.cell? ⟨p, 4, none⟩ = some (.string s) ∧ wx.cell? ⟨p, 5, none⟩ = some (.string t) ∧ wx.cell? ⟨p, 6, none⟩ = some (.slice la ln lc) ∧ wx.cell? ⟨p, 7, none⟩ = some (.slice ra rn rc)) := hid (fun h => ⟨h.ob.cell 0, h.ob.cell 1, h.ob.cell 2, h.ob.cell 3, h.ob.cell 4, h.ob.cell 5, h.ob.cell 6, h.ob.cell 7⟩)
  rw [e0] at HR0 HB0
  rw [show (opCells _).toArray = _ from e0]
  dsimp only at hk hok ⊢
  have k0 : (kind == 0) = false := by rw [hk]; rfl
  have k1 : (kind == 1) = false := by rw [hk]; rfl
  have k2 : (kind == 2) = true := by rw [hk]; rfl
  clear hok e0 h
  have HFa0 := hid (arith_both kind oa ob HOk.out.fa HOk.out.fb (by omega)).1
  clear hk
  go_enter Tryd.func9, Tryd.ntmps9
  go_upto_region 1 with fail
  generalize hwr : ((w.alloc (Obj.cells #[.int .i64 kind, .int .i64 oa, .int .i64 ob, .int .i64 oc, .string s, .string t, .slice la ln lc, .slice ra rn rc] 36)).alloc (Obj.cells #[.int .i64 0, .bool false, .int .i64 0, .int .i64 0, .string ⟨#[]⟩, .slice none 0 0, .slice none 0 0] 39)) = wr at HR0 HB0 ⊢
  clear hwr hp
  obtain ⟨x0, x1, x2, x3, x4, x5, x6, x7⟩ := HCl.out HR0.out
  have HF := hid HFa0
  obtain ⟨pp, hpp⟩ : ∃ x, arithP kind oa ob = x := ⟨_, rfl⟩
  rw [hpp] at HF
  obtain ⟨pv, pc⟩ := pp
  have Hpp := hid hpp
  dsimp only at HF
  clear hpp HFa0
  go_wp2_with fail
  refine (HF.out _).mono ?_
  rintro e1 w1 ⟨rfl, rfl⟩
  clear HF x0 x1 x2 x3 x4 x5 x6 x7
  go_wp2_with (refine wpList_store_blk rfl 39 _ _ rfl (p + 1) rfl (ouC pc false pv 0 ByteArray.empty nilV nilV) rfl HR0.out.ou rfl I0.out (ou_one _ _ _ _ _ _ _ _ _ _ _) ?_; intro w9 HB9 HU9)
  have HFin := HR0.out.fin (O := { oz with c := (arithP kind oa ob).2, i := (arithP kind oa ob).1 }) rfl rfl HU9.out
  rw [Hpp.out] at HFin
  exact bodyPost_ret (results_blk (cs := ouC pc false pv 0 ByteArray.empty nilV nilV) Tryd.results9 rfl aggOu HB9.out) rfl (by rw [Hpp.out]; exact HFin)
theorem pstep3_walk (h : PlM w ρ pB bB a q S) (o : TOp) (hok : OpOk w o) (hk : o.kind = 3) : Calls Tryd.prog 9 #[.pointer (some ⟨pB, 0, none⟩), .agg (opCells o).toArray] w fun e w' => RsP w ρ pB ({ oz with c := (arithP o.kind o.a o.b).2, i := (arithP o.kind o.a o.b).1 }) (S) e w' := by
  have HR0 := hid (Rs.new h o)
  have HB0 := hid (Rs.newB w o)
  have HZr : Hid (∀ g, w.heap.size ≤ g → ρ g = 0) := hid (fun g hg => h.zero hg)
  have I0 := hid info_ou
  have HOk := hid hok
  obtain ⟨p, hp⟩ : ∃ p, w.heap.size = p := ⟨_, rfl⟩
  rw [hp] at HR0
  obtain ⟨kind, oa, ob, oc, s, t, la, ln, lc, list, ra, rn, rc, recs⟩ := o
  have e0 : (opCells ⟨kind, oa, ob, oc, s, t, la, ln, lc, list, ra, rn, rc, recs⟩).toArray = #[.int .i64 kind, .int .i64 oa, .int .i64 ob, .int .i64 oc, .string s, .string t, .slice la ln lc, .slice ra rn rc] := rfl
  have HCl : Hid (∀ {ρ' bB' a' q' S'} {wx : World}, Rs w ρ pB p ⟨kind, oa, ob, oc, s, t, la, ln, lc, list, ra, rn, rc, recs⟩ ρ' bB' a' q' S' wx → wx.cell? ⟨p, 0, none⟩ = some (.int .i64 kind) ∧ wx.cell? ⟨p, 1, none⟩ = some (.int .i64 oa) ∧ wx.cell? ⟨p, 2, none⟩ = some (.int .i64 ob) ∧ wx.cell? ⟨p, 3, none⟩ = some (.int .i64 oc) ∧ wx.cell? ⟨p, 4, none⟩ = some (.string s) ∧ wx.cell? ⟨p, 5, none⟩ = some (.string t) ∧ wx.cell? ⟨p, 6, none⟩ = some (.slice la ln lc) ∧ wx.cell? ⟨p, 7, none⟩ = some (.slice ra rn rc)) := hid (fun h => ⟨h.ob.cell 0, h.ob.cell 1, h.ob.cell 2, h.ob.cell 3, h.ob.cell 4, h.ob.cell 5, h.ob.cell 6, h.ob.cell 7⟩)
  rw [e0] at HR0 HB0
  rw [show (opCells _).toArray = _ from e0]
  dsimp only at hk hok ⊢
  have k0 : (kind == 0) = false := by rw [hk]; rfl
  have k1 : (kind == 1) = false := by rw [hk]; rfl
  have k2 : (kind == 2) = false := by rw [hk]; rfl
  have k3 : (kind == 3) = true := by rw [hk]; rfl
  clear hok e0 h
  have HFa0 := hid (arith_both kind oa ob HOk.out.fa HOk.out.fb (by omega)).1
  clear hk
  go_enter Tryd.func9, Tryd.ntmps9
  go_upto_region 1 with fail
  generalize hwr : ((w.alloc (Obj.cells #[.int .i64 kind, .int .i64 oa, .int .i64 ob, .int .i64 oc, .string s, .string t, .slice la ln lc, .slice ra rn rc] 36)).alloc (Obj.cells #[.int .i64 0, .bool false, .int .i64 0, .int .i64 0, .string ⟨#[]⟩, .slice none 0 0, .slice none 0 0] 39)) = wr at HR0 HB0 ⊢
  clear hwr hp
  obtain ⟨x0, x1, x2, x3, x4, x5, x6, x7⟩ := HCl.out HR0.out
  have HF := hid HFa0
  obtain ⟨pp, hpp⟩ : ∃ x, arithP kind oa ob = x := ⟨_, rfl⟩
  rw [hpp] at HF
  obtain ⟨pv, pc⟩ := pp
  have Hpp := hid hpp
  dsimp only at HF
  clear hpp HFa0
  go_wp2_with fail
  refine (HF.out _).mono ?_
  rintro e1 w1 ⟨rfl, rfl⟩
  clear HF x0 x1 x2 x3 x4 x5 x6 x7
  go_wp2_with (refine wpList_store_blk rfl 39 _ _ rfl (p + 1) rfl (ouC pc false pv 0 ByteArray.empty nilV nilV) rfl HR0.out.ou rfl I0.out (ou_one _ _ _ _ _ _ _ _ _ _ _) ?_; intro w9 HB9 HU9)
  have HFin := HR0.out.fin (O := { oz with c := (arithP kind oa ob).2, i := (arithP kind oa ob).1 }) rfl rfl HU9.out
  rw [Hpp.out] at HFin
  exact bodyPost_ret (results_blk (cs := ouC pc false pv 0 ByteArray.empty nilV nilV) Tryd.results9 rfl aggOu HB9.out) rfl (by rw [Hpp.out]; exact HFin)
theorem pstep4_walk (h : PlM w ρ pB bB a q S) (o : TOp) (hok : OpOk w o) (hk : o.kind = 4) : Calls Tryd.prog 9 #[.pointer (some ⟨pB, 0, none⟩), .agg (opCells o).toArray] w fun e w' => RsP w ρ pB ({ oz with c := (arithP o.kind o.a o.b).2, i := (arithP o.kind o.a o.b).1 }) (S) e w' := by
  have HR0 := hid (Rs.new h o)
  have HB0 := hid (Rs.newB w o)
  have HZr : Hid (∀ g, w.heap.size ≤ g → ρ g = 0) := hid (fun g hg => h.zero hg)
  have I0 := hid info_ou
  have HOk := hid hok
  obtain ⟨p, hp⟩ : ∃ p, w.heap.size = p := ⟨_, rfl⟩
  rw [hp] at HR0
  obtain ⟨kind, oa, ob, oc, s, t, la, ln, lc, list, ra, rn, rc, recs⟩ := o
  have e0 : (opCells ⟨kind, oa, ob, oc, s, t, la, ln, lc, list, ra, rn, rc, recs⟩).toArray = #[.int .i64 kind, .int .i64 oa, .int .i64 ob, .int .i64 oc, .string s, .string t, .slice la ln lc, .slice ra rn rc] := rfl
  have HCl : Hid (∀ {ρ' bB' a' q' S'} {wx : World}, Rs w ρ pB p ⟨kind, oa, ob, oc, s, t, la, ln, lc, list, ra, rn, rc, recs⟩ ρ' bB' a' q' S' wx → wx.cell? ⟨p, 0, none⟩ = some (.int .i64 kind) ∧ wx.cell? ⟨p, 1, none⟩ = some (.int .i64 oa) ∧ wx.cell? ⟨p, 2, none⟩ = some (.int .i64 ob) ∧ wx.cell? ⟨p, 3, none⟩ = some (.int .i64 oc) ∧ wx.cell? ⟨p, 4, none⟩ = some (.string s) ∧ wx.cell? ⟨p, 5, none⟩ = some (.string t) ∧ wx.cell? ⟨p, 6, none⟩ = some (.slice la ln lc) ∧ wx.cell? ⟨p, 7, none⟩ = some (.slice ra rn rc)) := hid (fun h => ⟨h.ob.cell 0, h.ob.cell 1, h.ob.cell 2, h.ob.cell 3, h.ob.cell 4, h.ob.cell 5, h.ob.cell 6, h.ob.cell 7⟩)
  rw [e0] at HR0 HB0
  rw [show (opCells _).toArray = _ from e0]
  dsimp only at hk hok ⊢
  have k0 : (kind == 0) = false := by rw [hk]; rfl
  have k1 : (kind == 1) = false := by rw [hk]; rfl
  have k2 : (kind == 2) = false := by rw [hk]; rfl
  have k3 : (kind == 3) = false := by rw [hk]; rfl
  have k4 : (kind == 4) = true := by rw [hk]; rfl
  clear hok e0 h
  have HFa0 := hid (arith_both kind oa ob HOk.out.fa HOk.out.fb (by omega)).1
  clear hk
  go_enter Tryd.func9, Tryd.ntmps9
  go_upto_region 1 with fail
  generalize hwr : ((w.alloc (Obj.cells #[.int .i64 kind, .int .i64 oa, .int .i64 ob, .int .i64 oc, .string s, .string t, .slice la ln lc, .slice ra rn rc] 36)).alloc (Obj.cells #[.int .i64 0, .bool false, .int .i64 0, .int .i64 0, .string ⟨#[]⟩, .slice none 0 0, .slice none 0 0] 39)) = wr at HR0 HB0 ⊢
  clear hwr hp
  obtain ⟨x0, x1, x2, x3, x4, x5, x6, x7⟩ := HCl.out HR0.out
  have HF := hid HFa0
  obtain ⟨pp, hpp⟩ : ∃ x, arithP kind oa ob = x := ⟨_, rfl⟩
  rw [hpp] at HF
  obtain ⟨pv, pc⟩ := pp
  have Hpp := hid hpp
  dsimp only at HF
  clear hpp HFa0
  go_wp2_with fail
  refine (HF.out _).mono ?_
  rintro e1 w1 ⟨rfl, rfl⟩
  clear HF x0 x1 x2 x3 x4 x5 x6 x7
  go_wp2_with (refine wpList_store_blk rfl 39 _ _ rfl (p + 1) rfl (ouC pc false pv 0 ByteArray.empty nilV nilV) rfl HR0.out.ou rfl I0.out (ou_one _ _ _ _ _ _ _ _ _ _ _) ?_; intro w9 HB9 HU9)
  have HFin := HR0.out.fin (O := { oz with c := (arithP kind oa ob).2, i := (arithP kind oa ob).1 }) rfl rfl HU9.out
  rw [Hpp.out] at HFin
  exact bodyPost_ret (results_blk (cs := ouC pc false pv 0 ByteArray.empty nilV nilV) Tryd.results9 rfl aggOu HB9.out) rfl (by rw [Hpp.out]; exact HFin)
theorem pstep5_walk (h : PlM w ρ pB bB a q S) (o : TOp) (hok : OpOk w o) (hk : o.kind = 5) : Calls Tryd.prog 9 #[.pointer (some ⟨pB, 0, none⟩), .agg (opCells o).toArray] w fun e w' => RsP w ρ pB ({ oz with c := (arithP o.kind o.a o.b).2, i := (arithP o.kind o.a o.b).1 }) (S) e w' := by
  have HR0 := hid (Rs.new h o)
  have HB0 := hid (Rs.newB w o)
  have HZr : Hid (∀ g, w.heap.size ≤ g → ρ g = 0) := hid (fun g hg => h.zero hg)
  have I0 := hid info_ou
  have HOk := hid hok
  obtain ⟨p, hp⟩ : ∃ p, w.heap.size = p := ⟨_, rfl⟩
  rw [hp] at HR0
  obtain ⟨kind, oa, ob, oc, s, t, la, ln, lc, list, ra, rn, rc, recs⟩ := o
  have e0 : (opCells ⟨kind, oa, ob, oc, s, t, la, ln, lc, list, ra, rn, rc, recs⟩).toArray = #[.int .i64 kind, .int .i64 oa, .int .i64 ob, .int .i64 oc, .string s, .string t, .slice la ln lc, .slice ra rn rc] := rfl
  have HCl : Hid (∀ {ρ' bB' a' q' S'} {wx : World}, Rs w ρ pB p ⟨kind, oa, ob, oc, s, t, la, ln, lc, list, ra, rn, rc, recs⟩ ρ' bB' a' q' S' wx → wx.cell? ⟨p, 0, none⟩ = some (.int .i64 kind) ∧ wx.cell? ⟨p, 1, none⟩ = some (.int .i64 oa) ∧ wx.cell? ⟨p, 2, none⟩ = some (.int .i64 ob) ∧ wx.cell? ⟨p, 3, none⟩ = some (.int .i64 oc) ∧ wx.cell? ⟨p, 4, none⟩ = some (.string s) ∧ wx.cell? ⟨p, 5, none⟩ = some (.string t) ∧ wx.cell? ⟨p, 6, none⟩ = some (.slice la ln lc) ∧ wx.cell? ⟨p, 7, none⟩ = some (.slice ra rn rc)) := hid (fun h => ⟨h.ob.cell 0, h.ob.cell 1, h.ob.cell 2, h.ob.cell 3, h.ob.cell 4, h.ob.cell 5, h.ob.cell 6, h.ob.cell 7⟩)
  rw [e0] at HR0 HB0
  rw [show (opCells _).toArray = _ from e0]
  dsimp only at hk hok ⊢
  have k0 : (kind == 0) = false := by rw [hk]; rfl
  have k1 : (kind == 1) = false := by rw [hk]; rfl
  have k2 : (kind == 2) = false := by rw [hk]; rfl
  have k3 : (kind == 3) = false := by rw [hk]; rfl
  have k4 : (kind == 4) = false := by rw [hk]; rfl
  have k5 : (kind == 5) = true := by rw [hk]; rfl
  clear hok e0 h
  have HFa0 := hid (arith_both kind oa ob HOk.out.fa HOk.out.fb (by omega)).1
  clear hk
  go_enter Tryd.func9, Tryd.ntmps9
  go_upto_region 1 with fail
  generalize hwr : ((w.alloc (Obj.cells #[.int .i64 kind, .int .i64 oa, .int .i64 ob, .int .i64 oc, .string s, .string t, .slice la ln lc, .slice ra rn rc] 36)).alloc (Obj.cells #[.int .i64 0, .bool false, .int .i64 0, .int .i64 0, .string ⟨#[]⟩, .slice none 0 0, .slice none 0 0] 39)) = wr at HR0 HB0 ⊢
  clear hwr hp
  obtain ⟨x0, x1, x2, x3, x4, x5, x6, x7⟩ := HCl.out HR0.out
  have HF := hid HFa0
  obtain ⟨pp, hpp⟩ : ∃ x, arithP kind oa ob = x := ⟨_, rfl⟩
  rw [hpp] at HF
  obtain ⟨pv, pc⟩ := pp
  have Hpp := hid hpp
  dsimp only at HF
  clear hpp HFa0
  go_wp2_with fail
  refine (HF.out _).mono ?_
  rintro e1 w1 ⟨rfl, rfl⟩
  clear HF x0 x1 x2 x3 x4 x5 x6 x7
  go_wp2_with (refine wpList_store_blk rfl 39 _ _ rfl (p + 1) rfl (ouC pc false pv 0 ByteArray.empty nilV nilV) rfl HR0.out.ou rfl I0.out (ou_one _ _ _ _ _ _ _ _ _ _ _) ?_; intro w9 HB9 HU9)
  have HFin := HR0.out.fin (O := { oz with c := (arithP kind oa ob).2, i := (arithP kind oa ob).1 }) rfl rfl HU9.out
  rw [Hpp.out] at HFin
  exact bodyPost_ret (results_blk (cs := ouC pc false pv 0 ByteArray.empty nilV nilV) Tryd.results9 rfl aggOu HB9.out) rfl (by rw [Hpp.out]; exact HFin)
theorem pstep6_walk (h : PlM w ρ pB bB a q S) (o : TOp) (hok : OpOk w o) (hk : o.kind = 6) : Calls Tryd.prog 9 #[.pointer (some ⟨pB, 0, none⟩), .agg (opCells o).toArray] w fun e w' => RsP w ρ pB ({ oz with c := (arithP o.kind o.a o.b).2, i := (arithP o.kind o.a o.b).1 }) (S) e w' := by
  have HR0 := hid (Rs.new h o)
  have HB0 := hid (Rs.newB w o)
  have HZr : Hid (∀ g, w.heap.size ≤ g → ρ g = 0) := hid (fun g hg => h.zero hg)
  have I0 := hid info_ou
  have HOk := hid hok
  obtain ⟨p, hp⟩ : ∃ p, w.heap.size = p := ⟨_, rfl⟩
  rw [hp] at HR0
  obtain ⟨kind, oa, ob, oc, s, t, la, ln, lc, list, ra, rn, rc, recs⟩ := o
  have e0 : (opCells ⟨kind, oa, ob, oc, s, t, la, ln, lc, list, ra, rn, rc, recs⟩).toArray = #[.int .i64 kind, .int .i64 oa, .int .i64 ob, .int .i64 oc, .string s, .string t, .slice la ln lc, .slice ra rn rc] := rfl
  have HCl : Hid (∀ {ρ' bB' a' q' S'} {wx : World}, Rs w ρ pB p ⟨kind, oa, ob, oc, s, t, la, ln, lc, list, ra, rn, rc, recs⟩ ρ' bB' a' q' S' wx → wx.cell? ⟨p, 0, none⟩ = some (.int .i64 kind) ∧ wx.cell? ⟨p, 1, none⟩ = some (.int .i64 oa) ∧ wx.cell? ⟨p, 2, none⟩ = some (.int .i64 ob) ∧ wx.cell? ⟨p, 3, none⟩ = some (.int .i64 oc) ∧ wx.cell? ⟨p, 4, none⟩ = some (.string s) ∧ wx.cell? ⟨p, 5, none⟩ = some (.string t) ∧ wx.cell? ⟨p, 6, none⟩ = some (.slice la ln lc) ∧ wx.cell? ⟨p, 7, none⟩ = some (.slice ra rn rc)) := hid (fun h => ⟨h.ob.cell 0, h.ob.cell 1, h.ob.cell 2, h.ob.cell 3, h.ob.cell 4, h.ob.cell 5, h.ob.cell 6, h.ob.cell 7⟩)
  rw [e0] at HR0 HB0
  rw [show (opCells _).toArray = _ from e0]
  dsimp only at hk hok ⊢
  have k0 : (kind == 0) = false := by rw [hk]; rfl
  have k1 : (kind == 1) = false := by rw [hk]; rfl
  have k2 : (kind == 2) = false := by rw [hk]; rfl
  have k3 : (kind == 3) = false := by rw [hk]; rfl
  have k4 : (kind == 4) = false := by rw [hk]; rfl
  have k5 : (kind == 5) = false := by rw [hk]; rfl
  have k6 : (kind == 6) = true := by rw [hk]; rfl
  clear hok e0 h
  have HFa0 := hid (arith_both kind oa ob HOk.out.fa HOk.out.fb (by omega)).1
  clear hk
  go_enter Tryd.func9, Tryd.ntmps9
  go_upto_region 1 with fail
  generalize hwr : ((w.alloc (Obj.cells #[.int .i64 kind, .int .i64 oa, .int .i64 ob, .int .i64 oc, .string s, .string t, .slice la ln lc, .slice ra rn rc] 36)).alloc (Obj.cells #[.int .i64 0, .bool false, .int .i64 0, .int .i64 0, .string ⟨#[]⟩, .slice none 0 0, .slice none 0 0] 39)) = wr at HR0 HB0 ⊢
  clear hwr hp
  obtain ⟨x0, x1, x2, x3, x4, x5, x6, x7⟩ := HCl.out HR0.out
  have HF := hid HFa0
  obtain ⟨pp, hpp⟩ : ∃ x, arithP kind oa ob = x := ⟨_, rfl⟩
  rw [hpp] at HF
  obtain ⟨pv, pc⟩ := pp
  have Hpp := hid hpp
  dsimp only at HF
  clear hpp HFa0
  go_wp2_with fail
  refine (HF.out _).mono ?_
  rintro e1 w1 ⟨rfl, rfl⟩
  clear HF x0 x1 x2 x3 x4 x5 x6 x7
  go_wp2_with (refine wpList_store_blk rfl 39 _ _ rfl (p + 1) rfl (ouC pc false pv 0 ByteArray.empty nilV nilV) rfl HR0.out.ou rfl I0.out (ou_one _ _ _ _ _ _ _ _ _ _ _) ?_; intro w9 HB9 HU9)
  have HFin := HR0.out.fin (O := { oz with c := (arithP kind oa ob).2, i := (arithP kind oa ob).1 }) rfl rfl HU9.out
  rw [Hpp.out] at HFin
  exact bodyPost_ret (results_blk (cs := ouC pc false pv 0 ByteArray.empty nilV nilV) Tryd.results9 rfl aggOu HB9.out) rfl (by rw [Hpp.out]; exact HFin)
theorem pstep7_walk (h : PlM w ρ pB bB a q S) (o : TOp) (hok : OpOk w o) (hk : o.kind = 7) : Calls Tryd.prog 9 #[.pointer (some ⟨pB, 0, none⟩), .agg (opCells o).toArray] w fun e w' => RsP w ρ pB ({ oz with c := (arithP o.kind o.a o.b).2, i := (arithP o.kind o.a o.b).1 }) (S) e w' := by
  have HR0 := hid (Rs.new h o)
  have HB0 := hid (Rs.newB w o)
  have HZr : Hid (∀ g, w.heap.size ≤ g → ρ g = 0) := hid (fun g hg => h.zero hg)
  have I0 := hid info_ou
  have HOk := hid hok
  obtain ⟨p, hp⟩ : ∃ p, w.heap.size = p := ⟨_, rfl⟩
  rw [hp] at HR0
  obtain ⟨kind, oa, ob, oc, s, t, la, ln, lc, list, ra, rn, rc, recs⟩ := o
  have e0 : (opCells ⟨kind, oa, ob, oc, s, t, la, ln, lc, list, ra, rn, rc, recs⟩).toArray = #[.int .i64 kind, .int .i64 oa, .int .i64 ob, .int .i64 oc, .string s, .string t, .slice la ln lc, .slice ra rn rc] := rfl
  have HCl : Hid (∀ {ρ' bB' a' q' S'} {wx : World}, Rs w ρ pB p ⟨kind, oa, ob, oc, s, t, la, ln, lc, list, ra, rn, rc, recs⟩ ρ' bB' a' q' S' wx → wx.cell? ⟨p, 0, none⟩ = some (.int .i64 kind) ∧ wx.cell? ⟨p, 1, none⟩ = some (.int .i64 oa) ∧ wx.cell? ⟨p, 2, none⟩ = some (.int .i64 ob) ∧ wx.cell? ⟨p, 3, none⟩ = some (.int .i64 oc) ∧ wx.cell? ⟨p, 4, none⟩ = some (.string s) ∧ wx.cell? ⟨p, 5, none⟩ = some (.string t) ∧ wx.cell? ⟨p, 6, none⟩ = some (.slice la ln lc) ∧ wx.cell? ⟨p, 7, none⟩ = some (.slice ra rn rc)) := hid (fun h => ⟨h.ob.cell 0, h.ob.cell 1, h.ob.cell 2, h.ob.cell 3, h.ob.cell 4, h.ob.cell 5, h.ob.cell 6, h.ob.cell 7⟩)
  rw [e0] at HR0 HB0
  rw [show (opCells _).toArray = _ from e0]
  dsimp only at hk hok ⊢
  have k0 : (kind == 0) = false := by rw [hk]; rfl
  have k1 : (kind == 1) = false := by rw [hk]; rfl
  have k2 : (kind == 2) = false := by rw [hk]; rfl
  have k3 : (kind == 3) = false := by rw [hk]; rfl
  have k4 : (kind == 4) = false := by rw [hk]; rfl
  have k5 : (kind == 5) = false := by rw [hk]; rfl
  have k6 : (kind == 6) = false := by rw [hk]; rfl
  have k7 : (kind == 7) = true := by rw [hk]; rfl
  clear hok e0 h
  have HFa0 := hid (arith_both kind oa ob HOk.out.fa HOk.out.fb (by omega)).1
  clear hk
  go_enter Tryd.func9, Tryd.ntmps9
  go_upto_region 1 with fail
  generalize hwr : ((w.alloc (Obj.cells #[.int .i64 kind, .int .i64 oa, .int .i64 ob, .int .i64 oc, .string s, .string t, .slice la ln lc, .slice ra rn rc] 36)).alloc (Obj.cells #[.int .i64 0, .bool false, .int .i64 0, .int .i64 0, .string ⟨#[]⟩, .slice none 0 0, .slice none 0 0] 39)) = wr at HR0 HB0 ⊢
  clear hwr hp
  obtain ⟨x0, x1, x2, x3, x4, x5, x6, x7⟩ := HCl.out HR0.out
  have HF := hid HFa0
  obtain ⟨pp, hpp⟩ : ∃ x, arithP kind oa ob = x := ⟨_, rfl⟩
  rw [hpp] at HF
  obtain ⟨pv, pc⟩ := pp
  have Hpp := hid hpp
  dsimp only at HF
  clear hpp HFa0
  go_wp2_with fail
  refine (HF.out _).mono ?_
  rintro e1 w1 ⟨rfl, rfl⟩
  clear HF x0 x1 x2 x3 x4 x5 x6 x7
  go_wp2_with (refine wpList_store_blk rfl 39 _ _ rfl (p + 1) rfl (ouC pc false pv 0 ByteArray.empty nilV nilV) rfl HR0.out.ou rfl I0.out (ou_one _ _ _ _ _ _ _ _ _ _ _) ?_; intro w9 HB9 HU9)
  have HFin := HR0.out.fin (O := { oz with c := (arithP kind oa ob).2, i := (arithP kind oa ob).1 }) rfl rfl HU9.out
  rw [Hpp.out] at HFin
  exact bodyPost_ret (results_blk (cs := ouC pc false pv 0 ByteArray.empty nilV nilV) Tryd.results9 rfl aggOu HB9.out) rfl (by rw [Hpp.out]; exact HFin)
theorem pstep8_walk (h : PlM w ρ pB bB a q S) (o : TOp) (hok : OpOk w o) (hk : o.kind = 8) : Calls Tryd.prog 9 #[.pointer (some ⟨pB, 0, none⟩), .agg (opCells o).toArray] w fun e w' => RsP w ρ pB ({ oz with f := ltS o.s o.t, i := cmpL o.s.data.toList o.t.data.toList }) (S) e w' := by
  have HR0 := hid (Rs.new h o)
  have HB0 := hid (Rs.newB w o)
  have HZr : Hid (∀ g, w.heap.size ≤ g → ρ g = 0) := hid (fun g hg => h.zero hg)
  have I0 := hid info_ou
  have HOk := hid hok
  obtain ⟨p, hp⟩ : ∃ p, w.heap.size = p := ⟨_, rfl⟩
  rw [hp] at HR0
  obtain ⟨kind, oa, ob, oc, s, t, la, ln, lc, list, ra, rn, rc, recs⟩ := o
  have e0 : (opCells ⟨kind, oa, ob, oc, s, t, la, ln, lc, list, ra, rn, rc, recs⟩).toArray = #[.int .i64 kind, .int .i64 oa, .int .i64 ob, .int .i64 oc, .string s, .string t, .slice la ln lc, .slice ra rn rc] := rfl
  have HCl : Hid (∀ {ρ' bB' a' q' S'} {wx : World}, Rs w ρ pB p ⟨kind, oa, ob, oc, s, t, la, ln, lc, list, ra, rn, rc, recs⟩ ρ' bB' a' q' S' wx → wx.cell? ⟨p, 0, none⟩ = some (.int .i64 kind) ∧ wx.cell? ⟨p, 1, none⟩ = some (.int .i64 oa) ∧ wx.cell? ⟨p, 2, none⟩ = some (.int .i64 ob) ∧ wx.cell? ⟨p, 3, none⟩ = some (.int .i64 oc) ∧ wx.cell? ⟨p, 4, none⟩ = some (.string s) ∧ wx.cell? ⟨p, 5, none⟩ = some (.string t) ∧ wx.cell? ⟨p, 6, none⟩ = some (.slice la ln lc) ∧ wx.cell? ⟨p, 7, none⟩ = some (.slice ra rn rc)) := hid (fun h => ⟨h.ob.cell 0, h.ob.cell 1, h.ob.cell 2, h.ob.cell 3, h.ob.cell 4, h.ob.cell 5, h.ob.cell 6, h.ob.cell 7⟩)
  rw [e0] at HR0 HB0
  rw [show (opCells _).toArray = _ from e0]
  dsimp only at hk hok ⊢
  have k0 : (kind == 0) = false := by rw [hk]; rfl
  have k1 : (kind == 1) = false := by rw [hk]; rfl
  have k2 : (kind == 2) = false := by rw [hk]; rfl
  have k3 : (kind == 3) = false := by rw [hk]; rfl
  have k4 : (kind == 4) = false := by rw [hk]; rfl
  have k5 : (kind == 5) = false := by rw [hk]; rfl
  have k6 : (kind == 6) = false := by rw [hk]; rfl
  have k7 : (kind == 7) = false := by rw [hk]; rfl
  have k8 : (kind == 8) = true := by rw [hk]; rfl
  clear hok e0 h
  clear hk
  go_enter Tryd.func9, Tryd.ntmps9
  go_upto_region 1 with fail
  generalize hwr : ((w.alloc (Obj.cells #[.int .i64 kind, .int .i64 oa, .int .i64 ob, .int .i64 oc, .string s, .string t, .slice la ln lc, .slice ra rn rc] 36)).alloc (Obj.cells #[.int .i64 0, .bool false, .int .i64 0, .int .i64 0, .string ⟨#[]⟩, .slice none 0 0, .slice none 0 0] 39)) = wr at HR0 HB0 ⊢
  clear hwr hp
  obtain ⟨x0, x1, x2, x3, x4, x5, x6, x7⟩ := HCl.out HR0.out
  obtain ⟨ci, hci⟩ : ∃ x, cmpL s.data.toList t.data.toList = x := ⟨_, rfl⟩
  obtain ⟨bl, hbl⟩ : ∃ x, ltS s t = x := ⟨_, rfl⟩
  have HF1 : Hid (∀ wx, Calls Tryd.prog 19 #[.string s, .string t] wx fun e w' => e = .returned (.int .i64 ci) ∧ Below wx.heap.size wx w') := hid (fun wx => by
    refine (compare_walk s t (Nat.le_trans HOk.out.fs (by omega)) (Nat.le_trans HOk.out.ft (by omega)) wx).mono ?_
    rintro e w1 ⟨rfl, hd⟩
    rw [hci]
    exact ⟨rfl, hd.below _⟩)
  have HF2 : Hid (∀ wx, Calls Tryd.prog 20 #[.string s, .string t] wx fun e w' => e = .returned (.bool bl) ∧ Below wx.heap.size wx w') := hid (fun wx => by
    have := less_b s t (Nat.le_trans HOk.out.fs (by omega)) (Nat.le_trans HOk.out.ft (by omega)) wx
    rw [hbl] at this
    exact this)
  have Hci := hid hci
  have Hbl := hid hbl
  clear hci hbl
  go_upto_region 16 with fail
  obtain ⟨X, W, HTT, H0, hne, HC⟩ := class_below wr
  have HX : Hid (∀ y, Rs w ρ pB p ⟨kind, oa, ob, oc, s, t, la, ln, lc, list, ra, rn, rc, recs⟩ ρ bB a q S (W y)) := hid (fun y => HR0.out.below (HTT.out y))
  have y4 : ∀ y, (W y).cell? ⟨p, 4, none⟩ = some (.string s) := fun y => (HCl.out (HX.out y)).2.2.2.2.1
  have y5 : ∀ y, (W y).cell? ⟨p, 5, none⟩ = some (.string t) := fun y => (HCl.out (HX.out y)).2.2.2.2.2.1
  refine wp_region_class_tailT W 11 (by kernel_rfl) (by kernel_rfl) (by kernel_rfl) H0.out ?_
  dsimp only [List.take]
  repeat (go_big_quiet_step (first | (go_at_call 19; exact Calls.class_of HC.out (HF1.out _)) | (go_at_call 20; exact Calls.class_of HC.out (HF2.out _))))
  refine wpQuiet_nil ?_
  intro z
  have HZ := hid (HX.out z)
  generalize W z = wz at HZ ⊢
  clear y4 y5 H0 HTT HC hne HX HF1 HF2 HR0 x0 x1 x2 x3 x4 x5 x6 x7
  dsimp only [List.drop]
  refine wpList_store_blk rfl 39 _ _ rfl (p + 1) rfl (ouC 0 bl ci 0 ByteArray.empty nilV nilV) rfl HZ.out.ou rfl I0.out (ou_one _ _ _ _ _ _ _ _ _ _ _) ?_
  intro w9 HB9 HU9
  go_wp2
  exact bodyPost_ret (results_blk (cs := ouC 0 bl ci 0 ByteArray.empty nilV nilV) Tryd.results9 rfl aggOu HB9.out) rfl (by
    have h := HZ.out.fin (O := { oz with f := ltS s t, i := cmpL s.data.toList t.data.toList }) rfl rfl HU9.out
    rw [Hci.out, Hbl.out] at h ⊢
    exact h)
end
end Go.Proofs.Qxb6500890aDoor
