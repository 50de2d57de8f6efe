/- The player's step: kinds 9 to 12. Written by tools/mk_txp.py. -/
import Derived.Test.Qxb6500890aDoorTxP1
namespace Go.Proofs.Qxb6500890aDoor
open Go.RowKit
set_option linter.unusedSimpArgs false
set_option linter.unusedVariables false

theorem strs_flat (l : List ByteArray) : l.flatMap strCell = l.map .string := by
  induction l with
  | nil => rfl
  | cons x l ih => rw [List.flatMap_cons, ih]; rfl
theorem OwR.ofS {w : World} {g n0 n : Nat} {Y : List ByteArray} (h : Blk w g 9 (Y.map .string)) (hn : Y.length = n) (hl : n ≤ 65536) (h0 : n0 ≤ g) : OwR rtS n0 w (.slice (some ⟨g, 0, none⟩) n n) Y := by
  subst hn
  refine ⟨by simp [rtS, strs_flat], .inr ⟨g, Y.length, (Y.map Value.string).toArray, rfl, h0, h, Nat.le_refl _, by unfold maxLen; omega, by simp [rtS], ?_⟩⟩
  show List.take (Y.length * 1) (Y.map Value.string) = Y.flatMap strCell
  rw [strs_flat, Nat.mul_one, List.take_of_length_le (by simp)]
theorem OwR.ofK {w : World} {g n0 n : Nat} {Y : List Rec} (h : BlkK w g Y) (hn : Y.length = n) (hl : n ≤ 65536) (h0 : n0 ≤ g) : OwR rtK n0 w (.slice (some ⟨g, 0, none⟩) n n) Y := by
  subst hn
  have e := flat_len Y
  refine ⟨e, .inr ⟨g, Y.length, (flat Y).toArray, rfl, h0, h, Nat.le_refl _, by unfold maxLen; omega, by show (flat Y).toArray.size = _; rw [List.size_toArray]; exact e, ?_⟩⟩
  show List.take (Y.length * 2) (flat Y) = flat Y
  rw [List.take_of_length_le (by rw [e]; exact Nat.le_refl _)]
section
variable {w wr w' : World} {ρ ρ' ρ'' : Rl} {pB bB bB' p : Nat} {a a' : Option Addr} {q q' : Nat} {S S' : TS} {o : TOp}
theorem Rs.newBuf (h : Rs w ρ pB p o ρ' bB a q S wr) (n : Nat) (hn : n ≤ 9223372036854775807) : Rs w ρ pB p o (fup ρ' wr.heap.size 2) wr.heap.size none 0 { S with bs := [], lim := n } ((wr.alloc (.cells #[.slice none 0 0, .int .i64 (n : Int)] 93)).setCell ⟨pB, 0, none⟩ (.pointer (some ⟨wr.heap.size, 0, none⟩))) := by
  have k1 := Blk.new wr [.slice none 0 0, .int .i64 (n : Int)] 93
  have f1 : Fr plX ρ' wr (fup ρ' wr.heap.size 2) (wr.alloc (.cells #[.slice none 0 0, .int .i64 (n : Int)] 93)) := Fr.alloc _ _ _ _ _
  have hlt := h.pl.pb.lt
  have r1 : fup ρ' wr.heap.size 2 pB = 1 := by rw [fup_ne _ _ (by omega)]; exact h.pl.rp
  have hb := h.pl.pb.of (Below.heap_alloc wr (.cells #[.slice none 0 0, .int .i64 (n : Int)] 93) _ hlt)
  have d1 := f1.dom h.pl.dm
  generalize wr.alloc (.cells #[.slice none 0 0, .int .i64 (n : Int)] 93) = w1 at k1 f1 hb d1
  generalize hg : wr.heap.size = g at k1 f1 r1 d1 hlt ⊢
  have hu : Upd pB w1 (w1.setCell ⟨pB, 0, none⟩ (.pointer (some ⟨g, 0, none⟩))) := (Upd.refl pB w1).setCell rfl _
  have f2 : Fr plX (fup ρ' g 2) w1 (fup ρ' g 2) (w1.setCell ⟨pB, 0, none⟩ (.pointer (some ⟨g, 0, none⟩))) := Fr.upd hu (by rw [r1]; rfl)
  refine h.next ⟨hb.set 0 _, r1, ⟨k1.of (hu.block _ k1.lt (by omega)), fup_self _ _ _, .inl ⟨rfl, rfl, rfl⟩, by omega, hn⟩, f2.dom d1⟩ (f1.trans f2)
set_option maxRecDepth 100000
set_option maxHeartbeats 2000000
theorem pstep9_walk (h : PlM w ρ pB bB a q S) (o : TOp) (hok : OpOk w o) (hk : o.kind = 9) (hl : o.ln ≤ 65536) : Calls Tryd.prog 9 #[.pointer (some ⟨pB, 0, none⟩), .agg (opCells o).toArray] w fun e w' => RsP w ρ pB ({ oz with f := true, list := ssort ltS o.list }) (S) e w' := by
  have HR0 := hid (Rs.new h o)
  have HB0 := hid (Rs.newB w o)
  have HZr : Hid (∀ g, w.heap.size ≤ g → ρ g = 0) := hid (fun g hg => h.zero hg)
  have I0 := hid info_ou
  have HOk := hid hok
  obtain ⟨p, hp⟩ : ∃ p, w.heap.size = p := ⟨_, rfl⟩
  rw [hp] at HR0
  obtain ⟨kind, oa, ob, oc, s, t, la, ln, lc, list, ra, rn, rc, recs⟩ := o
  have e0 : (opCells ⟨kind, oa, ob, oc, s, t, la, ln, lc, list, ra, rn, rc, recs⟩).toArray = #[.int .i64 kind, .int .i64 oa, .int .i64 ob, .int .i64 oc, .string s, .string t, .slice la ln lc, .slice ra rn rc] := rfl
  have HCl : Hid (∀ {ρ' bB' a' q' S'} {wx : World}, Rs w ρ pB p ⟨kind, oa, ob, oc, s, t, la, ln, lc, list, ra, rn, rc, recs⟩ ρ' bB' a' q' S' wx → wx.cell? ⟨p, 0, none⟩ = some (.int .i64 kind) ∧ wx.cell? ⟨p, 1, none⟩ = some (.int .i64 oa) ∧ wx.cell? ⟨p, 2, none⟩ = some (.int .i64 ob) ∧ wx.cell? ⟨p, 3, none⟩ = some (.int .i64 oc) ∧ wx.cell? ⟨p, 4, none⟩ = some (.string s) ∧ wx.cell? ⟨p, 5, none⟩ = some (.string t) ∧ wx.cell? ⟨p, 6, none⟩ = some (.slice la ln lc) ∧ wx.cell? ⟨p, 7, none⟩ = some (.slice ra rn rc)) := hid (fun h => ⟨h.ob.cell 0, h.ob.cell 1, h.ob.cell 2, h.ob.cell 3, h.ob.cell 4, h.ob.cell 5, h.ob.cell 6, h.ob.cell 7⟩)
  rw [e0] at HR0 HB0
  rw [show (opCells _).toArray = _ from e0]
  dsimp only at hk hok ⊢
  have k0 : (kind == 0) = false := by rw [hk]; rfl
  have k1 : (kind == 1) = false := by rw [hk]; rfl
  have k2 : (kind == 2) = false := by rw [hk]; rfl
  have k3 : (kind == 3) = false := by rw [hk]; rfl
  have k4 : (kind == 4) = false := by rw [hk]; rfl
  have k5 : (kind == 5) = false := by rw [hk]; rfl
  have k6 : (kind == 6) = false := by rw [hk]; rfl
  have k7 : (kind == 7) = false := by rw [hk]; rfl
  have k8 : (kind == 8) = false := by rw [hk]; rfl
  have k9 : (kind == 9) = true := by rw [hk]; rfl
  clear hok e0 h
  clear hk
  go_enter Tryd.func9, Tryd.ntmps9
  go_upto_region 1 with fail
  generalize hwr : ((w.alloc (Obj.cells #[.int .i64 kind, .int .i64 oa, .int .i64 ob, .int .i64 oc, .string s, .string t, .slice la ln lc, .slice ra rn rc] 36)).alloc (Obj.cells #[.int .i64 0, .bool false, .int .i64 0, .int .i64 0, .string ⟨#[]⟩, .slice none 0 0, .slice none 0 0] 39)) = wr at HR0 HB0 ⊢
  clear hwr hp
  obtain ⟨x0, x1, x2, x3, x4, x5, x6, x7⟩ := HCl.out HR0.out
  have hl : ln ≤ 65536 := hl
  have hln : (ln : Int) ≤ 65536 := by omega
  have hln2 : ln ≤ 65536 := hl
  have HF := hid (copyStrings_walk la ln lc list wr (HOk.out.below HB0.out).list hl)
  have HLl : Hid (list.length = ln) := hid HOk.out.list.len
  obtain ⟨g, hg⟩ : ∃ g, wr.heap.size = g := ⟨_, rfl⟩
  have Hg := hid hg
  rw [hg] at HF
  clear hl hg
  go_wp2_with fail
  refine HF.out.mono ?_
  rintro e1 w1 ⟨rfl, hb1, hk1⟩
  have HR1 := hid (HR0.out.below (by rw [Hg.out]; exact hb1))
  have Hz : Hid (ρ g = 0 ∧ p + 2 ≤ g ∧ w.heap.size ≤ g) := hid ⟨HR0.out.pl.zero (by rw [Hg.out]; exact Nat.le_refl _), by have := HR0.out.ou.lt; have := Hg.out; omega, by have := HR0.out.ou.lt; have := HR0.out.lo; have := Hg.out; omega⟩
  have HS1 := hid (sortStrings_walk g ln list HLl.out hln2 HOk.out.fl w1 hk1)
  clear hb1 HF HR0 hk1 x0 x1 x2 x3 x4 x5 x6 x7
  go_wp2_with fail
  refine HS1.out.mono ?_
  rintro e2 w2 ⟨rfl, hu2, hk2⟩
  have HR2 := hid (HR1.out.own hu2 Hz.out.2.2 Hz.out.1 (by have := Hz.out; omega) (by have := Hz.out; omega))
  have HK2 := hid hk2
  have HLs : Hid ((ssort ltS list).length = ln) := hid (by rw [ssort_length]; exact HLl.out)
  have HFs : Hid (∀ x ∈ ssort ltS list, x.size ≤ 140737488351232) := hid (fun x hx => HOk.out.fl x ((ssort_perm list).mem_iff.1 hx))
  clear hu2 hk2 HR1 HS1
  have HI := hid (isSorted_walk g ln list HLs.out hln2 HFs.out w2 HK2.out)
  go_wp2_with fail
  refine HI.out.mono ?_
  rintro e3 w3 ⟨rfl, hb3⟩
  have HR3 := hid (HR2.out.below hb3)
  have HO3 := hid (OwR.ofS (n0 := p + 2) (HK2.out.below hb3) HLs.out hln2 Hz.out.2.1)
  clear hb3 HI HR2 HK2
  go_wp2_with (refine wpList_store_blk rfl 39 _ _ rfl (p + 1) rfl (ouC 0 true 0 0 ByteArray.empty (.slice (some ⟨g, 0, none⟩) ln ln) nilV) rfl HR3.out.ou rfl I0.out (ou_one _ _ _ _ _ _ _ _ _ _ _) ?_; intro w9 HB9 HU9)
  exact bodyPost_ret (results_blk (cs := ouC 0 true 0 0 ByteArray.empty (.slice (some ⟨g, 0, none⟩) ln ln) nilV) Tryd.results9 rfl aggOu HB9.out) rfl (HR3.out.finL (O := { oz with f := true, list := ssort ltS list }) HO3.out rfl HU9.out)
theorem pstep10_walk (h : PlM w ρ pB bB a q S) (o : TOp) (hok : OpOk w o) (hk : o.kind = 10) (hl : o.rn ≤ 65536) : Calls Tryd.prog 9 #[.pointer (some ⟨pB, 0, none⟩), .agg (opCells o).toArray] w fun e w' => RsP w ρ pB ({ oz with recs := ssort ltK o.recs }) (S) e w' := by
  have HR0 := hid (Rs.new h o)
  have HB0 := hid (Rs.newB w o)
  have HZr : Hid (∀ g, w.heap.size ≤ g → ρ g = 0) := hid (fun g hg => h.zero hg)
  have I0 := hid info_ou
  have HOk := hid hok
  obtain ⟨p, hp⟩ : ∃ p, w.heap.size = p := ⟨_, rfl⟩
  rw [hp] at HR0
  obtain ⟨kind, oa, ob, oc, s, t, la, ln, lc, list, ra, rn, rc, recs⟩ := o
  have e0 : (opCells ⟨kind, oa, ob, oc, s, t, la, ln, lc, list, ra, rn, rc, recs⟩).toArray = #[.int .i64 kind, .int .i64 oa, .int .i64 ob, .int .i64 oc, .string s, .string t, .slice la ln lc, .slice ra rn rc] := rfl
  have HCl : Hid (∀ {ρ' bB' a' q' S'} {wx : World}, Rs w ρ pB p ⟨kind, oa, ob, oc, s, t, la, ln, lc, list, ra, rn, rc, recs⟩ ρ' bB' a' q' S' wx → wx.cell? ⟨p, 0, none⟩ = some (.int .i64 kind) ∧ wx.cell? ⟨p, 1, none⟩ = some (.int .i64 oa) ∧ wx.cell? ⟨p, 2, none⟩ = some (.int .i64 ob) ∧ wx.cell? ⟨p, 3, none⟩ = some (.int .i64 oc) ∧ wx.cell? ⟨p, 4, none⟩ = some (.string s) ∧ wx.cell? ⟨p, 5, none⟩ = some (.string t) ∧ wx.cell? ⟨p, 6, none⟩ = some (.slice la ln lc) ∧ wx.cell? ⟨p, 7, none⟩ = some (.slice ra rn rc)) := hid (fun h => ⟨h.ob.cell 0, h.ob.cell 1, h.ob.cell 2, h.ob.cell 3, h.ob.cell 4, h.ob.cell 5, h.ob.cell 6, h.ob.cell 7⟩)
  rw [e0] at HR0 HB0
  rw [show (opCells _).toArray = _ from e0]
  dsimp only at hk hok ⊢
  have k0 : (kind == 0) = false := by rw [hk]; rfl
  have k1 : (kind == 1) = false := by rw [hk]; rfl
  have k2 : (kind == 2) = false := by rw [hk]; rfl
  have k3 : (kind == 3) = false := by rw [hk]; rfl
  have k4 : (kind == 4) = false := by rw [hk]; rfl
  have k5 : (kind == 5) = false := by rw [hk]; rfl
  have k6 : (kind == 6) = false := by rw [hk]; rfl
  have k7 : (kind == 7) = false := by rw [hk]; rfl
  have k8 : (kind == 8) = false := by rw [hk]; rfl
  have k9 : (kind == 9) = false := by rw [hk]; rfl
  have k10 : (kind == 10) = true := by rw [hk]; rfl
  clear hok e0 h
  clear hk
  go_enter Tryd.func9, Tryd.ntmps9
  go_upto_region 1 with fail
  generalize hwr : ((w.alloc (Obj.cells #[.int .i64 kind, .int .i64 oa, .int .i64 ob, .int .i64 oc, .string s, .string t, .slice la ln lc, .slice ra rn rc] 36)).alloc (Obj.cells #[.int .i64 0, .bool false, .int .i64 0, .int .i64 0, .string ⟨#[]⟩, .slice none 0 0, .slice none 0 0] 39)) = wr at HR0 HB0 ⊢
  clear hwr hp
  obtain ⟨x0, x1, x2, x3, x4, x5, x6, x7⟩ := HCl.out HR0.out
  have hl : rn ≤ 65536 := hl
  have hln : (rn : Int) ≤ 65536 := by omega
  have hln2 : rn ≤ 65536 := hl
  have HF := hid (copyKeyed_walk ra rn rc recs wr (HOk.out.below HB0.out).recs hl)
  have HLl : Hid (recs.length = rn) := hid HOk.out.recs.len
  obtain ⟨g, hg⟩ : ∃ g, wr.heap.size = g := ⟨_, rfl⟩
  have Hg := hid hg
  rw [hg] at HF
  clear hl hg
  go_wp2_with fail
  refine HF.out.mono ?_
  rintro e1 w1 ⟨rfl, hb1, hk1⟩
  have HR1 := hid (HR0.out.below (by rw [Hg.out]; exact hb1))
  have Hz : Hid (ρ g = 0 ∧ p + 2 ≤ g ∧ w.heap.size ≤ g) := hid ⟨HR0.out.pl.zero (by rw [Hg.out]; exact Nat.le_refl _), by have := HR0.out.ou.lt; have := Hg.out; omega, by have := HR0.out.ou.lt; have := HR0.out.lo; have := Hg.out; omega⟩
  have HS1 := hid (sortKeyed_walk g rn recs HLl.out hln2 (fun r hr => (HOk.out.fr r hr).1) w1 hk1)
  clear hb1 HF HR0 hk1 x0 x1 x2 x3 x4 x5 x6 x7
  go_wp2_with fail
  refine HS1.out.mono ?_
  rintro e2 w2 ⟨rfl, hu2, hk2⟩
  have HR2 := hid (HR1.out.own hu2 Hz.out.2.2 Hz.out.1 (by have := Hz.out; omega) (by have := Hz.out; omega))
  have HLs : Hid ((ssort ltK recs).length = rn) := hid (by rw [ssort_length]; exact HLl.out)
  have HO3 := hid (OwR.ofK (n0 := p + 2) hk2 HLs.out hln2 Hz.out.2.1)
  clear hu2 hk2 HR1 HS1
  go_wp2_with (refine wpList_store_blk rfl 39 _ _ rfl (p + 1) rfl (ouC 0 false 0 0 ByteArray.empty nilV (.slice (some ⟨g, 0, none⟩) rn rn)) rfl HR2.out.ou rfl I0.out (ou_one _ _ _ _ _ _ _ _ _ _ _) ?_; intro w9 HB9 HU9)
  exact bodyPost_ret (results_blk (cs := ouC 0 false 0 0 ByteArray.empty nilV (.slice (some ⟨g, 0, none⟩) rn rn)) Tryd.results9 rfl aggOu HB9.out) rfl (HR2.out.finK (O := { oz with recs := ssort ltK recs }) rfl HO3.out HU9.out)
theorem pstep11_walk (h : PlM w ρ pB bB a q S) (o : TOp) (hok : OpOk w o) (hk : o.kind = 11) (hl : o.ln ≤ 65536) : Calls Tryd.prog 9 #[.pointer (some ⟨pB, 0, none⟩), .agg (opCells o).toArray] w fun e w' => RsP w ρ pB ({ oz with i := (belP (ssort ltS o.list) o.s : Int), f := fndP (ssort ltS o.list) o.s }) (S) e w' := by
  have HR0 := hid (Rs.new h o)
  have HB0 := hid (Rs.newB w o)
  have HZr : Hid (∀ g, w.heap.size ≤ g → ρ g = 0) := hid (fun g hg => h.zero hg)
  have I0 := hid info_ou
  have HOk := hid hok
  obtain ⟨p, hp⟩ : ∃ p, w.heap.size = p := ⟨_, rfl⟩
  rw [hp] at HR0
  obtain ⟨kind, oa, ob, oc, s, t, la, ln, lc, list, ra, rn, rc, recs⟩ := o
  have e0 : (opCells ⟨kind, oa, ob, oc, s, t, la, ln, lc, list, ra, rn, rc, recs⟩).toArray = #[.int .i64 kind, .int .i64 oa, .int .i64 ob, .int .i64 oc, .string s, .string t, .slice la ln lc, .slice ra rn rc] := rfl
  have HCl : Hid (∀ {ρ' bB' a' q' S'} {wx : World}, Rs w ρ pB p ⟨kind, oa, ob, oc, s, t, la, ln, lc, list, ra, rn, rc, recs⟩ ρ' bB' a' q' S' wx → wx.cell? ⟨p, 0, none⟩ = some (.int .i64 kind) ∧ wx.cell? ⟨p, 1, none⟩ = some (.int .i64 oa) ∧ wx.cell? ⟨p, 2, none⟩ = some (.int .i64 ob) ∧ wx.cell? ⟨p, 3, none⟩ = some (.int .i64 oc) ∧ wx.cell? ⟨p, 4, none⟩ = some (.string s) ∧ wx.cell? ⟨p, 5, none⟩ = some (.string t) ∧ wx.cell? ⟨p, 6, none⟩ = some (.slice la ln lc) ∧ wx.cell? ⟨p, 7, none⟩ = some (.slice ra rn rc)) := hid (fun h => ⟨h.ob.cell 0, h.ob.cell 1, h.ob.cell 2, h.ob.cell 3, h.ob.cell 4, h.ob.cell 5, h.ob.cell 6, h.ob.cell 7⟩)
  rw [e0] at HR0 HB0
  rw [show (opCells _).toArray = _ from e0]
  dsimp only at hk hok ⊢
  have k0 : (kind == 0) = false := by rw [hk]; rfl
  have k1 : (kind == 1) = false := by rw [hk]; rfl
  have k2 : (kind == 2) = false := by rw [hk]; rfl
  have k3 : (kind == 3) = false := by rw [hk]; rfl
  have k4 : (kind == 4) = false := by rw [hk]; rfl
  have k5 : (kind == 5) = false := by rw [hk]; rfl
  have k6 : (kind == 6) = false := by rw [hk]; rfl
  have k7 : (kind == 7) = false := by rw [hk]; rfl
  have k8 : (kind == 8) = false := by rw [hk]; rfl
  have k9 : (kind == 9) = false := by rw [hk]; rfl
  have k10 : (kind == 10) = false := by rw [hk]; rfl
  have k11 : (kind == 11) = true := by rw [hk]; rfl
  clear hok e0 h
  clear hk
  go_enter Tryd.func9, Tryd.ntmps9
  go_upto_region 1 with fail
  generalize hwr : ((w.alloc (Obj.cells #[.int .i64 kind, .int .i64 oa, .int .i64 ob, .int .i64 oc, .string s, .string t, .slice la ln lc, .slice ra rn rc] 36)).alloc (Obj.cells #[.int .i64 0, .bool false, .int .i64 0, .int .i64 0, .string ⟨#[]⟩, .slice none 0 0, .slice none 0 0] 39)) = wr at HR0 HB0 ⊢
  clear hwr hp
  obtain ⟨x0, x1, x2, x3, x4, x5, x6, x7⟩ := HCl.out HR0.out
  have hl : ln ≤ 65536 := hl
  have hln : (ln : Int) ≤ 65536 := by omega
  have hln2 : ln ≤ 65536 := hl
  have HF := hid (copyStrings_walk la ln lc list wr (HOk.out.below HB0.out).list hl)
  have HLl : Hid (list.length = ln) := hid HOk.out.list.len
  obtain ⟨g, hg⟩ : ∃ g, wr.heap.size = g := ⟨_, rfl⟩
  have Hg := hid hg
  rw [hg] at HF
  clear hl hg
  go_wp2_with fail
  refine HF.out.mono ?_
  rintro e1 w1 ⟨rfl, hb1, hk1⟩
  have HR1 := hid (HR0.out.below (by rw [Hg.out]; exact hb1))
  have Hz : Hid (ρ g = 0 ∧ p + 2 ≤ g ∧ w.heap.size ≤ g) := hid ⟨HR0.out.pl.zero (by rw [Hg.out]; exact Nat.le_refl _), by have := HR0.out.ou.lt; have := Hg.out; omega, by have := HR0.out.ou.lt; have := HR0.out.lo; have := Hg.out; omega⟩
  have HS1 := hid (sortStrings_walk g ln list HLl.out hln2 HOk.out.fl w1 hk1)
  clear hb1 HF HR0 hk1 x0 x1 x2 x3 x4 x5 x6 x7
  go_wp2_with fail
  refine HS1.out.mono ?_
  rintro e2 w2 ⟨rfl, hu2, hk2⟩
  have HR2 := hid (HR1.out.own hu2 Hz.out.2.2 Hz.out.1 (by have := Hz.out; omega) (by have := Hz.out; omega))
  have HK2 := hid hk2
  have HLs : Hid ((ssort ltS list).length = ln) := hid (by rw [ssort_length]; exact HLl.out)
  have HFs : Hid (∀ x ∈ ssort ltS list, x.size ≤ 140737488351232) := hid (fun x hx => HOk.out.fl x ((ssort_perm list).mem_iff.1 hx))
  clear hu2 hk2 HR1 HS1
  have HI := hid (search_walk g ln (ssort ltS list) (ssort_srt ltS_ord list) HLs.out hln2 HFs.out s HOk.out.fs w2 HK2.out)
  obtain ⟨fi, hfi⟩ : ∃ x, belP (ssort ltS list) s = x := ⟨_, rfl⟩
  obtain ⟨fb, hfb⟩ : ∃ x, fndP (ssort ltS list) s = x := ⟨_, rfl⟩
  have esv : seV (ssort ltS list) s = .tuple #[.int .i64 (fi : Int), .bool fb] := by unfold seV; rw [hfi, hfb]
  rw [esv] at HI
  have Hfi := hid hfi
  have Hfb := hid hfb
  clear hfi hfb esv
  have x4 := (HCl.out HR2.out).2.2.2.2.1
  go_wp2_with fail
  refine HI.out.mono ?_
  rintro e3 w3 ⟨rfl, hb3⟩
  have HR3 := hid (HR2.out.below hb3)
  clear hb3 HI HR2 HK2 x4
  go_wp2_with (refine wpList_store_blk rfl 39 _ _ rfl (p + 1) rfl (ouC 0 fb (fi : Int) 0 ByteArray.empty nilV nilV) rfl HR3.out.ou rfl I0.out (ou_one _ _ _ _ _ _ _ _ _ _ _) ?_; intro w9 HB9 HU9)
  exact bodyPost_ret (results_blk (cs := ouC 0 fb (fi : Int) 0 ByteArray.empty nilV nilV) Tryd.results9 rfl aggOu HB9.out) rfl (by
    have h := HR3.out.fin (O := { oz with i := (belP (ssort ltS list) s : Int), f := fndP (ssort ltS list) s }) rfl rfl HU9.out
    rw [Hfi.out, Hfb.out] at h ⊢
    exact h)
theorem pstep12_walk (h : PlM w ρ pB bB a q S) (o : TOp) (hok : OpOk w o) (hk : o.kind = 12) : Calls Tryd.prog 9 #[.pointer (some ⟨pB, 0, none⟩), .agg (opCells o).toArray] w fun e w' => RsP w ρ pB (shO { S with bs := [], lim := o.a.toNat } 0) ({ S with bs := [], lim := o.a.toNat }) e w' := by
  have HR0 := hid (Rs.new h o)
  have HB0 := hid (Rs.newB w o)
  have HZr : Hid (∀ g, w.heap.size ≤ g → ρ g = 0) := hid (fun g hg => h.zero hg)
  have I0 := hid info_ou
  have HOk := hid hok
  obtain ⟨p, hp⟩ : ∃ p, w.heap.size = p := ⟨_, rfl⟩
  rw [hp] at HR0
  obtain ⟨kind, oa, ob, oc, s, t, la, ln, lc, list, ra, rn, rc, recs⟩ := o
  have e0 : (opCells ⟨kind, oa, ob, oc, s, t, la, ln, lc, list, ra, rn, rc, recs⟩).toArray = #[.int .i64 kind, .int .i64 oa, .int .i64 ob, .int .i64 oc, .string s, .string t, .slice la ln lc, .slice ra rn rc] := rfl
  have HCl : Hid (∀ {ρ' bB' a' q' S'} {wx : World}, Rs w ρ pB p ⟨kind, oa, ob, oc, s, t, la, ln, lc, list, ra, rn, rc, recs⟩ ρ' bB' a' q' S' wx → wx.cell? ⟨p, 0, none⟩ = some (.int .i64 kind) ∧ wx.cell? ⟨p, 1, none⟩ = some (.int .i64 oa) ∧ wx.cell? ⟨p, 2, none⟩ = some (.int .i64 ob) ∧ wx.cell? ⟨p, 3, none⟩ = some (.int .i64 oc) ∧ wx.cell? ⟨p, 4, none⟩ = some (.string s) ∧ wx.cell? ⟨p, 5, none⟩ = some (.string t) ∧ wx.cell? ⟨p, 6, none⟩ = some (.slice la ln lc) ∧ wx.cell? ⟨p, 7, none⟩ = some (.slice ra rn rc)) := hid (fun h => ⟨h.ob.cell 0, h.ob.cell 1, h.ob.cell 2, h.ob.cell 3, h.ob.cell 4, h.ob.cell 5, h.ob.cell 6, h.ob.cell 7⟩)
  rw [e0] at HR0 HB0
  rw [show (opCells _).toArray = _ from e0]
  dsimp only at hk hok ⊢
  have k0 : (kind == 0) = false := by rw [hk]; rfl
  have k1 : (kind == 1) = false := by rw [hk]; rfl
  have k2 : (kind == 2) = false := by rw [hk]; rfl
  have k3 : (kind == 3) = false := by rw [hk]; rfl
  have k4 : (kind == 4) = false := by rw [hk]; rfl
  have k5 : (kind == 5) = false := by rw [hk]; rfl
  have k6 : (kind == 6) = false := by rw [hk]; rfl
  have k7 : (kind == 7) = false := by rw [hk]; rfl
  have k8 : (kind == 8) = false := by rw [hk]; rfl
  have k9 : (kind == 9) = false := by rw [hk]; rfl
  have k10 : (kind == 10) = false := by rw [hk]; rfl
  have k11 : (kind == 11) = false := by rw [hk]; rfl
  have k12 : (kind == 12) = true := by rw [hk]; rfl
  clear hok e0 h
  clear hk
  go_enter Tryd.func9, Tryd.ntmps9
  go_upto_region 1 with fail
  generalize hwr : ((w.alloc (Obj.cells #[.int .i64 kind, .int .i64 oa, .int .i64 ob, .int .i64 oc, .string s, .string t, .slice la ln lc, .slice ra rn rc] 36)).alloc (Obj.cells #[.int .i64 0, .bool false, .int .i64 0, .int .i64 0, .string ⟨#[]⟩, .slice none 0 0, .slice none 0 0] 39)) = wr at HR0 HB0 ⊢
  clear hwr hp
  obtain ⟨x0, x1, x2, x3, x4, x5, x6, x7⟩ := HCl.out HR0.out
  have HF := hid (newBuffer_walk oa HOk.out.fa wr)
  have hnl : oa.toNat ≤ 9223372036854775807 := by have h1 : oa ≤ 9223372036854775807 := HOk.out.fa.2; omega
  have HN := hid (HR0.out.newBuf oa.toNat hnl)
  have c1 := HR0.out.pl.cells.1
  have HP0 := hid HR0.out.pl.pb
  obtain ⟨g, hg⟩ : ∃ g, wr.heap.size = g := ⟨_, rfl⟩
  rw [hg] at HF HN
  obtain ⟨n, hn⟩ : ∃ n, oa.toNat = n := ⟨_, rfl⟩
  rw [hn] at HF HN
  have Hn := hid hn
  have Hg := hid hg
  clear hn hnl hg
  go_wp2_with fail
  refine HF.out.mono ?_
  rintro e1 w1 ⟨rfl, rfl⟩
  have f1 : (wr.alloc (.cells #[.slice none 0 0, .int .i64 (n : Int)] 93)).frozen? ⟨pB, 0, none⟩ = false := (HP0.out.below (nbel _ _)).frozen _
  have c2 : (wr.alloc (.cells #[.slice none 0 0, .int .i64 (n : Int)] 93)).cell? ⟨pB, 0, none⟩ = some (.pointer (some ⟨bB, 0, none⟩)) := (HP0.out.below (nbel _ _)).cell 0
  clear HF HR0 x0 x1 x2 x3 x4 x5 x6 x7 c1 HP0
  go_upto_region 32 with fail
  generalize hw2 : (wr.alloc (.cells #[.slice none 0 0, .int .i64 (n : Int)] 93)).setCell ⟨pB, 0, none⟩ (.pointer (some ⟨g, 0, none⟩)) = w2 at HN ⊢
  clear hw2 f1 c2
  have HSh := hid (show_walk HN.out.pl true 0)
  rw [if_pos rfl] at HSh
  obtain ⟨bs, lim, er⟩ := S
  dsimp only at HN HSh
  go_wp2_with fail
  refine HSh.out.mono ?_
  rintro e8 w8 ⟨rfl, hb8⟩
  have HR8 := hid (HN.out.below hb8)
  clear hb8 HSh HN
  go_wp2_with (refine wpList_store_blk rfl 39 _ _ rfl (p + 1) rfl (ouC (shO ⟨[], n, er⟩ 0).c (shO ⟨[], n, er⟩ 0).f (shO ⟨[], n, er⟩ 0).i (shO ⟨[], n, er⟩ 0).j (shO ⟨[], n, er⟩ 0).s nilV nilV) rfl HR8.out.ou rfl I0.out (ou_one _ _ _ _ _ _ _ _ _ _ _) ?_; intro w9 HB9 HU9)
  exact bodyPost_ret (results_blk (cs := ouC (shO ⟨[], n, er⟩ 0).c (shO ⟨[], n, er⟩ 0).f (shO ⟨[], n, er⟩ 0).i (shO ⟨[], n, er⟩ 0).j (shO ⟨[], n, er⟩ 0).s nilV nilV) Tryd.results9 rfl aggOu HB9.out) rfl (by rw [Hn.out]; exact HR8.out.fin (O := shO ⟨[], n, er⟩ 0) rfl rfl HU9.out)
end
end Go.Proofs.Qxb6500890aDoor
