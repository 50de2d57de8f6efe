/- The player's step: kinds 19 to 22 and the others. Written by tools/mk_txp.py. -/
import Derived.Test.Qxb6500890aDoorTxP3
namespace Go.Proofs.Qxb6500890aDoor
open Go.RowKit
set_option linter.unusedSimpArgs false
set_option linter.unusedVariables false

def plcP (s : ByteArray) (z : Int) : Nat × Nat := placeP (s.data.toList.take (min z.toNat s.size))
def plcO (s : ByteArray) (z : Int) : OutP := { oz with i := ((plcP s z).1 : Int), j := ((plcP s z).2 : Int) }
def noteO (e : Er) : OutP := { oz with c := e.c, i := e.l, j := e.k }
section
variable {w wr w' : World} {ρ ρ' ρ'' : Rl} {pB bB bB' p : Nat} {a a' : Option Addr} {q q' : Nat} {S S' : TS} {o : TOp}
theorem Rs.note {e : Er} (h : Rs w ρ pB p o ρ' bB a q S wr) : Rs w ρ pB p o ρ' bB a q { S with er := e } (((wr.setCell ⟨pB, 1, none⟩ (.int .i64 e.c)).setCell ⟨pB, 2, none⟩ (.int .i64 e.l)).setCell ⟨pB, 3, none⟩ (.int .i64 e.k)) := by
  have hu : Upd pB wr (((wr.setCell ⟨pB, 1, none⟩ (.int .i64 e.c)).setCell ⟨pB, 2, none⟩ (.int .i64 e.l)).setCell ⟨pB, 3, none⟩ (.int .i64 e.k)) := (((Upd.refl pB wr).setCell rfl _).setCell rfl _).setCell rfl _
  have hb := ((h.pl.pb.set 1 (.int .i64 e.c)).set 2 (.int .i64 e.l)).set 3 (.int .i64 e.k)
  have hf : Fr (fun c => c == 1) ρ' wr ρ' (((wr.setCell ⟨pB, 1, none⟩ (.int .i64 e.c)).setCell ⟨pB, 2, none⟩ (.int .i64 e.l)).setCell ⟨pB, 3, none⟩ (.int .i64 e.k)) := Fr.upd hu (by rw [h.pl.rp]; rfl)
  exact h.next ⟨hb, h.pl.rp, h.pl.bu.fr hf rfl rfl, hf.dom h.pl.dm⟩ (hf.mono fun c hc => by simp at hc; rw [hc]; rfl)
set_option maxRecDepth 100000
set_option maxHeartbeats 2000000
theorem pstep19_walk (h : PlM w ρ pB bB a q S) (o : TOp) (hok : OpOk w o) (hk : o.kind = 19) (hs : o.s.size ≤ 65536) : Calls Tryd.prog 9 #[.pointer (some ⟨pB, 0, none⟩), .agg (opCells o).toArray] w fun e w' => RsP w ρ pB (plcO o.s o.a) (S) e w' := by
  have HR0 := hid (Rs.new h o)
  have HB0 := hid (Rs.newB w o)
  have HZr : Hid (∀ g, w.heap.size ≤ g → ρ g = 0) := hid (fun g hg => h.zero hg)
  have I0 := hid info_ou
  have HOk := hid hok
  obtain ⟨p, hp⟩ : ∃ p, w.heap.size = p := ⟨_, rfl⟩
  rw [hp] at HR0
  obtain ⟨kind, oa, ob, oc, s, t, la, ln, lc, list, ra, rn, rc, recs⟩ := o
  have e0 : (opCells ⟨kind, oa, ob, oc, s, t, la, ln, lc, list, ra, rn, rc, recs⟩).toArray = #[.int .i64 kind, .int .i64 oa, .int .i64 ob, .int .i64 oc, .string s, .string t, .slice la ln lc, .slice ra rn rc] := rfl
  have HCl : Hid (∀ {ρ' bB' a' q' S'} {wx : World}, Rs w ρ pB p ⟨kind, oa, ob, oc, s, t, la, ln, lc, list, ra, rn, rc, recs⟩ ρ' bB' a' q' S' wx → wx.cell? ⟨p, 0, none⟩ = some (.int .i64 kind) ∧ wx.cell? ⟨p, 1, none⟩ = some (.int .i64 oa) ∧ wx.cell? ⟨p, 2, none⟩ = some (.int .i64 ob) ∧ wx.cell? ⟨p, 3, none⟩ = some (.int .i64 oc) ∧ wx.cell? ⟨p, 4, none⟩ = some (.string s) ∧ wx.cell? ⟨p, 5, none⟩ = some (.string t) ∧ wx.cell? ⟨p, 6, none⟩ = some (.slice la ln lc) ∧ wx.cell? ⟨p, 7, none⟩ = some (.slice ra rn rc)) := hid (fun h => ⟨h.ob.cell 0, h.ob.cell 1, h.ob.cell 2, h.ob.cell 3, h.ob.cell 4, h.ob.cell 5, h.ob.cell 6, h.ob.cell 7⟩)
  rw [e0] at HR0 HB0
  rw [show (opCells _).toArray = _ from e0]
  dsimp only at hk hok ⊢
  have k0 : (kind == 0) = false := by rw [hk]; rfl
  have k1 : (kind == 1) = false := by rw [hk]; rfl
  have k2 : (kind == 2) = false := by rw [hk]; rfl
  have k3 : (kind == 3) = false := by rw [hk]; rfl
  have k4 : (kind == 4) = false := by rw [hk]; rfl
  have k5 : (kind == 5) = false := by rw [hk]; rfl
  have k6 : (kind == 6) = false := by rw [hk]; rfl
  have k7 : (kind == 7) = false := by rw [hk]; rfl
  have k8 : (kind == 8) = false := by rw [hk]; rfl
  have k9 : (kind == 9) = false := by rw [hk]; rfl
  have k10 : (kind == 10) = false := by rw [hk]; rfl
  have k11 : (kind == 11) = false := by rw [hk]; rfl
  have k12 : (kind == 12) = false := by rw [hk]; rfl
  have k13 : (kind == 13) = false := by rw [hk]; rfl
  have k14 : (kind == 14) = false := by rw [hk]; rfl
  have k15 : (kind == 15) = false := by rw [hk]; rfl
  have k16 : (kind == 16) = false := by rw [hk]; rfl
  have k17 : (kind == 17) = false := by rw [hk]; rfl
  have k18 : (kind == 18) = false := by rw [hk]; rfl
  have k19 : (kind == 19) = true := by rw [hk]; rfl
  clear hok e0 h
  clear hk
  go_enter Tryd.func9, Tryd.ntmps9
  go_upto_region 1 with fail
  generalize hwr : ((w.alloc (Obj.cells #[.int .i64 kind, .int .i64 oa, .int .i64 ob, .int .i64 oc, .string s, .string t, .slice la ln lc, .slice ra rn rc] 36)).alloc (Obj.cells #[.int .i64 0, .bool false, .int .i64 0, .int .i64 0, .string ⟨#[]⟩, .slice none 0 0, .slice none 0 0] 39)) = wr at HR0 HB0 ⊢
  clear hwr hp
  obtain ⟨x0, x1, x2, x3, x4, x5, x6, x7⟩ := HCl.out HR0.out
  have hs : s.size ≤ 65536 := hs
  have HF := hid (locate_walk s (by omega) oa HOk.out.fa)
  obtain ⟨pl, hpl⟩ : ∃ x, plcP s oa = x := ⟨_, rfl⟩
  rw [show placeP (s.data.toList.take (min oa.toNat s.size)) = pl from hpl] at HF
  obtain ⟨l1, l2⟩ := pl
  have Hpl := hid hpl
  rw [show plV (l1, l2) = .tuple #[.int .i64 (l1 : Int), .int .i64 (l2 : Int)] from rfl] at HF
  clear hpl
  go_wp2_with fail
  refine (HF.out _).mono ?_
  rintro e1 w1 ⟨rfl, rfl⟩
  clear HF x0 x1 x2 x3 x4 x5 x6 x7
  go_wp2_with (refine wpList_store_blk rfl 39 _ _ rfl (p + 1) rfl (ouC 0 false (l1 : Int) (l2 : Int) ByteArray.empty nilV nilV) rfl HR0.out.ou rfl I0.out (ou_one _ _ _ _ _ _ _ _ _ _ _) ?_; intro w9 HB9 HU9)
  exact bodyPost_ret (results_blk (cs := ouC 0 false (l1 : Int) (l2 : Int) ByteArray.empty nilV nilV) Tryd.results9 rfl aggOu HB9.out) rfl (by
    have h := HR0.out.fin (O := plcO s oa) rfl rfl HU9.out
    unfold plcO at h ⊢
    rw [Hpl.out] at h ⊢
    exact h)
theorem pstep21_walk (h : PlM w ρ pB bB a q S) (o : TOp) (hok : OpOk w o) (hk : o.kind = 21) (hN : Nms w) : Calls Tryd.prog 9 #[.pointer (some ⟨pB, 0, none⟩), .agg (opCells o).toArray] w fun e w' => RsP w ρ pB ({ oz with s := bsA (descP ⟨o.a, o.b, o.c⟩) }) (S) e w' := by
  have HR0 := hid (Rs.new h o)
  have HB0 := hid (Rs.newB w o)
  have HZr : Hid (∀ g, w.heap.size ≤ g → ρ g = 0) := hid (fun g hg => h.zero hg)
  have I0 := hid info_ou
  have HOk := hid hok
  obtain ⟨p, hp⟩ : ∃ p, w.heap.size = p := ⟨_, rfl⟩
  rw [hp] at HR0
  obtain ⟨kind, oa, ob, oc, s, t, la, ln, lc, list, ra, rn, rc, recs⟩ := o
  have e0 : (opCells ⟨kind, oa, ob, oc, s, t, la, ln, lc, list, ra, rn, rc, recs⟩).toArray = #[.int .i64 kind, .int .i64 oa, .int .i64 ob, .int .i64 oc, .string s, .string t, .slice la ln lc, .slice ra rn rc] := rfl
  have HCl : Hid (∀ {ρ' bB' a' q' S'} {wx : World}, Rs w ρ pB p ⟨kind, oa, ob, oc, s, t, la, ln, lc, list, ra, rn, rc, recs⟩ ρ' bB' a' q' S' wx → wx.cell? ⟨p, 0, none⟩ = some (.int .i64 kind) ∧ wx.cell? ⟨p, 1, none⟩ = some (.int .i64 oa) ∧ wx.cell? ⟨p, 2, none⟩ = some (.int .i64 ob) ∧ wx.cell? ⟨p, 3, none⟩ = some (.int .i64 oc) ∧ wx.cell? ⟨p, 4, none⟩ = some (.string s) ∧ wx.cell? ⟨p, 5, none⟩ = some (.string t) ∧ wx.cell? ⟨p, 6, none⟩ = some (.slice la ln lc) ∧ wx.cell? ⟨p, 7, none⟩ = some (.slice ra rn rc)) := hid (fun h => ⟨h.ob.cell 0, h.ob.cell 1, h.ob.cell 2, h.ob.cell 3, h.ob.cell 4, h.ob.cell 5, h.ob.cell 6, h.ob.cell 7⟩)
  rw [e0] at HR0 HB0
  rw [show (opCells _).toArray = _ from e0]
  dsimp only at hk hok ⊢
  have k0 : (kind == 0) = false := by rw [hk]; rfl
  have k1 : (kind == 1) = false := by rw [hk]; rfl
  have k2 : (kind == 2) = false := by rw [hk]; rfl
  have k3 : (kind == 3) = false := by rw [hk]; rfl
  have k4 : (kind == 4) = false := by rw [hk]; rfl
  have k5 : (kind == 5) = false := by rw [hk]; rfl
  have k6 : (kind == 6) = false := by rw [hk]; rfl
  have k7 : (kind == 7) = false := by rw [hk]; rfl
  have k8 : (kind == 8) = false := by rw [hk]; rfl
  have k9 : (kind == 9) = false := by rw [hk]; rfl
  have k10 : (kind == 10) = false := by rw [hk]; rfl
  have k11 : (kind == 11) = false := by rw [hk]; rfl
  have k12 : (kind == 12) = false := by rw [hk]; rfl
  have k13 : (kind == 13) = false := by rw [hk]; rfl
  have k14 : (kind == 14) = false := by rw [hk]; rfl
  have k15 : (kind == 15) = false := by rw [hk]; rfl
  have k16 : (kind == 16) = false := by rw [hk]; rfl
  have k17 : (kind == 17) = false := by rw [hk]; rfl
  have k18 : (kind == 18) = false := by rw [hk]; rfl
  have k19 : (kind == 19) = false := by rw [hk]; rfl
  have k20 : (kind == 20) = false := by rw [hk]; rfl
  have k21 : (kind == 21) = true := by rw [hk]; rfl
  clear hok e0 h
  clear hk
  go_enter Tryd.func9, Tryd.ntmps9
  go_upto_region 1 with fail
  generalize hwr : ((w.alloc (Obj.cells #[.int .i64 kind, .int .i64 oa, .int .i64 ob, .int .i64 oc, .string s, .string t, .slice la ln lc, .slice ra rn rc] 36)).alloc (Obj.cells #[.int .i64 0, .bool false, .int .i64 0, .int .i64 0, .string ⟨#[]⟩, .slice none 0 0, .slice none 0 0] 39)) = wr at HR0 HB0 ⊢
  clear hwr hp
  obtain ⟨x0, x1, x2, x3, x4, x5, x6, x7⟩ := HCl.out HR0.out
  have HF := hid (record_walk ⟨kind, oa, ob, oc, s, t, la, ln, lc, list, ra, rn, rc, recs⟩)
  have HD := hid (fun (wx : World) (h : Nms wx) => describe_walk h ⟨oa, ob, oc⟩ HOk.out.fa HOk.out.fb HOk.out.fc)
  obtain ⟨st, hst⟩ : ∃ x, bsA (descP ⟨oa, ob, oc⟩) = x := ⟨_, rfl⟩
  rw [show (⟨(descP ⟨oa, ob, oc⟩).toArray⟩ : ByteArray) = st from hst] at HD
  have Hst := hid hst
  have HNm := hid (hN.below HB0.out)
  rw [show (opCells ⟨kind, oa, ob, oc, s, t, la, ln, lc, list, ra, rn, rc, recs⟩).toArray = #[.int .i64 kind, .int .i64 oa, .int .i64 ob, .int .i64 oc, .string s, .string t, .slice la ln lc, .slice ra rn rc] from rfl] at HF
  clear hst hN
  go_wp2_with fail
  refine (HF.out _).mono ?_
  rintro e1 w1 ⟨rfl, hb1⟩
  have HR1 := hid (HR0.out.below hb1)
  have HD1 := hid (HD.out _ (HNm.out.below hb1))
  clear HF HR0 HD hb1 x0 x1 x2 x3 x4 x5 x6 x7
  go_wp2_with fail
  refine HD1.out.mono ?_
  rintro e2 w2 ⟨rfl, hb2⟩
  have HR2 := hid (HR1.out.below hb2)
  clear HD1 HR1 hb2
  go_wp2_with (refine wpList_store_blk rfl 39 _ _ rfl (p + 1) rfl (ouC 0 false 0 0 st nilV nilV) rfl HR2.out.ou rfl I0.out (ou_one _ _ _ _ _ _ _ _ _ _ _) ?_; intro w9 HB9 HU9)
  exact bodyPost_ret (results_blk (cs := ouC 0 false 0 0 st nilV nilV) Tryd.results9 rfl aggOu HB9.out) rfl (by
    have h := HR2.out.fin (O := { oz with s := bsA (descP ⟨oa, ob, oc⟩) }) rfl rfl HU9.out
    rw [Hst.out] at h ⊢
    exact h)
theorem pstepX_walk (h : PlM w ρ pB bB a q S) (o : TOp) (hok : OpOk w o) (hk : o.kind < 0 ∨ 22 < o.kind) : Calls Tryd.prog 9 #[.pointer (some ⟨pB, 0, none⟩), .agg (opCells o).toArray] w fun e w' => RsP w ρ pB (oz) (S) e w' := by
  have HR0 := hid (Rs.new h o)
  have HB0 := hid (Rs.newB w o)
  have HZr : Hid (∀ g, w.heap.size ≤ g → ρ g = 0) := hid (fun g hg => h.zero hg)
  have I0 := hid info_ou
  have HOk := hid hok
  obtain ⟨p, hp⟩ : ∃ p, w.heap.size = p := ⟨_, rfl⟩
  rw [hp] at HR0
  obtain ⟨kind, oa, ob, oc, s, t, la, ln, lc, list, ra, rn, rc, recs⟩ := o
  have e0 : (opCells ⟨kind, oa, ob, oc, s, t, la, ln, lc, list, ra, rn, rc, recs⟩).toArray = #[.int .i64 kind, .int .i64 oa, .int .i64 ob, .int .i64 oc, .string s, .string t, .slice la ln lc, .slice ra rn rc] := rfl
  have HCl : Hid (∀ {ρ' bB' a' q' S'} {wx : World}, Rs w ρ pB p ⟨kind, oa, ob, oc, s, t, la, ln, lc, list, ra, rn, rc, recs⟩ ρ' bB' a' q' S' wx → wx.cell? ⟨p, 0, none⟩ = some (.int .i64 kind) ∧ wx.cell? ⟨p, 1, none⟩ = some (.int .i64 oa) ∧ wx.cell? ⟨p, 2, none⟩ = some (.int .i64 ob) ∧ wx.cell? ⟨p, 3, none⟩ = some (.int .i64 oc) ∧ wx.cell? ⟨p, 4, none⟩ = some (.string s) ∧ wx.cell? ⟨p, 5, none⟩ = some (.string t) ∧ wx.cell? ⟨p, 6, none⟩ = some (.slice la ln lc) ∧ wx.cell? ⟨p, 7, none⟩ = some (.slice ra rn rc)) := hid (fun h => ⟨h.ob.cell 0, h.ob.cell 1, h.ob.cell 2, h.ob.cell 3, h.ob.cell 4, h.ob.cell 5, h.ob.cell 6, h.ob.cell 7⟩)
  rw [e0] at HR0 HB0
  rw [show (opCells _).toArray = _ from e0]
  dsimp only at hk hok ⊢
  have k0 : (kind == 0) = false := ne_bool (by omega)
  have k1 : (kind == 1) = false := ne_bool (by omega)
  have k2 : (kind == 2) = false := ne_bool (by omega)
  have k3 : (kind == 3) = false := ne_bool (by omega)
  have k4 : (kind == 4) = false := ne_bool (by omega)
  have k5 : (kind == 5) = false := ne_bool (by omega)
  have k6 : (kind == 6) = false := ne_bool (by omega)
  have k7 : (kind == 7) = false := ne_bool (by omega)
  have k8 : (kind == 8) = false := ne_bool (by omega)
  have k9 : (kind == 9) = false := ne_bool (by omega)
  have k10 : (kind == 10) = false := ne_bool (by omega)
  have k11 : (kind == 11) = false := ne_bool (by omega)
  have k12 : (kind == 12) = false := ne_bool (by omega)
  have k13 : (kind == 13) = false := ne_bool (by omega)
  have k14 : (kind == 14) = false := ne_bool (by omega)
  have k15 : (kind == 15) = false := ne_bool (by omega)
  have k16 : (kind == 16) = false := ne_bool (by omega)
  have k17 : (kind == 17) = false := ne_bool (by omega)
  have k18 : (kind == 18) = false := ne_bool (by omega)
  have k19 : (kind == 19) = false := ne_bool (by omega)
  have k20 : (kind == 20) = false := ne_bool (by omega)
  have k21 : (kind == 21) = false := ne_bool (by omega)
  have k22 : (kind == 22) = false := ne_bool (by omega)
  clear hok e0 h
  clear hk
  go_enter Tryd.func9, Tryd.ntmps9
  go_upto_region 1 with fail
  generalize hwr : ((w.alloc (Obj.cells #[.int .i64 kind, .int .i64 oa, .int .i64 ob, .int .i64 oc, .string s, .string t, .slice la ln lc, .slice ra rn rc] 36)).alloc (Obj.cells #[.int .i64 0, .bool false, .int .i64 0, .int .i64 0, .string ⟨#[]⟩, .slice none 0 0, .slice none 0 0] 39)) = wr at HR0 HB0 ⊢
  clear hwr hp
  obtain ⟨x0, x1, x2, x3, x4, x5, x6, x7⟩ := HCl.out HR0.out
  go_wp2_with (refine wpList_store_blk rfl 39 _ _ rfl (p + 1) rfl (ouC 0 false 0 0 ByteArray.empty nilV nilV) rfl HR0.out.ou rfl I0.out (ou_one _ _ _ _ _ _ _ _ _ _ _) ?_; intro w9 HB9 HU9)
  exact bodyPost_ret (results_blk (cs := ouC 0 false 0 0 ByteArray.empty nilV nilV) Tryd.results9 rfl aggOu HB9.out) rfl (HR0.out.fin (O := oz) rfl rfl HU9.out)
end
end Go.Proofs.Qxb6500890aDoor
