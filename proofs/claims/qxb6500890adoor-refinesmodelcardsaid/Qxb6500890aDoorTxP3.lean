/- The player's step: kinds 13 to 18. Written by tools/mk_txp.py. -/
import Derived.Test.Qxb6500890aDoorTxP2
namespace Go.Proofs.Qxb6500890aDoor
open Go.RowKit
set_option linter.unusedSimpArgs false
set_option linter.unusedVariables false

theorem wrS_eq (S : TS) (s : List UInt8) : wrS S s = { S with bs := if roomP S.lim S.bs.length s.length then S.bs ++ s else S.bs } := by
  unfold wrS
  split <;> rfl
def trS (S : TS) (z : Int) : TS := { S with bs := if 0 ≤ z ∧ z ≤ (S.bs.length : Int) then S.bs.take z.toNat else S.bs }
def trC (S : TS) (z : Int) : Int := if decide (0 ≤ z ∧ z ≤ (S.bs.length : Int)) then 0 else 6
def atO (S : TS) (z : Int) : OutP := if 0 ≤ z ∧ z < (S.bs.length : Int) then { oz with i := ((S.bs.getD z.toNat 0).toNat : Int) } else { oz with c := 6 }
def byteA (z : Int) : UInt8 := UInt8.ofNat (z % 256).toNat
theorem byteA_wrap (z : Int) : IntKind.u8.wrap z = ((byteA z).toNat : Int) := by
  have h1 : 0 ≤ z % 256 := Int.emod_nonneg _ (by decide)
  have h2 : z % 256 < 256 := Int.emod_lt_of_pos _ (by decide)
  unfold byteA
  rw [ofNat_toNat (by omega)]
  have : IntKind.u8.wrap z = z % 256 := by simp [IntKind.wrap, IntKind.bits, IntKind.signed]
  rw [this]
  omega
section
variable {w wr w' : World} {ρ ρ' ρ'' : Rl} {pB bB bB' p : Nat} {a a' : Option Addr} {q q' : Nat} {S S' : TS} {o : TOp}
theorem Rs.write {cs : List UInt8} {e : Ending} (h : Rs w ρ pB p o ρ' bB a q S wr) (hA : AdP wr ρ' bB S.lim S.bs cs e w') : e = .returned (.bool (roomP S.lim S.bs.length cs.length)) ∧ ∃ ρ'' a' q', Rs w ρ pB p o ρ'' bB a' q' (wrS S cs) w' := by
  obtain ⟨a', q', ρ'', h1, h2, h3⟩ := hA
  refine ⟨h1, ρ'', a', q', ?_⟩
  rw [wrS_eq]
  exact h.next (h.pl.buf h2 h3) (h3.mono fun c hc => buX_pl hc)
theorem Rs.trunc {z : Int} (h : Rs w ρ pB p o ρ' bB a q S wr) (hT : TrP wr ρ' bB S.lim (if 0 ≤ z ∧ z ≤ (S.bs.length : Int) then S.bs.take z.toNat else S.bs) a q w') : Rs w ρ pB p o ρ' bB a q (trS S z) w' := h.next (h.pl.buf hT.1 hT.2) (hT.2.mono fun c hc => buX_pl hc)
set_option maxRecDepth 100000
set_option maxHeartbeats 2000000
theorem pstep13_walk (h : PlM w ρ pB bB a q S) (o : TOp) (hok : OpOk w o) (hk : o.kind = 13) (hb : S.bs.length + 65536 ≤ 68719476736) : Calls Tryd.prog 9 #[.pointer (some ⟨pB, 0, none⟩), .agg (opCells o).toArray] w fun e w' => RsP w ρ pB (shO (wrS S [byteA o.a]) (wrC S [byteA o.a])) (wrS S [byteA o.a]) e w' := by
  have HR0 := hid (Rs.new h o)
  have HB0 := hid (Rs.newB w o)
  have HZr : Hid (∀ g, w.heap.size ≤ g → ρ g = 0) := hid (fun g hg => h.zero hg)
  have I0 := hid info_ou
  have HOk := hid hok
  obtain ⟨p, hp⟩ : ∃ p, w.heap.size = p := ⟨_, rfl⟩
  rw [hp] at HR0
  obtain ⟨kind, oa, ob, oc, s, t, la, ln, lc, list, ra, rn, rc, recs⟩ := o
  have e0 : (opCells ⟨kind, oa, ob, oc, s, t, la, ln, lc, list, ra, rn, rc, recs⟩).toArray = #[.int .i64 kind, .int .i64 oa, .int .i64 ob, .int .i64 oc, .string s, .string t, .slice la ln lc, .slice ra rn rc] := rfl
  have HCl : Hid (∀ {ρ' bB' a' q' S'} {wx : World}, Rs w ρ pB p ⟨kind, oa, ob, oc, s, t, la, ln, lc, list, ra, rn, rc, recs⟩ ρ' bB' a' q' S' wx → wx.cell? ⟨p, 0, none⟩ = some (.int .i64 kind) ∧ wx.cell? ⟨p, 1, none⟩ = some (.int .i64 oa) ∧ wx.cell? ⟨p, 2, none⟩ = some (.int .i64 ob) ∧ wx.cell? ⟨p, 3, none⟩ = some (.int .i64 oc) ∧ wx.cell? ⟨p, 4, none⟩ = some (.string s) ∧ wx.cell? ⟨p, 5, none⟩ = some (.string t) ∧ wx.cell? ⟨p, 6, none⟩ = some (.slice la ln lc) ∧ wx.cell? ⟨p, 7, none⟩ = some (.slice ra rn rc)) := hid (fun h => ⟨h.ob.cell 0, h.ob.cell 1, h.ob.cell 2, h.ob.cell 3, h.ob.cell 4, h.ob.cell 5, h.ob.cell 6, h.ob.cell 7⟩)
  rw [e0] at HR0 HB0
  rw [show (opCells _).toArray = _ from e0]
  dsimp only at hk hok ⊢
  have k0 : (kind == 0) = false := by rw [hk]; rfl
  have k1 : (kind == 1) = false := by rw [hk]; rfl
  have k2 : (kind == 2) = false := by rw [hk]; rfl
  have k3 : (kind == 3) = false := by rw [hk]; rfl
  have k4 : (kind == 4) = false := by rw [hk]; rfl
  have k5 : (kind == 5) = false := by rw [hk]; rfl
  have k6 : (kind == 6) = false := by rw [hk]; rfl
  have k7 : (kind == 7) = false := by rw [hk]; rfl
  have k8 : (kind == 8) = false := by rw [hk]; rfl
  have k9 : (kind == 9) = false := by rw [hk]; rfl
  have k10 : (kind == 10) = false := by rw [hk]; rfl
  have k11 : (kind == 11) = false := by rw [hk]; rfl
  have k12 : (kind == 12) = false := by rw [hk]; rfl
  have k13 : (kind == 13) = true := by rw [hk]; rfl
  clear hok e0 h
  clear hk
  go_enter Tryd.func9, Tryd.ntmps9
  go_upto_region 1 with fail
  generalize hwr : ((w.alloc (Obj.cells #[.int .i64 kind, .int .i64 oa, .int .i64 ob, .int .i64 oc, .string s, .string t, .slice la ln lc, .slice ra rn rc] 36)).alloc (Obj.cells #[.int .i64 0, .bool false, .int .i64 0, .int .i64 0, .string ⟨#[]⟩, .slice none 0 0, .slice none 0 0] 39)) = wr at HR0 HB0 ⊢
  clear hwr hp
  obtain ⟨x0, x1, x2, x3, x4, x5, x6, x7⟩ := HCl.out HR0.out
  have e8 := byteA_wrap oa
  have HSS : Hid (∀ {ρ' a' q' S'} {wx : World}, Rs w ρ pB p ⟨kind, oa, ob, oc, s, t, la, ln, lc, list, ra, rn, rc, recs⟩ ρ' bB a' q' S' wx → wx.cell? ⟨pB, 0, none⟩ = some (.pointer (some ⟨bB, 0, none⟩)) ∧ wx.cell? ⟨p, 1, none⟩ = some (.int .i64 oa)) := hid (fun h => ⟨h.pl.cells.1, (HCl.out h).2.1⟩)
  go_upto_region 34 with fail
  refine wp_region_heavy (fun wx => wx.cell? ⟨pB, 0, none⟩ = some (.pointer (some ⟨bB, 0, none⟩)) ∧ wx.cell? ⟨p, 1, none⟩ = some (.int .i64 oa)) 10 [0, 1, 2, 3, 4, 5, 6, 7] [8, 9] rfl (by kernel_rfl) (by kernel_rfl) (fun d _ _ _ _ h => by cases d <;> exact h) (HSS.out (HR0.out.below (Drew.below ⟨1, rfl⟩ _))) ?_
  apply Exists.intro
  refine ⟨?_, ?_⟩
  · intro W hW
    have y1 := fun x => (hW x).1
    have y2 := fun x => (hW x).2
    simp only [List.take, opsAt, List.drop, List.cons_append, List.nil_append]
    repeat (go_big_quiet_step (fail))
    exact rfl
  simp only [List.take, List.drop, opsAt, List.cons_append, List.nil_append, wpHv]
  have HBd : Hid (Below wr.heap.size wr wr.drew) := hid (Drew.below ⟨1, rfl⟩ _)
  generalize wr.drew = wd at HBd ⊢
  have HRd := hid (HR0.out.below HBd.out)
  clear HBd HR0 x0 x1 x2 x3 x4 x5 x6 x7
  have HA := hid (addByte_walk HRd.out.pl.bu (byteA oa) (by omega))
  go_wp2_with fail
  refine HA.out.mono ?_
  intro e7 w7 h7
  obtain ⟨rfl, ρ7, a7, q7, h8⟩ := HRd.out.write h7
  have HR1 := hid h8
  clear h7 h8
  obtain ⟨rm, hrm⟩ : ∃ x, roomP S.lim S.bs.length ([byteA oa]).length = x := ⟨_, rfl⟩
  have HC2 : Hid ((if rm = true then (0 : Int) else 5) = wrC S ([byteA oa])) := hid (by unfold wrC; rw [hrm])
  rw [hrm]
  clear hrm
  have HSh := hid (show_walk HR1.out.pl rm 5)
  rw [show (if rm = true then (0 : Int) else 5) = wrC S [byteA oa] from HC2.out] at HSh
  obtain ⟨S9, hS9⟩ : ∃ x, wrS S [byteA oa] = x := ⟨_, rfl⟩
  obtain ⟨c9, hc9⟩ : ∃ x, wrC S [byteA oa] = x := ⟨_, rfl⟩
  rw [hS9] at HR1
  have HS9 := hid hS9
  have Hc9 := hid hc9
  rw [hS9, hc9] at HSh
  clear hS9 hc9 HC2
  clear HA HRd
  go_wp2_with fail
  refine ⟨HSS.out HR1.out, ?_⟩
  go_wp2_with fail
  refine HSh.out.mono ?_
  rintro e8 w8 ⟨rfl, hb8⟩
  have HR8 := hid (HR1.out.below hb8)
  clear hb8 HSh HR1
  go_wp2_with fail
  refine ⟨HSS.out HR8.out, ?_⟩
  simp only [QN]
  refine wpList_store_blk rfl 39 _ _ rfl (p + 1) rfl (ouC c9 false (S9.bs.length : Int) (S9.lim : Int) (bsA S9.bs) nilV nilV) rfl HR8.out.ou rfl I0.out (ou_one _ _ _ _ _ _ _ _ _ _ _) ?_
  intro w9 HB9 HU9
  go_wp2
  exact bodyPost_ret (results_blk (cs := ouC c9 false (S9.bs.length : Int) (S9.lim : Int) (bsA S9.bs) nilV nilV) Tryd.results9 rfl aggOu HB9.out) rfl (by
    have h := HR8.out.fin (O := shO S9 c9) rfl rfl HU9.out
    rw [← HS9.out, ← Hc9.out] at h ⊢
    exact h)
theorem pstep14_walk (h : PlM w ρ pB bB a q S) (o : TOp) (hok : OpOk w o) (hk : o.kind = 14) (hb : S.bs.length + 65536 ≤ 68719476736) (hs : o.s.size ≤ 65536) : Calls Tryd.prog 9 #[.pointer (some ⟨pB, 0, none⟩), .agg (opCells o).toArray] w fun e w' => RsP w ρ pB (shO (wrS S o.s.data.toList) (wrC S o.s.data.toList)) (wrS S o.s.data.toList) e w' := by
  have HR0 := hid (Rs.new h o)
  have HB0 := hid (Rs.newB w o)
  have HZr : Hid (∀ g, w.heap.size ≤ g → ρ g = 0) := hid (fun g hg => h.zero hg)
  have I0 := hid info_ou
  have HOk := hid hok
  obtain ⟨p, hp⟩ : ∃ p, w.heap.size = p := ⟨_, rfl⟩
  rw [hp] at HR0
  obtain ⟨kind, oa, ob, oc, s, t, la, ln, lc, list, ra, rn, rc, recs⟩ := o
  have e0 : (opCells ⟨kind, oa, ob, oc, s, t, la, ln, lc, list, ra, rn, rc, recs⟩).toArray = #[.int .i64 kind, .int .i64 oa, .int .i64 ob, .int .i64 oc, .string s, .string t, .slice la ln lc, .slice ra rn rc] := rfl
  have HCl : Hid (∀ {ρ' bB' a' q' S'} {wx : World}, Rs w ρ pB p ⟨kind, oa, ob, oc, s, t, la, ln, lc, list, ra, rn, rc, recs⟩ ρ' bB' a' q' S' wx → wx.cell? ⟨p, 0, none⟩ = some (.int .i64 kind) ∧ wx.cell? ⟨p, 1, none⟩ = some (.int .i64 oa) ∧ wx.cell? ⟨p, 2, none⟩ = some (.int .i64 ob) ∧ wx.cell? ⟨p, 3, none⟩ = some (.int .i64 oc) ∧ wx.cell? ⟨p, 4, none⟩ = some (.string s) ∧ wx.cell? ⟨p, 5, none⟩ = some (.string t) ∧ wx.cell? ⟨p, 6, none⟩ = some (.slice la ln lc) ∧ wx.cell? ⟨p, 7, none⟩ = some (.slice ra rn rc)) := hid (fun h => ⟨h.ob.cell 0, h.ob.cell 1, h.ob.cell 2, h.ob.cell 3, h.ob.cell 4, h.ob.cell 5, h.ob.cell 6, h.ob.cell 7⟩)
  rw [e0] at HR0 HB0
  rw [show (opCells _).toArray = _ from e0]
  dsimp only at hk hok ⊢
  have k0 : (kind == 0) = false := by rw [hk]; rfl
  have k1 : (kind == 1) = false := by rw [hk]; rfl
  have k2 : (kind == 2) = false := by rw [hk]; rfl
  have k3 : (kind == 3) = false := by rw [hk]; rfl
  have k4 : (kind == 4) = false := by rw [hk]; rfl
  have k5 : (kind == 5) = false := by rw [hk]; rfl
  have k6 : (kind == 6) = false := by rw [hk]; rfl
  have k7 : (kind == 7) = false := by rw [hk]; rfl
  have k8 : (kind == 8) = false := by rw [hk]; rfl
  have k9 : (kind == 9) = false := by rw [hk]; rfl
  have k10 : (kind == 10) = false := by rw [hk]; rfl
  have k11 : (kind == 11) = false := by rw [hk]; rfl
  have k12 : (kind == 12) = false := by rw [hk]; rfl
  have k13 : (kind == 13) = false := by rw [hk]; rfl
  have k14 : (kind == 14) = true := by rw [hk]; rfl
  clear hok e0 h
  clear hk
  go_enter Tryd.func9, Tryd.ntmps9
  go_upto_region 1 with fail
  generalize hwr : ((w.alloc (Obj.cells #[.int .i64 kind, .int .i64 oa, .int .i64 ob, .int .i64 oc, .string s, .string t, .slice la ln lc, .slice ra rn rc] 36)).alloc (Obj.cells #[.int .i64 0, .bool false, .int .i64 0, .int .i64 0, .string ⟨#[]⟩, .slice none 0 0, .slice none 0 0] 39)) = wr at HR0 HB0 ⊢
  clear hwr hp
  obtain ⟨x0, x1, x2, x3, x4, x5, x6, x7⟩ := HCl.out HR0.out
  have hs : s.size ≤ 65536 := hs
  have HSS : Hid (∀ {ρ' a' q' S'} {wx : World}, Rs w ρ pB p ⟨kind, oa, ob, oc, s, t, la, ln, lc, list, ra, rn, rc, recs⟩ ρ' bB a' q' S' wx → wx.cell? ⟨pB, 0, none⟩ = some (.pointer (some ⟨bB, 0, none⟩)) ∧ wx.cell? ⟨p, 4, none⟩ = some (.string s)) := hid (fun h => ⟨h.pl.cells.1, (HCl.out h).2.2.2.2.1⟩)
  go_upto_region 36 with fail
  refine wp_region_heavy (fun wx => wx.cell? ⟨pB, 0, none⟩ = some (.pointer (some ⟨bB, 0, none⟩)) ∧ wx.cell? ⟨p, 4, none⟩ = some (.string s)) 9 [0, 1, 2, 3, 4, 5, 6] [7, 8] rfl (by kernel_rfl) (by kernel_rfl) (fun d _ _ _ _ h => by cases d <;> exact h) (HSS.out (HR0.out.below (Drew.below ⟨1, rfl⟩ _))) ?_
  apply Exists.intro
  refine ⟨?_, ?_⟩
  · intro W hW
    have y1 := fun x => (hW x).1
    have y2 := fun x => (hW x).2
    simp only [List.take, opsAt, List.drop, List.cons_append, List.nil_append]
    repeat (go_big_quiet_step (fail))
    exact rfl
  simp only [List.take, List.drop, opsAt, List.cons_append, List.nil_append, wpHv]
  have HBd : Hid (Below wr.heap.size wr wr.drew) := hid (Drew.below ⟨1, rfl⟩ _)
  generalize wr.drew = wd at HBd ⊢
  have HRd := hid (HR0.out.below HBd.out)
  clear HBd HR0 x0 x1 x2 x3 x4 x5 x6 x7
  have HA := hid (addString_walk HRd.out.pl.bu s (by omega) (by omega))
  go_wp2_with fail
  refine HA.out.mono ?_
  intro e7 w7 h7
  obtain ⟨rfl, ρ7, a7, q7, h8⟩ := HRd.out.write h7
  have HR1 := hid h8
  clear h7 h8
  obtain ⟨rm, hrm⟩ : ∃ x, roomP S.lim S.bs.length (s.data.toList).length = x := ⟨_, rfl⟩
  have HC2 : Hid ((if rm = true then (0 : Int) else 5) = wrC S (s.data.toList)) := hid (by unfold wrC; rw [hrm])
  rw [hrm]
  clear hrm
  have HSh := hid (show_walk HR1.out.pl rm 5)
  rw [show (if rm = true then (0 : Int) else 5) = wrC S s.data.toList from HC2.out] at HSh
  obtain ⟨S9, hS9⟩ : ∃ x, wrS S s.data.toList = x := ⟨_, rfl⟩
  obtain ⟨c9, hc9⟩ : ∃ x, wrC S s.data.toList = x := ⟨_, rfl⟩
  rw [hS9] at HR1
  have HS9 := hid hS9
  have Hc9 := hid hc9
  rw [hS9, hc9] at HSh
  clear hS9 hc9 HC2
  clear HA HRd
  go_wp2_with fail
  refine ⟨HSS.out HR1.out, ?_⟩
  go_wp2_with fail
  refine HSh.out.mono ?_
  rintro e8 w8 ⟨rfl, hb8⟩
  have HR8 := hid (HR1.out.below hb8)
  clear hb8 HSh HR1
  go_wp2_with fail
  refine ⟨HSS.out HR8.out, ?_⟩
  simp only [QN]
  refine wpList_store_blk rfl 39 _ _ rfl (p + 1) rfl (ouC c9 false (S9.bs.length : Int) (S9.lim : Int) (bsA S9.bs) nilV nilV) rfl HR8.out.ou rfl I0.out (ou_one _ _ _ _ _ _ _ _ _ _ _) ?_
  intro w9 HB9 HU9
  go_wp2
  exact bodyPost_ret (results_blk (cs := ouC c9 false (S9.bs.length : Int) (S9.lim : Int) (bsA S9.bs) nilV nilV) Tryd.results9 rfl aggOu HB9.out) rfl (by
    have h := HR8.out.fin (O := shO S9 c9) rfl rfl HU9.out
    rw [← HS9.out, ← Hc9.out] at h ⊢
    exact h)
theorem pstep15_walk (h : PlM w ρ pB bB a q S) (o : TOp) (hok : OpOk w o) (hk : o.kind = 15) (hb : S.bs.length + 65536 ≤ 68719476736) : Calls Tryd.prog 9 #[.pointer (some ⟨pB, 0, none⟩), .agg (opCells o).toArray] w fun e w' => RsP w ρ pB (shO (wrS S (fmtL o.a)) (wrC S (fmtL o.a))) (wrS S (fmtL o.a)) e w' := by
  have HR0 := hid (Rs.new h o)
  have HB0 := hid (Rs.newB w o)
  have HZr : Hid (∀ g, w.heap.size ≤ g → ρ g = 0) := hid (fun g hg => h.zero hg)
  have I0 := hid info_ou
  have HOk := hid hok
  obtain ⟨p, hp⟩ : ∃ p, w.heap.size = p := ⟨_, rfl⟩
  rw [hp] at HR0
  obtain ⟨kind, oa, ob, oc, s, t, la, ln, lc, list, ra, rn, rc, recs⟩ := o
  have e0 : (opCells ⟨kind, oa, ob, oc, s, t, la, ln, lc, list, ra, rn, rc, recs⟩).toArray = #[.int .i64 kind, .int .i64 oa, .int .i64 ob, .int .i64 oc, .string s, .string t, .slice la ln lc, .slice ra rn rc] := rfl
  have HCl : Hid (∀ {ρ' bB' a' q' S'} {wx : World}, Rs w ρ pB p ⟨kind, oa, ob, oc, s, t, la, ln, lc, list, ra, rn, rc, recs⟩ ρ' bB' a' q' S' wx → wx.cell? ⟨p, 0, none⟩ = some (.int .i64 kind) ∧ wx.cell? ⟨p, 1, none⟩ = some (.int .i64 oa) ∧ wx.cell? ⟨p, 2, none⟩ = some (.int .i64 ob) ∧ wx.cell? ⟨p, 3, none⟩ = some (.int .i64 oc) ∧ wx.cell? ⟨p, 4, none⟩ = some (.string s) ∧ wx.cell? ⟨p, 5, none⟩ = some (.string t) ∧ wx.cell? ⟨p, 6, none⟩ = some (.slice la ln lc) ∧ wx.cell? ⟨p, 7, none⟩ = some (.slice ra rn rc)) := hid (fun h => ⟨h.ob.cell 0, h.ob.cell 1, h.ob.cell 2, h.ob.cell 3, h.ob.cell 4, h.ob.cell 5, h.ob.cell 6, h.ob.cell 7⟩)
  rw [e0] at HR0 HB0
  rw [show (opCells _).toArray = _ from e0]
  dsimp only at hk hok ⊢
  have k0 : (kind == 0) = false := by rw [hk]; rfl
  have k1 : (kind == 1) = false := by rw [hk]; rfl
  have k2 : (kind == 2) = false := by rw [hk]; rfl
  have k3 : (kind == 3) = false := by rw [hk]; rfl
  have k4 : (kind == 4) = false := by rw [hk]; rfl
  have k5 : (kind == 5) = false := by rw [hk]; rfl
  have k6 : (kind == 6) = false := by rw [hk]; rfl
  have k7 : (kind == 7) = false := by rw [hk]; rfl
  have k8 : (kind == 8) = false := by rw [hk]; rfl
  have k9 : (kind == 9) = false := by rw [hk]; rfl
  have k10 : (kind == 10) = false := by rw [hk]; rfl
  have k11 : (kind == 11) = false := by rw [hk]; rfl
  have k12 : (kind == 12) = false := by rw [hk]; rfl
  have k13 : (kind == 13) = false := by rw [hk]; rfl
  have k14 : (kind == 14) = false := by rw [hk]; rfl
  have k15 : (kind == 15) = true := by rw [hk]; rfl
  clear hok e0 h
  clear hk
  go_enter Tryd.func9, Tryd.ntmps9
  go_upto_region 1 with fail
  generalize hwr : ((w.alloc (Obj.cells #[.int .i64 kind, .int .i64 oa, .int .i64 ob, .int .i64 oc, .string s, .string t, .slice la ln lc, .slice ra rn rc] 36)).alloc (Obj.cells #[.int .i64 0, .bool false, .int .i64 0, .int .i64 0, .string ⟨#[]⟩, .slice none 0 0, .slice none 0 0] 39)) = wr at HR0 HB0 ⊢
  clear hwr hp
  obtain ⟨x0, x1, x2, x3, x4, x5, x6, x7⟩ := HCl.out HR0.out
  have HSS : Hid (∀ {ρ' a' q' S'} {wx : World}, Rs w ρ pB p ⟨kind, oa, ob, oc, s, t, la, ln, lc, list, ra, rn, rc, recs⟩ ρ' bB a' q' S' wx → wx.cell? ⟨pB, 0, none⟩ = some (.pointer (some ⟨bB, 0, none⟩)) ∧ wx.cell? ⟨p, 1, none⟩ = some (.int .i64 oa)) := hid (fun h => ⟨h.pl.cells.1, (HCl.out h).2.1⟩)
  go_upto_region 38 with fail
  refine wp_region_heavy (fun wx => wx.cell? ⟨pB, 0, none⟩ = some (.pointer (some ⟨bB, 0, none⟩)) ∧ wx.cell? ⟨p, 1, none⟩ = some (.int .i64 oa)) 9 [0, 1, 2, 3, 4, 5, 6] [7, 8] rfl (by kernel_rfl) (by kernel_rfl) (fun d _ _ _ _ h => by cases d <;> exact h) (HSS.out (HR0.out.below (Drew.below ⟨1, rfl⟩ _))) ?_
  apply Exists.intro
  refine ⟨?_, ?_⟩
  · intro W hW
    have y1 := fun x => (hW x).1
    have y2 := fun x => (hW x).2
    simp only [List.take, opsAt, List.drop, List.cons_append, List.nil_append]
    repeat (go_big_quiet_step (fail))
    exact rfl
  simp only [List.take, List.drop, opsAt, List.cons_append, List.nil_append, wpHv]
  have HBd : Hid (Below wr.heap.size wr wr.drew) := hid (Drew.below ⟨1, rfl⟩ _)
  generalize wr.drew = wd at HBd ⊢
  have HRd := hid (HR0.out.below HBd.out)
  clear HBd HR0 x0 x1 x2 x3 x4 x5 x6 x7
  have HA := hid (addInt_walk HRd.out.pl.bu HRd.out.pl.dm oa HOk.out.fa.1 HOk.out.fa.2 (by omega))
  go_wp2_with fail
  refine HA.out.mono ?_
  intro e7 w7 h7
  obtain ⟨rfl, ρ7, a7, q7, h8⟩ := HRd.out.write h7
  have HR1 := hid h8
  clear h7 h8
  obtain ⟨rm, hrm⟩ : ∃ x, roomP S.lim S.bs.length (fmtL oa).length = x := ⟨_, rfl⟩
  have HC2 : Hid ((if rm = true then (0 : Int) else 5) = wrC S (fmtL oa)) := hid (by unfold wrC; rw [hrm])
  rw [hrm]
  clear hrm
  have HSh := hid (show_walk HR1.out.pl rm 5)
  rw [show (if rm = true then (0 : Int) else 5) = wrC S (fmtL oa) from HC2.out] at HSh
  obtain ⟨S9, hS9⟩ : ∃ x, wrS S (fmtL oa) = x := ⟨_, rfl⟩
  obtain ⟨c9, hc9⟩ : ∃ x, wrC S (fmtL oa) = x := ⟨_, rfl⟩
  rw [hS9] at HR1
  have HS9 := hid hS9
  have Hc9 := hid hc9
  rw [hS9, hc9] at HSh
  clear hS9 hc9 HC2
  clear HA HRd
  go_wp2_with fail
  refine ⟨HSS.out HR1.out, ?_⟩
  go_wp2_with fail
  refine HSh.out.mono ?_
  rintro e8 w8 ⟨rfl, hb8⟩
  have HR8 := hid (HR1.out.below hb8)
  clear hb8 HSh HR1
  go_wp2_with fail
  refine ⟨HSS.out HR8.out, ?_⟩
  simp only [QN]
  refine wpList_store_blk rfl 39 _ _ rfl (p + 1) rfl (ouC c9 false (S9.bs.length : Int) (S9.lim : Int) (bsA S9.bs) nilV nilV) rfl HR8.out.ou rfl I0.out (ou_one _ _ _ _ _ _ _ _ _ _ _) ?_
  intro w9 HB9 HU9
  go_wp2
  exact bodyPost_ret (results_blk (cs := ouC c9 false (S9.bs.length : Int) (S9.lim : Int) (bsA S9.bs) nilV nilV) Tryd.results9 rfl aggOu HB9.out) rfl (by
    have h := HR8.out.fin (O := shO S9 c9) rfl rfl HU9.out
    rw [← HS9.out, ← Hc9.out] at h ⊢
    exact h)
theorem pstep16_walk (h : PlM w ρ pB bB a q S) (o : TOp) (hok : OpOk w o) (hk : o.kind = 16) : Calls Tryd.prog 9 #[.pointer (some ⟨pB, 0, none⟩), .agg (opCells o).toArray] w fun e w' => RsP w ρ pB (shO (trS S o.a) (trC S o.a)) (trS S o.a) e w' := by
  have HR0 := hid (Rs.new h o)
  have HB0 := hid (Rs.newB w o)
  have HZr : Hid (∀ g, w.heap.size ≤ g → ρ g = 0) := hid (fun g hg => h.zero hg)
  have I0 := hid info_ou
  have HOk := hid hok
  obtain ⟨p, hp⟩ : ∃ p, w.heap.size = p := ⟨_, rfl⟩
  rw [hp] at HR0
  obtain ⟨kind, oa, ob, oc, s, t, la, ln, lc, list, ra, rn, rc, recs⟩ := o
  have e0 : (opCells ⟨kind, oa, ob, oc, s, t, la, ln, lc, list, ra, rn, rc, recs⟩).toArray = #[.int .i64 kind, .int .i64 oa, .int .i64 ob, .int .i64 oc, .string s, .string t, .slice la ln lc, .slice ra rn rc] := rfl
  have HCl : Hid (∀ {ρ' bB' a' q' S'} {wx : World}, Rs w ρ pB p ⟨kind, oa, ob, oc, s, t, la, ln, lc, list, ra, rn, rc, recs⟩ ρ' bB' a' q' S' wx → wx.cell? ⟨p, 0, none⟩ = some (.int .i64 kind) ∧ wx.cell? ⟨p, 1, none⟩ = some (.int .i64 oa) ∧ wx.cell? ⟨p, 2, none⟩ = some (.int .i64 ob) ∧ wx.cell? ⟨p, 3, none⟩ = some (.int .i64 oc) ∧ wx.cell? ⟨p, 4, none⟩ = some (.string s) ∧ wx.cell? ⟨p, 5, none⟩ = some (.string t) ∧ wx.cell? ⟨p, 6, none⟩ = some (.slice la ln lc) ∧ wx.cell? ⟨p, 7, none⟩ = some (.slice ra rn rc)) := hid (fun h => ⟨h.ob.cell 0, h.ob.cell 1, h.ob.cell 2, h.ob.cell 3, h.ob.cell 4, h.ob.cell 5, h.ob.cell 6, h.ob.cell 7⟩)
  rw [e0] at HR0 HB0
  rw [show (opCells _).toArray = _ from e0]
  dsimp only at hk hok ⊢
  have k0 : (kind == 0) = false := by rw [hk]; rfl
  have k1 : (kind == 1) = false := by rw [hk]; rfl
  have k2 : (kind == 2) = false := by rw [hk]; rfl
  have k3 : (kind == 3) = false := by rw [hk]; rfl
  have k4 : (kind == 4) = false := by rw [hk]; rfl
  have k5 : (kind == 5) = false := by rw [hk]; rfl
  have k6 : (kind == 6) = false := by rw [hk]; rfl
  have k7 : (kind == 7) = false := by rw [hk]; rfl
  have k8 : (kind == 8) = false := by rw [hk]; rfl
  have k9 : (kind == 9) = false := by rw [hk]; rfl
  have k10 : (kind == 10) = false := by rw [hk]; rfl
  have k11 : (kind == 11) = false := by rw [hk]; rfl
  have k12 : (kind == 12) = false := by rw [hk]; rfl
  have k13 : (kind == 13) = false := by rw [hk]; rfl
  have k14 : (kind == 14) = false := by rw [hk]; rfl
  have k15 : (kind == 15) = false := by rw [hk]; rfl
  have k16 : (kind == 16) = true := by rw [hk]; rfl
  clear hok e0 h
  clear hk
  go_enter Tryd.func9, Tryd.ntmps9
  go_upto_region 1 with fail
  generalize hwr : ((w.alloc (Obj.cells #[.int .i64 kind, .int .i64 oa, .int .i64 ob, .int .i64 oc, .string s, .string t, .slice la ln lc, .slice ra rn rc] 36)).alloc (Obj.cells #[.int .i64 0, .bool false, .int .i64 0, .int .i64 0, .string ⟨#[]⟩, .slice none 0 0, .slice none 0 0] 39)) = wr at HR0 HB0 ⊢
  clear hwr hp
  obtain ⟨x0, x1, x2, x3, x4, x5, x6, x7⟩ := HCl.out HR0.out
  have HSS : Hid (∀ {ρ' a' q' S'} {wx : World}, Rs w ρ pB p ⟨kind, oa, ob, oc, s, t, la, ln, lc, list, ra, rn, rc, recs⟩ ρ' bB a' q' S' wx → wx.cell? ⟨pB, 0, none⟩ = some (.pointer (some ⟨bB, 0, none⟩)) ∧ wx.cell? ⟨p, 1, none⟩ = some (.int .i64 oa)) := hid (fun h => ⟨h.pl.cells.1, (HCl.out h).2.1⟩)
  go_upto_region 40 with fail
  refine wp_region_heavy (fun wx => wx.cell? ⟨pB, 0, none⟩ = some (.pointer (some ⟨bB, 0, none⟩)) ∧ wx.cell? ⟨p, 1, none⟩ = some (.int .i64 oa)) 9 [0, 1, 2, 3, 4, 5, 6] [7, 8] rfl (by kernel_rfl) (by kernel_rfl) (fun d _ _ _ _ h => by cases d <;> exact h) (HSS.out (HR0.out.below (Drew.below ⟨1, rfl⟩ _))) ?_
  apply Exists.intro
  refine ⟨?_, ?_⟩
  · intro W hW
    have y1 := fun x => (hW x).1
    have y2 := fun x => (hW x).2
    simp only [List.take, opsAt, List.drop, List.cons_append, List.nil_append]
    repeat (go_big_quiet_step (fail))
    exact rfl
  simp only [List.take, List.drop, opsAt, List.cons_append, List.nil_append, wpHv]
  have HBd : Hid (Below wr.heap.size wr wr.drew) := hid (Drew.below ⟨1, rfl⟩ _)
  generalize wr.drew = wd at HBd ⊢
  have HRd := hid (HR0.out.below HBd.out)
  clear HBd HR0 x0 x1 x2 x3 x4 x5 x6 x7
  have HA := hid (truncate_walk HRd.out.pl.bu oa HOk.out.fa)
  go_wp2_with fail
  refine HA.out.mono ?_
  rintro e7 w7 ⟨rfl, h7⟩
  have HR1 := hid (HRd.out.trunc h7)
  clear h7
  obtain ⟨rm, hrm⟩ : ∃ x, decide (0 ≤ oa ∧ oa ≤ (S.bs.length : Int)) = x := ⟨_, rfl⟩
  have HC2 : Hid ((if rm = true then (0 : Int) else 6) = trC S oa) := hid (by unfold trC; rw [hrm])
  rw [hrm]
  clear hrm
  have HSh := hid (show_walk HR1.out.pl rm 6)
  rw [show (if rm = true then (0 : Int) else 6) = trC S oa from HC2.out] at HSh
  obtain ⟨S9, hS9⟩ : ∃ x, trS S oa = x := ⟨_, rfl⟩
  obtain ⟨c9, hc9⟩ : ∃ x, trC S oa = x := ⟨_, rfl⟩
  rw [hS9] at HR1
  have HS9 := hid hS9
  have Hc9 := hid hc9
  rw [hS9, hc9] at HSh
  clear hS9 hc9 HC2
  clear HA HRd
  go_wp2_with fail
  refine ⟨HSS.out HR1.out, ?_⟩
  go_wp2_with fail
  refine HSh.out.mono ?_
  rintro e8 w8 ⟨rfl, hb8⟩
  have HR8 := hid (HR1.out.below hb8)
  clear hb8 HSh HR1
  go_wp2_with fail
  refine ⟨HSS.out HR8.out, ?_⟩
  simp only [QN]
  refine wpList_store_blk rfl 39 _ _ rfl (p + 1) rfl (ouC c9 false (S9.bs.length : Int) (S9.lim : Int) (bsA S9.bs) nilV nilV) rfl HR8.out.ou rfl I0.out (ou_one _ _ _ _ _ _ _ _ _ _ _) ?_
  intro w9 HB9 HU9
  go_wp2
  exact bodyPost_ret (results_blk (cs := ouC c9 false (S9.bs.length : Int) (S9.lim : Int) (bsA S9.bs) nilV nilV) Tryd.results9 rfl aggOu HB9.out) rfl (by
    have h := HR8.out.fin (O := shO S9 c9) rfl rfl HU9.out
    rw [← HS9.out, ← Hc9.out] at h ⊢
    exact h)
theorem pstep17_walk (h : PlM w ρ pB bB a q S) (o : TOp) (hok : OpOk w o) (hk : o.kind = 17) : Calls Tryd.prog 9 #[.pointer (some ⟨pB, 0, none⟩), .agg (opCells o).toArray] w fun e w' => RsP w ρ pB (shO { S with bs := [] } 0) ({ S with bs := [] }) e w' := by
  have HR0 := hid (Rs.new h o)
  have HB0 := hid (Rs.newB w o)
  have HZr : Hid (∀ g, w.heap.size ≤ g → ρ g = 0) := hid (fun g hg => h.zero hg)
  have I0 := hid info_ou
  have HOk := hid hok
  obtain ⟨p, hp⟩ : ∃ p, w.heap.size = p := ⟨_, rfl⟩
  rw [hp] at HR0
  obtain ⟨kind, oa, ob, oc, s, t, la, ln, lc, list, ra, rn, rc, recs⟩ := o
  have e0 : (opCells ⟨kind, oa, ob, oc, s, t, la, ln, lc, list, ra, rn, rc, recs⟩).toArray = #[.int .i64 kind, .int .i64 oa, .int .i64 ob, .int .i64 oc, .string s, .string t, .slice la ln lc, .slice ra rn rc] := rfl
  have HCl : Hid (∀ {ρ' bB' a' q' S'} {wx : World}, Rs w ρ pB p ⟨kind, oa, ob, oc, s, t, la, ln, lc, list, ra, rn, rc, recs⟩ ρ' bB' a' q' S' wx → wx.cell? ⟨p, 0, none⟩ = some (.int .i64 kind) ∧ wx.cell? ⟨p, 1, none⟩ = some (.int .i64 oa) ∧ wx.cell? ⟨p, 2, none⟩ = some (.int .i64 ob) ∧ wx.cell? ⟨p, 3, none⟩ = some (.int .i64 oc) ∧ wx.cell? ⟨p, 4, none⟩ = some (.string s) ∧ wx.cell? ⟨p, 5, none⟩ = some (.string t) ∧ wx.cell? ⟨p, 6, none⟩ = some (.slice la ln lc) ∧ wx.cell? ⟨p, 7, none⟩ = some (.slice ra rn rc)) := hid (fun h => ⟨h.ob.cell 0, h.ob.cell 1, h.ob.cell 2, h.ob.cell 3, h.ob.cell 4, h.ob.cell 5, h.ob.cell 6, h.ob.cell 7⟩)
  rw [e0] at HR0 HB0
  rw [show (opCells _).toArray = _ from e0]
  dsimp only at hk hok ⊢
  have k0 : (kind == 0) = false := by rw [hk]; rfl
  have k1 : (kind == 1) = false := by rw [hk]; rfl
  have k2 : (kind == 2) = false := by rw [hk]; rfl
  have k3 : (kind == 3) = false := by rw [hk]; rfl
  have k4 : (kind == 4) = false := by rw [hk]; rfl
  have k5 : (kind == 5) = false := by rw [hk]; rfl
  have k6 : (kind == 6) = false := by rw [hk]; rfl
  have k7 : (kind == 7) = false := by rw [hk]; rfl
  have k8 : (kind == 8) = false := by rw [hk]; rfl
  have k9 : (kind == 9) = false := by rw [hk]; rfl
  have k10 : (kind == 10) = false := by rw [hk]; rfl
  have k11 : (kind == 11) = false := by rw [hk]; rfl
  have k12 : (kind == 12) = false := by rw [hk]; rfl
  have k13 : (kind == 13) = false := by rw [hk]; rfl
  have k14 : (kind == 14) = false := by rw [hk]; rfl
  have k15 : (kind == 15) = false := by rw [hk]; rfl
  have k16 : (kind == 16) = false := by rw [hk]; rfl
  have k17 : (kind == 17) = true := by rw [hk]; rfl
  clear hok e0 h
  clear hk
  go_enter Tryd.func9, Tryd.ntmps9
  go_upto_region 1 with fail
  generalize hwr : ((w.alloc (Obj.cells #[.int .i64 kind, .int .i64 oa, .int .i64 ob, .int .i64 oc, .string s, .string t, .slice la ln lc, .slice ra rn rc] 36)).alloc (Obj.cells #[.int .i64 0, .bool false, .int .i64 0, .int .i64 0, .string ⟨#[]⟩, .slice none 0 0, .slice none 0 0] 39)) = wr at HR0 HB0 ⊢
  clear hwr hp
  obtain ⟨x0, x1, x2, x3, x4, x5, x6, x7⟩ := HCl.out HR0.out
  have HA := hid (reset_walk HR0.out.pl.bu)
  have c1 := HR0.out.pl.cells.1
  go_wp2_with fail
  refine HA.out.mono ?_
  rintro e7 w7 ⟨rfl, h7⟩
  have HR1 := hid (HR0.out.next (HR0.out.pl.buf h7.1 h7.2) (h7.2.mono fun c hc => buX_pl hc))
  clear h7 HA HR0 c1 x0 x1 x2 x3 x4 x5 x6 x7
  have HSh := hid (show_walk HR1.out.pl true 0)
  rw [if_pos rfl] at HSh
  obtain ⟨bs, lim, er⟩ := S
  dsimp only at HR1 HSh
  go_wp2_with fail
  refine HSh.out.mono ?_
  rintro e8 w8 ⟨rfl, hb8⟩
  have HR8 := hid (HR1.out.below hb8)
  clear hb8 HSh HR1
  go_wp2_with (refine wpList_store_blk rfl 39 _ _ rfl (p + 1) rfl (ouC (shO ⟨[], lim, er⟩ 0).c (shO ⟨[], lim, er⟩ 0).f (shO ⟨[], lim, er⟩ 0).i (shO ⟨[], lim, er⟩ 0).j (shO ⟨[], lim, er⟩ 0).s nilV nilV) rfl HR8.out.ou rfl I0.out (ou_one _ _ _ _ _ _ _ _ _ _ _) ?_; intro w9 HB9 HU9)
  exact bodyPost_ret (results_blk (cs := ouC (shO ⟨[], lim, er⟩ 0).c (shO ⟨[], lim, er⟩ 0).f (shO ⟨[], lim, er⟩ 0).i (shO ⟨[], lim, er⟩ 0).j (shO ⟨[], lim, er⟩ 0).s nilV nilV) Tryd.results9 rfl aggOu HB9.out) rfl (HR8.out.fin (O := shO ⟨[], lim, er⟩ 0) rfl rfl HU9.out)
theorem pstep18_walk (h : PlM w ρ pB bB a q S) (o : TOp) (hok : OpOk w o) (hk : o.kind = 18) : Calls Tryd.prog 9 #[.pointer (some ⟨pB, 0, none⟩), .agg (opCells o).toArray] w fun e w' => RsP w ρ pB (atO S o.a) (S) e w' := by
  have HR0 := hid (Rs.new h o)
  have HB0 := hid (Rs.newB w o)
  have HZr : Hid (∀ g, w.heap.size ≤ g → ρ g = 0) := hid (fun g hg => h.zero hg)
  have I0 := hid info_ou
  have HOk := hid hok
  obtain ⟨p, hp⟩ : ∃ p, w.heap.size = p := ⟨_, rfl⟩
  rw [hp] at HR0
  obtain ⟨kind, oa, ob, oc, s, t, la, ln, lc, list, ra, rn, rc, recs⟩ := o
  have e0 : (opCells ⟨kind, oa, ob, oc, s, t, la, ln, lc, list, ra, rn, rc, recs⟩).toArray = #[.int .i64 kind, .int .i64 oa, .int .i64 ob, .int .i64 oc, .string s, .string t, .slice la ln lc, .slice ra rn rc] := rfl
  have HCl : Hid (∀ {ρ' bB' a' q' S'} {wx : World}, Rs w ρ pB p ⟨kind, oa, ob, oc, s, t, la, ln, lc, list, ra, rn, rc, recs⟩ ρ' bB' a' q' S' wx → wx.cell? ⟨p, 0, none⟩ = some (.int .i64 kind) ∧ wx.cell? ⟨p, 1, none⟩ = some (.int .i64 oa) ∧ wx.cell? ⟨p, 2, none⟩ = some (.int .i64 ob) ∧ wx.cell? ⟨p, 3, none⟩ = some (.int .i64 oc) ∧ wx.cell? ⟨p, 4, none⟩ = some (.string s) ∧ wx.cell? ⟨p, 5, none⟩ = some (.string t) ∧ wx.cell? ⟨p, 6, none⟩ = some (.slice la ln lc) ∧ wx.cell? ⟨p, 7, none⟩ = some (.slice ra rn rc)) := hid (fun h => ⟨h.ob.cell 0, h.ob.cell 1, h.ob.cell 2, h.ob.cell 3, h.ob.cell 4, h.ob.cell 5, h.ob.cell 6, h.ob.cell 7⟩)
  rw [e0] at HR0 HB0
  rw [show (opCells _).toArray = _ from e0]
  dsimp only at hk hok ⊢
  have k0 : (kind == 0) = false := by rw [hk]; rfl
  have k1 : (kind == 1) = false := by rw [hk]; rfl
  have k2 : (kind == 2) = false := by rw [hk]; rfl
  have k3 : (kind == 3) = false := by rw [hk]; rfl
  have k4 : (kind == 4) = false := by rw [hk]; rfl
  have k5 : (kind == 5) = false := by rw [hk]; rfl
  have k6 : (kind == 6) = false := by rw [hk]; rfl
  have k7 : (kind == 7) = false := by rw [hk]; rfl
  have k8 : (kind == 8) = false := by rw [hk]; rfl
  have k9 : (kind == 9) = false := by rw [hk]; rfl
  have k10 : (kind == 10) = false := by rw [hk]; rfl
  have k11 : (kind == 11) = false := by rw [hk]; rfl
  have k12 : (kind == 12) = false := by rw [hk]; rfl
  have k13 : (kind == 13) = false := by rw [hk]; rfl
  have k14 : (kind == 14) = false := by rw [hk]; rfl
  have k15 : (kind == 15) = false := by rw [hk]; rfl
  have k16 : (kind == 16) = false := by rw [hk]; rfl
  have k17 : (kind == 17) = false := by rw [hk]; rfl
  have k18 : (kind == 18) = true := by rw [hk]; rfl
  clear hok e0 h
  clear hk
  go_enter Tryd.func9, Tryd.ntmps9
  go_upto_region 1 with fail
  generalize hwr : ((w.alloc (Obj.cells #[.int .i64 kind, .int .i64 oa, .int .i64 ob, .int .i64 oc, .string s, .string t, .slice la ln lc, .slice ra rn rc] 36)).alloc (Obj.cells #[.int .i64 0, .bool false, .int .i64 0, .int .i64 0, .string ⟨#[]⟩, .slice none 0 0, .slice none 0 0] 39)) = wr at HR0 HB0 ⊢
  clear hwr hp
  obtain ⟨x0, x1, x2, x3, x4, x5, x6, x7⟩ := HCl.out HR0.out
  have HA := hid (fun (wx : World) (h : PlM wx ρ pB bB a q S) => at_walk h.bu oa HOk.out.fa)
  go_upto_region 45 with fail
  obtain ⟨X, W, HTT, H0, hne, HC⟩ := class_below wr
  have HX : Hid (∀ y, Rs w ρ pB p ⟨kind, oa, ob, oc, s, t, la, ln, lc, list, ra, rn, rc, recs⟩ ρ bB a q S (W y)) := hid (fun y => HR0.out.below (HTT.out y))
  have y1 : ∀ y, (W y).cell? ⟨p, 1, none⟩ = some (.int .i64 oa) := fun y => (HCl.out (HX.out y)).2.1
  have y2 : ∀ y, (W y).cell? ⟨pB, 0, none⟩ = some (.pointer (some ⟨bB, 0, none⟩)) := fun y => (HX.out y).pl.cells.1
  by_cases hz : 0 ≤ oa ∧ oa < (S.bs.length : Int)
  · have HO : Hid (atO S oa = { oz with i := ((S.bs.getD oa.toNat 0).toNat : Int) }) := hid (by unfold atO; rw [if_pos hz])
    rw [if_pos hz] at HA
    obtain ⟨b8, hb8⟩ : ∃ x, S.bs.getD oa.toNat 0 = x := ⟨_, rfl⟩
    rw [hb8] at HA HO
    have hb9 := b8.toNat_lt
    have hb10 : (b8.toNat : Int) < 256 := by omega
    clear hz hb8
    refine wp_region_class W (by kernel_rfl) (by kernel_rfl) H0.out ?_
    repeat (go_big_quiet_step ((go_at_call 33; exact Calls.class_same (HA.out _ (HX.out _).pl))))
    refine wpQuiet_nil ?_
    intro z
    have HZ := hid (HX.out z)
    generalize W z = wz at HZ ⊢
    clear y1 y2 H0 HTT HC hne HX HA HR0 x0 x1 x2 x3 x4 x5 x6 x7
    go_wp2_with (refine wpList_store_blk rfl 39 _ _ rfl (p + 1) rfl (ouC 0 false (b8.toNat : Int) 0 ByteArray.empty nilV nilV) rfl HZ.out.ou rfl I0.out (ou_one _ _ _ _ _ _ _ _ _ _ _) ?_; intro w9 HB9 HU9)
    exact bodyPost_ret (results_blk (cs := ouC 0 false (b8.toNat : Int) 0 ByteArray.empty nilV nilV) Tryd.results9 rfl aggOu HB9.out) rfl (by
      rw [HO.out]
      exact HZ.out.fin rfl rfl HU9.out)
  · have HO : Hid (atO S oa = { oz with c := 6 }) := hid (by unfold atO; rw [if_neg hz])
    rw [if_neg hz] at HA
    clear hz
    refine wp_region_class W (by kernel_rfl) (by kernel_rfl) H0.out ?_
    repeat (go_big_quiet_step ((go_at_call 33; exact Calls.class_same (HA.out _ (HX.out _).pl))))
    refine wpQuiet_nil ?_
    intro z
    have HZ := hid (HX.out z)
    generalize W z = wz at HZ ⊢
    clear y1 y2 H0 HTT HC hne HX HA HR0 x0 x1 x2 x3 x4 x5 x6 x7
    go_wp2_with (refine wpList_store_blk rfl 39 _ _ rfl (p + 1) rfl (ouC 6 false 0 0 ByteArray.empty nilV nilV) rfl HZ.out.ou rfl I0.out (ou_one _ _ _ _ _ _ _ _ _ _ _) ?_; intro w9 HB9 HU9)
    exact bodyPost_ret (results_blk (cs := ouC 6 false 0 0 ByteArray.empty nilV nilV) Tryd.results9 rfl aggOu HB9.out) rfl (by
      rw [HO.out]
      exact HZ.out.fin rfl rfl HU9.out)
end
end Go.Proofs.Qxb6500890aDoor
