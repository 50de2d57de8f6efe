/- The model's state: show, write. -/
import Derived.Test.Qxb6500890aDoorTxR1
import Derived.Test.Qxb6500890aDoorTextStab
namespace Go.Proofs.Qxb6500890aDoor
open Go.RowKit
set_option linter.unusedSimpArgs false
set_option linter.unusedVariables false

section
variable {w w' : World} {mB : Nat} {S : TS}
theorem st_cells (h : Blk w mB 31 (stC S)) : w.cell? ⟨mB, 0, none⟩ = some (.string (bsA S.bs)) ∧ w.cell? ⟨mB, 1, none⟩ = some (.int .i64 (S.lim : Int)) ∧ w.cell? ⟨mB, 2, none⟩ = some (.int .i64 S.er.c) ∧ w.cell? ⟨mB, 3, none⟩ = some (.int .i64 S.er.l) ∧ w.cell? ⟨mB, 4, none⟩ = some (.int .i64 S.er.k) := ⟨h.cell 0, h.cell 1, h.cell 2, h.cell 3, h.cell 4⟩
set_option maxRecDepth 100000
set_option maxHeartbeats 2000000
theorem mshow_walk (h : Blk w mB 31 (stC S)) (hl : S.bs.length ≤ 68719476736) (code : Int) : Calls Tryd.prog 47 #[.pointer (some ⟨mB, 0, none⟩), .int .i64 code] w fun e w' => ShP w (shO S code) e w' := by
  obtain ⟨p, hp⟩ : ∃ p, w.heap.size = p := ⟨_, rfl⟩
  have hb0 := Blk.new w (ouC 0 false 0 0 ByteArray.empty nilV nilV) 39
  rw [hp] at hb0
  have HC0 : Hid (Blk (w.alloc (.cells (ouC 0 false 0 0 ByteArray.empty nilV nilV).toArray 39)) mB 31 (stC S) ∧ Blk (w.alloc (.cells (ouC 0 false 0 0 ByteArray.empty nilV nilV).toArray 39)) p 39 (ouC 0 false 0 0 ByteArray.empty nilV nilV) ∧ Below w.heap.size w (w.alloc (.cells (ouC 0 false 0 0 ByteArray.empty nilV nilV).toArray 39))) := hid ⟨h.below (nbel _ _), hb0, nbel _ _⟩
  have e0 : (ouC 0 false 0 0 ByteArray.empty nilV nilV).toArray = #[.int .i64 0, .bool false, .int .i64 0, .int .i64 0, .string ⟨#[]⟩, .slice none 0 0, .slice none 0 0] := rfl
  rw [e0] at HC0
  clear hb0 h e0
  obtain ⟨bs, lim, er⟩ := S
  have Hp := hid hp
  have I0 := hid info_ou
  go_enter Tryd.func47, Tryd.ntmps47
  go_upto_region 1 with fail
  generalize hw1 : w.alloc (Obj.cells #[.int .i64 0, .bool false, .int .i64 0, .int .i64 0, .string ⟨#[]⟩, .slice none 0 0, .slice none 0 0] 39) = w1 at HC0 ⊢
  clear hw1 hp
  obtain ⟨X, W, HTT, H0, hne, HC⟩ := class_below w1
  have HX : Hid (∀ y, Blk (W y) mB 31 (stC ⟨bs, lim, er⟩) ∧ Blk (W y) p 39 (ouC 0 false 0 0 ByteArray.empty nilV nilV) ∧ Below w.heap.size w (W y)) := hid (fun y => ⟨HC0.out.1.below (HTT.out y), HC0.out.2.1.below (HTT.out y), HC0.out.2.2.trans ((HTT.out y).mono HC0.out.2.2.size)⟩)
  obtain ⟨st, hst⟩ : ∃ s, bsA bs = s := ⟨_, rfl⟩
  have hsz : st.size = bs.length := by rw [← hst]; rfl
  obtain ⟨n, hn⟩ : ∃ n, bs.length = n := ⟨_, rfl⟩
  rw [hn] at hsz
  have a1 : ∀ y, (W y).cell? ⟨mB, 0, none⟩ = some (.string st) := fun y => by rw [← hst]; exact (st_cells (HX.out y).1).1
  have a2 : ∀ y, (W y).cell? ⟨mB, 1, none⟩ = some (.int .i64 (lim : Int)) := fun y => (st_cells (HX.out y).1).2.1
  have Hn := hid hn
  have Hst := hid hst
  clear hn hst
  refine wp_region_class_tailT W 15 (by kernel_rfl) (by kernel_rfl) (by kernel_rfl) H0.out ?_
  dsimp only [List.take]
  repeat (go_big_quiet_step (fail))
  refine wpQuiet_nil ?_
  intro z
  have HZ := hid (HX.out z)
  generalize W z = wz at HZ ⊢
  clear a1 a2 H0 HTT HC hne HX HC0
  dsimp only [List.drop]
  refine wpList_store_blk rfl 39 _ _ rfl p rfl (ouC code false (n : Int) (lim : Int) st nilV nilV) rfl HZ.out.2.1 rfl I0.out (ou_one _ _ _ _ _ _ _ _ _ _ _) ?_
  intro w9 HB9 HU9
  go_wp2
  exact bodyPost_ret (results_blk (cs := ouC code false (n : Int) (lim : Int) st nilV nilV) Tryd.results47 rfl aggOu HB9.out) rfl ⟨by rw [← Hn.out, ← Hst.out]; rfl, HZ.out.2.2.trans (HU9.out.below (by have := Hp.out; omega) HZ.out.2.2.size)⟩
/-- What a step of the model leaves. -/
def MsP (w : World) (mB : Nat) (O : OutP) (S' : TS) (e : Ending) (w' : World) : Prop := ∃ lv rv, e = .returned (ouV O lv rv) ∧ OwR rtS w.heap.size w' lv O.list ∧ OwR rtK w.heap.size w' rv O.recs ∧ Blk w' mB 31 (stC S') ∧ Upd mB w w'
theorem Upd.after {g g2 : Nat} {a w w' : World} (h : Upd g a w) (k : Upd g2 w w') (hg : a.heap.size ≤ g2) : Upd g a w' := Upd.new h k hg
def wrS (S : TS) (s : List UInt8) : TS := if roomP S.lim S.bs.length s.length then { S with bs := S.bs ++ s } else S
def wrC (S : TS) (s : List UInt8) : Int := if roomP S.lim S.bs.length s.length then 0 else 5
def MwP (w : World) (mB : Nat) (O : OutP) (S' : TS) (e : Ending) (w' : World) : Prop := e = .returned (ouV O nilV nilV) ∧ Blk w' mB 31 (stC S') ∧ Upd mB w w'
/-- The model's out block. -/
structure Mo (w : World) (mB p : Nat) (S : TS) (wr : World) : Prop where
  mb : Blk wr mB 31 (stC S)
  pb : Blk wr p 39 (ouC 0 false 0 0 ByteArray.empty nilV nilV)
  up : Upd mB w wr
  lo : w.heap.size ≤ p
theorem Mo.below {w wr w' : World} {mB p : Nat} {S : TS} (h : Mo w mB p S wr) (hb : Below wr.heap.size wr w') : Mo w mB p S w' := ⟨h.mb.below hb, h.pb.below hb, h.up.ofBelow hb, h.lo⟩
theorem Mo.fin {w wr w9 : World} {mB p : Nat} {S : TS} {O : OutP} (h : Mo w mB p S wr) (hlt : mB < w.heap.size) (h0 : O.list = []) (h1 : O.recs = []) (hu : Upd p wr w9) : MwP w mB O S (.returned (ouV O nilV nilV)) w9 := ⟨rfl, h.mb.of (hu.block _ h.mb.lt (by have := h.lo; omega)), h.up.after hu h.lo⟩
theorem Mo.set {w wr : World} {mB p : Nat} {S S' : TS} {i : Nat} {v : Value} (h : Mo w mB p S wr) (hlt : mB < w.heap.size) (e : (stC S).set i v = stC S') : Mo w mB p S' (wr.setCell ⟨mB, i, none⟩ v) := by
  have hu : Upd mB wr (wr.setCell ⟨mB, i, none⟩ v) := (Upd.refl mB wr).setCell rfl v
  refine ⟨by rw [← e]; exact h.mb.set i v, h.pb.of (hu.block _ h.pb.lt (by have := h.lo; omega)), ⟨hu.os.trans h.up.os, hu.tape.trans h.up.tape, hu.output.trans h.up.output, Nat.le_trans h.up.size hu.size, fun k hk hne => (hu.block k (Nat.lt_of_lt_of_le hk h.up.size) hne).trans (h.up.block k hk hne)⟩, h.lo⟩
theorem Mo.new {w : World} {mB p : Nat} {S : TS} (h : Blk w mB 31 (stC S)) (hp : w.heap.size = p) : Mo w mB p S (w.alloc (.cells #[.int .i64 0, .bool false, .int .i64 0, .int .i64 0, .string ⟨#[]⟩, .slice none 0 0, .slice none 0 0] 39)) := by
  have hb0 := Blk.new w (ouC 0 false 0 0 ByteArray.empty nilV nilV) 39
  rw [hp] at hb0
  exact ⟨h.below (nbel _ _), hb0, (Upd.refl mB w).ofBelow (nbel _ _), by omega⟩
theorem bsA_append (a b : List UInt8) : bsA (a ++ b) = bsA a ++ bsA b := by
  apply ByteArray.ext
  rw [ByteArray.data_append]
  simp [bsA]
theorem bsA_data (s : ByteArray) : bsA s.data.toList = s := by
  apply ByteArray.ext
  simp [bsA]
theorem mwriteN_walk (h : Blk w mB 31 (stC S)) (s : ByteArray) (hl : S.bs.length + s.size ≤ 68719476736) (hlm : S.lim ≤ 9223372036854775807) : Calls Tryd.prog 48 #[.pointer (some ⟨mB, 0, none⟩), .string s] w fun e w' => MwP w mB (shO (wrS S s.data.toList) (wrC S s.data.toList)) (wrS S s.data.toList) e w' := by
  obtain ⟨p, hp⟩ : ∃ p, w.heap.size = p := ⟨_, rfl⟩
  have HC0 := hid (Mo.new h hp)
  have Hlt := hid h.lt
  obtain ⟨bs, lim, er⟩ := S
  obtain ⟨r, hr⟩ : ∃ r, roomP lim bs.length s.data.toList.length = r := ⟨_, rfl⟩
  have e1 : wrS ⟨bs, lim, er⟩ s.data.toList = if r then ⟨bs ++ s.data.toList, lim, er⟩ else ⟨bs, lim, er⟩ := by unfold wrS; rw [hr]
  have e2 : wrC ⟨bs, lim, er⟩ s.data.toList = if r then 0 else 5 := by unfold wrC; rw [hr]
  rw [e1, e2]
  have Hr := hid hr
  have I0 := hid info_ou
  dsimp only at hl hlm
  clear h hr e1 e2
  obtain ⟨st, hst⟩ : ∃ s, bsA bs = s := ⟨_, rfl⟩
  have Hst := hid hst
  have hsz : st.size = bs.length := by rw [← hst]; rfl
  rw [← hsz] at hl
  obtain ⟨b3, hb3⟩ : ∃ b, (!r) = b := ⟨_, rfl⟩
  have Hb3 := hid hb3
  clear hst hb3
  go_enter Tryd.func48, Tryd.ntmps48
  go_upto_region 1 with fail
  generalize hw1 : w.alloc (Obj.cells #[.int .i64 0, .bool false, .int .i64 0, .int .i64 0, .string ⟨#[]⟩, .slice none 0 0, .slice none 0 0] 39) = w1 at HC0 ⊢
  clear hw1 hp
  go_cut [24] from 5 to 24 (fun v wc => v = .bool b3 ∧ Hid (Mo w mB p ⟨bs, lim, er⟩ wc))
  case first =>
    obtain ⟨X, W, HTT, H0, hne, HC⟩ := class_below w1
    have HX : Hid (∀ y, Mo w mB p ⟨bs, lim, er⟩ (W y)) := hid (fun y => HC0.out.below (HTT.out y))
    have a1 : ∀ y, (W y).cell? ⟨mB, 0, none⟩ = some (.string st) := fun y => by rw [← Hst.out]; exact (st_cells (HX.out y).mb).1
    have a2 : ∀ y, (W y).cell? ⟨mB, 1, none⟩ = some (.int .i64 (lim : Int)) := fun y => (st_cells (HX.out y).mb).2.1
    refine wp_region_class W (by kernel_rfl) (by kernel_rfl) H0.out ?_
    by_cases h0 : lim = 0
    · have d0 : decide ((lim : Int) > 0) = false := decide_eq_false (by omega)
      have d1 : decide (0 < lim) = false := decide_eq_false (by omega)
      have d2 : decide ((0 : Int) < (lim : Int)) = false := decide_eq_false (by omega)
      have HE : Hid (false = b3) := hid (by
        have h1 := Hr.out
        rw [← Hb3.out, ← h1]
        unfold roomP
        rw [h0]
        rfl)
      clear h0
      repeat (go_big_quiet_step (fail))
      refine wpQuiet_nil ?_
      intro z
      have HZ := hid (HX.out z)
      generalize W z = wz at HZ ⊢
      clear a1 a2 H0 HTT HC hne HX HC0
      go_wp2
      go_meet
      exact ⟨by rw [HE.out], HZ⟩
    · have d0 : decide ((lim : Int) > 0) = true := decide_eq_true (by omega)
      have d1 : decide (0 < lim) = true := decide_eq_true (by omega)
      have d2 : decide ((0 : Int) < (lim : Int)) = true := decide_eq_true (by omega)
      obtain ⟨bq, hbq⟩ : ∃ b, decide ((lim : Int) < (bs.length : Int) + (s.size : Int)) = b := ⟨_, rfl⟩
      have HE : Hid (bq = b3) := hid (by
        have h1 := Hr.out
        rw [← Hb3.out, ← h1, ← hbq]
        unfold roomP
        rw [beq_eq_false_iff_ne.2 h0, Bool.false_or, ← decide_not]
        exact decide_eq_decide.2 (by
          have : s.data.toList.length = s.size := rfl
          omega))
      clear h0
      repeat (go_big_quiet_step (fail))
      refine wpQuiet_nil ?_
      intro z
      have HZ := hid (HX.out z)
      generalize W z = wz at HZ ⊢
      clear a1 a2 H0 HTT HC hne HX HC0
      go_wp2
      go_meet
      exact ⟨by rw [HE.out], HZ⟩
  case rest =>
    obtain ⟨rfl, HM⟩ := hcut
    clear HC0
    cases r with
    | false =>
      have : b3 = true := Hb3.out.symm
      subst this
      have HSw := hid (mshow_walk HM.out.mb (by show bs.length ≤ _; omega) 5)
      go_wp2_with fail
      refine HSw.out.mono ?_
      rintro e1 w2 ⟨rfl, hb2⟩
      have HM2 := hid (HM.out.below hb2)
      clear hb2 HM HSw
      go_wp2_with (refine wpList_store_blk rfl 39 _ _ rfl p rfl (ouC 5 false (bs.length : Int) (lim : Int) (bsA bs) nilV nilV) rfl HM2.out.pb rfl I0.out (ou_one _ _ _ _ _ _ _ _ _ _ _) ?_; intro w9 HB9 HU9)
      exact bodyPost_ret (results_blk (cs := ouC 5 false (bs.length : Int) (lim : Int) (bsA bs) nilV nilV) Tryd.results48 rfl aggOu HB9.out) rfl (HM2.out.fin Hlt.out rfl rfl HU9.out)
    | true =>
      have : b3 = false := Hb3.out.symm
      subst this
      have c0 : wc.cell? ⟨mB, 0, none⟩ = some (.string st) := by rw [← Hst.out]; exact (st_cells HM.out.mb).1
      have f0 : wc.frozen? ⟨mB, 0, none⟩ = false := HM.out.mb.frozen _
      have hz3 : ¬ (9223372036854775807 < st.size + s.size) := by omega
      have HM2 : Hid (Mo w mB p ⟨bs ++ s.data.toList, lim, er⟩ (wc.setCell ⟨mB, 0, none⟩ (.string (st ++ s)))) := hid (HM.out.set Hlt.out (by
        show [.string (st ++ s), _, _, _, _] = stC _
        unfold stC
        dsimp only
        rw [bsA_append, bsA_data, Hst.out]))
      go_upto_region 4 with fail
      generalize hw3 : wc.setCell ⟨mB, 0, none⟩ (.string (st ++ s)) = w3 at HM2 ⊢
      clear hw3 c0 f0 HM hz3
      have HSw := hid (mshow_walk HM2.out.mb (by show (bs ++ s.data.toList).length ≤ _; rw [List.length_append]; have : s.data.toList.length = s.size := rfl; omega) 0)
      go_wp2_with fail
      refine HSw.out.mono ?_
      rintro e1 w2 ⟨rfl, hb2⟩
      have HM3 := hid (HM2.out.below hb2)
      clear hb2 HM2 HSw
      obtain ⟨cs, hcs⟩ : ∃ x, bs ++ s.data.toList = x := ⟨_, rfl⟩
      rw [hcs] at HM3
      simp only [hcs]
      go_wp2_with (refine wpList_store_blk rfl 39 _ _ rfl p rfl (ouC 0 false (cs.length : Int) (lim : Int) (bsA cs) nilV nilV) rfl HM3.out.pb rfl I0.out (ou_one _ _ _ _ _ _ _ _ _ _ _) ?_; intro w9 HB9 HU9)
      exact bodyPost_ret (results_blk (cs := ouC 0 false (cs.length : Int) (lim : Int) (bsA cs) nilV nilV) Tryd.results48 rfl aggOu HB9.out) rfl (by
        have h := HM3.out.fin (O := shO ⟨cs, lim, er⟩ 0) Hlt.out rfl rfl HU9.out
        rw [← hcs] at h ⊢
        exact h)
end
end Go.Proofs.Qxb6500890aDoor
