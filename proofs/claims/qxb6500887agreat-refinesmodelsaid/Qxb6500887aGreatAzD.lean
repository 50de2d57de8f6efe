/- The tables keyed by address (written by tools/mk_azd.py). -/
import Derived.Test.Qxb6500887aGreatAzC
namespace Go.Proofs.Qxb6500887aGreat
open Go.RowKit
set_option linter.unusedSimpArgs false
set_option linter.unusedVariables false

theorem eN_lt (wd per : Nat) (X : Nat → Nat) (i : Nat) : eN wd per X i < 2 ^ wd := enW_lt _ _ _
section
variable {l : AL} {S : AS} {w w' w0 : World}
set_option maxRecDepth 100000 in
theorem countZ (h : AM l S w) (x : Int) : Calls Tryz.prog 73 #[.pointer (some ⟨l.a, 0, none⟩), .int .u64 x] w fun e w' => e = .returned (.tuple #[.int .u8 (if wantO x = 0 then ((eN 2 32 S.C (gIx x) : Nat) : Int) else 0), .int .u8 (wantO x)]) ∧ Drew w w' := by
  by_cases hc : wantO x = 0
  · rw [if_pos hc, hc]
    have HG := hid (granule_g hc w)
    have hg := (gIx_of hc).2.1
    have HT := hid (h.tc.get (gIx x) hg)
    have c1 := h.cells.2.1
    have hlt := eN_lt 2 32 S.C (gIx x)
    generalize eN 2 32 S.C (gIx x) = y at *
    generalize gIx x = g at *
    have hy : y < 4 := hlt
    clear h hc hlt
    go_enter Tryz.func73, Tryz.ntmps73
    (go_wp2_with fail; refine (HG.out).mono ?_; rintro e_ w_ ⟨he_, hw_⟩; subst he_; have hs_ := hw_.symm; clear hw_; subst hs_)
    go_wp2_with fail
    refine HT.out.mono ?_
    rintro e w2 ⟨rfl, hd⟩
    go_wp2
    go_ret2
    exact ⟨rfl, hd⟩
  · rw [if_neg hc]
    have HG := hid (granule_bad x hc w)
    have dc : (wantO x == 0) = false := by simpa using hc
    generalize wantO x = c at *
    clear h hc
    go_enter Tryz.func73, Tryz.ntmps73
    (go_wp2_with fail; refine (HG.out).mono ?_; rintro e_ w_ ⟨he_, hw_⟩; subst he_; have hs_ := hw_.symm; clear hw_; subst hs_)
    go_wp2
    go_ret2
    exact ⟨rfl, Drew.refl _⟩
def setCountA (S : AS) (x v : Int) : Int × AS := if wantO x = 0 then (if 3 < v then (3, S) else (0, { S.tch with C := setX 2 32 S.C (gIx x) v.toNat })) else (wantO x, S)
set_option maxRecDepth 100000 in
theorem setCountZ (h : AM l S w) (x v : Int) (hv0 : 0 ≤ v) (hv1 : v ≤ 255) : Calls Tryz.prog 74 #[.pointer (some ⟨l.a, 0, none⟩), .int .u64 x, .int .u8 v] w fun e w' => e = .returned (.int .u8 (setCountA S x v).1) ∧ Hid (AU l w (setCountA S x v).2 w') := by
  unfold setCountA
  have HA := hid h
  by_cases hc : wantO x = 0
  · rw [if_pos hc]
    have HG := hid (granule_g hc w)
    have hg := (gIx_of hc).2.1
    generalize gIx x = g at *
    clear hc h
    by_cases hv : 3 < v
    · rw [if_pos hv]
      have dv : decide (v > 3) = true := decide_eq_true hv
      have dv2 : decide (3 < v) = true := decide_eq_true hv
      go_enter Tryz.func74, Tryz.ntmps74
      (go_wp2_with fail; refine (HG.out).mono ?_; rintro e_ w_ ⟨he_, hw_⟩; subst he_; have hs_ := hw_.symm; clear hw_; subst hs_)
      go_wp2
      go_ret
      exact ⟨rfl, hid (AU.start HA.out)⟩
    · rw [if_neg hv]
      have dv : decide (3 < v) = false := decide_eq_false hv
      obtain ⟨vn, rfl⟩ : ∃ vn : Nat, v = (vn : Int) := ⟨v.toNat, by omega⟩
      rw [Int.toNat_natCast]
      have hvn : vn ≤ 3 := by omega
      go_enter Tryz.func74, Tryz.ntmps74
      (go_wp2_with fail; refine (HG.out).mono ?_; rintro e_ w_ ⟨he_, hw_⟩; subst he_; have hs_ := hw_.symm; clear hw_; subst hs_)
      go_wp2_with fail
      refine (touchZ HA.out).mono ?_
      rintro e w2 ⟨rfl, HU⟩
      have c1 := HU.out.m.cells.2.1
      have HS := hid (HU.out.m.tc.set g vn hg hvn)
      go_wp2_with fail
      refine HS.out.mono ?_
      rintro e w3 ⟨rfl, HF⟩
      have HFF := hid (HU.out.setC HF.out.1 HF.out.2)
      clear HU HS HF HA
      go_wp2
      go_ret
      exact ⟨rfl, HFF⟩
  · rw [if_neg hc]
    have HG := hid (granule_bad x hc w)
    have dc : (wantO x == 0) = false := by simpa using hc
    generalize wantO x = c at *
    clear h hc
    go_enter Tryz.func74, Tryz.ntmps74
    (go_wp2_with fail; refine (HG.out).mono ?_; rintro e_ w_ ⟨he_, hw_⟩; subst he_; have hs_ := hw_.symm; clear hw_; subst hs_)
    go_wp2
    go_ret
    exact ⟨rfl, hid (AU.start HA.out)⟩
set_option maxRecDepth 100000 in
theorem markedZ (h : AM l S w) (x : Int) : Calls Tryz.prog 76 #[.pointer (some ⟨l.a, 0, none⟩), .int .u64 x] w fun e w' => e = .returned (.tuple #[.bool (if wantO x = 0 then !(((eN 1 64 S.M (gIx x) : Nat) : Int) == 0) else false), .int .u8 (wantO x)]) ∧ Drew w w' := by
  by_cases hc : wantO x = 0
  · rw [if_pos hc, hc]
    have hg := (gIx_of hc).2.1
    have HG := hid (granule_g hc w)
    have HT := hid (h.tm.get (gIx x) hg)
    have c1 := h.cells.2.2.1
    have hlt := eN_lt 1 64 S.M (gIx x)
    generalize eN 1 64 S.M (gIx x) = y at *
    generalize gIx x = g at *
    have hy : y < 2 := hlt
    clear h hc hlt
    go_enter Tryz.func76, Tryz.ntmps76
    (go_wp2_with fail; refine (HG.out).mono ?_; rintro e_ w_ ⟨he_, hw_⟩; subst he_; have hs_ := hw_.symm; clear hw_; subst hs_)
    go_wp2_with fail
    refine HT.out.mono ?_
    rintro e w2 ⟨rfl, hd⟩
    go_wp2
    go_ret2
    exact ⟨by first | rfl | simp, hd⟩
  · rw [if_neg hc]
    have HG := hid (granule_bad x hc w)
    have dc : (wantO x == 0) = false := by simpa using hc
    generalize wantO x = c at *
    clear h hc
    go_enter Tryz.func76, Tryz.ntmps76
    (go_wp2_with fail; refine (HG.out).mono ?_; rintro e_ w_ ⟨he_, hw_⟩; subst he_; have hs_ := hw_.symm; clear hw_; subst hs_)
    go_wp2
    go_ret2
    exact ⟨rfl, Drew.refl _⟩
def setMarkedA (S : AS) (x : Int) (on : Bool) : Int × AS := if wantO x = 0 then (0, { S.tch with M := setX 1 64 S.M (gIx x) (bitN on) }) else (wantO x, S)
set_option maxRecDepth 100000 in
theorem setMarkedZ (h : AM l S w) (x : Int) (on : Bool) : Calls Tryz.prog 77 #[.pointer (some ⟨l.a, 0, none⟩), .int .u64 x, .bool on] w fun e w' => e = .returned (.int .u8 (setMarkedA S x on).1) ∧ Hid (AU l w (setMarkedA S x on).2 w') := by
  unfold setMarkedA
  have HA := hid h
  by_cases hc : wantO x = 0
  · rw [if_pos hc]
    have hg := (gIx_of hc).2.1
    have HG := hid (granule_g hc w)
    have HBt : Hid (∀ wz, Calls Tryz.prog 173 #[.bool on] wz fun e w' => e = .returned (.int .u64 ((bitN on : Nat) : Int)) ∧ w' = wz) := hid (fun wz => bit_walk on wz)
    generalize gIx x = g at *
    have hbn := bitN_le on
    generalize bitN on = bn at *
    clear hc h
    go_enter Tryz.func77, Tryz.ntmps77
    (go_wp2_with fail; refine (HG.out).mono ?_; rintro e_ w_ ⟨he_, hw_⟩; subst he_; have hs_ := hw_.symm; clear hw_; subst hs_)
    go_wp2_with fail
    refine (touchZ HA.out).mono ?_
    rintro e w2 ⟨rfl, HU⟩
    have c1 := HU.out.m.cells.2.2.1
    go_upto_region 5 with fail
    refine wp_region_heavy (fun wz => wz.cell? ⟨l.a, 2, none⟩ = some (.pointer (some ⟨l.tm, 0, none⟩))) 8 [0, 1, 2, 3, 4, 5, 6] [7] rfl (by kernel_rfl) (by kernel_rfl) (fun d _ _ _ _ h => by cases d <;> exact h) (HU.out.m.drew ⟨1, rfl⟩).cells.2.2.1 ?_
    clear c1
    apply Exists.intro
    refine ⟨?_, ?_⟩
    · intro W hW
      have k1 : ∀ u, (W u).cell? ⟨l.a, 2, none⟩ = some (.pointer (some ⟨l.tm, 0, none⟩)) := hW
      clear hW
      simp only [List.take, opsAt, List.drop, List.cons_append, List.nil_append]
      repeat (go_big_quiet_step ((go_at_call 173; (with_reducible exact Calls.class_same (HBt.out _)))))
      exact rfl
    simp only [List.take, List.drop, opsAt, List.cons_append, List.nil_append, wpHv]
    have HRd : Hid (AU l w S.tch w2.drew) := hid (HU.out.below (Drew.below ⟨1, rfl⟩ _))
    generalize w2.drew = w3 at HRd ⊢
    clear HU HA HBt
    have HS := hid (HRd.out.m.tm.set g bn hg hbn)
    go_wp2_with fail
    refine HS.out.mono ?_
    rintro e w4 ⟨rfl, HF⟩
    have HFF := hid (HRd.out.setM HF.out.1 HF.out.2)
    have HP : Hid (w4.cell? ⟨l.a, 2, none⟩ = some (.pointer (some ⟨l.tm, 0, none⟩))) := hid HFF.out.m.cells.2.2.1
    clear HRd HS HF
    go_wp2_with fail
    refine ⟨HP.out, ?_⟩
    simp only [QN]
    clear HP
    go_wp2
    go_ret
    exact ⟨rfl, HFF⟩
  · rw [if_neg hc]
    have HG := hid (granule_bad x hc w)
    have dc : (wantO x == 0) = false := by simpa using hc
    generalize wantO x = c at *
    clear h hc
    go_enter Tryz.func77, Tryz.ntmps77
    (go_wp2_with fail; refine (HG.out).mono ?_; rintro e_ w_ ⟨he_, hw_⟩; subst he_; have hs_ := hw_.symm; clear hw_; subst hs_)
    go_wp2
    go_ret
    exact ⟨rfl, hid (AU.start HA.out)⟩
def tasMarkedA (S : AS) (x : Int) : AS := if wantO x = 0 then { S.tch with M := setX 1 64 S.M (gIx x) 1 } else S
set_option maxRecDepth 100000 in
theorem tasMarkedZ (h : AM l S w) (x : Int) : Calls Tryz.prog 78 #[.pointer (some ⟨l.a, 0, none⟩), .int .u64 x] w fun e w' => e = .returned (.tuple #[.bool (if wantO x = 0 then !(((eN 1 64 S.M (gIx x) : Nat) : Int) == 0) else false), .int .u8 (wantO x)]) ∧ Hid (AU l w (tasMarkedA S x) w') := by
  unfold tasMarkedA
  have HA := hid h
  by_cases hc : wantO x = 0
  · rw [if_pos hc, if_pos hc, hc]
    have hg := (gIx_of hc).2.1
    have HG := hid (granule_g hc w)
    have Hw := hid (fun wz (hz : AM l S.tch wz) => hz.tm.swap (gIx x) 1 hg (by decide))
    have hlt := eN_lt 1 64 S.M (gIx x)
    have Hw : Hid (∀ wz, AM l S.tch wz → Calls Tryz.prog 174 #[.pointer (some ⟨l.tm, 0, none⟩), .int .i64 ((gIx x : Nat) : Int), .int .u64 1] wz fun e w' => e = .returned (.tuple #[.int .u64 ((eN 1 64 S.M (gIx x) : Nat) : Int), .bool true]) ∧ Hid (TB l.tm l.bm 16384 1 64 256 (setX 1 64 S.M (gIx x) 1) w' ∧ Upd l.bm wz w')) := Hw
    generalize eN 1 64 S.M (gIx x) = y at *
    generalize gIx x = g at *
    have hy : y < 2 := hlt
    clear hc h hlt
    go_enter Tryz.func78, Tryz.ntmps78
    (go_wp2_with fail; refine (HG.out).mono ?_; rintro e_ w_ ⟨he_, hw_⟩; subst he_; have hs_ := hw_.symm; clear hw_; subst hs_)
    go_wp2_with fail
    refine (touchZ HA.out).mono ?_
    rintro e w2 ⟨rfl, HU⟩
    have c1 := HU.out.m.cells.2.2.1
    have HS := hid (Hw.out w2 HU.out.m)
    clear Hw
    go_wp2_with fail
    refine HS.out.mono ?_
    rintro e w3 ⟨rfl, HF⟩
    have HFF := hid (HU.out.setM HF.out.1 HF.out.2)
    clear HU HS HF HA
    go_wp2
    go_ret2
    exact ⟨by first | rfl | simp, HFF⟩
  · rw [if_neg hc, if_neg hc]
    have HG := hid (granule_bad x hc w)
    have dc : (wantO x == 0) = false := by simpa using hc
    generalize wantO x = c at *
    clear h hc
    go_enter Tryz.func78, Tryz.ntmps78
    (go_wp2_with fail; refine (HG.out).mono ?_; rintro e_ w_ ⟨he_, hw_⟩; subst he_; have hs_ := hw_.symm; clear hw_; subst hs_)
    go_wp2
    go_ret2
    exact ⟨rfl, hid (AU.start HA.out)⟩
def clearMarkedA (S : AS) : AS := { S.tch with M := clrX S.M 256 }
set_option maxRecDepth 100000 in
theorem clearMarkedZ (h : AM l S w) : Calls Tryz.prog 79 #[.pointer (some ⟨l.a, 0, none⟩)] w fun e w' => e = .returned (.tuple #[]) ∧ Hid (AU l w (clearMarkedA S) w') := by
  unfold clearMarkedA
  have HA := hid h
  clear h
  go_enter Tryz.func79, Tryz.ntmps79
  go_wp2_with fail
  refine (touchZ HA.out).mono ?_
  rintro e w2 ⟨rfl, HU⟩
  have c1 := HU.out.m.cells.2.2.1
  have HS := hid HU.out.m.tm.clear
  go_wp2_with fail
  refine HS.out.mono ?_
  rintro e w3 ⟨rfl, HF⟩
  have HFF := hid (HU.out.setM HF.out.1 HF.out.2)
  clear HU HS HF HA
  go_wp2
  exact bodyPost_end (v := .tuple #[]) (by simp [results, Tryz.results79, go_sem]) rfl ⟨rfl, HFF⟩
set_option maxRecDepth 100000 in
theorem loggedZ (h : AM l S w) (x : Int) : Calls Tryz.prog 81 #[.pointer (some ⟨l.a, 0, none⟩), .int .u64 x] w fun e w' => e = .returned (.tuple #[.bool (if wantW x = 0 then !(((eN 1 64 S.L (wIx x) : Nat) : Int) == 0) else false), .int .u8 (wantW x)]) ∧ Drew w w' := by
  by_cases hc : wantW x = 0
  · rw [if_pos hc, hc]
    have hi : InH x := by unfold wantW at hc; by_cases q : InH x
                          · exact q
                          · rw [if_neg q] at hc; omega
    have hg := (wIx_of hi).2
    have HG := hid (word_g hi w)
    have HT := hid (h.tl.get (wIx x) hg)
    have c1 := h.cells.2.2.2.1
    have hlt := eN_lt 1 64 S.L (wIx x)
    generalize eN 1 64 S.L (wIx x) = y at *
    generalize wIx x = g at *
    have hy : y < 2 := hlt
    clear h hc hlt
    go_enter Tryz.func81, Tryz.ntmps81
    (go_wp2_with fail; refine (HG.out).mono ?_; rintro e_ w_ ⟨he_, hw_⟩; subst he_; have hs_ := hw_.symm; clear hw_; subst hs_)
    go_wp2_with fail
    refine HT.out.mono ?_
    rintro e w2 ⟨rfl, hd⟩
    go_wp2
    go_ret2
    exact ⟨by first | rfl | simp, hd⟩
  · rw [if_neg hc]
    have HG := hid (word_bad x hc w)
    have dc : (wantW x == 0) = false := by simpa using hc
    generalize wantW x = c at *
    clear h hc
    go_enter Tryz.func81, Tryz.ntmps81
    (go_wp2_with fail; refine (HG.out).mono ?_; rintro e_ w_ ⟨he_, hw_⟩; subst he_; have hs_ := hw_.symm; clear hw_; subst hs_)
    go_wp2
    go_ret2
    exact ⟨rfl, Drew.refl _⟩
def setLoggedA (S : AS) (x : Int) (on : Bool) : Int × AS := if wantW x = 0 then (0, { S.tch with L := setX 1 64 S.L (wIx x) (bitN on) }) else (wantW x, S)
set_option maxRecDepth 100000 in
theorem setLoggedZ (h : AM l S w) (x : Int) (on : Bool) : Calls Tryz.prog 82 #[.pointer (some ⟨l.a, 0, none⟩), .int .u64 x, .bool on] w fun e w' => e = .returned (.int .u8 (setLoggedA S x on).1) ∧ Hid (AU l w (setLoggedA S x on).2 w') := by
  unfold setLoggedA
  have HA := hid h
  by_cases hc : wantW x = 0
  · rw [if_pos hc]
    have hi : InH x := by unfold wantW at hc; by_cases q : InH x
                          · exact q
                          · rw [if_neg q] at hc; omega
    have hg := (wIx_of hi).2
    have HG := hid (word_g hi w)
    have HBt : Hid (∀ wz, Calls Tryz.prog 173 #[.bool on] wz fun e w' => e = .returned (.int .u64 ((bitN on : Nat) : Int)) ∧ w' = wz) := hid (fun wz => bit_walk on wz)
    generalize wIx x = g at *
    have hbn := bitN_le on
    generalize bitN on = bn at *
    clear hc h
    go_enter Tryz.func82, Tryz.ntmps82
    (go_wp2_with fail; refine (HG.out).mono ?_; rintro e_ w_ ⟨he_, hw_⟩; subst he_; have hs_ := hw_.symm; clear hw_; subst hs_)
    go_wp2_with fail
    refine (touchZ HA.out).mono ?_
    rintro e w2 ⟨rfl, HU⟩
    have c1 := HU.out.m.cells.2.2.2.1
    go_upto_region 5 with fail
    refine wp_region_heavy (fun wz => wz.cell? ⟨l.a, 3, none⟩ = some (.pointer (some ⟨l.tl, 0, none⟩))) 8 [0, 1, 2, 3, 4, 5, 6] [7] rfl (by kernel_rfl) (by kernel_rfl) (fun d _ _ _ _ h => by cases d <;> exact h) (HU.out.m.drew ⟨1, rfl⟩).cells.2.2.2.1 ?_
    clear c1
    apply Exists.intro
    refine ⟨?_, ?_⟩
    · intro W hW
      have k1 : ∀ u, (W u).cell? ⟨l.a, 3, none⟩ = some (.pointer (some ⟨l.tl, 0, none⟩)) := hW
      clear hW
      simp only [List.take, opsAt, List.drop, List.cons_append, List.nil_append]
      repeat (go_big_quiet_step ((go_at_call 173; (with_reducible exact Calls.class_same (HBt.out _)))))
      exact rfl
    simp only [List.take, List.drop, opsAt, List.cons_append, List.nil_append, wpHv]
    have HRd : Hid (AU l w S.tch w2.drew) := hid (HU.out.below (Drew.below ⟨1, rfl⟩ _))
    generalize w2.drew = w3 at HRd ⊢
    clear HU HA HBt
    have HS := hid (HRd.out.m.tl.set g bn hg hbn)
    go_wp2_with fail
    refine HS.out.mono ?_
    rintro e w4 ⟨rfl, HF⟩
    have HFF := hid (HRd.out.setL HF.out.1 HF.out.2)
    have HP : Hid (w4.cell? ⟨l.a, 3, none⟩ = some (.pointer (some ⟨l.tl, 0, none⟩))) := hid HFF.out.m.cells.2.2.2.1
    clear HRd HS HF
    go_wp2_with fail
    refine ⟨HP.out, ?_⟩
    simp only [QN]
    clear HP
    go_wp2
    go_ret
    exact ⟨rfl, HFF⟩
  · rw [if_neg hc]
    have HG := hid (word_bad x hc w)
    have dc : (wantW x == 0) = false := by simpa using hc
    generalize wantW x = c at *
    clear h hc
    go_enter Tryz.func82, Tryz.ntmps82
    (go_wp2_with fail; refine (HG.out).mono ?_; rintro e_ w_ ⟨he_, hw_⟩; subst he_; have hs_ := hw_.symm; clear hw_; subst hs_)
    go_wp2
    go_ret
    exact ⟨rfl, hid (AU.start HA.out)⟩
def tasLoggedA (S : AS) (x : Int) : AS := if wantW x = 0 then { S.tch with L := setX 1 64 S.L (wIx x) 1 } else S
set_option maxRecDepth 100000 in
theorem tasLoggedZ (h : AM l S w) (x : Int) : Calls Tryz.prog 83 #[.pointer (some ⟨l.a, 0, none⟩), .int .u64 x] w fun e w' => e = .returned (.tuple #[.bool (if wantW x = 0 then !(((eN 1 64 S.L (wIx x) : Nat) : Int) == 0) else false), .int .u8 (wantW x)]) ∧ Hid (AU l w (tasLoggedA S x) w') := by
  unfold tasLoggedA
  have HA := hid h
  by_cases hc : wantW x = 0
  · rw [if_pos hc, if_pos hc, hc]
    have hi : InH x := by unfold wantW at hc; by_cases q : InH x
                          · exact q
                          · rw [if_neg q] at hc; omega
    have hg := (wIx_of hi).2
    have HG := hid (word_g hi w)
    have Hw := hid (fun wz (hz : AM l S.tch wz) => hz.tl.swap (wIx x) 1 hg (by decide))
    have hlt := eN_lt 1 64 S.L (wIx x)
    have Hw : Hid (∀ wz, AM l S.tch wz → Calls Tryz.prog 174 #[.pointer (some ⟨l.tl, 0, none⟩), .int .i64 ((wIx x : Nat) : Int), .int .u64 1] wz fun e w' => e = .returned (.tuple #[.int .u64 ((eN 1 64 S.L (wIx x) : Nat) : Int), .bool true]) ∧ Hid (TB l.tl l.bl 32768 1 64 512 (setX 1 64 S.L (wIx x) 1) w' ∧ Upd l.bl wz w')) := Hw
    generalize eN 1 64 S.L (wIx x) = y at *
    generalize wIx x = g at *
    have hy : y < 2 := hlt
    clear hc h hlt
    go_enter Tryz.func83, Tryz.ntmps83
    (go_wp2_with fail; refine (HG.out).mono ?_; rintro e_ w_ ⟨he_, hw_⟩; subst he_; have hs_ := hw_.symm; clear hw_; subst hs_)
    go_wp2_with fail
    refine (touchZ HA.out).mono ?_
    rintro e w2 ⟨rfl, HU⟩
    have c1 := HU.out.m.cells.2.2.2.1
    have HS := hid (Hw.out w2 HU.out.m)
    clear Hw
    go_wp2_with fail
    refine HS.out.mono ?_
    rintro e w3 ⟨rfl, HF⟩
    have HFF := hid (HU.out.setL HF.out.1 HF.out.2)
    clear HU HS HF HA
    go_wp2
    go_ret2
    exact ⟨by first | rfl | simp, HFF⟩
  · rw [if_neg hc, if_neg hc]
    have HG := hid (word_bad x hc w)
    have dc : (wantW x == 0) = false := by simpa using hc
    generalize wantW x = c at *
    clear h hc
    go_enter Tryz.func83, Tryz.ntmps83
    (go_wp2_with fail; refine (HG.out).mono ?_; rintro e_ w_ ⟨he_, hw_⟩; subst he_; have hs_ := hw_.symm; clear hw_; subst hs_)
    go_wp2
    go_ret2
    exact ⟨rfl, hid (AU.start HA.out)⟩
def clearLoggedA (S : AS) : AS := { S.tch with L := clrX S.L 512 }
set_option maxRecDepth 100000 in
theorem clearLoggedZ (h : AM l S w) : Calls Tryz.prog 85 #[.pointer (some ⟨l.a, 0, none⟩)] w fun e w' => e = .returned (.tuple #[]) ∧ Hid (AU l w (clearLoggedA S) w') := by
  unfold clearLoggedA
  have HA := hid h
  clear h
  go_enter Tryz.func85, Tryz.ntmps85
  go_wp2_with fail
  refine (touchZ HA.out).mono ?_
  rintro e w2 ⟨rfl, HU⟩
  have c1 := HU.out.m.cells.2.2.2.1
  have HS := hid HU.out.m.tl.clear
  go_wp2_with fail
  refine HS.out.mono ?_
  rintro e w3 ⟨rfl, HF⟩
  have HFF := hid (HU.out.setL HF.out.1 HF.out.2)
  clear HU HS HF HA
  go_wp2
  exact bodyPost_end (v := .tuple #[]) (by simp [results, Tryz.results85, go_sem]) rfl ⟨rfl, HFF⟩
def cmBlockA (S : AS) (b : Int) : Int × AS := if 0 ≤ b ∧ b < 64 then (0, { S.tch with M := fillX 1 64 (b.toNat * 256) ((b.toNat + 1) * 256) 0 S.M }) else (1, S)
set_option maxRecDepth 100000 in
theorem cmBlockZ (h : AM l S w) (b : Int) : Calls Tryz.prog 80 #[.pointer (some ⟨l.a, 0, none⟩), .int .i64 b] w fun e w' => e = .returned (.int .u8 (cmBlockA S b).1) ∧ Hid (AU l w (cmBlockA S b).2 w') := by
  unfold cmBlockA
  have HA := hid h
  have HV := hid (validBlock_walk b w)
  clear h
  by_cases hb : 0 ≤ b ∧ b < 64
  · rw [if_pos hb]
    rw [decide_eq_true hb] at HV
    obtain ⟨bn, rfl⟩ : ∃ bn : Nat, b = (bn : Int) := ⟨b.toNat, by omega⟩
    rw [Int.toNat_natCast]
    have hbn : bn < 64 := by omega
    clear hb
    have e1 : ((bn * 256 : Nat) : Int) = (bn : Int) * 256 := by omega
    have e2 : (((bn + 1) * 256 : Nat) : Int) = ((bn : Int) + 1) * 256 := by omega
    have HFl : Hid (∀ wz, AM l S.tch wz → Calls Tryz.prog 171 #[.pointer (some ⟨l.tm, 0, none⟩), .int .i64 ((bn : Int) * 256), .int .i64 (((bn : Int) + 1) * 256), .int .u64 0] wz fun e w' => e = .returned (.bool true) ∧ Hid (TB l.tm l.bm 16384 1 64 256 (fillX 1 64 (bn * 256) ((bn + 1) * 256) 0 S.M) w' ∧ Upd l.bm wz w')) := hid (fun wz hz => by
      have := hz.tm.fill (bn * 256) ((bn + 1) * 256) 0 (by omega) (by omega) (by decide)
      rw [e1, e2] at this
      exact this)
    clear e1 e2
    go_enter Tryz.func80, Tryz.ntmps80
    (go_wp2_with fail; refine (HV.out).mono ?_; rintro e_ w_ ⟨he_, hw_⟩; subst he_; have hs_ := hw_.symm; clear hw_; subst hs_)
    go_wp2_with fail
    refine (touchZ HA.out).mono ?_
    rintro e w2 ⟨rfl, HU⟩
    have c1 := HU.out.m.cells.2.2.1
    have HS := hid (HFl.out w2 HU.out.m)
    clear HFl
    go_wp2_with fail
    refine HS.out.mono ?_
    rintro e w3 ⟨rfl, HF⟩
    have HFF := hid (HU.out.setM HF.out.1 HF.out.2)
    clear HU HS HF HA
    go_wp2
    go_ret
    exact ⟨rfl, HFF⟩
  · rw [if_neg hb]
    rw [decide_eq_false hb] at HV
    clear hb
    go_enter Tryz.func80, Tryz.ntmps80
    (go_wp2_with fail; refine (HV.out).mono ?_; rintro e_ w_ ⟨he_, hw_⟩; subst he_; have hs_ := hw_.symm; clear hw_; subst hs_)
    go_wp2
    go_ret
    exact ⟨rfl, hid (AU.start HA.out)⟩
def fillLoggedA (S : AS) (x n : Int) (on : Bool) : Int × AS := if wrCd x n = 0 then (0, { S.tch with L := fillX 1 64 (wIx x) (wIx x + n.toNat) (bitN on) S.L }) else (wrCd x n, S)
set_option maxRecDepth 100000 in
theorem fillLoggedZ (h : AM l S w) (x n : Int) (on : Bool) : Calls Tryz.prog 84 #[.pointer (some ⟨l.a, 0, none⟩), .int .u64 x, .int .i64 n, .bool on] w fun e w' => e = .returned (.int .u8 (fillLoggedA S x n on).1) ∧ Hid (AU l w (fillLoggedA S x n on).2 w') := by
  unfold fillLoggedA
  have HA := hid h
  by_cases hc : wrCd x n = 0
  · rw [if_pos hc]
    have HR := hid (range_g hc w)
    have hb := wrCd_ok hc
    have hw := wIx_of hb.1
    have hn : wIx x < wIx x + n.toNat := by omega
    have hm : wIx x + n.toNat ≤ 32768 := by omega
    generalize wIx x = lo at *
    generalize lo + n.toNat = hi at *
    have HBt : Hid (∀ wz, Calls Tryz.prog 173 #[.bool on] wz fun e w' => e = .returned (.int .u64 ((bitN on : Nat) : Int)) ∧ w' = wz) := hid (fun wz => bit_walk on wz)
    have hbn := bitN_le on
    generalize bitN on = bn at *
    clear hb hw hc h
    go_enter Tryz.func84, Tryz.ntmps84
    (go_wp2_with fail; refine (HR.out).mono ?_; rintro e_ w_ ⟨he_, hw_⟩; subst he_; have hs_ := hw_.symm; clear hw_; subst hs_)
    go_wp2_with fail
    refine (touchZ HA.out).mono ?_
    rintro e w2 ⟨rfl, HU⟩
    go_upto_region 5 with fail
    refine wp_region_heavy (fun wz => wz.cell? ⟨l.a, 3, none⟩ = some (.pointer (some ⟨l.tl, 0, none⟩))) 9 [0, 1, 2, 3, 4, 5, 6, 7] [8] rfl (by kernel_rfl) (by kernel_rfl) (fun d _ _ _ _ h => by cases d <;> exact h) (HU.out.m.drew ⟨1, rfl⟩).cells.2.2.2.1 ?_
    apply Exists.intro
    refine ⟨?_, ?_⟩
    · intro W hW
      have k1 : ∀ u, (W u).cell? ⟨l.a, 3, none⟩ = some (.pointer (some ⟨l.tl, 0, none⟩)) := hW
      clear hW
      simp only [List.take, opsAt, List.drop, List.cons_append, List.nil_append]
      repeat (go_big_quiet_step ((go_at_call 173; (with_reducible exact Calls.class_same (HBt.out _)))))
      exact rfl
    simp only [List.take, List.drop, opsAt, List.cons_append, List.nil_append, wpHv]
    have HRd : Hid (AU l w S.tch w2.drew) := hid (HU.out.below (Drew.below ⟨1, rfl⟩ _))
    generalize w2.drew = w3 at HRd ⊢
    clear HU HA HBt
    have HS := hid (HRd.out.m.tl.fill lo hi bn hn hm hbn)
    go_wp2_with fail
    refine HS.out.mono ?_
    rintro e w4 ⟨rfl, HF⟩
    have HFF := hid (HRd.out.setL HF.out.1 HF.out.2)
    have HP : Hid (w4.cell? ⟨l.a, 3, none⟩ = some (.pointer (some ⟨l.tl, 0, none⟩))) := hid HFF.out.m.cells.2.2.2.1
    clear HRd HS HF
    go_wp2_with fail
    refine ⟨HP.out, ?_⟩
    simp only [QN]
    clear HP
    go_wp2
    go_ret
    exact ⟨rfl, HFF⟩
  · rw [if_neg hc]
    have HR := hid (range_b hc w)
    have dc : (wrCd x n == 0) = false := by simpa using hc
    generalize wrCd x n = c at *
    clear hc h
    go_enter Tryz.func84, Tryz.ntmps84
    (go_wp2_with fail; refine (HR.out).mono ?_; rintro e_ w_ ⟨he_, hw_⟩; subst he_; have hs_ := hw_.symm; clear hw_; subst hs_)
    go_wp2
    go_ret
    exact ⟨rfl, hid (AU.start HA.out)⟩
def resetA (S : AS) : AS := { S.tch with W := zrW S.W 0 32768, C := clrX S.C 512, M := clrX S.M 256, L := clrX S.L 512, T := clrX S.T 128 }
set_option maxRecDepth 100000 in
set_option maxHeartbeats 1000000 in
theorem resetZ (h : AM l S w) : Calls Tryz.prog 35 #[.pointer (some ⟨l.a, 0, none⟩)] w fun e w' => e = .returned (.tuple #[]) ∧ Hid (AU l w (resetA S) w') := by
  have HA := hid h
  clear h
  go_enter Tryz.func35, Tryz.ntmps35
  go_wp2_with fail
  refine (touchZ HA.out).mono ?_
  rintro e w2 ⟨rfl, HU⟩
  have c0 := HU.out.m.cells.1
  go_upto_region 2 with fail
  clear c0
  go_loopw [10] (fun u wr => ∃ q : Nat, u = .int .i64 (q : Int) ∧ q ≤ 32768 ∧ Hid (AU l w (S.tch.zero 0 q) wr)) (fun u _ => 32768 - (intOf u).toNat)
  case atStart => exact ⟨0, rfl, Nat.zero_le _, hid (by
    have : S.tch.zero 0 0 = S.tch := by
      unfold AS.zero
      rw [show zrW S.tch.W 0 0 = S.tch.W by funext i; unfold zrW; rw [if_neg (by omega)]]
    rw [this]; exact HU.out)⟩
  case round =>
  clear HU HA
  obtain ⟨q, rfl, hq, HK⟩ := hrel
  by_cases hql : q < 32768
  · as_aux_lemma =>
    have dq : decide ((q : Int) < 32768) = true := decide_eq_true (by omega)
    have c0 := HK.out.m.cells.1
    have cw := HK.out.m.word (i := q) hql
    have fz := HK.out.m.ws.frozen q
    have HF : Hid (AU l w (S.tch.zero 0 (q + 1)) (wr.setCell ⟨l.w, q, none⟩ (.int .u64 0))) := hid (by
      have := HK.out.putW (i := q) (x := 0) hql (by decide)
      unfold AS.zero at this ⊢
      have e := zrW_step S.tch.W 0 q
      simp only [Nat.zero_add] at e
      rw [e]
      exact this)
    clear HK
    generalize (S.tch.zero 0 q).W q = y at cw
    go_wp2
    exact ⟨⟨q + 1, by go_num, by omega, HF⟩, by simp [intOf]; omega⟩
  · as_aux_lemma =>
    have dq : decide ((q : Int) < 32768) = false := decide_eq_false (by omega)
    have H1 : Hid (AU l w (S.tch.zero 0 32768) wr) := hid (by
      have e : q = 32768 := by omega
      have := HK.out
      rw [e] at this
      exact this)
    clear HK
    have c1 := H1.out.m.cells.2.1
    have HS1 := hid H1.out.m.tc.clear
    go_wp2_with fail
    refine HS1.out.mono ?_
    rintro e w3 ⟨rfl, HF1⟩
    have H2 := hid (H1.out.setC HF1.out.1 HF1.out.2)
    clear H1 HS1 HF1 c1
    have c1 := H2.out.m.cells.2.2.1
    have HS2 := hid H2.out.m.tm.clear
    go_wp2_with fail
    refine HS2.out.mono ?_
    rintro e w4 ⟨rfl, HF2⟩
    have H3 := hid (H2.out.setM HF2.out.1 HF2.out.2)
    clear H2 HS2 HF2 c1
    have c1 := H3.out.m.cells.2.2.2.1
    have HS3 := hid H3.out.m.tl.clear
    go_wp2_with fail
    refine HS3.out.mono ?_
    rintro e w5 ⟨rfl, HF3⟩
    have H4 := hid (H3.out.setL HF3.out.1 HF3.out.2)
    clear H3 HS3 HF3 c1
    have c1 := H4.out.m.cells.2.2.2.2.1
    have HS4 := hid H4.out.m.tt.clear
    go_wp2_with fail
    refine HS4.out.mono ?_
    rintro e w6 ⟨rfl, HF4⟩
    have H5 := hid (H4.out.setT HF4.out.1 HF4.out.2)
    clear H4 HS4 HF4 c1
    go_wp2
    exact bodyPost_end (v := .tuple #[]) (by simp [results, Tryz.results35, go_sem]) rfl ⟨rfl, H5⟩
end
end Go.Proofs.Qxb6500887aGreat
