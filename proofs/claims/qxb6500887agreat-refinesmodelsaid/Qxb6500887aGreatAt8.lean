/- HeapMap, BlockMap, exactly (written by tools/mk_at8.py). -/
import Derived.Test.Qxb6500887aGreatAt7
namespace Go.Proofs.Qxb6500887aGreat
open Go.RowKit
set_option linter.unusedSimpArgs false
set_option linter.unusedVariables false
section
variable {l : AL} {S : AS} {w w' w0 : World}
/-- A map under way, with its text. -/
structure MBX (l : AL) (S : AS) (w0 : World) (n g : Nat) (f : Nat → UInt8) (q : Nat) (w : World) : Prop where
  am0 : AM l S w0
  bel : Below w0.heap.size w0 w
  b : Blk w g 5 ((bmF f q ++ List.replicate (n - q) 0).map byV)
  lo : w0.heap.size ≤ g
theorem MBX.am {n g q : Nat} {f : Nat → UInt8} (h : MBX l S w0 n g f q w) : AM l S w := h.am0.below h.bel
theorem MBX.below {n g q : Nat} {f : Nat → UInt8} (h : MBX l S w0 n g f q w) (hb : Below w.heap.size w w') : MBX l S w0 n g f q w' := ⟨h.am0, h.bel.trans (hb.mono h.bel.size), h.b.below hb, h.lo⟩
theorem MBX.put {n g q : Nat} {f : Nat → UInt8} (h : MBX l S w0 n g f q w) (hq : q < n) (x : Nat) (hx : (f q).toNat = x) : MBX l S w0 n g f (q + 1) (w.setCell ⟨g, q, none⟩ (.int .u8 (x : Int))) := by
  refine ⟨h.am0, h.bel.trans (((Upd.refl g w).setCell (p := ⟨g, q, none⟩) rfl _).below h.lo h.bel.size), ?_, h.lo⟩
  have := h.b.set q (.int .u8 (x : Int))
  have e : Value.int .u8 (x : Int) = byV (f q) := by unfold byV; rw [hx]
  rw [e, ← List.map_set] at this
  rw [e]
  have e2 : (bmF f q ++ List.replicate (n - q) 0).set q (f q) = bmF f (q + 1) ++ List.replicate (n - (q + 1)) 0 := by
    obtain ⟨d, hd⟩ : ∃ d, n - q = d + 1 := ⟨n - q - 1, by omega⟩
    rw [hd, show n - (q + 1) = d by omega, List.set_append_right _ _ (by rw [bmF_len]; exact Nat.le_refl _), bmF_len, Nat.sub_self, List.replicate_succ]
    show bmF f q ++ (f q :: List.replicate d 0) = (bmF f q ++ [f q]) ++ List.replicate d 0
    rw [List.append_assoc]; rfl
  rw [e2] at this
  exact this
theorem MBX.cell {n g q : Nat} {f : Nat → UInt8} (h : MBX l S w0 n g f q w) (hq : q < n) : (∃ v : Value, w.cell? ⟨g, q, none⟩ = some v) ∧ w.frozen? ⟨g, q, none⟩ = false := by
  refine ⟨⟨_, (h.b.cell q).trans (List.getElem?_eq_getElem (by rw [List.length_map, List.length_append, bmF_len, List.length_replicate]; omega))⟩, h.b.frozen q⟩
theorem MBX.str {n g : Nat} {f : Nat → UInt8} (h : MBX l S w0 n g f n w) : (convert 252 9 (.slice (some ⟨g, 0, none⟩) n n)).run Tryz.prog w = .ok (.string (bsA (bmF f n))) w := by
  have hb := h.b
  rw [Nat.sub_self, List.replicate_zero, List.append_nil] at hb
  have hl := bmF_len f n
  generalize bmF f n = ds at *
  subst hl
  refine run_convert_bytes_back w 252 9 5 ⟨g, 0, none⟩ ds.length ds Tryz.underlying252 Tryz.underlying5 Tryz.underlying9 (fun j hj => ?_)
  have ea : (⟨g, 0, none⟩ : Addr).add j = ⟨g, 0 + j, none⟩ := by unfold Addr.add; split <;> simp_all
  rw [ea, hb.cell, Nat.zero_add, List.getElem?_map, List.getElem?_eq_getElem hj]
  rfl
theorem MBX.start {n g : Nat} {f : Nat → UInt8} (h : AM l S w) (hg : w.heap.size = g) : MBX l S w n g f 0 (w.alloc (.cells (madeCells #[.int .u8 0] n) 5)) := by
  refine ⟨h, nbel w _, ?_, by omega⟩
  have e : madeCells #[.int .u8 0] n = ((List.replicate n (0 : UInt8)).map byV).toArray := by
    apply Array.ext'
    rw [toList_madeCells_one, List.map_replicate]
    rfl
  rw [e]
  have kk := Blk.new w ((List.replicate n (0 : UInt8)).map byV) 5
  rw [hg] at kk
  exact kk
/-- Signs of blocks. -/
theorem hm_cases {b : Nat} (hb : b < 64) : (clV (flV S (b : Int)) = 0 ∧ (hmk (flE (abE S).T b 32)).toNat = 46) ∨ (clV (flV S (b : Int)) = 1 ∧ (hmk (flE (abE S).T b 32)).toNat = 43) ∨ (clV (flV S (b : Int)) = 2 ∧ (hmk (flE (abE S).T b 32)).toNat = 35) := by
  rw [flV_eq S hb, clV_clM]
  generalize flE (abE S).T b 32 = n
  unfold clM hmk
  by_cases h1 : n = 32
  · rw [if_pos h1, if_pos h1]; exact .inl ⟨rfl, rfl⟩
  · rw [if_neg h1, if_neg h1]
    by_cases h2 : n = 0
    · rw [if_pos h2, if_pos h2]; exact .inr (.inr ⟨rfl, rfl⟩)
    · rw [if_neg h2, if_neg h2]; exact .inr (.inl ⟨rfl, rfl⟩)
theorem tmk_nat {v : Nat} (hv : v < 16) : (tmk v).toNat = (if v = 0 then 46 else if v < 10 then 48 + v else 87 + v) := by
  unfold tmk
  split
  · rfl
  · split
    · show (48 + v) % 256 = _; omega
    · show (87 + v) % 256 = _; omega
set_option maxRecDepth 100000 in
set_option maxHeartbeats 4000000 in
theorem heapMapX (h : AM l S w) : Calls Tryz.prog 243 #[.pointer (some ⟨l.a, 0, none⟩)] w fun e w' => e = .returned (.string (bsA (hmL (abE S)))) ∧ Hid (Below w.heap.size w w') := by
  obtain ⟨F, hF⟩ : ∃ F, hmL (abE S) = bmF F 64 ∧ ∀ b, F b = hmk (flE (abE S).T b 32) := ⟨_, rfl, fun _ => rfl⟩
  rw [hF.1]
  have HF0 := hid hF.2
  clear hF
  obtain ⟨ss, hss⟩ : ∃ s, bsA (bmF F 64) = s := ⟨_, rfl⟩
  rw [hss]
  have HSs := hid hss
  clear hss
  have hmk : ∀ w : World, (Instr.makeSlice 252 (.int .i64 64) (.int .i64 64)).run Tryz.prog w = .ok (.slice (some ⟨w.heap.size, 0, none⟩) 64 64) (w.alloc (.cells (madeCells #[.int .u8 0] 64) 5)) := run_make_row' (P := Tryz.prog) 252 5 (.int .u8 0) 1 (by kernel_rfl) info_u8Z rfl .i64 .i64 64 (by omega) (by omega)
  obtain ⟨g, hg⟩ : ∃ g, w.heap.size = g := ⟨_, rfl⟩
  have H0 : Hid (MBX l S w 64 g F 0 (w.alloc (.cells (madeCells #[.int .u8 0] 64) 5))) := hid (MBX.start h hg)
  clear h
  go_enter Tryz.func243, Tryz.ntmps243
  go_upto_region 2 with fail
  (try simp only [hg])
  generalize hw1 : w.alloc _ = w1 at H0 ⊢
  clear hw1 hg hmk
  go_upto_region 3 with fail
  go_loopw [10] (fun u wr => ∃ b : Nat, u = .int .i64 (b : Int) ∧ b ≤ 64 ∧ Hid (MBX l S w 64 g F b wr)) (fun u _ => 64 - (intOf u).toNat)
  case atStart => exact ⟨0, rfl, by omega, H0⟩
  case round =>
  clear H0
  obtain ⟨b, rfl, hb, HK⟩ := hrel
  by_cases hbn : b < 64
  rotate_left
  · as_aux_lemma =>
    have dq : decide ((b : Int) < 64) = false := decide_eq_false (by omega)
    have dq' : decide (b < 64) = false := decide_eq_false (by omega)
    have eb : b = 64 := by omega
    subst eb
    have hcv := HK.out.str
    rw [HSs.out] at hcv
    go_wp2
    go_ret
    exact ⟨rfl, hid HK.out.bel⟩
  as_aux_lemma =>
  have dq : decide ((b : Int) < 64) = true := decide_eq_true (by omega)
  have dq' : decide (b < 64) = true := decide_eq_true (by omega)
  have HC := hid (blockClassZ HK.out.am (b : Int))
  rw [if_pos (show BkI (b : Int) from ⟨by omega, by omega⟩)] at HC
  have hcl := hm_cases (S := S) hbn
  rw [← HF0.out b] at hcl
  generalize clV (flV S (b : Int)) = k at *
  generalize blC (b : Int) = cc at *
  go_wp2_with fail
  refine HC.out.mono ?_
  rintro e w3 ⟨rfl, HB⟩
  have H3 := hid (HK.out.below HB.out)
  clear HC HB HK
  obtain ⟨⟨cv, ccv⟩, cz⟩ := H3.out.cell (by omega)
  rcases hcl with ⟨rfl, hx_⟩ | ⟨rfl, hx_⟩ | ⟨rfl, hx_⟩
  · as_aux_lemma =>
    go_upto_region 13 with fail
    have HP_ := hid (H3.out.put hbn 46 hx_)
    have HP2 : Hid (MBX l S w 64 g F (b + 1) (w3.setCell ⟨g, b, none⟩ (.int .u8 46))) := HP_
    generalize hz_ : World.setCell _ (⟨g, b, none⟩ : Addr) _ = w4 at HP2 ⊢
    clear hz_ H3 HP_ ccv cz hx_
    go_wp2
    exact ⟨⟨b + 1, by go_num, by omega, HP2⟩, by simp [intOf]; omega⟩
  · as_aux_lemma =>
    go_upto_region 13 with fail
    have HP_ := hid (H3.out.put hbn 43 hx_)
    have HP2 : Hid (MBX l S w 64 g F (b + 1) (w3.setCell ⟨g, b, none⟩ (.int .u8 43))) := HP_
    generalize hz_ : World.setCell _ (⟨g, b, none⟩ : Addr) _ = w4 at HP2 ⊢
    clear hz_ H3 HP_ ccv cz hx_
    go_wp2
    exact ⟨⟨b + 1, by go_num, by omega, HP2⟩, by simp [intOf]; omega⟩
  · as_aux_lemma =>
    go_upto_region 13 with fail
    have HP_ := hid (H3.out.put hbn 35 hx_)
    have HP2 : Hid (MBX l S w 64 g F (b + 1) (w3.setCell ⟨g, b, none⟩ (.int .u8 35))) := HP_
    generalize hz_ : World.setCell _ (⟨g, b, none⟩ : Addr) _ = w4 at HP2 ⊢
    clear hz_ H3 HP_ ccv cz hx_
    go_wp2
    exact ⟨⟨b + 1, by go_num, by omega, HP2⟩, by simp [intOf]; omega⟩
set_option maxRecDepth 100000 in
set_option maxHeartbeats 4000000 in
theorem blockMapX (h : AM l S w) (x : Int) : Calls Tryz.prog 242 #[.pointer (some ⟨l.a, 0, none⟩), .int .i64 x] w fun e w' => ∃ (s : ByteArray) (c : Int), e = .returned (.tuple #[.string s, .int .u8 c]) ∧ Hid (((BkI x ∧ c = 0 ∧ s = bsA (bmL (abE S) x.toNat)) ∨ (¬ BkI x ∧ c = 1 ∧ s = { data := #[] })) ∧ Below w.heap.size w w') := by
  by_cases hx : BkI x
  rotate_left
  · as_aux_lemma =>
    have Hbk := hid hx
    have HF := hid (firstLn_b hx w)
    clear h hx
    go_enter Tryz.func242, Tryz.ntmps242
    (go_wp2_with fail; refine (HF.out).mono ?_; rintro e_ w_ ⟨he_, hw_⟩; subst he_; have hs_ := hw_.symm; clear hw_; subst hs_)
    go_wp2
    go_ret2
    exact ⟨_, _, rfl, hid ⟨.inr ⟨Hbk.out, rfl, rfl⟩, Below.refl _ _⟩⟩
  as_aux_lemma =>
  have Hbk0 := hid hx
  obtain ⟨bk, rfl, hbk⟩ := hx.nat
  obtain ⟨F, hF⟩ : ∃ F, bmL (abE S) bk = bmF F 32 ∧ ∀ r, F r = tmk ((abE S).T (32 * bk + r)) := ⟨_, rfl, fun _ => rfl⟩
  have Hbk : Hid (BkI (bk : Int) ∧ bmL (abE S) ((bk : Int).toNat) = bmF F 32) := hid ⟨Hbk0.out, hF.1⟩
  have HF0 := hid hF.2
  clear hF Hbk0
  have HF := hid (firstLn_g hbk w)
  have hmk : ∀ w : World, (Instr.makeSlice 252 (.int .i64 32) (.int .i64 32)).run Tryz.prog w = .ok (.slice (some ⟨w.heap.size, 0, none⟩) 32 32) (w.alloc (.cells (madeCells #[.int .u8 0] 32) 5)) := run_make_row' (P := Tryz.prog) 252 5 (.int .u8 0) 1 (by kernel_rfl) info_u8Z rfl .i64 .i64 32 (by omega) (by omega)
  obtain ⟨g, hg⟩ : ∃ g, w.heap.size = g := ⟨_, rfl⟩
  have H0 : Hid (MBX l S w 32 g F 0 (w.alloc (.cells (madeCells #[.int .u8 0] 32) 5))) := hid (MBX.start h hg)
  have hm : 32 * bk + 32 ≤ 2048 := by omega
  generalize 32 * bk = m at *
  clear h hx hbk
  go_enter Tryz.func242, Tryz.ntmps242
  (go_wp2_with fail; refine (HF.out).mono ?_; rintro e_ w_ ⟨he_, hw_⟩; subst he_; have hs_ := hw_.symm; clear hw_; subst hs_)
  go_upto_region 5 with fail
  (try simp only [hg])
  generalize hw1 : w.alloc _ = w1 at H0 ⊢
  clear hw1 hg hmk
  go_upto_region 6 with fail
  go_loopw [23] (fun u wr => ∃ b : Nat, u = .int .i64 (b : Int) ∧ b ≤ 32 ∧ Hid (MBX l S w 32 g F b wr)) (fun u _ => 32 - (intOf u).toNat)
  case atStart => exact ⟨0, rfl, by omega, H0⟩
  case round =>
  clear H0
  obtain ⟨b, rfl, hb, HK⟩ := hrel
  by_cases hbn : b < 32
  rotate_left
  · as_aux_lemma =>
    have dq : decide ((b : Int) < 32) = false := decide_eq_false (by omega)
    have dq' : decide (b < 32) = false := decide_eq_false (by omega)
    have eb : b = 32 := by omega
    subst eb
    have hcv := HK.out.str
    obtain ⟨s, hs⟩ : ∃ s, bsA (bmF F 32) = s := ⟨_, rfl⟩
    rw [hs] at hcv
    have Hs : Hid (s = bsA (bmL (abE S) ((bk : Int).toNat))) := hid (by rw [Hbk.out.2, hs])
    clear hs
    go_wp2
    go_ret2
    exact ⟨s, 0, rfl, hid ⟨.inl ⟨Hbk.out.1, rfl, Hs.out⟩, HK.out.bel⟩⟩
  as_aux_lemma =>
  have dq : decide ((b : Int) < 32) = true := decide_eq_true (by omega)
  have dq' : decide (b < 32) = true := decide_eq_true (by omega)
  have HG : Hid (Calls Tryz.prog 153 #[.pointer (some ⟨l.tt, 0, none⟩), .int .i64 ((m : Int) + (b : Int))] wr fun e w' => e = .returned (.tuple #[.int .u64 ((eN 4 16 S.T (m + b) : Nat) : Int), .bool true]) ∧ Drew wr w') := hid (by
    have := HK.out.am.tt.get (m + b) (by omega)
    rw [show ((m + b : Nat) : Int) = (m : Int) + (b : Int) by omega] at this
    exact this)
  have k4 := HK.out.am.cells.2.2.2.2.1
  have hlt := eN_lt 4 16 S.T (m + b)
  have hFb : (F b).toNat = (if eN 4 16 S.T (m + b) = 0 then 46 else if eN 4 16 S.T (m + b) < 10 then 48 + eN 4 16 S.T (m + b) else 87 + eN 4 16 S.T (m + b)) := by rw [HF0.out b]; exact tmk_nat hlt
  generalize eN 4 16 S.T (m + b) = v at *
  have hv : v < 16 := hlt
  have HT := hid (fun wz => tallyMarkZ v hv wz)
  obtain ⟨d, hd⟩ : ∃ d : Nat, (if v = 0 then 46 else if v < 10 then 48 + v else 87 + v : Nat) = d := ⟨_, rfl⟩
  have hd2 : d < 256 := by
    rw [← hd]
    split
    · omega
    · split <;> omega
  rw [hd] at HT hFb
  have HFb := hid hFb
  clear hFb
  clear hd hlt
  go_wp2_with fail
  refine HG.out.mono ?_
  rintro e w3 ⟨rfl, hd3⟩
  have H3 := hid (HK.out.below (hd3.below _))
  clear hd3 HG HK k4
  obtain ⟨⟨cv, ccv⟩, cz⟩ := H3.out.cell (by omega)
  (go_wp2_with fail; refine (HT.out w3).mono ?_; rintro e_ w_ ⟨he_, hw_⟩; subst he_; have hs_ := hw_.symm; clear hw_; subst hs_)
  go_upto_region 10 with fail
  have HP2 : Hid (MBX l S w 32 g F (b + 1) (w3.setCell ⟨g, b, none⟩ (.int .u8 (d : Int)))) := hid (H3.out.put hbn d HFb.out)
  generalize hz_ : World.setCell _ (⟨g, b, none⟩ : Addr) _ = w4 at HP2 ⊢
  clear hz_ H3 ccv cz
  go_wp2
  exact ⟨⟨b + 1, by go_num, by omega, HP2⟩, by simp [intOf]; omega⟩
end
end Go.Proofs.Qxb6500887aGreat
