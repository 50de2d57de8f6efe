/- At. -/
import Derived.Test.Qxb6500891aPtSpan
namespace Go.Proofs.Qxb6500891a
open Go.RowKit
set_option linter.unusedSimpArgs false
set_option linter.unusedVariables false

/-- A component's cells. -/
def compC (nm : List Nat) (cls h : Int) (nd last : Bool) : List Value := nameC nm ++ [.int .u8 cls, .int .u32 h, .bool nd, .bool last]
def compV (nm : List Nat) (cls h : Int) (nd last : Bool) : Value := .agg (compC nm cls h nd last).toArray
theorem zero_comp : (#[Value.int .u8 0, Value.int .u8 0, Value.int .u8 0, Value.int .u8 0, Value.int .u8 0, Value.int .u8 0, Value.int .u8 0, Value.int .u8 0, Value.int .u8 0, Value.int .u8 0, Value.int .u8 0, Value.int .u8 0, Value.int .u8 0, Value.int .u8 0, Value.int .u8 0, Value.int .u8 0, Value.int .u8 0, Value.int .u8 0, Value.int .u8 0, Value.int .u8 0, Value.int .u8 0, Value.int .u8 0, Value.int .u8 0, Value.int .u8 0, Value.int .u8 0, Value.int .u8 0, Value.int .u8 0, Value.int .u8 0, Value.int .u8 0, Value.int .u8 0, Value.int .u8 0, Value.int .u8 0, Value.int .u8 0, Value.int .u8 0, Value.int .u32 0, Value.bool false, Value.bool false] : Array Value) = (compC [] 0 0 false false).toArray := rfl
theorem compC_len {nm : List Nat} (h : nm.length ≤ 32) (cls hh : Int) (nd last : Bool) : (compC nm cls hh nd last).length = 37 := by unfold compC; rw [List.length_append, nameC_len h]; rfl
theorem info_comp : (Try.prog.info? 40).map (·.size) = some 37 := by kernel_rfl
theorem aggComp : AggOf Try.prog 40 37 := AggOf.struct Try.underlying40 (by kernel_rfl)
theorem one_comp (nm : List Nat) (cls h : Int) (nd last : Bool) : ∀ v ∈ compC nm cls h nd last, v.oneCell' = true := by
  intro v hv
  unfold compC at hv
  rcases List.mem_append.1 hv with h | h
  · exact one_name nm v h
  · simp at h
    rcases h with rfl | rfl | rfl | rfl <;> rfl
theorem slice_raw (ad : Addr) (i j : Nat) (hij : i ≤ j) (hj : j ≤ 255) (h0 : i < 255) (w : World) : (Instr.sliceAt 58 (.pointer (some ad)) (some (.int .u8 (i : Int))) (some (.int .u8 (j : Int))) none).run Try.prog w = .ok (.slice (some (ad.add i)) (j - i) (255 - i)) w := by
  have hal : Try.prog.arrayLen 58 = 255 := by kernel_rfl
  rw [run_sliceAt_array_lh w 58 ad (by kernel_rfl) .u8 .u8 (i : Int) (j : Int) (by omega) (by omega) (by rw [hal]; omega)]
  simp [slicedAt, hal, go_sem]
  omega

theorem splice_app {A B ns : List Value} {o : Nat} (h : o + ns.length ≤ A.length) : splice (A ++ B) o ns = splice A o ns ++ B := by
  unfold splice
  rw [List.take_append_of_le_length (by omega), List.drop_append_of_le_length (by omega)]
  simp
theorem comp_made {nm : List Nat} (h : nm.length ≤ 32) (cls hh : Int) (nd last : Bool) : (splice (compC [] cls hh nd last) 1 (nm.map fun (x : Nat) => Value.int .u8 (x : Int))).set 0 (.int .u8 (nm.length : Int)) = compC nm cls hh nd last := by
  unfold compC
  rw [splice_app (by rw [List.length_map, name_len0]; omega), List.set_append_left _ _ (by rw [splice_len (by rw [List.length_map, name_len0]; omega), name_len0]; omega), name_made h]
structure Pc (w : World) (g q : Nat) (t : TypeId) (cs : List Value) (l : List Nat) (s : Sp) (wr : World) : Prop where
  bel : Below w.heap.size w wr
  blk : Blk wr g t cs
  bs : Blk wr q 60 (spC l s)
theorem Pc.below {w wr w' : World} {g q : Nat} {t : TypeId} {cs : List Value} {l : List Nat} {s : Sp} (h : Pc w g q t cs l s wr) (hb : Below wr.heap.size wr w') : Pc w g q t cs l s w' := ⟨h.bel.trans (hb.mono h.bel.size), h.blk.below hb, h.bs.below hb⟩

set_option maxRecDepth 1000000 in
set_option maxHeartbeats 4000000 in
theorem at_walk (g o : Nat) (t : TypeId) (cs : List Value) (l : List Nat) (sp : List Sp) (w : World) (hb : Blk w g t cs) (hp : PathOk cs o l sp) (i : Nat) (s : Sp) (hi : sp[i]? = some s) :
    Calls Try.prog 15 #[.pointer (some ⟨g, o, none⟩), .int .i64 (i : Int)] w fun e w' => e = .returned (compV (sub l s.a s.b) s.cls (hashL 2166136261 (sub l s.a s.b)) s.sl (decide (i + 1 = sp.length))) ∧ Below w.heap.size w w' := by
  have hilt : i < sp.length := (List.getElem?_eq_some_iff.1 hi).1
  have h128 := hp.n128
  have hso := hp.cp.ok s (List.mem_of_getElem? hi)
  have hb255 : s.b ≤ 255 := Nat.le_trans hso.le hp.n255
  have ha255 : s.a < 255 := by have := hso.lt; omega
  have hab : s.a < s.b := hso.lt
  have hsh : s.b - s.a ≤ 32 := hso.sh
  have hsub : (sub l s.a s.b).length = s.b - s.a := sub_len hso.le
  have i1 : (i : Int) < (sp.length : Int) := by omega
  have hsl := fun w' => slice_comp ⟨g, o + 257, none⟩ sp.length h128 w'
  have HCp := hid hp
  have Hi := hid hi
  have hg0 := hb.lt
  -- the result's block
  obtain ⟨r, hr⟩ : ∃ r, w.heap.size = r := ⟨_, rfl⟩
  obtain ⟨w1, hw1⟩ : ∃ w1, w.alloc (.cells (compC [] 0 0 false false).toArray 40) = w1 := ⟨_, rfl⟩
  have hr1 := Blk.new w (compC [] 0 0 false false) 40
  have hbel1 := nbel w (.cells (compC [] 0 0 false false).toArray 40)
  rw [hw1] at hr1 hbel1
  rw [hr] at hr1
  have HR1 := hid hr1
  have HBe1 := hid hbel1
  have HP0 : Hid (Pb w1 g t cs w1) := hid ⟨Below.refl _ _, hb.below hbel1⟩
  clear hb hp hi hso hr1 hbel1
  go_enter Try.func15, Try.ntmps15
  go_upto_region 1 with fail
  simp only [zero_comp, hw1]
  clear hw1
  obtain ⟨cl, hcl⟩ : ∃ cl, s.cls = cl := ⟨_, rfl⟩
  obtain ⟨H, hH⟩ : ∃ H, hashL 2166136261 (sub l s.a s.b) = H := ⟨_, rfl⟩
  obtain ⟨lst, hlst⟩ : ∃ lst, ((i : Int) == (sp.length : Int) - 1) = lst := ⟨_, rfl⟩
  have HLs : Hid (decide (i + 1 = sp.length) = lst) := hid (by rw [← hlst, Bool.eq_iff_iff]; simp; omega)
  have HspC : Hid (spC l s = [.int .u8 (s.a : Int), .int .u8 (s.b : Int), .int .u8 cl, .bool s.sl, .int .u32 H]) := hid (by unfold spC; rw [hH, hcl])
  refine wp_region_alloc (C := Pb w1 g t cs) (n := 11) (B := w1.heap.size) (t := 60) (zs := zSpan) rfl rfl (by kernel_rfl) (by kernel_rfl) (by kernel_rfl) (by kernel_rfl) ?hr (fun _ _ h hb => h.below hb) (fun _ h => h.bel.size) HP0.out ?hx
  case hr =>
    intro a w
    simp [go_sem, zSpan]
  apply Exists.intro
  refine ⟨?_, ?_⟩
  · intro X W hne hX hI
    have c256 : ∀ x, (W x).cell? ⟨g, o + 256, none⟩ = some (.int .i64 (sp.length : Int)) := fun x => by rw [(hX x).blk.cell]; exact HCp.out.ct
    have e0 := fun x => (spC_cells HCp.out.cp Hi.out (hX x).blk).1
    have e1 := fun x => (spC_cells HCp.out.cp Hi.out (hX x).blk).2.1
    have e2 := fun x => (spC_cells HCp.out.cp Hi.out (hX x).blk).2.2.1
    have e3 := fun x => (spC_cells HCp.out.cp Hi.out (hX x).blk).2.2.2.1
    have e4 := fun x => (spC_cells HCp.out.cp Hi.out (hX x).blk).2.2.2.2
    rw [hcl] at e2
    rw [hH] at e4
    clear hI hX
    dsimp only [List.take]
    repeat (go_big_quiet_step (fail))
    exact wpQuiet_nil rfl
  · as_aux_lemma =>
    intro q wx hg HX hbl
    dsimp only [List.drop]
    have e0 : wx.cell? ⟨q, 0, none⟩ = some (.int .u8 0) := hbl.cell 0
    have e1 : wx.cell? ⟨q, 1, none⟩ = some (.int .u8 0) := hbl.cell 1
    have e2 : wx.cell? ⟨q, 2, none⟩ = some (.int .u8 0) := hbl.cell 2
    have e3 : wx.cell? ⟨q, 3, none⟩ = some (.bool false) := hbl.cell 3
    have e4 : wx.cell? ⟨q, 4, none⟩ = some (.int .u32 0) := hbl.cell 4
    have f0 := hbl.frozen 0
    have f1 := hbl.frozen 1
    have f2 := hbl.frozen 2
    have f3 := hbl.frozen 3
    have f4 := hbl.frozen 4
    have HB1 := hid HX.bel
    have HBg := hid HX.blk
    have HBl := hid hbl
    clear HX hbl hsl
    go_upto_region 2 with fail
    obtain ⟨w2, hw2⟩ : ∃ w2, ((((wx.setCell ⟨q, 0, none⟩ (.int .u8 (s.a : Int))).setCell ⟨q, 1, none⟩ (.int .u8 (s.b : Int))).setCell ⟨q, 2, none⟩ (.int .u8 cl)).setCell ⟨q, 3, none⟩ (.bool s.sl)).setCell ⟨q, 4, none⟩ (.int .u32 H) = w2 := ⟨_, rfl⟩
    have hb2 := ((((HBl.out.set 0 (.int .u8 (s.a : Int))).set 1 (.int .u8 (s.b : Int))).set 2 (.int .u8 cl)).set 3 (.bool s.sl)).set 4 (.int .u32 H)
    have hu2 : Upd q wx w2 := by rw [← hw2]; exact (((((Upd.refl q wx).setCell rfl _).setCell rfl _).setCell rfl _).setCell rfl _).setCell rfl _
    rw [hw2] at hb2
    rw [hw2]
    have hb2' : Blk w2 q 60 (spC l s) := by rw [HspC.out]; exact hb2
    have hgq : g ≠ q := by have := HP0.out.blk.lt; omega
    have HC2 : Hid (Pc w1 g q t cs l s w2) := hid ⟨HB1.out.trans (hu2.below hg HB1.out.size), HBg.out.upd hu2 hgq, hb2'⟩
    clear hw2 hb2 hb2' hu2 HBl e0 e1 e2 e3 e4 f0 f1 f2 f3 f4 HBg HB1
    refine wp_region_alloc (C := Pc w1 g q t cs l s) (n := 14) (B := q + 1) (t := 40) (zs := compC [] 0 0 false false) rfl rfl (by kernel_rfl) (by kernel_rfl) (by kernel_rfl) (by kernel_rfl) ?hr2 (fun _ _ h hb => h.below hb) (fun _ h => h.bs.lt) HC2.out ?hx2
    case hr2 =>
      intro a w
      simp [go_sem]
      rfl
    apply Exists.intro
    refine ⟨?_, ?_⟩
    · intro X W hne hX hI
      have c256 : ∀ x, (W x).cell? ⟨g, o + 256, none⟩ = some (.int .i64 (sp.length : Int)) := fun x => by rw [(hX x).blk.cell]; exact HCp.out.ct
      have e2 : ∀ x, (W x).cell? ⟨q, 2, none⟩ = some (.int .u8 cl) := fun x => by rw [(hX x).bs.cell, HspC.out]; rfl
      have e3 : ∀ x, (W x).cell? ⟨q, 3, none⟩ = some (.bool s.sl) := fun x => by rw [(hX x).bs.cell, HspC.out]; rfl
      have e4 : ∀ x, (W x).cell? ⟨q, 4, none⟩ = some (.int .u32 H) := fun x => by rw [(hX x).bs.cell, HspC.out]; rfl
      clear hI hX
      dsimp only [List.take]
      repeat (go_big_quiet_step (fail))
      exact wpQuiet_nil rfl
    · as_aux_lemma =>
      intro q2 wy hg2 HY hbl2
      dsimp only [List.drop]
      simp only [Act.put, List.setIfInBounds_toArray, List.set_cons_succ, List.set_cons_zero]
      have HY0 := hid HY
      have HBl2 := hid hbl2
      have I0 : Hid ((Try.prog.info? 40).map (·.size) = some (compC [] cl H s.sl lst).length) := hid (by rw [compC_len (by simp)]; exact info_comp)
      clear HY hbl2
      have L2 : Hid ((compC [] 0 0 false false).length = (compC [] cl H s.sl lst).length) := hid (by rw [compC_len (by simp), compC_len (by simp)])
      go_upto_region 3 with (refine wpList_store_blk rfl 40 _ _ rfl q2 rfl (compC [] cl H s.sl lst) rfl HBl2.out L2.out I0.out (one_comp _ _ _ _ _) ?_; intro w3 HB3 HU3)
      simp only [Act.put, List.setIfInBounds_toArray, List.set_cons_succ, List.set_cons_zero]
      as_aux_lemma =>
      have hq2g : g ≠ q2 := by have := HY0.out.blk.lt; have := HP0.out.blk.lt; omega
      have hq2q : q ≠ q2 := by omega
      have BG := hid (HY0.out.blk.upd HU3.out hq2g)
      have BQ := hid (HY0.out.bs.upd HU3.out hq2q)
      have BR := hid (((HR1.out.below (HY0.out.bel.mono (Nat.le_refl _))).upd HU3.out (by have := HR1.out.lt; omega)))
      have HBel3 : Hid (Below w1.heap.size w1 w3) := hid (HY0.out.bel.trans (HU3.out.below (by omega) HY0.out.bel.size))
      have hs1 := fun w' => slice_all ⟨q2, 1, none⟩ w'
      have hs2 : ∀ w', (Instr.sliceAt 58 (.pointer (some ⟨g, o, none⟩)) (some (.int .u8 (s.a : Int))) (some (.int .u8 (s.b : Int))) none).run Try.prog w' = .ok (.slice (some ⟨g, o + s.a, none⟩) (s.b - s.a) (255 - s.a)) w' := fun w' => by
        have := slice_raw ⟨g, o, none⟩ s.a s.b (by omega) hb255 ha255 w'
        rw [show (⟨g, o, none⟩ : Addr).add s.a = ⟨g, o + s.a, none⟩ by unfold Addr.add; split <;> simp_all] at this
        exact this
      obtain ⟨X, W, hT, hI⟩ := class_mk (fun w' => Drew w3 w')
      have H0 : Hid (∃ x, w3.drew = W x) := hid (hI _ ⟨1, rfl⟩)
      have hne : Nonempty X := ⟨H0.out.choose⟩
      have e0 : ∀ x, (W x).cell? ⟨q, 0, none⟩ = some (.int .u8 (s.a : Int)) := fun x => by rw [(BQ.out.drew (hT x)).cell, HspC.out]; rfl
      have e1 : ∀ x, (W x).cell? ⟨q, 1, none⟩ = some (.int .u8 (s.b : Int)) := fun x => by rw [(BQ.out.drew (hT x)).cell, HspC.out]; rfl
      have HTT := hid hT
      clear hT hI
      refine wp_region_class_tailT W 11 (by kernel_rfl) (by kernel_rfl) (by kernel_rfl) H0.out ?_
      dsimp only [List.take, List.drop]
      repeat (go_big_quiet_step (fail))
      refine wpQuiet_nil ?_
      intro z
      have HZ := hid (HTT.out z)
      generalize W z = wz at HZ ⊢
      clear e0 e1 hs1 hs2 H0 HTT
      obtain ⟨nm, hnm⟩ : ∃ nm, sub l s.a s.b = nm := ⟨_, rfl⟩
      rw [hnm] at hsub
      have hHn : hashL 2166136261 nm = H := by rw [← hnm]; exact hH
      have hnm32 : nm.length ≤ 32 := by omega
      obtain ⟨i0, hi0, hz1⟩ : ∃ i0, Try.prog.info? 5 = some i0 ∧ i0.size = 1 := by
        have : (Try.prog.info? 5).map (·.size) = some 1 := by kernel_rfl
        cases hq : Try.prog.info? 5 with
        | none => rw [hq] at this; simp at this
        | some i => rw [hq] at this; exact ⟨i, rfl, by simpa using this⟩
      obtain ⟨w6, hrun, hb6, hu6⟩ := run_copy_blk (P := Try.prog) wz 26 26 3 5 i0 1 Try.underlying26 hi0 hz1 (some ⟨q2, 1, none⟩) (some ⟨g, o + s.a, none⟩) 32 32 (s.b - s.a) (255 - s.a) q2 1 40 (compC [] cl H s.sl lst) (nm.map fun (x : Nat) => Value.int .u8 (x : Int)) (HB3.out.drew HZ.out)
        (by rw [List.length_map, hsub, show Nat.min (s.b - s.a) 32 = s.b - s.a from Nat.min_eq_left (by omega), Nat.mul_one])
        (fun _ => ⟨rfl, ⟨⟨g, o + s.a, none⟩, rfl, fun j v hv => by
          rw [List.getElem?_map] at hv
          obtain ⟨y, hy, rfl⟩ := Option.map_eq_some_iff.1 hv
          rw [show (⟨g, o + s.a, none⟩ : Addr).add j = ⟨g, o + s.a + j, none⟩ by unfold Addr.add; split <;> simp_all]
          rw [(BG.out.drew HZ.out).cell, show o + s.a + j = o + (s.a + j) by omega]
          apply HCp.out.raw
          rw [← hnm] at hy
          unfold sub at hy
          rw [List.getElem?_take] at hy
          split at hy
          · rw [List.getElem?_drop] at hy; exact hy
          · cases hy⟩⟩)
        (by rw [List.length_map, compC_len (by simp)]; omega) (fun v hv => by obtain ⟨x, _, rfl⟩ := List.mem_map.1 hv; rfl)
      rw [show Nat.min (s.b - s.a) 32 = s.b - s.a from Nat.min_eq_left (by omega)] at hrun
      have c0 : w6.cell? ⟨q2, 0, none⟩ = some (.int .u8 0) := hb6.cell 0
      have f0 : w6.frozen? ⟨q2, 0, none⟩ = false := hb6.frozen 0
      have hb7 := hb6.set 0 (.int .u8 (nm.length : Int))
      rw [comp_made hnm32, hsub] at hb7
      obtain ⟨k, hk⟩ : ∃ k, s.b - s.a = k := ⟨_, rfl⟩
      rw [hk] at hrun hb7
      have HB7 := hid hb7
      have HU7 : Hid (Upd q2 w3 (w6.setCell ⟨q2, 0, none⟩ (.int .u8 (k : Int)))) := hid ((((Upd.refl q2 w3).drew HZ.out).trans hu6).setCell rfl _)
      have hk32 : k ≤ 32 := by omega
      clear hb6 hu6 hb7 hi0 hz1
      simp only [hk]
      go_upto_region 4 with fail
      obtain ⟨w7, hw7⟩ : ∃ w7, w6.setCell ⟨q2, 0, none⟩ (.int .u8 (k : Int)) = w7 := ⟨_, rfl⟩
      rw [hw7] at HB7 HU7
      rw [hw7]
      have hrq : r ≠ q2 := by have := HR1.out.lt; omega
      have BR7 := hid (BR.out.upd HU7.out hrq)
      have I7 : Hid ((Try.prog.info? 40).map (·.size) = some (compC nm cl H s.sl lst).length) := hid (by rw [compC_len hnm32]; exact info_comp)
      have L7 : Hid ((compC [] 0 0 false false).length = (compC nm cl H s.sl lst).length) := hid (by rw [compC_len hnm32, compC_len (by simp)])
      have HBel7 : Hid (Below w1.heap.size w1 w7) := hid (HBel3.out.trans (HU7.out.below (by omega) HBel3.out.size))
      clear hw7 hrun c0 f0
      go_wp2_with (first
        | (refine wpList_load_blk rfl 40 _ rfl q2 rfl (compC nm cl H s.sl lst) HB7.out _ Try.underlying40 rfl I7.out ?_)
        | (refine wpList_store_blk rfl 40 _ _ rfl r rfl (compC nm cl H s.sl lst) rfl BR7.out L7.out I7.out (one_comp _ _ _ _ _) ?_; intro w8 HB8 HU8))
      exact bodyPost_ret (results_blk Try.results15 rfl (by rw [compC_len hnm32]; exact aggComp) HB8.out) rfl ⟨by rw [hnm, hcl, HLs.out, hHn]; rfl, by
        have h1 := HBe1.out
        rw [hr] at h1 ⊢
        have h2 := HBel7.out.mono (show r ≤ w1.heap.size by have := HR1.out.lt; omega)
        exact (h1.trans h2).trans (HU8.out.below (Nat.le_refl _) (by have := HR1.out.lt; have := HBel7.out.size; omega))⟩
end Go.Proofs.Qxb6500891a
