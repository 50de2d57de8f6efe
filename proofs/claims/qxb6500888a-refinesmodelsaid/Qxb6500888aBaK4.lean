/- The abstract model: wild; what Step keeps beside the model. -/
import Derived.Test.Qxb6500888aBaK3
namespace Go.Proofs.Qxb6500888a
open Go.RowKit
set_option linter.unusedSimpArgs false
set_option linter.unusedVariables false
attribute [local irreducible] wdC

/-- The model, a boxed step and a result's place. -/
structure SmS (w : World) (ρ : Rl) (L : GL) (Y : ML) (b3 r : Nat) (o : OpP) (G : GS) (M : MS) (L' : GL) (Y' : ML) (ρ' : Rl) (wr : World) : Prop where
  md : MdM wr ρ' L' Y' G M
  ob : Blk wr b3 31 (opC o)
  rb : Blk wr r 38 (rzC 0 0)
  z1 : ρ' b3 = 0
  z2 : ρ' r = 0
  fr : Fr bX ρ w ρ' wr
  yb : Y'.mB = Y.mB
  ls : L.Same L'
  l1 : w.heap.size ≤ b3
  l2 : w.heap.size ≤ r
section
variable {w wr w' : World} {ρ ρ' : Rl} {L L' : GL} {Y Y' : ML} {b3 r : Nat} {o : OpP} {G G' : GS} {M M' : MS}
theorem SmS.below (h : SmS w ρ L Y b3 r o G M L' Y' ρ' wr) (hb : Below wr.heap.size wr w') : SmS w ρ L Y b3 r o G M L' Y' ρ' w' := ⟨h.md.below hb, h.ob.below hb, h.rb.below hb, h.z1, h.z2, h.fr.trans (Fr.below hb), h.yb, h.ls, h.l1, h.l2⟩
theorem SmS.new0 (h : SmS w ρ L Y b3 r o G M L' Y' ρ' wr) {g : Nat} (hg : wr.heap.size ≤ g) : ρ' g = 0 := Classical.byContradiction fun hc => by
  have := h.md.gm.dom g hc
  omega
theorem SmS.upd (h : SmS w ρ L Y b3 r o G M L' Y' ρ' wr) {g : Nat} (hu : Upd g wr w') (h0 : ρ' g = 0) (hg : w.heap.size ≤ g) (h1 : b3 ≠ g) (h2 : r ≠ g) : SmS w ρ L Y b3 r o G M L' Y' ρ' w' := by
  have hf : Fr (fun c => c == 0) ρ' wr ρ' w' := Fr.upd hu (by show (ρ' g == 0) = true; rw [h0]; rfl)
  refine ⟨h.md.keep hf (fun c hc => ?_), h.ob.of (hu.block _ h.ob.lt h1), h.rb.of (hu.block _ h.rb.lt h2), h.z1, h.z2, h.fr.new hu hg, h.yb, h.ls, h.l1, h.l2⟩
  have := of_decide_eq_true hc
  show (c == 0) = false
  simp
  omega
theorem SmS.mach (h : SmS w ρ L Y b3 r o G M L' Y' ρ' wr) (hm : MdR wr ρ' L' Y' G' M' w') : ∃ L2 Y2 ρ2, SmS w ρ L Y b3 r o G' M' L2 Y2 ρ2 w' := by
  obtain ⟨L2, Y2, ρ2, k1, k2, k3, k4⟩ := hm
  exact ⟨L2, Y2, ρ2, k1, k4.keep h.ob h.z1 rfl, k4.keep h.rb h.z2 rfl, by rw [k4.old _ h.ob.lt]; exact h.z1, by rw [k4.old _ h.rb.lt]; exact h.z2, h.fr.trans k4, k2.trans h.yb, h.ls.trans k3, h.l1, h.l2⟩
/-- The result is stored. -/
theorem SmS.fin (h : SmS w ρ L Y b3 r o G M L' Y' ρ' wr) (hu : Upd r wr w') (c v : Nat) : RzP w ρ L Y ((c, v), G, M) (.returned (.agg (rzC c v).toArray)) w' := by
  have hf : Fr (fun c => c == 0) ρ' wr ρ' w' := Fr.upd hu (by show (ρ' r == 0) = true; rw [h.z2]; rfl)
  refine ⟨rfl, L', Y', ρ', h.md.keep hf (fun c hc => ?_), h.yb, h.ls, h.fr.new hu h.l2⟩
  have := of_decide_eq_true hc
  show (c == 0) = false
  simp
  omega
/-- The start. -/
theorem SmS.start (h : MdM w ρ L Y G M) (o : OpP) : SmS w ρ L Y w.heap.size (w.heap.size + 1) o G M L Y ρ ((w.alloc (.cells (opC o).toArray 31)).alloc (.cells (rzC 0 0).toArray 38)) := by
  have b1 := nbel w (.cells (opC o).toArray 31)
  have n1 := Blk.new w (opC o) 31
  obtain ⟨wa, hwa⟩ : ∃ x, w.alloc (.cells (opC o).toArray 31) = x := ⟨_, rfl⟩
  have hsz : wa.heap.size = w.heap.size + 1 := by rw [← hwa]; simp
  rw [hwa] at b1 n1 ⊢
  have b2 := nbel wa (.cells (rzC 0 0).toArray 38)
  have n2 := Blk.new wa (rzC 0 0) 38
  rw [hsz] at n2
  have hz : ∀ g, w.heap.size ≤ g → ρ g = 0 := fun g hg => Classical.byContradiction fun hc => by
    have := h.gm.dom g hc
    omega
  have hb := b1.trans (b2.mono b1.size)
  exact ⟨h.below hb, n1.below b2, n2, hz _ (by omega), hz _ (by omega), Fr.below hb, rfl, GL.Same.refl _, Nat.le_refl _, by omega⟩
def mwildS (G : GS) (o : OpP) : Nat := if (mfieldS G o.a o.b).2 ≠ 0 then (mfieldS G o.a o.b).2 else if (G.head o.c).isSome = false ∧ o.c ≠ 0 then 4 else 12
set_option maxRecDepth 1000000 in
set_option maxHeartbeats 8000000 in
theorem mwild_walk (h : MdM w ρ L Y G M) (ok : GOk G) (o : OpP) (hob : OpB o) :
    Calls Try.prog 63 #[.pointer (some ⟨Y.mB, 0, none⟩), .agg (opC o).toArray] w fun e w' => RzP w ρ L Y ((mwildS G o, 0), G, M) e w' := by
  have HS0 := hid (SmS.start h o)
  have Hdom : Hid (∀ g, w.heap.size ≤ g → ρ g = 0) := hid (fun g hg => Classical.byContradiction fun hc => by
    have := h.gm.dom g hc
    omega)
  have I0 := hid info_rz
  have HOk := hid ok
  have hmB : Y.mB = Y.mB := rfl
  obtain ⟨b3, hb3⟩ : ∃ x, w.heap.size = x := ⟨_, rfl⟩
  have Hb3 := hid hb3
  obtain ⟨kind, m, oa, ob, oc⟩ := o
  obtain ⟨mw, hmw⟩ : ∃ x, mwildS G ⟨kind, m, oa, ob, oc⟩ = x := ⟨_, rfl⟩
  rw [hmw]
  have Hmw := hid hmw
  have HB := hid hob
  rw [hb3] at HS0
  clear h ok hmw hob hmB
  have e0 : (opC ⟨kind, m, oa, ob, oc⟩).toArray = #[.int .u8 (kind : Int), .int .u8 (m : Int), .int .u64 (oa : Int), .int .u64 (ob : Int), .int .u64 (oc : Int)] := rfl
  rw [e0] at HS0 ⊢
  clear e0
  go_enter Try.func63, Try.ntmps63
  go_upto_region 1 with fail
  have HS1 : Hid (SmS w ρ L Y b3 (b3 + 1) ⟨kind, m, oa, ob, oc⟩ G M L Y ρ ((w.alloc (.cells #[.int .u8 (kind : Int), .int .u8 (m : Int), .int .u64 (oa : Int), .int .u64 (ob : Int), .int .u64 (oc : Int)] 31)).alloc (.cells #[.int .u8 0, .int .u64 0, .slice none 0 0, .slice none 0 0, .slice none 0 0, .slice none 0 0, .slice none 0 0, .slice none 0 0, .slice none 0 0, .slice none 0 0] 38))) := hid HS0.out
  clear HS0
  try simp only [hb3]
  generalize (w.alloc (.cells #[.int .u8 (kind : Int), .int .u8 (m : Int), .int .u64 (oa : Int), .int .u64 (ob : Int), .int .u64 (oc : Int)] 31)).alloc (.cells #[.int .u8 0, .int .u64 0, .slice none 0 0, .slice none 0 0, .slice none 0 0, .slice none 0 0, .slice none 0 0, .slice none 0 0, .slice none 0 0, .slice none 0 0] 38) = w1 at HS1 ⊢
  clear hb3
  have k2 : w1.cell? ⟨b3, 2, none⟩ = some (.int .u64 (oa : Int)) := HS1.out.ob.cell 2
  have k3 : w1.cell? ⟨b3, 3, none⟩ = some (.int .u64 (ob : Int)) := HS1.out.ob.cell 3
  have HFl := hid (mfield_walk HS1.out.md HOk.out oa ob HB.out.b)
  obtain ⟨fv, hfv⟩ : ∃ x, (mfieldS G oa ob).1 = x := ⟨_, rfl⟩
  obtain ⟨fc, hfc⟩ : ∃ x, (mfieldS G oa ob).2 = x := ⟨_, rfl⟩
  rw [hfv, hfc] at HFl
  have Hfc := hid hfc
  clear hfv hfc
  go_wp2_with fail
  refine HFl.out.mono ?_
  rintro e w2 ⟨rfl, hb2⟩
  have HS2 := hid (HS1.out.below hb2)
  clear HFl hb2 HS1 k2 k3
  by_cases hfc0 : fc = 0
  rotate_left
  · as_aux_lemma =>
    have d1 : ((fc : Int) != 0) = true := by simp; omega
    have hm2 : mw = fc := by rw [← Hmw.out]; unfold mwildS; dsimp only; rw [Hfc.out, if_pos hfc0]
    subst hm2
    have HRf := hid (mrefuse_walk mw w2)
    go_wp2_with fail
    refine HRf.out.mono ?_
    rintro e7 w7 ⟨rfl, hb7⟩
    have HSt := hid (HS2.out.below hb7)
    clear HRf hb7 HS2
    go_wp2_with (refine wpList_store_blk rfl 38 _ _ rfl (b3 + 1) rfl (rzC mw 0) rfl HSt.out.rb rfl I0.out (rz_one mw 0) ?_; intro w9 HB9 HU9)
    exact bodyPost_ret (results_blk (cs := rzC mw 0) Try.results63 rfl aggRz HB9.out) rfl (HSt.out.fin HU9.out mw 0)
  subst hfc0
  obtain ⟨⟨p, q⟩, hp⟩ : ∃ z, (G.head oc).getD (0, 0) = z := ⟨_, rfl⟩
  obtain ⟨bb, hbb⟩ : ∃ b, (G.head oc).isSome = b := ⟨_, rfl⟩
  have Hbb := hid hbb
  have HShp : Hid (∀ wx, SmS w ρ L Y b3 (b3 + 1) ⟨kind, m, oa, ob, oc⟩ G M L Y ρ wx → Calls Try.prog 32 #[.pointer (some ⟨L.hB, 0, none⟩), .int .u64 (oc : Int)] wx fun e w' => e = .returned (.tuple #[.agg #[.int .i64 (p : Int), .int .i64 (q : Int)], .bool bb]) ∧ Below wx.heap.size wx w') := hid (fun wx hx => by
    have := shapeOf_walk hx.md.gm oc
    rw [hp, hbb] at this
    exact this)
  clear hp hbb
  as_aux_lemma =>
  go_upto_region 4 with fail
  refine wp_region_late (C := fun wx => SmS w ρ L Y b3 (b3 + 1) ⟨kind, m, oa, ob, oc⟩ G M L Y ρ wx) (n := 10) (j := 9) (B := b3 + 2) (t := 73) (zs := [.int .i64 0, .int .i64 0]) (vs := [.int .i64 (p : Int), .int .i64 (q : Int)]) rfl rfl rfl (by kernel_rfl) (by kernel_rfl) (by kernel_rfl) (by kernel_rfl) (by kernel_rfl) ?hr2 (fun _ _ h hb => h.below hb) (fun _ h => h.rb.lt) HS2.out ?hx2
  case hr2 =>
    intro a w
    simp [go_sem]
  apply Exists.intro
  refine ⟨?_, ?_, ?_⟩
  · intro X W hne hX hI
    have k0 : ∀ x, (W x).cell? ⟨Y.mB, 0, none⟩ = some (.pointer (some ⟨L.hB, 0, none⟩)) := fun x => (hX x).md.cells.1
    have k4 : ∀ x, (W x).cell? ⟨b3, 4, none⟩ = some (.int .u64 (oc : Int)) := fun x => (hX x).ob.cell 4
    have HI := hid hI
    have HSx : Hid (∀ x, Calls Try.prog 32 #[.pointer (some ⟨L.hB, 0, none⟩), .int .u64 (oc : Int)] (W x) fun e w' => e = .returned (.tuple #[.agg #[.int .i64 (p : Int), .int .i64 (q : Int)], .bool bb]) ∧ Below (W x).heap.size (W x) w') := hid (fun x => HShp.out _ (hX x))
    clear hI hX
    dsimp only [List.take]
    repeat (go_big_quiet_step ((go_at_call 32; exact Calls.class_of HI.out (HSx.out _))))
    exact wpQuiet_nil rfl
  · intro g wx hg HSx hbl
    have k0 : wx.cell? ⟨g, 0, none⟩ = some (.int .i64 0) := hbl.cell 0
    have k1 : wx.cell? ⟨g, 1, none⟩ = some (.int .i64 0) := hbl.cell 1
    have f0 := hbl.frozen 0
    have f1 := hbl.frozen 1
    have e1 := Hb3.out
    have hdom : ρ g = 0 := Hdom.out g (by omega)
    refine ⟨(wx.setCell ⟨g, 0, none⟩ (.int .i64 (p : Int))).setCell ⟨g, 1, none⟩ (.int .i64 (q : Int)), ?_, HSx.upd (upd2 g 0 1 _ _ wx) hdom (by omega) (by omega) (by omega), ?_⟩
    · simp [execOp, go_sem, Act.eval, Act.put, k0, k1, f0, f1]
    · exact (hbl.set 0 _).set 1 _
  · intro g w4 hg hS4 hbl
    have HS4 := hid hS4
    dsimp only [List.drop]
    have c4 : w4.cell? ⟨b3, 4, none⟩ = some (.int .u64 (oc : Int)) := HS4.out.ob.cell 4
    clear hS4 hbl HShp HS2
    by_cases hcc : bb = false ∧ oc ≠ 0
    · as_aux_lemma =>
      obtain ⟨rfl, hoc⟩ := hcc
      have d1 : ((oc : Int) != 0) = true := by simp; omega
      have hm2 : mw = 4 := by rw [← Hmw.out]; unfold mwildS; dsimp only; rw [Hfc.out, if_neg (by simp), if_pos ⟨Hbb.out, hoc⟩]
      subst hm2
      have HRf := hid (mrefuse_walk 4 w4)
      go_wp2_with fail
      refine HRf.out.mono ?_
      rintro e7 w7 ⟨rfl, hb7⟩
      have HSt := hid (HS4.out.below hb7)
      clear HRf hb7 HS4 c4
      go_wp2_with (refine wpList_store_blk rfl 38 _ _ rfl (b3 + 1) rfl (rzC 4 0) rfl HSt.out.rb rfl I0.out (rz_one 4 0) ?_; intro w9 HB9 HU9)
      exact bodyPost_ret (results_blk (cs := rzC 4 0) Try.results63 rfl aggRz HB9.out) rfl (HSt.out.fin HU9.out 4 0)
    · have hm2 : mw = 12 := by rw [← Hmw.out]; unfold mwildS; dsimp only; rw [Hfc.out, if_neg (by simp), if_neg (by rw [Hbb.out]; exact hcc)]
      subst hm2
      have HRf := hid (mrefuse_walk 12 w4)
      cases bb with
      | true =>
        as_aux_lemma =>
        go_wp2_with fail
        refine HRf.out.mono ?_
        rintro e7 w7 ⟨rfl, hb7⟩
        have HSt := hid (HS4.out.below hb7)
        clear HRf hb7 HS4 c4
        go_wp2_with (refine wpList_store_blk rfl 38 _ _ rfl (b3 + 1) rfl (rzC 12 0) rfl HSt.out.rb rfl I0.out (rz_one 12 0) ?_; intro w9 HB9 HU9)
        exact bodyPost_ret (results_blk (cs := rzC 12 0) Try.results63 rfl aggRz HB9.out) rfl (HSt.out.fin HU9.out 12 0)
      | false =>
        as_aux_lemma =>
        have hoc : oc = 0 := Classical.byContradiction fun h => hcc ⟨rfl, h⟩
        subst hoc
        have c4' : w4.cell? ⟨b3, 4, none⟩ = some (.int .u64 0) := c4
        clear c4
        go_wp2_with fail
        refine HRf.out.mono ?_
        rintro e7 w7 ⟨rfl, hb7⟩
        have HSt := hid (HS4.out.below hb7)
        clear HRf hb7 HS4 c4'
        go_wp2_with (refine wpList_store_blk rfl 38 _ _ rfl (b3 + 1) rfl (rzC 12 0) rfl HSt.out.rb rfl I0.out (rz_one 12 0) ?_; intro w9 HB9 HU9)
        exact bodyPost_ret (results_blk (cs := rzC 12 0) Try.results63 rfl aggRz HB9.out) rfl (HSt.out.fin HU9.out 12 0)
end
end Go.Proofs.Qxb6500888a
