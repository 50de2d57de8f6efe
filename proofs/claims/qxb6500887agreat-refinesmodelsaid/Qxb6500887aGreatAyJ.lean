/- The model's steps that take an operation: log, mark. -/
import Derived.Test.Qxb6500887aGreatAyI
import Derived.Deep.DeepCutAuto
namespace Go.Proofs.Qxb6500887aGreat
open Go.RowKit
set_option linter.unusedSimpArgs false
set_option linter.unusedVariables false
/-- The same with a Result kept aside. -/
structure MQ (w0 : World) (l : ML) (E : ES) (o p r : Nat) (oc rs : List Value) (w : World) : Prop where
  mp : MP w0 l E o p oc w
  wb : Blk w r 46 rs
  lr : w0.heap.size ≤ r
  rp : r ≠ p
section
variable {l : ML} {E E' : ES} {w w' w0 w3 w4 : World} {o p r : Nat} {oc rs : List Value} {cb : Obj}
theorem MQ.mk' (h : MP w0 l E o p oc w3) (hr : w3.heap.size = r) (hu : Upd r (w3.alloc cb) w4) (hb : Blk w4 r 46 rs) : MQ w0 l E o p r oc rs w4 := by
  have k : Below w3.heap.size w3 w4 := (nbel w3 cb).trans (hu.below (by omega) (nbel w3 cb).size)
  exact ⟨h.below k, hb, by have := h.mx.md.u.size; omega, by have := h.mx.b.lt; omega⟩
theorem MQ.below (h : MQ w0 l E o p r oc rs w) (hb : Below w.heap.size w w') : MQ w0 l E o p r oc rs w' := ⟨h.mp.below hb, h.wb.below hb, h.lr, h.rp⟩
theorem MQ.step (h : MQ w0 l E o p r oc rs w) (hd : MD w l E' w') : MQ w0 l E' o p r oc rs w' := ⟨h.mp.step hd, hd.u.blk h.wb (fun hm => by have := h.mp.mx.al _ hm; have := h.lr; omega), h.lr, h.rp⟩
theorem MQ.ver (h : MQ w0 l E o p r oc rs w) : MQ w0 l E.tch o p r oc rs (w.setCell ⟨l.m, 5, none⟩ (.int .u64 (((E.v + 1) % 18446744073709551616 : Nat) : Int))) := h.step ((MD.start h.mp.mx.md.mm).ver (Nat.mod_lt _ (by decide)))
set_option maxRecDepth 100000 in
set_option maxHeartbeats 1000000 in
theorem log18 (h : MM l E w) (a b c : Int) (ha : U64 a) (hb : U64 b) (hc : U64 c) : Calls Tryz.prog 110 #[.pointer (some ⟨l.m, 0, none⟩), .agg #[.int .u8 18, .int .u64 a, .int .u64 b, .int .u64 c]] w fun e w' => e = .returned (.agg (rsG (wantW a) ((bitN (E.G (wIx a)) : Nat) : Int) 0).toArray) ∧ Hid (MD w l E w') := by
  have I0 := hid info_rs
  have HR := hid (fun (cd : Int) (wz : World) => refM cd wz)
  have HA := hid (fun wz => ansM 0 0 wz)
  obtain ⟨o, ho⟩ : ∃ o, w.heap.size = o := ⟨_, rfl⟩
  obtain ⟨p, hp⟩ : ∃ p, o + 1 = p := ⟨_, rfl⟩
  have HX : Hid (MP w l E o p [.int .u8 18, .int .u64 a, .int .u64 b, .int .u64 c] ((w.alloc (.cells #[.int .u8 18, .int .u64 a, .int .u64 b, .int .u64 c] 31)).alloc (.cells #[.int .u8 0, .int .u64 0, .int .u64 0, .string { data := #[] }, .int .i64 0, .int .i64 0, .int .i64 0, .int .i64 0, .int .i64 0, .int .i64 0, .int .i64 0, .int .i64 0, .int .i64 0, .int .i64 0, .int .i64 0, .int .i64 0, .int .i64 0, .int .i64 0, .int .i64 0, .int .i64 0, .int .u8 0, .int .i64 0, .int .i64 0, .int .i64 0, .int .i64 0, .int .i64 0, .int .i64 0, .int .i64 0, .int .i64 0, .int .i64 0, .int .i64 0, .int .i64 0, .int .i64 0, .int .i64 0, .int .i64 0] 46))) := hid (MP.start h ho hp)
  clear h
  have HW := hid (fun wz => ckwM a wz)
  by_cases hz : wantW a = 0
  rotate_left
  · as_aux_lemma =>
    rw [rsG_bad hz]
    generalize wantW a = cd at *
    have dc : (cd != 0) = true := by simpa using hz
    have dc' : (cd == 0) = false := by simpa using hz
    go_enter Tryz.func110, Tryz.ntmps110
    go_upto_region 1 with fail
    (try simp only [World.size_alloc, ho, hp])
    generalize hw2 : World.alloc (w.alloc _) _ = w2 at HX ⊢
    clear hw2 ho hp
    obtain ⟨o0, o1, o2, o3⟩ := HX.out.cells
    (go_wp2_with fail; refine (HW.out _).mono ?_; rintro e_ w_ ⟨he_, hw_⟩; subst he_; have hs_ := hw_.symm; clear hw_; subst hs_)
    go_wp2_with fail
    refine (HR.out cd _).mono ?_
    rintro e w3 ⟨rfl, hb3⟩
    have HX3 := hid (HX.out.below hb3)
    clear hb3 HX o0 o1 o2 o3
    go_wp2_with (refine wpList_store_blk rfl 46 _ _ rfl p rfl (rsC cd 0 0) rfl HX3.out.mx.b rfl I0.out (rsC_one _ _ _) ?_; intro w9 HB9 HU9)
    refine bodyPost_ret (results_blk (cs := (rsC cd 0 0)) Tryz.results110 rfl agg_rs HB9.out) rfl ?_
    exact ⟨rfl, hid (HX3.out.done HU9.out)⟩
  as_aux_lemma =>
  rw [hz]
  rw [hz] at HW
  have hi : InH a := by
    by_cases hi : InH a
    · exact hi
    · unfold wantW at hz; rw [if_neg hi] at hz; exact absurd hz (by decide)
  obtain ⟨g1, g2⟩ := wIx_of hi
  have HO := hid (fun wz => wofM' a hi.1 (by have := hi.2; omega) wz)
  rw [← g1] at HO
  generalize wIx a = g at *
  clear g1 hi hz
  obtain ⟨x, hx⟩ : ∃ x, E.G g = x := ⟨_, rfl⟩
  rw [hx]
  go_enter Tryz.func110, Tryz.ntmps110
  go_upto_region 1 with fail
  (try simp only [World.size_alloc, ho, hp])
  generalize hw2 : World.alloc (w.alloc _) _ = w2 at HX ⊢
  clear hw2 ho hp
  obtain ⟨o0, o1, o2, o3⟩ := HX.out.cells
  (go_wp2_with fail; refine (HW.out _).mono ?_; rintro e_ w_ ⟨he_, hw_⟩; subst he_; have hs_ := hw_.symm; clear hw_; subst hs_)
  (go_wp2_with fail; refine (HO.out _).mono ?_; rintro e_ w_ ⟨he_, hw_⟩; subst he_; have hs_ := hw_.symm; clear hw_; subst hs_)
  have c2 := HX.out.mx.md.mm.cells.2.2.2.1
  have cz := HX.out.mx.md.mm.log g2
  rw [hx] at cz
  go_wp2_with fail
  refine (truM x _).mono ?_
  rintro e w3 ⟨rfl, hb3⟩
  have HX3 := hid (HX.out.below hb3)
  clear hb3 HX c2 cz hx
  have HB : Hid (Blk (w3.alloc (.cells #[.int .u8 0, .int .u64 0, .int .u64 0, .string { data := #[] }, .int .i64 0, .int .i64 0, .int .i64 0, .int .i64 0, .int .i64 0, .int .i64 0, .int .i64 0, .int .i64 0, .int .i64 0, .int .i64 0, .int .i64 0, .int .i64 0, .int .i64 0, .int .i64 0, .int .i64 0, .int .i64 0, .int .u8 0, .int .i64 0, .int .i64 0, .int .i64 0, .int .i64 0, .int .i64 0, .int .i64 0, .int .i64 0, .int .i64 0, .int .i64 0, .int .i64 0, .int .i64 0, .int .i64 0, .int .i64 0, .int .i64 0] 46)) w3.heap.size 46 (rsC 0 0 0)) := hid (Blk.new w3 (rsC 0 0 0) 46)
  go_upto_region 6 with (refine wpList_store_blk rfl 46 _ _ rfl w3.heap.size rfl (rsC 0 ((bitN x : Nat) : Int) 0) rfl HB.out rfl I0.out (rsC_one _ _ _) ?_; intro w4 HB4 HU4)
  have HQ := hid (MQ.mk' HX3.out rfl HU4.out HB4.out)
  clear HB HB4 HU4 HX3 o0 o1 o2 o3
  generalize w3.heap.size = r at *
  obtain ⟨o0, o1, o2, o3⟩ := HQ.out.mp.cells
  go_wp2_with (first | (refine wpList_load_blk rfl 46 _ rfl r rfl (rsC 0 ((bitN x : Nat) : Int) 0) HQ.out.wb _ Tryz.underlying46 rfl I0.out ?_) | (refine wpList_store_blk rfl 46 _ _ rfl p rfl (rsC 0 ((bitN x : Nat) : Int) 0) rfl HQ.out.mp.mx.b rfl I0.out (rsC_one _ _ _) ?_; intro w9 HB9 HU9))
  refine bodyPost_ret (results_blk (cs := rsC 0 ((bitN x : Nat) : Int) 0) Tryz.results110 rfl agg_rs HB9.out) rfl ?_
  exact ⟨rfl, hid (HQ.out.mp.done HU9.out)⟩
def setlogE (E : ES) (a : Int) (on : Bool) : ES := if wantW a = 0 then { E.tch with G := fup E.G (wIx a) on } else E
set_option maxRecDepth 100000 in
set_option maxHeartbeats 1000000 in
theorem log19 (h : MM l E w) (a b c : Int) (ha : U64 a) (hb : U64 b) (hc : U64 c) : Calls Tryz.prog 110 #[.pointer (some ⟨l.m, 0, none⟩), .agg #[.int .u8 19, .int .u64 a, .int .u64 b, .int .u64 c]] w fun e w' => e = .returned (.agg (rsC (wantW a) 0 0).toArray) ∧ Hid (MD w l (setlogE E a (b != 0)) w') := by
  have I0 := hid info_rs
  have HR := hid (fun (cd : Int) (wz : World) => refM cd wz)
  have HA := hid (fun wz => ansM 0 0 wz)
  obtain ⟨o, ho⟩ : ∃ o, w.heap.size = o := ⟨_, rfl⟩
  obtain ⟨p, hp⟩ : ∃ p, o + 1 = p := ⟨_, rfl⟩
  have HX : Hid (MP w l E o p [.int .u8 19, .int .u64 a, .int .u64 b, .int .u64 c] ((w.alloc (.cells #[.int .u8 19, .int .u64 a, .int .u64 b, .int .u64 c] 31)).alloc (.cells #[.int .u8 0, .int .u64 0, .int .u64 0, .string { data := #[] }, .int .i64 0, .int .i64 0, .int .i64 0, .int .i64 0, .int .i64 0, .int .i64 0, .int .i64 0, .int .i64 0, .int .i64 0, .int .i64 0, .int .i64 0, .int .i64 0, .int .i64 0, .int .i64 0, .int .i64 0, .int .i64 0, .int .u8 0, .int .i64 0, .int .i64 0, .int .i64 0, .int .i64 0, .int .i64 0, .int .i64 0, .int .i64 0, .int .i64 0, .int .i64 0, .int .i64 0, .int .i64 0, .int .i64 0, .int .i64 0, .int .i64 0] 46))) := hid (MP.start h ho hp)
  clear h
  unfold setlogE
  obtain ⟨on, hon⟩ : ∃ on, (b != 0) = on := ⟨_, rfl⟩
  rw [hon]
  have HW := hid (fun wz => ckwM a wz)
  by_cases hz : wantW a = 0
  rotate_left
  · as_aux_lemma =>
    rw [if_neg hz]
    generalize wantW a = cd at *
    have dc : (cd != 0) = true := by simpa using hz
    have dc' : (cd == 0) = false := by simpa using hz
    go_enter Tryz.func110, Tryz.ntmps110
    go_upto_region 1 with fail
    (try simp only [World.size_alloc, ho, hp])
    generalize hw2 : World.alloc (w.alloc _) _ = w2 at HX ⊢
    clear hw2 ho hp
    obtain ⟨o0, o1, o2, o3⟩ := HX.out.cells
    (go_wp2_with fail; refine (HW.out _).mono ?_; rintro e_ w_ ⟨he_, hw_⟩; subst he_; have hs_ := hw_.symm; clear hw_; subst hs_)
    go_wp2_with fail
    refine (HR.out cd _).mono ?_
    rintro e w3 ⟨rfl, hb3⟩
    have HX3 := hid (HX.out.below hb3)
    clear hb3 HX o0 o1 o2 o3
    go_wp2_with (refine wpList_store_blk rfl 46 _ _ rfl p rfl (rsC cd 0 0) rfl HX3.out.mx.b rfl I0.out (rsC_one _ _ _) ?_; intro w9 HB9 HU9)
    refine bodyPost_ret (results_blk (cs := (rsC cd 0 0)) Tryz.results110 rfl agg_rs HB9.out) rfl ?_
    exact ⟨rfl, hid (HX3.out.done HU9.out)⟩
  as_aux_lemma =>
  rw [if_pos hz, hz]
  rw [hz] at HW
  have hi : InH a := by
    by_cases hi : InH a
    · exact hi
    · unfold wantW at hz; rw [if_neg hi] at hz; exact absurd hz (by decide)
  obtain ⟨g1, g2⟩ := wIx_of hi
  have HO := hid (fun wz => wofM' a hi.1 (by have := hi.2; omega) wz)
  rw [← g1] at HO
  generalize wIx a = g at *
  clear g1 hi hz
  obtain ⟨x, hx⟩ : ∃ x, E.G g = x := ⟨_, rfl⟩
  skip
  go_enter Tryz.func110, Tryz.ntmps110
  go_upto_region 1 with fail
  (try simp only [World.size_alloc, ho, hp])
  generalize hw2 : World.alloc (w.alloc _) _ = w2 at HX ⊢
  clear hw2 ho hp
  obtain ⟨o0, o1, o2, o3⟩ := HX.out.cells
  (go_wp2_with fail; refine (HW.out _).mono ?_; rintro e_ w_ ⟨he_, hw_⟩; subst he_; have hs_ := hw_.symm; clear hw_; subst hs_)
  (go_wp2_with fail; refine (HO.out _).mono ?_; rintro e_ w_ ⟨he_, hw_⟩; subst he_; have hs_ := hw_.symm; clear hw_; subst hs_)
  have c2 := HX.out.mx.md.mm.cells.2.2.2.1
  have cz := HX.out.mx.md.mm.log g2
  rw [hx] at cz
  go_wp2_with fail
  refine (truM x _).mono ?_
  rintro e w3 ⟨rfl, hb3⟩
  have HX3 := hid (HX.out.below hb3)
  clear hb3 HX c2 cz hx
  have HB : Hid (Blk (w3.alloc (.cells #[.int .u8 0, .int .u64 0, .int .u64 0, .string { data := #[] }, .int .i64 0, .int .i64 0, .int .i64 0, .int .i64 0, .int .i64 0, .int .i64 0, .int .i64 0, .int .i64 0, .int .i64 0, .int .i64 0, .int .i64 0, .int .i64 0, .int .i64 0, .int .i64 0, .int .i64 0, .int .i64 0, .int .u8 0, .int .i64 0, .int .i64 0, .int .i64 0, .int .i64 0, .int .i64 0, .int .i64 0, .int .i64 0, .int .i64 0, .int .i64 0, .int .i64 0, .int .i64 0, .int .i64 0, .int .i64 0, .int .i64 0] 46)) w3.heap.size 46 (rsC 0 0 0)) := hid (Blk.new w3 (rsC 0 0 0) 46)
  go_upto_region 6 with (refine wpList_store_blk rfl 46 _ _ rfl w3.heap.size rfl (rsC 0 ((bitN x : Nat) : Int) 0) rfl HB.out rfl I0.out (rsC_one _ _ _) ?_; intro w4 HB4 HU4)
  have HQ := hid (MQ.mk' HX3.out rfl HU4.out HB4.out)
  clear HB HB4 HU4 HX3 o0 o1 o2 o3
  generalize w3.heap.size = r at *
  obtain ⟨o0, o1, o2, o3⟩ := HQ.out.mp.cells
  obtain ⟨_, _, _, _, _, c5⟩ := HQ.out.mp.mx.md.mm.cells
  have f5 := HQ.out.mp.mx.md.mm.m.frozen 5
  have HX2 := hid HQ.out.ver
  have vw := ver_wrap E.v
  generalize ((E.v + 1) % 18446744073709551616 : Nat) = v1 at vw HX2
  clear HQ
  go_upto_region 9 with fail
  clear c5 f5 o0 o1 o2 o3
  generalize hw3 : World.setCell _ _ _ = w5 at HX2 ⊢
  clear hw3 vw
  obtain ⟨X', W, HTT, H0, hne, HCl⟩ := class_below w5
  have y1 : ∀ z, (W z).cell? ⟨l.m, 3, none⟩ = some (.slice (some ⟨l.g, 0, none⟩) 32768 32768) := fun z => (HX2.out.below (HTT.out z)).mp.mx.md.mm.cells.2.2.2.1
  have y2 : ∀ z, (W z).cell? ⟨o, 2, none⟩ = some (.int .u64 b) := fun z => (HX2.out.below (HTT.out z)).mp.cells.2.2.1
  refine wp_region_class_last W rfl (by kernel_rfl) (by kernel_rfl) (by kernel_rfl) H0.out ?_
  dsimp only [List.dropLast, List.getLast]
  repeat (go_big_quiet_step (fail))
  refine wpQuiet_nil ?_
  intro z
  have HZ := hid (HX2.out.below (HTT.out z))
  generalize W z = wz at HZ ⊢
  clear y1 y2 H0 HTT HCl hne HX2
  obtain ⟨cv, cz⟩ : ∃ cv, wz.cell? ⟨l.g, g, none⟩ = some cv := ⟨_, HZ.out.mp.mx.md.mm.log g2⟩
  have fz := HZ.out.mp.mx.md.mm.g.frozen g
  have HF := hid (HZ.out.step ((MD.start HZ.out.mp.mx.md.mm).putG (i := g) (x := on) g2)).mp
  clear HZ
  go_upto_region 10 with fail
  clear cz fz
  (try simp only [hon])
  generalize hw5 : wz.setCell _ _ = w6 at HF ⊢
  clear hw5
  obtain ⟨o0, o1, o2, o3⟩ := HF.out.cells
  go_wp2_with fail
  refine (HA.out _).mono ?_
  rintro e w3 ⟨rfl, hb3⟩
  have HX3 := hid (HF.out.below hb3)
  clear hb3 HF o0 o1 o2 o3
  go_wp2_with (refine wpList_store_blk rfl 46 _ _ rfl p rfl (rsC 0 0 0) rfl HX3.out.mx.b rfl I0.out (rsC_one _ _ _) ?_; intro w9 HB9 HU9)
  refine bodyPost_ret (results_blk (cs := (rsC 0 0 0)) Tryz.results110 rfl agg_rs HB9.out) rfl ?_
  exact ⟨rfl, hid (HX3.out.done HU9.out)⟩
set_option maxRecDepth 100000 in
set_option maxHeartbeats 1000000 in
theorem log20 (h : MM l E w) (a b c : Int) (ha : U64 a) (hb : U64 b) (hc : U64 c) : Calls Tryz.prog 110 #[.pointer (some ⟨l.m, 0, none⟩), .agg #[.int .u8 20, .int .u64 a, .int .u64 b, .int .u64 c]] w fun e w' => e = .returned (.agg (rsG (wantW a) ((bitN (E.G (wIx a)) : Nat) : Int) 0).toArray) ∧ Hid (MD w l (setlogE E a true) w') := by
  have I0 := hid info_rs
  have HR := hid (fun (cd : Int) (wz : World) => refM cd wz)
  have HA := hid (fun wz => ansM 0 0 wz)
  obtain ⟨o, ho⟩ : ∃ o, w.heap.size = o := ⟨_, rfl⟩
  obtain ⟨p, hp⟩ : ∃ p, o + 1 = p := ⟨_, rfl⟩
  have HX : Hid (MP w l E o p [.int .u8 20, .int .u64 a, .int .u64 b, .int .u64 c] ((w.alloc (.cells #[.int .u8 20, .int .u64 a, .int .u64 b, .int .u64 c] 31)).alloc (.cells #[.int .u8 0, .int .u64 0, .int .u64 0, .string { data := #[] }, .int .i64 0, .int .i64 0, .int .i64 0, .int .i64 0, .int .i64 0, .int .i64 0, .int .i64 0, .int .i64 0, .int .i64 0, .int .i64 0, .int .i64 0, .int .i64 0, .int .i64 0, .int .i64 0, .int .i64 0, .int .i64 0, .int .u8 0, .int .i64 0, .int .i64 0, .int .i64 0, .int .i64 0, .int .i64 0, .int .i64 0, .int .i64 0, .int .i64 0, .int .i64 0, .int .i64 0, .int .i64 0, .int .i64 0, .int .i64 0, .int .i64 0] 46))) := hid (MP.start h ho hp)
  clear h
  unfold setlogE
  have HW := hid (fun wz => ckwM a wz)
  by_cases hz : wantW a = 0
  rotate_left
  · as_aux_lemma =>
    rw [rsG_bad hz, if_neg hz]
    generalize wantW a = cd at *
    have dc : (cd != 0) = true := by simpa using hz
    have dc' : (cd == 0) = false := by simpa using hz
    go_enter Tryz.func110, Tryz.ntmps110
    go_upto_region 1 with fail
    (try simp only [World.size_alloc, ho, hp])
    generalize hw2 : World.alloc (w.alloc _) _ = w2 at HX ⊢
    clear hw2 ho hp
    obtain ⟨o0, o1, o2, o3⟩ := HX.out.cells
    (go_wp2_with fail; refine (HW.out _).mono ?_; rintro e_ w_ ⟨he_, hw_⟩; subst he_; have hs_ := hw_.symm; clear hw_; subst hs_)
    go_wp2_with fail
    refine (HR.out cd _).mono ?_
    rintro e w3 ⟨rfl, hb3⟩
    have HX3 := hid (HX.out.below hb3)
    clear hb3 HX o0 o1 o2 o3
    go_wp2_with (refine wpList_store_blk rfl 46 _ _ rfl p rfl (rsC cd 0 0) rfl HX3.out.mx.b rfl I0.out (rsC_one _ _ _) ?_; intro w9 HB9 HU9)
    refine bodyPost_ret (results_blk (cs := (rsC cd 0 0)) Tryz.results110 rfl agg_rs HB9.out) rfl ?_
    exact ⟨rfl, hid (HX3.out.done HU9.out)⟩
  as_aux_lemma =>
  rw [if_pos hz, hz]
  rw [hz] at HW
  have hi : InH a := by
    by_cases hi : InH a
    · exact hi
    · unfold wantW at hz; rw [if_neg hi] at hz; exact absurd hz (by decide)
  obtain ⟨g1, g2⟩ := wIx_of hi
  have HO := hid (fun wz => wofM' a hi.1 (by have := hi.2; omega) wz)
  rw [← g1] at HO
  generalize wIx a = g at *
  clear g1 hi hz
  obtain ⟨x, hx⟩ : ∃ x, E.G g = x := ⟨_, rfl⟩
  rw [hx]
  go_enter Tryz.func110, Tryz.ntmps110
  go_upto_region 1 with fail
  (try simp only [World.size_alloc, ho, hp])
  generalize hw2 : World.alloc (w.alloc _) _ = w2 at HX ⊢
  clear hw2 ho hp
  obtain ⟨o0, o1, o2, o3⟩ := HX.out.cells
  (go_wp2_with fail; refine (HW.out _).mono ?_; rintro e_ w_ ⟨he_, hw_⟩; subst he_; have hs_ := hw_.symm; clear hw_; subst hs_)
  (go_wp2_with fail; refine (HO.out _).mono ?_; rintro e_ w_ ⟨he_, hw_⟩; subst he_; have hs_ := hw_.symm; clear hw_; subst hs_)
  have c2 := HX.out.mx.md.mm.cells.2.2.2.1
  have cz := HX.out.mx.md.mm.log g2
  rw [hx] at cz
  go_wp2_with fail
  refine (truM x _).mono ?_
  rintro e w3 ⟨rfl, hb3⟩
  have HX3 := hid (HX.out.below hb3)
  clear hb3 HX c2 cz hx
  have HB : Hid (Blk (w3.alloc (.cells #[.int .u8 0, .int .u64 0, .int .u64 0, .string { data := #[] }, .int .i64 0, .int .i64 0, .int .i64 0, .int .i64 0, .int .i64 0, .int .i64 0, .int .i64 0, .int .i64 0, .int .i64 0, .int .i64 0, .int .i64 0, .int .i64 0, .int .i64 0, .int .i64 0, .int .i64 0, .int .i64 0, .int .u8 0, .int .i64 0, .int .i64 0, .int .i64 0, .int .i64 0, .int .i64 0, .int .i64 0, .int .i64 0, .int .i64 0, .int .i64 0, .int .i64 0, .int .i64 0, .int .i64 0, .int .i64 0, .int .i64 0] 46)) w3.heap.size 46 (rsC 0 0 0)) := hid (Blk.new w3 (rsC 0 0 0) 46)
  go_upto_region 6 with (refine wpList_store_blk rfl 46 _ _ rfl w3.heap.size rfl (rsC 0 ((bitN x : Nat) : Int) 0) rfl HB.out rfl I0.out (rsC_one _ _ _) ?_; intro w4 HB4 HU4)
  have HQ := hid (MQ.mk' HX3.out rfl HU4.out HB4.out)
  clear HB HB4 HU4 HX3 o0 o1 o2 o3
  generalize w3.heap.size = r at *
  obtain ⟨o0, o1, o2, o3⟩ := HQ.out.mp.cells
  obtain ⟨_, _, _, _, _, c5⟩ := HQ.out.mp.mx.md.mm.cells
  have f5 := HQ.out.mp.mx.md.mm.m.frozen 5
  have HX2 := hid HQ.out.ver
  have vw := ver_wrap E.v
  generalize ((E.v + 1) % 18446744073709551616 : Nat) = v1 at vw HX2
  clear HQ
  go_upto_region 13 with fail
  clear c5 f5 o0 o1 o2 o3
  generalize hw3 : World.setCell _ _ _ = w5 at HX2 ⊢
  clear hw3 vw
  have c2 := HX2.out.mp.mx.md.mm.cells.2.2.2.1
  obtain ⟨cv, cz⟩ : ∃ cv, w5.cell? ⟨l.g, g, none⟩ = some cv := ⟨_, HX2.out.mp.mx.md.mm.log g2⟩
  have fz := HX2.out.mp.mx.md.mm.g.frozen g
  have HF := hid (HX2.out.step ((MD.start HX2.out.mp.mx.md.mm).putG (i := g) (x := true) g2))
  clear HX2
  go_upto_region 14 with fail
  clear cz fz c2
  generalize hw5 : w5.setCell _ _ = w6 at HF ⊢
  clear hw5
  go_wp2_with (first | (refine wpList_load_blk rfl 46 _ rfl r rfl (rsC 0 ((bitN x : Nat) : Int) 0) HF.out.wb _ Tryz.underlying46 rfl I0.out ?_) | (refine wpList_store_blk rfl 46 _ _ rfl p rfl (rsC 0 ((bitN x : Nat) : Int) 0) rfl HF.out.mp.mx.b rfl I0.out (rsC_one _ _ _) ?_; intro w9 HB9 HU9))
  refine bodyPost_ret (results_blk (cs := rsC 0 ((bitN x : Nat) : Int) 0) Tryz.results110 rfl agg_rs HB9.out) rfl ?_
  exact ⟨rfl, hid (HF.out.mp.done HU9.out)⟩
set_option maxRecDepth 100000 in
set_option maxHeartbeats 1000000 in
theorem mark23 (h : MM l E w) (a b c : Int) (ha : U64 a) (hb : U64 b) (hc : U64 c) : Calls Tryz.prog 109 #[.pointer (some ⟨l.m, 0, none⟩), .agg #[.int .u8 23, .int .u64 a, .int .u64 b, .int .u64 c]] w fun e w' => e = .returned (.agg (rsG (wantO a) ((bitN (E.K (gIx a)) : Nat) : Int) 0).toArray) ∧ Hid (MD w l E w') := by
  have I0 := hid info_rs
  have HR := hid (fun (cd : Int) (wz : World) => refM cd wz)
  have HA := hid (fun wz => ansM 0 0 wz)
  obtain ⟨o, ho⟩ : ∃ o, w.heap.size = o := ⟨_, rfl⟩
  obtain ⟨p, hp⟩ : ∃ p, o + 1 = p := ⟨_, rfl⟩
  have HX : Hid (MP w l E o p [.int .u8 23, .int .u64 a, .int .u64 b, .int .u64 c] ((w.alloc (.cells #[.int .u8 23, .int .u64 a, .int .u64 b, .int .u64 c] 31)).alloc (.cells #[.int .u8 0, .int .u64 0, .int .u64 0, .string { data := #[] }, .int .i64 0, .int .i64 0, .int .i64 0, .int .i64 0, .int .i64 0, .int .i64 0, .int .i64 0, .int .i64 0, .int .i64 0, .int .i64 0, .int .i64 0, .int .i64 0, .int .i64 0, .int .i64 0, .int .i64 0, .int .i64 0, .int .u8 0, .int .i64 0, .int .i64 0, .int .i64 0, .int .i64 0, .int .i64 0, .int .i64 0, .int .i64 0, .int .i64 0, .int .i64 0, .int .i64 0, .int .i64 0, .int .i64 0, .int .i64 0, .int .i64 0] 46))) := hid (MP.start h ho hp)
  clear h
  have HW := hid (fun wz => ckoM a wz)
  by_cases hz : wantO a = 0
  rotate_left
  · as_aux_lemma =>
    rw [rsG_bad hz]
    generalize wantO a = cd at *
    have dc : (cd != 0) = true := by simpa using hz
    have dc' : (cd == 0) = false := by simpa using hz
    go_enter Tryz.func109, Tryz.ntmps109
    go_upto_region 1 with fail
    (try simp only [World.size_alloc, ho, hp])
    generalize hw2 : World.alloc (w.alloc _) _ = w2 at HX ⊢
    clear hw2 ho hp
    obtain ⟨o0, o1, o2, o3⟩ := HX.out.cells
    (go_wp2_with fail; refine (HW.out _).mono ?_; rintro e_ w_ ⟨he_, hw_⟩; subst he_; have hs_ := hw_.symm; clear hw_; subst hs_)
    go_wp2_with fail
    refine (HR.out cd _).mono ?_
    rintro e w3 ⟨rfl, hb3⟩
    have HX3 := hid (HX.out.below hb3)
    clear hb3 HX o0 o1 o2 o3
    go_wp2_with (refine wpList_store_blk rfl 46 _ _ rfl p rfl (rsC cd 0 0) rfl HX3.out.mx.b rfl I0.out (rsC_one _ _ _) ?_; intro w9 HB9 HU9)
    refine bodyPost_ret (results_blk (cs := (rsC cd 0 0)) Tryz.results109 rfl agg_rs HB9.out) rfl ?_
    exact ⟨rfl, hid (HX3.out.done HU9.out)⟩
  as_aux_lemma =>
  rw [hz]
  rw [hz] at HW
  obtain ⟨q1, q2⟩ := wantO_ok hz
  obtain ⟨g1, g2, g3⟩ := gIx_of hz
  have HO := hid (fun wz => wofM' a q1.1 (by have := q1.2; omega) wz)
  rw [show a - 65536 = ((2 * gIx a : Nat) : Int) by omega] at HO
  generalize gIx a = g at *
  clear g1 g3 q1 q2 hz
  obtain ⟨k, hk⟩ : ∃ k, 2 * g = k := ⟨_, rfl⟩
  rw [hk] at HO
  have eg : (k : Int).tdiv 2 = (g : Int) := by rw [Int.tdiv_eq_ediv_of_nonneg (by omega)]; omega
  have eg' : (k : Int) / 2 = (g : Int) := by omega
  clear hk
  obtain ⟨x, hx⟩ : ∃ x, E.K g = x := ⟨_, rfl⟩
  rw [hx]
  go_enter Tryz.func109, Tryz.ntmps109
  go_upto_region 1 with fail
  (try simp only [World.size_alloc, ho, hp])
  generalize hw2 : World.alloc (w.alloc _) _ = w2 at HX ⊢
  clear hw2 ho hp
  obtain ⟨o0, o1, o2, o3⟩ := HX.out.cells
  (go_wp2_with fail; refine (HW.out _).mono ?_; rintro e_ w_ ⟨he_, hw_⟩; subst he_; have hs_ := hw_.symm; clear hw_; subst hs_)
  (go_wp2_with fail; refine (HO.out _).mono ?_; rintro e_ w_ ⟨he_, hw_⟩; subst he_; have hs_ := hw_.symm; clear hw_; subst hs_)
  have c2 := HX.out.mx.md.mm.cells.2.2.1
  have cz := HX.out.mx.md.mm.mark g2
  rw [hx] at cz
  go_wp2_with fail
  refine (truM x _).mono ?_
  rintro e w3 ⟨rfl, hb3⟩
  have HX3 := hid (HX.out.below hb3)
  clear hb3 HX c2 cz hx
  have HB : Hid (Blk (w3.alloc (.cells #[.int .u8 0, .int .u64 0, .int .u64 0, .string { data := #[] }, .int .i64 0, .int .i64 0, .int .i64 0, .int .i64 0, .int .i64 0, .int .i64 0, .int .i64 0, .int .i64 0, .int .i64 0, .int .i64 0, .int .i64 0, .int .i64 0, .int .i64 0, .int .i64 0, .int .i64 0, .int .i64 0, .int .u8 0, .int .i64 0, .int .i64 0, .int .i64 0, .int .i64 0, .int .i64 0, .int .i64 0, .int .i64 0, .int .i64 0, .int .i64 0, .int .i64 0, .int .i64 0, .int .i64 0, .int .i64 0, .int .i64 0] 46)) w3.heap.size 46 (rsC 0 0 0)) := hid (Blk.new w3 (rsC 0 0 0) 46)
  go_upto_region 6 with (refine wpList_store_blk rfl 46 _ _ rfl w3.heap.size rfl (rsC 0 ((bitN x : Nat) : Int) 0) rfl HB.out rfl I0.out (rsC_one _ _ _) ?_; intro w4 HB4 HU4)
  have HQ := hid (MQ.mk' HX3.out rfl HU4.out HB4.out)
  clear HB HB4 HU4 HX3 o0 o1 o2 o3
  generalize w3.heap.size = r at *
  obtain ⟨o0, o1, o2, o3⟩ := HQ.out.mp.cells
  go_wp2_with (first | (refine wpList_load_blk rfl 46 _ rfl r rfl (rsC 0 ((bitN x : Nat) : Int) 0) HQ.out.wb _ Tryz.underlying46 rfl I0.out ?_) | (refine wpList_store_blk rfl 46 _ _ rfl p rfl (rsC 0 ((bitN x : Nat) : Int) 0) rfl HQ.out.mp.mx.b rfl I0.out (rsC_one _ _ _) ?_; intro w9 HB9 HU9))
  refine bodyPost_ret (results_blk (cs := rsC 0 ((bitN x : Nat) : Int) 0) Tryz.results109 rfl agg_rs HB9.out) rfl ?_
  exact ⟨rfl, hid (HQ.out.mp.done HU9.out)⟩
def setmarkE (E : ES) (a : Int) (on : Bool) : ES := if wantO a = 0 then { E.tch with K := fup E.K (gIx a) on } else E
set_option maxRecDepth 100000 in
set_option maxHeartbeats 1000000 in
theorem mark24 (h : MM l E w) (a b c : Int) (ha : U64 a) (hb : U64 b) (hc : U64 c) : Calls Tryz.prog 109 #[.pointer (some ⟨l.m, 0, none⟩), .agg #[.int .u8 24, .int .u64 a, .int .u64 b, .int .u64 c]] w fun e w' => e = .returned (.agg (rsC (wantO a) 0 0).toArray) ∧ Hid (MD w l (setmarkE E a (b != 0)) w') := by
  have I0 := hid info_rs
  have HR := hid (fun (cd : Int) (wz : World) => refM cd wz)
  have HA := hid (fun wz => ansM 0 0 wz)
  obtain ⟨o, ho⟩ : ∃ o, w.heap.size = o := ⟨_, rfl⟩
  obtain ⟨p, hp⟩ : ∃ p, o + 1 = p := ⟨_, rfl⟩
  have HX : Hid (MP w l E o p [.int .u8 24, .int .u64 a, .int .u64 b, .int .u64 c] ((w.alloc (.cells #[.int .u8 24, .int .u64 a, .int .u64 b, .int .u64 c] 31)).alloc (.cells #[.int .u8 0, .int .u64 0, .int .u64 0, .string { data := #[] }, .int .i64 0, .int .i64 0, .int .i64 0, .int .i64 0, .int .i64 0, .int .i64 0, .int .i64 0, .int .i64 0, .int .i64 0, .int .i64 0, .int .i64 0, .int .i64 0, .int .i64 0, .int .i64 0, .int .i64 0, .int .i64 0, .int .u8 0, .int .i64 0, .int .i64 0, .int .i64 0, .int .i64 0, .int .i64 0, .int .i64 0, .int .i64 0, .int .i64 0, .int .i64 0, .int .i64 0, .int .i64 0, .int .i64 0, .int .i64 0, .int .i64 0] 46))) := hid (MP.start h ho hp)
  clear h
  unfold setmarkE
  obtain ⟨on, hon⟩ : ∃ on, (b != 0) = on := ⟨_, rfl⟩
  rw [hon]
  have HW := hid (fun wz => ckoM a wz)
  by_cases hz : wantO a = 0
  rotate_left
  · as_aux_lemma =>
    rw [if_neg hz]
    generalize wantO a = cd at *
    have dc : (cd != 0) = true := by simpa using hz
    have dc' : (cd == 0) = false := by simpa using hz
    go_enter Tryz.func109, Tryz.ntmps109
    go_upto_region 1 with fail
    (try simp only [World.size_alloc, ho, hp])
    generalize hw2 : World.alloc (w.alloc _) _ = w2 at HX ⊢
    clear hw2 ho hp
    obtain ⟨o0, o1, o2, o3⟩ := HX.out.cells
    (go_wp2_with fail; refine (HW.out _).mono ?_; rintro e_ w_ ⟨he_, hw_⟩; subst he_; have hs_ := hw_.symm; clear hw_; subst hs_)
    go_wp2_with fail
    refine (HR.out cd _).mono ?_
    rintro e w3 ⟨rfl, hb3⟩
    have HX3 := hid (HX.out.below hb3)
    clear hb3 HX o0 o1 o2 o3
    go_wp2_with (refine wpList_store_blk rfl 46 _ _ rfl p rfl (rsC cd 0 0) rfl HX3.out.mx.b rfl I0.out (rsC_one _ _ _) ?_; intro w9 HB9 HU9)
    refine bodyPost_ret (results_blk (cs := (rsC cd 0 0)) Tryz.results109 rfl agg_rs HB9.out) rfl ?_
    exact ⟨rfl, hid (HX3.out.done HU9.out)⟩
  as_aux_lemma =>
  rw [if_pos hz, hz]
  rw [hz] at HW
  obtain ⟨q1, q2⟩ := wantO_ok hz
  obtain ⟨g1, g2, g3⟩ := gIx_of hz
  have HO := hid (fun wz => wofM' a q1.1 (by have := q1.2; omega) wz)
  rw [show a - 65536 = ((2 * gIx a : Nat) : Int) by omega] at HO
  generalize gIx a = g at *
  clear g1 g3 q1 q2 hz
  obtain ⟨k, hk⟩ : ∃ k, 2 * g = k := ⟨_, rfl⟩
  rw [hk] at HO
  have eg : (k : Int).tdiv 2 = (g : Int) := by rw [Int.tdiv_eq_ediv_of_nonneg (by omega)]; omega
  have eg' : (k : Int) / 2 = (g : Int) := by omega
  clear hk
  obtain ⟨x, hx⟩ : ∃ x, E.K g = x := ⟨_, rfl⟩
  skip
  go_enter Tryz.func109, Tryz.ntmps109
  go_upto_region 1 with fail
  (try simp only [World.size_alloc, ho, hp])
  generalize hw2 : World.alloc (w.alloc _) _ = w2 at HX ⊢
  clear hw2 ho hp
  obtain ⟨o0, o1, o2, o3⟩ := HX.out.cells
  (go_wp2_with fail; refine (HW.out _).mono ?_; rintro e_ w_ ⟨he_, hw_⟩; subst he_; have hs_ := hw_.symm; clear hw_; subst hs_)
  (go_wp2_with fail; refine (HO.out _).mono ?_; rintro e_ w_ ⟨he_, hw_⟩; subst he_; have hs_ := hw_.symm; clear hw_; subst hs_)
  have c2 := HX.out.mx.md.mm.cells.2.2.1
  have cz := HX.out.mx.md.mm.mark g2
  rw [hx] at cz
  go_wp2_with fail
  refine (truM x _).mono ?_
  rintro e w3 ⟨rfl, hb3⟩
  have HX3 := hid (HX.out.below hb3)
  clear hb3 HX c2 cz hx
  have HB : Hid (Blk (w3.alloc (.cells #[.int .u8 0, .int .u64 0, .int .u64 0, .string { data := #[] }, .int .i64 0, .int .i64 0, .int .i64 0, .int .i64 0, .int .i64 0, .int .i64 0, .int .i64 0, .int .i64 0, .int .i64 0, .int .i64 0, .int .i64 0, .int .i64 0, .int .i64 0, .int .i64 0, .int .i64 0, .int .i64 0, .int .u8 0, .int .i64 0, .int .i64 0, .int .i64 0, .int .i64 0, .int .i64 0, .int .i64 0, .int .i64 0, .int .i64 0, .int .i64 0, .int .i64 0, .int .i64 0, .int .i64 0, .int .i64 0, .int .i64 0] 46)) w3.heap.size 46 (rsC 0 0 0)) := hid (Blk.new w3 (rsC 0 0 0) 46)
  go_upto_region 6 with (refine wpList_store_blk rfl 46 _ _ rfl w3.heap.size rfl (rsC 0 ((bitN x : Nat) : Int) 0) rfl HB.out rfl I0.out (rsC_one _ _ _) ?_; intro w4 HB4 HU4)
  have HQ := hid (MQ.mk' HX3.out rfl HU4.out HB4.out)
  clear HB HB4 HU4 HX3 o0 o1 o2 o3
  generalize w3.heap.size = r at *
  obtain ⟨o0, o1, o2, o3⟩ := HQ.out.mp.cells
  obtain ⟨_, _, _, _, _, c5⟩ := HQ.out.mp.mx.md.mm.cells
  have f5 := HQ.out.mp.mx.md.mm.m.frozen 5
  have HX2 := hid HQ.out.ver
  have vw := ver_wrap E.v
  generalize ((E.v + 1) % 18446744073709551616 : Nat) = v1 at vw HX2
  clear HQ
  go_upto_region 9 with fail
  clear c5 f5 o0 o1 o2 o3
  generalize hw3 : World.setCell _ _ _ = w5 at HX2 ⊢
  clear hw3 vw
  obtain ⟨X', W, HTT, H0, hne, HCl⟩ := class_below w5
  have y1 : ∀ z, (W z).cell? ⟨l.m, 2, none⟩ = some (.slice (some ⟨l.k, 0, none⟩) 16384 16384) := fun z => (HX2.out.below (HTT.out z)).mp.mx.md.mm.cells.2.2.1
  have y2 : ∀ z, (W z).cell? ⟨o, 2, none⟩ = some (.int .u64 b) := fun z => (HX2.out.below (HTT.out z)).mp.cells.2.2.1
  refine wp_region_class_last W rfl (by kernel_rfl) (by kernel_rfl) (by kernel_rfl) H0.out ?_
  dsimp only [List.dropLast, List.getLast]
  repeat (go_big_quiet_step (fail))
  refine wpQuiet_nil ?_
  intro z
  have HZ := hid (HX2.out.below (HTT.out z))
  generalize W z = wz at HZ ⊢
  clear y1 y2 H0 HTT HCl hne HX2
  obtain ⟨cv, cz⟩ : ∃ cv, wz.cell? ⟨l.k, g, none⟩ = some cv := ⟨_, HZ.out.mp.mx.md.mm.mark g2⟩
  have fz := HZ.out.mp.mx.md.mm.k.frozen g
  have HF := hid (HZ.out.step ((MD.start HZ.out.mp.mx.md.mm).putK (i := g) (x := on) g2)).mp
  clear HZ
  go_upto_region 10 with fail
  clear cz fz
  (try simp only [hon])
  generalize hw5 : wz.setCell _ _ = w6 at HF ⊢
  clear hw5
  obtain ⟨o0, o1, o2, o3⟩ := HF.out.cells
  go_wp2_with fail
  refine (HA.out _).mono ?_
  rintro e w3 ⟨rfl, hb3⟩
  have HX3 := hid (HF.out.below hb3)
  clear hb3 HF o0 o1 o2 o3
  go_wp2_with (refine wpList_store_blk rfl 46 _ _ rfl p rfl (rsC 0 0 0) rfl HX3.out.mx.b rfl I0.out (rsC_one _ _ _) ?_; intro w9 HB9 HU9)
  refine bodyPost_ret (results_blk (cs := (rsC 0 0 0)) Tryz.results109 rfl agg_rs HB9.out) rfl ?_
  exact ⟨rfl, hid (HX3.out.done HU9.out)⟩
set_option maxRecDepth 100000 in
set_option maxHeartbeats 1000000 in
theorem mark25 (h : MM l E w) (a b c : Int) (ha : U64 a) (hb : U64 b) (hc : U64 c) : Calls Tryz.prog 109 #[.pointer (some ⟨l.m, 0, none⟩), .agg #[.int .u8 25, .int .u64 a, .int .u64 b, .int .u64 c]] w fun e w' => e = .returned (.agg (rsG (wantO a) ((bitN (E.K (gIx a)) : Nat) : Int) 0).toArray) ∧ Hid (MD w l (setmarkE E a true) w') := by
  have I0 := hid info_rs
  have HR := hid (fun (cd : Int) (wz : World) => refM cd wz)
  have HA := hid (fun wz => ansM 0 0 wz)
  obtain ⟨o, ho⟩ : ∃ o, w.heap.size = o := ⟨_, rfl⟩
  obtain ⟨p, hp⟩ : ∃ p, o + 1 = p := ⟨_, rfl⟩
  have HX : Hid (MP w l E o p [.int .u8 25, .int .u64 a, .int .u64 b, .int .u64 c] ((w.alloc (.cells #[.int .u8 25, .int .u64 a, .int .u64 b, .int .u64 c] 31)).alloc (.cells #[.int .u8 0, .int .u64 0, .int .u64 0, .string { data := #[] }, .int .i64 0, .int .i64 0, .int .i64 0, .int .i64 0, .int .i64 0, .int .i64 0, .int .i64 0, .int .i64 0, .int .i64 0, .int .i64 0, .int .i64 0, .int .i64 0, .int .i64 0, .int .i64 0, .int .i64 0, .int .i64 0, .int .u8 0, .int .i64 0, .int .i64 0, .int .i64 0, .int .i64 0, .int .i64 0, .int .i64 0, .int .i64 0, .int .i64 0, .int .i64 0, .int .i64 0, .int .i64 0, .int .i64 0, .int .i64 0, .int .i64 0] 46))) := hid (MP.start h ho hp)
  clear h
  unfold setmarkE
  have HW := hid (fun wz => ckoM a wz)
  by_cases hz : wantO a = 0
  rotate_left
  · as_aux_lemma =>
    rw [rsG_bad hz, if_neg hz]
    generalize wantO a = cd at *
    have dc : (cd != 0) = true := by simpa using hz
    have dc' : (cd == 0) = false := by simpa using hz
    go_enter Tryz.func109, Tryz.ntmps109
    go_upto_region 1 with fail
    (try simp only [World.size_alloc, ho, hp])
    generalize hw2 : World.alloc (w.alloc _) _ = w2 at HX ⊢
    clear hw2 ho hp
    obtain ⟨o0, o1, o2, o3⟩ := HX.out.cells
    (go_wp2_with fail; refine (HW.out _).mono ?_; rintro e_ w_ ⟨he_, hw_⟩; subst he_; have hs_ := hw_.symm; clear hw_; subst hs_)
    go_wp2_with fail
    refine (HR.out cd _).mono ?_
    rintro e w3 ⟨rfl, hb3⟩
    have HX3 := hid (HX.out.below hb3)
    clear hb3 HX o0 o1 o2 o3
    go_wp2_with (refine wpList_store_blk rfl 46 _ _ rfl p rfl (rsC cd 0 0) rfl HX3.out.mx.b rfl I0.out (rsC_one _ _ _) ?_; intro w9 HB9 HU9)
    refine bodyPost_ret (results_blk (cs := (rsC cd 0 0)) Tryz.results109 rfl agg_rs HB9.out) rfl ?_
    exact ⟨rfl, hid (HX3.out.done HU9.out)⟩
  as_aux_lemma =>
  rw [if_pos hz, hz]
  rw [hz] at HW
  obtain ⟨q1, q2⟩ := wantO_ok hz
  obtain ⟨g1, g2, g3⟩ := gIx_of hz
  have HO := hid (fun wz => wofM' a q1.1 (by have := q1.2; omega) wz)
  rw [show a - 65536 = ((2 * gIx a : Nat) : Int) by omega] at HO
  generalize gIx a = g at *
  clear g1 g3 q1 q2 hz
  obtain ⟨k, hk⟩ : ∃ k, 2 * g = k := ⟨_, rfl⟩
  rw [hk] at HO
  have eg : (k : Int).tdiv 2 = (g : Int) := by rw [Int.tdiv_eq_ediv_of_nonneg (by omega)]; omega
  have eg' : (k : Int) / 2 = (g : Int) := by omega
  clear hk
  obtain ⟨x, hx⟩ : ∃ x, E.K g = x := ⟨_, rfl⟩
  rw [hx]
  go_enter Tryz.func109, Tryz.ntmps109
  go_upto_region 1 with fail
  (try simp only [World.size_alloc, ho, hp])
  generalize hw2 : World.alloc (w.alloc _) _ = w2 at HX ⊢
  clear hw2 ho hp
  obtain ⟨o0, o1, o2, o3⟩ := HX.out.cells
  (go_wp2_with fail; refine (HW.out _).mono ?_; rintro e_ w_ ⟨he_, hw_⟩; subst he_; have hs_ := hw_.symm; clear hw_; subst hs_)
  (go_wp2_with fail; refine (HO.out _).mono ?_; rintro e_ w_ ⟨he_, hw_⟩; subst he_; have hs_ := hw_.symm; clear hw_; subst hs_)
  have c2 := HX.out.mx.md.mm.cells.2.2.1
  have cz := HX.out.mx.md.mm.mark g2
  rw [hx] at cz
  go_wp2_with fail
  refine (truM x _).mono ?_
  rintro e w3 ⟨rfl, hb3⟩
  have HX3 := hid (HX.out.below hb3)
  clear hb3 HX c2 cz hx
  have HB : Hid (Blk (w3.alloc (.cells #[.int .u8 0, .int .u64 0, .int .u64 0, .string { data := #[] }, .int .i64 0, .int .i64 0, .int .i64 0, .int .i64 0, .int .i64 0, .int .i64 0, .int .i64 0, .int .i64 0, .int .i64 0, .int .i64 0, .int .i64 0, .int .i64 0, .int .i64 0, .int .i64 0, .int .i64 0, .int .i64 0, .int .u8 0, .int .i64 0, .int .i64 0, .int .i64 0, .int .i64 0, .int .i64 0, .int .i64 0, .int .i64 0, .int .i64 0, .int .i64 0, .int .i64 0, .int .i64 0, .int .i64 0, .int .i64 0, .int .i64 0] 46)) w3.heap.size 46 (rsC 0 0 0)) := hid (Blk.new w3 (rsC 0 0 0) 46)
  go_upto_region 6 with (refine wpList_store_blk rfl 46 _ _ rfl w3.heap.size rfl (rsC 0 ((bitN x : Nat) : Int) 0) rfl HB.out rfl I0.out (rsC_one _ _ _) ?_; intro w4 HB4 HU4)
  have HQ := hid (MQ.mk' HX3.out rfl HU4.out HB4.out)
  clear HB HB4 HU4 HX3 o0 o1 o2 o3
  generalize w3.heap.size = r at *
  obtain ⟨o0, o1, o2, o3⟩ := HQ.out.mp.cells
  obtain ⟨_, _, _, _, _, c5⟩ := HQ.out.mp.mx.md.mm.cells
  have f5 := HQ.out.mp.mx.md.mm.m.frozen 5
  have HX2 := hid HQ.out.ver
  have vw := ver_wrap E.v
  generalize ((E.v + 1) % 18446744073709551616 : Nat) = v1 at vw HX2
  clear HQ
  go_upto_region 13 with fail
  clear c5 f5 o0 o1 o2 o3
  generalize hw3 : World.setCell _ _ _ = w5 at HX2 ⊢
  clear hw3 vw
  have c2 := HX2.out.mp.mx.md.mm.cells.2.2.1
  obtain ⟨cv, cz⟩ : ∃ cv, w5.cell? ⟨l.k, g, none⟩ = some cv := ⟨_, HX2.out.mp.mx.md.mm.mark g2⟩
  have fz := HX2.out.mp.mx.md.mm.k.frozen g
  have HF := hid (HX2.out.step ((MD.start HX2.out.mp.mx.md.mm).putK (i := g) (x := true) g2))
  clear HX2
  go_upto_region 14 with fail
  clear cz fz c2
  generalize hw5 : w5.setCell _ _ = w6 at HF ⊢
  clear hw5
  go_wp2_with (first | (refine wpList_load_blk rfl 46 _ rfl r rfl (rsC 0 ((bitN x : Nat) : Int) 0) HF.out.wb _ Tryz.underlying46 rfl I0.out ?_) | (refine wpList_store_blk rfl 46 _ _ rfl p rfl (rsC 0 ((bitN x : Nat) : Int) 0) rfl HF.out.mp.mx.b rfl I0.out (rsC_one _ _ _) ?_; intro w9 HB9 HU9))
  refine bodyPost_ret (results_blk (cs := rsC 0 ((bitN x : Nat) : Int) 0) Tryz.results109 rfl agg_rs HB9.out) rfl ?_
  exact ⟨rfl, hid (HF.out.mp.done HU9.out)⟩
end
end Go.Proofs.Qxb6500887aGreat
