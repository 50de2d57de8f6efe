/- The model's steps that take an operation: count, log, mark. -/
import Derived.Test.Qxb6500887aGreatAyH
import Derived.Deep.DeepCutAuto
namespace Go.Proofs.Qxb6500887aGreat
open Go.RowKit
set_option linter.unusedSimpArgs false
set_option linter.unusedVariables false
/-- Inside a function of the model that takes an operation and answers a Result. -/
structure MP (w0 : World) (l : ML) (E : ES) (o p : Nat) (oc : List Value) (w : World) : Prop where
  mx : MX w0 l E p w
  op : Blk w o 31 oc
  lp : w0.heap.size ≤ o
  ne : o ≠ p
section
variable {l : ML} {E E' : ES} {w w' w0 : World} {o p : Nat} {oc : List Value}
theorem MP.start (h : MM l E w) (ho : w.heap.size = o) (hp : o + 1 = p) : MP w l E o p oc ((w.alloc (.cells oc.toArray 31)).alloc (.cells (rsC 0 0 0).toArray 46)) := by
  have k1 := Blk.new w oc 31
  rw [ho] at k1
  have k2 := Blk.new (w.alloc (.cells oc.toArray 31)) (rsC 0 0 0) 46
  rw [World.size_alloc, ho, hp] at k2
  exact ⟨⟨((MD.start h).below (nbel w _)).below (nbel _ _), k2, by omega, h.lts⟩, k1.below (nbel _ _), by omega, by omega⟩
theorem MP.below (h : MP w0 l E o p oc w) (hb : Below w.heap.size w w') : MP w0 l E o p oc w' := ⟨h.mx.below hb, h.op.below hb, h.lp, h.ne⟩
theorem MP.step (h : MP w0 l E o p oc w) (hd : MD w l E' w') : MP w0 l E' o p oc w' := ⟨h.mx.step hd, hd.u.blk h.op (fun hm => by have := h.mx.al _ hm; have := h.lp; omega), h.lp, h.ne⟩
theorem MP.ver (h : MP w0 l E o p oc w) : MP w0 l E.tch o p oc (w.setCell ⟨l.m, 5, none⟩ (.int .u64 (((E.v + 1) % 18446744073709551616 : Nat) : Int))) := h.step ((MD.start h.mx.md.mm).ver (Nat.mod_lt _ (by decide)))
theorem MP.done (h : MP w0 l E o p oc w) (hu : Upd p w w') : MD w0 l E w' := h.mx.done hu
theorem MP.cells {k a b c : Int} (h : MP w0 l E o p [.int .u8 k, .int .u64 a, .int .u64 b, .int .u64 c] w) : w.cell? ⟨o, 0, none⟩ = some (.int .u8 k) ∧ w.cell? ⟨o, 1, none⟩ = some (.int .u64 a) ∧ w.cell? ⟨o, 2, none⟩ = some (.int .u64 b) ∧ w.cell? ⟨o, 3, none⟩ = some (.int .u64 c) := ⟨h.op.cell 0, h.op.cell 1, h.op.cell 2, h.op.cell 3⟩
def setCountE (E : ES) (a b : Int) : Int × ES := if wantO a = 0 then (if 3 < b then (3, E) else (0, { E.tch with C := fup E.C (gIx a) b.toNat })) else (wantO a, E)
set_option maxRecDepth 100000 in
set_option maxHeartbeats 1000000 in
theorem count16 (h : MM l E w) (a b c : Int) (ha : U64 a) (hb : U64 b) (hc : U64 c) : Calls Tryz.prog 108 #[.pointer (some ⟨l.m, 0, none⟩), .agg #[.int .u8 16, .int .u64 a, .int .u64 b, .int .u64 c]] w fun e w' => e = .returned (.agg (rsG (wantO a) ((E.C (gIx a) : Nat) : Int) 0).toArray) ∧ Hid (MD w l E w') := by
  have I0 := hid info_rs
  have HR := hid (fun (cd : Int) (wz : World) => refM cd wz)
  have HA := hid (fun wz => ansM 0 0 wz)
  obtain ⟨o, ho⟩ : ∃ o, w.heap.size = o := ⟨_, rfl⟩
  obtain ⟨p, hp⟩ : ∃ p, o + 1 = p := ⟨_, rfl⟩
  have HX : Hid (MP w l E o p [.int .u8 16, .int .u64 a, .int .u64 b, .int .u64 c] ((w.alloc (.cells #[.int .u8 16, .int .u64 a, .int .u64 b, .int .u64 c] 31)).alloc (.cells #[.int .u8 0, .int .u64 0, .int .u64 0, .string { data := #[] }, .int .i64 0, .int .i64 0, .int .i64 0, .int .i64 0, .int .i64 0, .int .i64 0, .int .i64 0, .int .i64 0, .int .i64 0, .int .i64 0, .int .i64 0, .int .i64 0, .int .i64 0, .int .i64 0, .int .i64 0, .int .i64 0, .int .u8 0, .int .i64 0, .int .i64 0, .int .i64 0, .int .i64 0, .int .i64 0, .int .i64 0, .int .i64 0, .int .i64 0, .int .i64 0, .int .i64 0, .int .i64 0, .int .i64 0, .int .i64 0, .int .i64 0] 46))) := hid (MP.start h ho hp)
  clear h
  have HW := hid (fun wz => ckoM a wz)
  by_cases hz : wantO a = 0
  rotate_left
  · as_aux_lemma =>
    rw [rsG_bad hz]
    generalize wantO a = cd at *
    have dc : (cd != 0) = true := by simpa using hz
    have dc' : (cd == 0) = false := by simpa using hz
    go_enter Tryz.func108, Tryz.ntmps108
    go_upto_region 1 with fail
    (try simp only [World.size_alloc, ho, hp])
    generalize hw2 : World.alloc (w.alloc _) _ = w2 at HX ⊢
    clear hw2 ho hp
    obtain ⟨o0, o1, o2, o3⟩ := HX.out.cells
    (go_wp2_with fail; refine (HW.out _).mono ?_; rintro e_ w_ ⟨he_, hw_⟩; subst he_; have hs_ := hw_.symm; clear hw_; subst hs_)
    go_wp2_with fail
    refine (HR.out cd _).mono ?_
    rintro e w3 ⟨rfl, hb3⟩
    have HX3 := hid (HX.out.below hb3)
    clear hb3 HX o0 o1 o2 o3
    go_wp2_with (refine wpList_store_blk rfl 46 _ _ rfl p rfl (rsC cd 0 0) rfl HX3.out.mx.b rfl I0.out (rsC_one _ _ _) ?_; intro w9 HB9 HU9)
    refine bodyPost_ret (results_blk (cs := (rsC cd 0 0)) Tryz.results108 rfl agg_rs HB9.out) rfl ?_
    exact ⟨rfl, hid (HX3.out.done HU9.out)⟩
  as_aux_lemma =>
  rw [hz]
  rw [hz] at HW
  obtain ⟨q1, q2⟩ := wantO_ok hz
  obtain ⟨g1, g2, g3⟩ := gIx_of hz
  have HO := hid (fun wz => wofM' a q1.1 (by have := q1.2; omega) wz)
  rw [show a - 65536 = ((2 * gIx a : Nat) : Int) by omega] at HO
  generalize gIx a = g at *
  clear g1 g3 q1 q2 hz
  obtain ⟨k, hk⟩ : ∃ k, 2 * g = k := ⟨_, rfl⟩
  rw [hk] at HO
  have eg : (k : Int).tdiv 2 = (g : Int) := by rw [Int.tdiv_eq_ediv_of_nonneg (by omega)]; omega
  have eg' : (k : Int) / 2 = (g : Int) := by omega
  clear hk
  have eR : rsG 0 ((E.C g : Nat) : Int) 0 = rsC 0 ((E.C g : Nat) : Int) 0 := rfl
  rw [eR]
  clear eR
  obtain ⟨x, hx⟩ : ∃ x, E.C g = x := ⟨_, rfl⟩
  rw [hx]
  go_enter Tryz.func108, Tryz.ntmps108
  go_upto_region 1 with fail
  (try simp only [World.size_alloc, ho, hp])
  generalize hw2 : World.alloc (w.alloc _) _ = w2 at HX ⊢
  clear hw2 ho hp
  obtain ⟨o0, o1, o2, o3⟩ := HX.out.cells
  (go_wp2_with fail; refine (HW.out _).mono ?_; rintro e_ w_ ⟨he_, hw_⟩; subst he_; have hs_ := hw_.symm; clear hw_; subst hs_)
  (go_wp2_with fail; refine (HO.out _).mono ?_; rintro e_ w_ ⟨he_, hw_⟩; subst he_; have hs_ := hw_.symm; clear hw_; subst hs_)
  obtain ⟨_, c1, _⟩ := HX.out.mx.md.mm.cells
  have cz := HX.out.mx.md.mm.count g2
  rw [hx] at cz
  clear hx
  go_wp2_with fail
  refine (ansM (x : Int) 0 _).mono ?_
  rintro e w3 ⟨rfl, hb3⟩
  have HX3 := hid (HX.out.below hb3)
  clear hb3 HX o0 o1 o2 o3
  go_wp2_with (refine wpList_store_blk rfl 46 _ _ rfl p rfl (rsC 0 (x : Int) 0) rfl HX3.out.mx.b rfl I0.out (rsC_one _ _ _) ?_; intro w9 HB9 HU9)
  refine bodyPost_ret (results_blk (cs := (rsC 0 (x : Int) 0)) Tryz.results108 rfl agg_rs HB9.out) rfl ?_
  exact ⟨rfl, hid (HX3.out.done HU9.out)⟩
set_option maxRecDepth 100000 in
set_option maxHeartbeats 1000000 in
theorem count17 (h : MM l E w) (a b c : Int) (ha : U64 a) (hb : U64 b) (hc : U64 c) : Calls Tryz.prog 108 #[.pointer (some ⟨l.m, 0, none⟩), .agg #[.int .u8 17, .int .u64 a, .int .u64 b, .int .u64 c]] w fun e w' => e = .returned (.agg (rsC (setCountE E a b).1 0 0).toArray) ∧ Hid (MD w l (setCountE E a b).2 w') := by
  have I0 := hid info_rs
  have HR := hid (fun (cd : Int) (wz : World) => refM cd wz)
  have HA := hid (fun wz => ansM 0 0 wz)
  obtain ⟨o, ho⟩ : ∃ o, w.heap.size = o := ⟨_, rfl⟩
  obtain ⟨p, hp⟩ : ∃ p, o + 1 = p := ⟨_, rfl⟩
  have HX : Hid (MP w l E o p [.int .u8 17, .int .u64 a, .int .u64 b, .int .u64 c] ((w.alloc (.cells #[.int .u8 17, .int .u64 a, .int .u64 b, .int .u64 c] 31)).alloc (.cells #[.int .u8 0, .int .u64 0, .int .u64 0, .string { data := #[] }, .int .i64 0, .int .i64 0, .int .i64 0, .int .i64 0, .int .i64 0, .int .i64 0, .int .i64 0, .int .i64 0, .int .i64 0, .int .i64 0, .int .i64 0, .int .i64 0, .int .i64 0, .int .i64 0, .int .i64 0, .int .i64 0, .int .u8 0, .int .i64 0, .int .i64 0, .int .i64 0, .int .i64 0, .int .i64 0, .int .i64 0, .int .i64 0, .int .i64 0, .int .i64 0, .int .i64 0, .int .i64 0, .int .i64 0, .int .i64 0, .int .i64 0] 46))) := hid (MP.start h ho hp)
  clear h
  unfold setCountE
  have HW := hid (fun wz => ckoM a wz)
  by_cases hz : wantO a = 0
  rotate_left
  · as_aux_lemma =>
    rw [if_neg hz]
    generalize wantO a = cd at *
    have dc : (cd != 0) = true := by simpa using hz
    have dc' : (cd == 0) = false := by simpa using hz
    go_enter Tryz.func108, Tryz.ntmps108
    go_upto_region 1 with fail
    (try simp only [World.size_alloc, ho, hp])
    generalize hw2 : World.alloc (w.alloc _) _ = w2 at HX ⊢
    clear hw2 ho hp
    obtain ⟨o0, o1, o2, o3⟩ := HX.out.cells
    (go_wp2_with fail; refine (HW.out _).mono ?_; rintro e_ w_ ⟨he_, hw_⟩; subst he_; have hs_ := hw_.symm; clear hw_; subst hs_)
    go_wp2_with fail
    refine (HR.out cd _).mono ?_
    rintro e w3 ⟨rfl, hb3⟩
    have HX3 := hid (HX.out.below hb3)
    clear hb3 HX o0 o1 o2 o3
    go_wp2_with (refine wpList_store_blk rfl 46 _ _ rfl p rfl (rsC cd 0 0) rfl HX3.out.mx.b rfl I0.out (rsC_one _ _ _) ?_; intro w9 HB9 HU9)
    refine bodyPost_ret (results_blk (cs := (rsC cd 0 0)) Tryz.results108 rfl agg_rs HB9.out) rfl ?_
    exact ⟨rfl, hid (HX3.out.done HU9.out)⟩
  as_aux_lemma =>
  rw [if_pos hz]
  rw [hz] at HW
  obtain ⟨q1, q2⟩ := wantO_ok hz
  obtain ⟨g1, g2, g3⟩ := gIx_of hz
  have HO := hid (fun wz => wofM' a q1.1 (by have := q1.2; omega) wz)
  rw [show a - 65536 = ((2 * gIx a : Nat) : Int) by omega] at HO
  generalize gIx a = g at *
  clear g1 g3 q1 q2 hz
  obtain ⟨k, hk⟩ : ∃ k, 2 * g = k := ⟨_, rfl⟩
  rw [hk] at HO
  have eg : (k : Int).tdiv 2 = (g : Int) := by rw [Int.tdiv_eq_ediv_of_nonneg (by omega)]; omega
  have eg' : (k : Int) / 2 = (g : Int) := by omega
  clear hk
  by_cases h3 : 3 < b
  · as_aux_lemma =>
    have d3 : decide (b > 3) = true := decide_eq_true h3
    have d3' : decide (3 < b) = true := decide_eq_true h3
    rw [if_pos h3]
    go_enter Tryz.func108, Tryz.ntmps108
    go_upto_region 1 with fail
    (try simp only [World.size_alloc, ho, hp])
    generalize hw2 : World.alloc (w.alloc _) _ = w2 at HX ⊢
    clear hw2 ho hp
    obtain ⟨o0, o1, o2, o3⟩ := HX.out.cells
    (go_wp2_with fail; refine (HW.out _).mono ?_; rintro e_ w_ ⟨he_, hw_⟩; subst he_; have hs_ := hw_.symm; clear hw_; subst hs_)
    (go_wp2_with fail; refine (HO.out _).mono ?_; rintro e_ w_ ⟨he_, hw_⟩; subst he_; have hs_ := hw_.symm; clear hw_; subst hs_)
    go_wp2_with fail
    refine (HR.out 3 _).mono ?_
    rintro e w3 ⟨rfl, hb3⟩
    have HX3 := hid (HX.out.below hb3)
    clear hb3 HX o0 o1 o2 o3
    go_wp2_with (refine wpList_store_blk rfl 46 _ _ rfl p rfl (rsC 3 0 0) rfl HX3.out.mx.b rfl I0.out (rsC_one _ _ _) ?_; intro w9 HB9 HU9)
    refine bodyPost_ret (results_blk (cs := (rsC 3 0 0)) Tryz.results108 rfl agg_rs HB9.out) rfl ?_
    exact ⟨rfl, hid (HX3.out.done HU9.out)⟩
  as_aux_lemma =>
  have d3 : decide (b > 3) = false := decide_eq_false h3
  have d3' : decide (3 < b) = false := decide_eq_false h3
  rw [if_neg h3]
  obtain ⟨b, rfl⟩ : ∃ x : Nat, b = (x : Int) := ⟨b.toNat, by have := hb.1; omega⟩
  rw [show ((b : Int)).toNat = b by omega]
  have hb3 : b ≤ 3 := by omega
  go_enter Tryz.func108, Tryz.ntmps108
  go_upto_region 1 with fail
  (try simp only [World.size_alloc, ho, hp])
  generalize hw2 : World.alloc (w.alloc _) _ = w2 at HX ⊢
  clear hw2 ho hp
  obtain ⟨o0, o1, o2, o3⟩ := HX.out.cells
  (go_wp2_with fail; refine (HW.out _).mono ?_; rintro e_ w_ ⟨he_, hw_⟩; subst he_; have hs_ := hw_.symm; clear hw_; subst hs_)
  (go_wp2_with fail; refine (HO.out _).mono ?_; rintro e_ w_ ⟨he_, hw_⟩; subst he_; have hs_ := hw_.symm; clear hw_; subst hs_)
  obtain ⟨_, _, _, _, _, c5⟩ := HX.out.mx.md.mm.cells
  have f5 := HX.out.mx.md.mm.m.frozen 5
  have HX2 := hid HX.out.ver
  have vw := ver_wrap E.v
  generalize ((E.v + 1) % 18446744073709551616 : Nat) = v1 at vw HX2
  clear HX
  go_upto_region 10 with fail
  clear c5 f5 o0 o1 o2 o3
  generalize hw3 : World.setCell _ _ _ = w3 at HX2 ⊢
  clear hw3 vw
  obtain ⟨o0, o1, o2, o3⟩ := HX2.out.cells
  obtain ⟨X', W, HTT, H0, hne, HCl⟩ := class_below w3
  have y1 : ∀ z, (W z).cell? ⟨l.m, 1, none⟩ = some (.slice (some ⟨l.c, 0, none⟩) 16384 16384) := fun z => (HX2.out.below (HTT.out z)).mx.md.mm.cells.2.1
  have y2 : ∀ z, (W z).cell? ⟨o, 2, none⟩ = some (.int .u64 (b : Int)) := fun z => (HX2.out.below (HTT.out z)).cells.2.2.1
  refine wp_region_class_last W rfl (by kernel_rfl) (by kernel_rfl) (by kernel_rfl) H0.out ?_
  dsimp only [List.dropLast, List.getLast]
  repeat (go_big_quiet_step (fail))
  refine wpQuiet_nil ?_
  intro z
  have HZ := hid (HX2.out.below (HTT.out z))
  generalize W z = wz at HZ ⊢
  clear y1 y2 H0 HTT HCl hne HX2 o0 o1 o2 o3
  obtain ⟨cv, cz⟩ : ∃ cv, wz.cell? ⟨l.c, g, none⟩ = some cv := ⟨_, HZ.out.mx.md.mm.count g2⟩
  have fz := HZ.out.mx.md.mm.c.frozen g
  have HF := hid (HZ.out.step ((MD.start HZ.out.mx.md.mm).putC (i := g) (x := b) g2 hb3))
  clear HZ
  go_upto_region 11 with fail
  clear cz fz
  generalize hw5 : wz.setCell _ _ = w5 at HF ⊢
  clear hw5
  obtain ⟨o0, o1, o2, o3⟩ := HF.out.cells
  go_wp2_with fail
  refine (HA.out _).mono ?_
  rintro e w3 ⟨rfl, hb3⟩
  have HX3 := hid (HF.out.below hb3)
  clear hb3 HF o0 o1 o2 o3
  go_wp2_with (refine wpList_store_blk rfl 46 _ _ rfl p rfl (rsC 0 0 0) rfl HX3.out.mx.b rfl I0.out (rsC_one _ _ _) ?_; intro w9 HB9 HU9)
  refine bodyPost_ret (results_blk (cs := (rsC 0 0 0)) Tryz.results108 rfl agg_rs HB9.out) rfl ?_
  exact ⟨rfl, hid (HX3.out.done HU9.out)⟩
end
end Go.Proofs.Qxb6500887aGreat
