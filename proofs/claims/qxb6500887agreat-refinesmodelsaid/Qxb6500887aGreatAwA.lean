/- The model's survey (written by tools/mk_awa.py). -/
import Derived.Test.Qxb6500887aGreatAw9
import Derived.Test.Qxb6500887aGreatAzZl
import Derived.Deep.DeepCutAuto
namespace Go.Proofs.Qxb6500887aGreat
open Go.RowKit
set_option linter.unusedSimpArgs false
set_option linter.unusedVariables false
def nI (xs : List Nat) : List Int := xs.map (fun n : Nat => (n : Int))
theorem nI_inV (xs : List Nat) : (nI xs).map inV = xs.map natV := by unfold nI; rw [List.map_map]; rfl
/-- Answers with a record, a text. -/
def usA (E : ES) : List Value := rsOf { data := #[] } 0 (nI (usL E)) [0, 0, 0, 0, 0] [0, 0, 0] 0 [0, 0, 0, 0, 0, 0] [0, 0, 0, 0, 0, 0, 0, 0]
noncomputable def auA (E : ES) : List Value := rsOf { data := #[] } 0 [0, 0, 0, 0, 0, 0, 0, 0] (nI (auL E)) [0, 0, 0] 0 [0, 0, 0, 0, 0, 0] [0, 0, 0, 0, 0, 0, 0, 0]
def liA (E : ES) : List Value := rsOf { data := #[] } 0 [0, 0, 0, 0, 0, 0, 0, 0] [0, 0, 0, 0, 0] (nI (liL E)) 0 [0, 0, 0, 0, 0, 0] [0, 0, 0, 0, 0, 0, 0, 0]
noncomputable def ceA (E : ES) : List Value := rsOf { data := #[] } 0 [0, 0, 0, 0, 0, 0, 0, 0] [0, 0, 0, 0, 0] [0, 0, 0] 0 [0, 0, 0, 0, 0, 0] (nI (ceL E))
noncomputable def biA (E : ES) (n : Int) : List Value := if n < 0 ∨ 64 ≤ n then rsC 1 0 0 else rsOf { data := #[] } 0 [0, 0, 0, 0, 0, 0, 0, 0] [0, 0, 0, 0, 0] [0, 0, 0] (clM (flE E.T n.toNat 32)) (nI (bkL E n.toNat)) [0, 0, 0, 0, 0, 0, 0, 0]
def txA (s : List UInt8) : List Value := rsOf (bsA s) 0 [0, 0, 0, 0, 0, 0, 0, 0] [0, 0, 0, 0, 0] [0, 0, 0] 0 [0, 0, 0, 0, 0, 0] [0, 0, 0, 0, 0, 0, 0, 0]
def bmA (E : ES) (n : Int) : List Value := if n < 0 ∨ 64 ≤ n then rsC 1 0 0 else txA (bmL E n.toNat)
section
variable {l : ML} {E E' : ES} {w w' w0 w3 w4 : World} {o p r : Nat} {oc rs : List Value}
set_option maxRecDepth 100000 in
set_option maxHeartbeats 1000000 in
theorem sv40 (h : MM l E w) (a b c : Int) (ha : U64 a) (hb : U64 b) (hc : U64 c) : Calls Tryz.prog 129 #[.pointer (some ⟨l.m, 0, none⟩), .agg #[.int .u8 40, .int .u64 a, .int .u64 b, .int .u64 c]] w fun e w' => e = .returned (.agg (usA E).toArray) ∧ Hid (MD w l E w') := by
  have I0 := hid info_rs
  have HR := hid (fun (cd : Int) (wz : World) => refM cd wz)
  have HA := hid (fun wz => ansM 0 0 wz)
  obtain ⟨o, ho⟩ : ∃ o, w.heap.size = o := ⟨_, rfl⟩
  obtain ⟨p, hp⟩ : ∃ p, o + 1 = p := ⟨_, rfl⟩
  have HX : Hid (MP w l E o p [.int .u8 40, .int .u64 a, .int .u64 b, .int .u64 c] ((w.alloc (.cells #[.int .u8 40, .int .u64 a, .int .u64 b, .int .u64 c] 31)).alloc (.cells #[.int .u8 0, .int .u64 0, .int .u64 0, .string { data := #[] }, .int .i64 0, .int .i64 0, .int .i64 0, .int .i64 0, .int .i64 0, .int .i64 0, .int .i64 0, .int .i64 0, .int .i64 0, .int .i64 0, .int .i64 0, .int .i64 0, .int .i64 0, .int .i64 0, .int .i64 0, .int .i64 0, .int .u8 0, .int .i64 0, .int .i64 0, .int .i64 0, .int .i64 0, .int .i64 0, .int .i64 0, .int .i64 0, .int .i64 0, .int .i64 0, .int .i64 0, .int .i64 0, .int .i64 0, .int .i64 0, .int .i64 0] 46))) := hid (MP.start h ho hp)
  clear h
  have HK := hid (fun wz (hz : MM l E wz) => usageM hz)
  have HE : Hid (usA E = usA E) := hid rfl
  unfold usA at HE ⊢
  obtain ⟨x0, x1, x2, x3, x4, x5, x6, x7, hxs⟩ : ∃ x0 x1 x2 x3 x4 x5 x6 x7 : Nat, usL E = [x0, x1, x2, x3, x4, x5, x6, x7] := ⟨_, _, _, _, _, _, _, _, rfl⟩
  rw [hxs] at HK ⊢
  simp only [nI, List.map_cons, List.map_nil, natV] at HK ⊢
  clear hxs HE
  go_enter Tryz.func129, Tryz.ntmps129
  go_upto_region 1 with fail
  (try simp only [World.size_alloc, ho, hp])
  generalize hw2 : World.alloc (w.alloc _) _ = w2 at HX ⊢
  clear hw2 ho hp
  obtain ⟨o0, o1, o2, o3⟩ := HX.out.cells
  go_wp2_with fail
  refine (HK.out _ HX.out.mx.md.mm).mono ?_
  rintro e w3 ⟨rfl, hb3⟩
  have HX3 := hid (HX.out.below hb3.out)
  clear hb3 HX o0 o1 o2 o3 HK
  go_wp2_with (refine wpList_store_blk rfl 46 _ _ rfl p rfl (rsOf { data := #[] } 0 [(x0 : Int), (x1 : Int), (x2 : Int), (x3 : Int), (x4 : Int), (x5 : Int), (x6 : Int), (x7 : Int)] [0, 0, 0, 0, 0] [0, 0, 0] 0 [0, 0, 0, 0, 0, 0] [0, 0, 0, 0, 0, 0, 0, 0]) rfl HX3.out.mx.b rfl I0.out (rsOf_one _ _ _ _ _ _ _ _) ?_; intro w9 HB9 HU9)
  refine bodyPost_ret (results_blk (cs := rsOf { data := #[] } 0 [(x0 : Int), (x1 : Int), (x2 : Int), (x3 : Int), (x4 : Int), (x5 : Int), (x6 : Int), (x7 : Int)] [0, 0, 0, 0, 0] [0, 0, 0] 0 [0, 0, 0, 0, 0, 0] [0, 0, 0, 0, 0, 0, 0, 0]) Tryz.results129 rfl agg_rs HB9.out) rfl ?_
  exact ⟨rfl, hid (HX3.out.done HU9.out)⟩
set_option maxRecDepth 100000 in
set_option maxHeartbeats 1000000 in
theorem sv41 (h : MM l E w) (a b c : Int) (ha : U64 a) (hb : U64 b) (hc : U64 c) : Calls Tryz.prog 129 #[.pointer (some ⟨l.m, 0, none⟩), .agg #[.int .u8 41, .int .u64 a, .int .u64 b, .int .u64 c]] w fun e w' => e = .returned (.agg (auA E).toArray) ∧ Hid (MD w l E w') := by
  have I0 := hid info_rs
  have HR := hid (fun (cd : Int) (wz : World) => refM cd wz)
  have HA := hid (fun wz => ansM 0 0 wz)
  obtain ⟨o, ho⟩ : ∃ o, w.heap.size = o := ⟨_, rfl⟩
  obtain ⟨p, hp⟩ : ∃ p, o + 1 = p := ⟨_, rfl⟩
  have HX : Hid (MP w l E o p [.int .u8 41, .int .u64 a, .int .u64 b, .int .u64 c] ((w.alloc (.cells #[.int .u8 41, .int .u64 a, .int .u64 b, .int .u64 c] 31)).alloc (.cells #[.int .u8 0, .int .u64 0, .int .u64 0, .string { data := #[] }, .int .i64 0, .int .i64 0, .int .i64 0, .int .i64 0, .int .i64 0, .int .i64 0, .int .i64 0, .int .i64 0, .int .i64 0, .int .i64 0, .int .i64 0, .int .i64 0, .int .i64 0, .int .i64 0, .int .i64 0, .int .i64 0, .int .u8 0, .int .i64 0, .int .i64 0, .int .i64 0, .int .i64 0, .int .i64 0, .int .i64 0, .int .i64 0, .int .i64 0, .int .i64 0, .int .i64 0, .int .i64 0, .int .i64 0, .int .i64 0, .int .i64 0] 46))) := hid (MP.start h ho hp)
  clear h
  have HK := hid (fun wz (hz : MM l E wz) => auditM hz)
  have HE : Hid (auA E = auA E) := hid rfl
  unfold auA at HE ⊢
  obtain ⟨x0, x1, x2, x3, x4, hxs⟩ : ∃ x0 x1 x2 x3 x4 : Nat, auL E = [x0, x1, x2, x3, x4] := ⟨_, _, _, _, _, rfl⟩
  rw [hxs] at HK ⊢
  simp only [nI, List.map_cons, List.map_nil, natV] at HK ⊢
  clear hxs HE
  go_enter Tryz.func129, Tryz.ntmps129
  go_upto_region 1 with fail
  (try simp only [World.size_alloc, ho, hp])
  generalize hw2 : World.alloc (w.alloc _) _ = w2 at HX ⊢
  clear hw2 ho hp
  obtain ⟨o0, o1, o2, o3⟩ := HX.out.cells
  go_wp2_with fail
  refine (HK.out _ HX.out.mx.md.mm).mono ?_
  rintro e w3 ⟨rfl, hb3⟩
  have HX3 := hid (HX.out.below hb3.out)
  clear hb3 HX o0 o1 o2 o3 HK
  go_wp2_with (refine wpList_store_blk rfl 46 _ _ rfl p rfl (rsOf { data := #[] } 0 [0, 0, 0, 0, 0, 0, 0, 0] [(x0 : Int), (x1 : Int), (x2 : Int), (x3 : Int), (x4 : Int)] [0, 0, 0] 0 [0, 0, 0, 0, 0, 0] [0, 0, 0, 0, 0, 0, 0, 0]) rfl HX3.out.mx.b rfl I0.out (rsOf_one _ _ _ _ _ _ _ _) ?_; intro w9 HB9 HU9)
  refine bodyPost_ret (results_blk (cs := rsOf { data := #[] } 0 [0, 0, 0, 0, 0, 0, 0, 0] [(x0 : Int), (x1 : Int), (x2 : Int), (x3 : Int), (x4 : Int)] [0, 0, 0] 0 [0, 0, 0, 0, 0, 0] [0, 0, 0, 0, 0, 0, 0, 0]) Tryz.results129 rfl agg_rs HB9.out) rfl ?_
  exact ⟨rfl, hid (HX3.out.done HU9.out)⟩
set_option maxRecDepth 100000 in
set_option maxHeartbeats 1000000 in
theorem sv59 (h : MM l E w) (a b c : Int) (ha : U64 a) (hb : U64 b) (hc : U64 c) : Calls Tryz.prog 129 #[.pointer (some ⟨l.m, 0, none⟩), .agg #[.int .u8 59, .int .u64 a, .int .u64 b, .int .u64 c]] w fun e w' => e = .returned (.agg (liA E).toArray) ∧ Hid (MD w l E w') := by
  have I0 := hid info_rs
  have HR := hid (fun (cd : Int) (wz : World) => refM cd wz)
  have HA := hid (fun wz => ansM 0 0 wz)
  obtain ⟨o, ho⟩ : ∃ o, w.heap.size = o := ⟨_, rfl⟩
  obtain ⟨p, hp⟩ : ∃ p, o + 1 = p := ⟨_, rfl⟩
  have HX : Hid (MP w l E o p [.int .u8 59, .int .u64 a, .int .u64 b, .int .u64 c] ((w.alloc (.cells #[.int .u8 59, .int .u64 a, .int .u64 b, .int .u64 c] 31)).alloc (.cells #[.int .u8 0, .int .u64 0, .int .u64 0, .string { data := #[] }, .int .i64 0, .int .i64 0, .int .i64 0, .int .i64 0, .int .i64 0, .int .i64 0, .int .i64 0, .int .i64 0, .int .i64 0, .int .i64 0, .int .i64 0, .int .i64 0, .int .i64 0, .int .i64 0, .int .i64 0, .int .i64 0, .int .u8 0, .int .i64 0, .int .i64 0, .int .i64 0, .int .i64 0, .int .i64 0, .int .i64 0, .int .i64 0, .int .i64 0, .int .i64 0, .int .i64 0, .int .i64 0, .int .i64 0, .int .i64 0, .int .i64 0] 46))) := hid (MP.start h ho hp)
  clear h
  have HK := hid (fun wz (hz : MM l E wz) => auditLinesM hz)
  have HE : Hid (liA E = liA E) := hid rfl
  unfold liA at HE ⊢
  obtain ⟨x0, x1, x2, hxs⟩ : ∃ x0 x1 x2 : Nat, liL E = [x0, x1, x2] := ⟨_, _, _, rfl⟩
  rw [hxs] at HK ⊢
  simp only [nI, List.map_cons, List.map_nil, natV] at HK ⊢
  clear hxs HE
  go_enter Tryz.func129, Tryz.ntmps129
  go_upto_region 1 with fail
  (try simp only [World.size_alloc, ho, hp])
  generalize hw2 : World.alloc (w.alloc _) _ = w2 at HX ⊢
  clear hw2 ho hp
  obtain ⟨o0, o1, o2, o3⟩ := HX.out.cells
  go_wp2_with fail
  refine (HK.out _ HX.out.mx.md.mm).mono ?_
  rintro e w3 ⟨rfl, hb3⟩
  have HX3 := hid (HX.out.below hb3.out)
  clear hb3 HX o0 o1 o2 o3 HK
  go_wp2_with (refine wpList_store_blk rfl 46 _ _ rfl p rfl (rsOf { data := #[] } 0 [0, 0, 0, 0, 0, 0, 0, 0] [0, 0, 0, 0, 0] [(x0 : Int), (x1 : Int), (x2 : Int)] 0 [0, 0, 0, 0, 0, 0] [0, 0, 0, 0, 0, 0, 0, 0]) rfl HX3.out.mx.b rfl I0.out (rsOf_one _ _ _ _ _ _ _ _) ?_; intro w9 HB9 HU9)
  refine bodyPost_ret (results_blk (cs := rsOf { data := #[] } 0 [0, 0, 0, 0, 0, 0, 0, 0] [0, 0, 0, 0, 0] [(x0 : Int), (x1 : Int), (x2 : Int)] 0 [0, 0, 0, 0, 0, 0] [0, 0, 0, 0, 0, 0, 0, 0]) Tryz.results129 rfl agg_rs HB9.out) rfl ?_
  exact ⟨rfl, hid (HX3.out.done HU9.out)⟩
set_option maxRecDepth 100000 in
set_option maxHeartbeats 1000000 in
theorem sv61 (h : MM l E w) (a b c : Int) (ha : U64 a) (hb : U64 b) (hc : U64 c) : Calls Tryz.prog 129 #[.pointer (some ⟨l.m, 0, none⟩), .agg #[.int .u8 61, .int .u64 a, .int .u64 b, .int .u64 c]] w fun e w' => e = .returned (.agg (ceA E).toArray) ∧ Hid (MD w l E w') := by
  have I0 := hid info_rs
  have HR := hid (fun (cd : Int) (wz : World) => refM cd wz)
  have HA := hid (fun wz => ansM 0 0 wz)
  obtain ⟨o, ho⟩ : ∃ o, w.heap.size = o := ⟨_, rfl⟩
  obtain ⟨p, hp⟩ : ∃ p, o + 1 = p := ⟨_, rfl⟩
  have HX : Hid (MP w l E o p [.int .u8 61, .int .u64 a, .int .u64 b, .int .u64 c] ((w.alloc (.cells #[.int .u8 61, .int .u64 a, .int .u64 b, .int .u64 c] 31)).alloc (.cells #[.int .u8 0, .int .u64 0, .int .u64 0, .string { data := #[] }, .int .i64 0, .int .i64 0, .int .i64 0, .int .i64 0, .int .i64 0, .int .i64 0, .int .i64 0, .int .i64 0, .int .i64 0, .int .i64 0, .int .i64 0, .int .i64 0, .int .i64 0, .int .i64 0, .int .i64 0, .int .i64 0, .int .u8 0, .int .i64 0, .int .i64 0, .int .i64 0, .int .i64 0, .int .i64 0, .int .i64 0, .int .i64 0, .int .i64 0, .int .i64 0, .int .i64 0, .int .i64 0, .int .i64 0, .int .i64 0, .int .i64 0] 46))) := hid (MP.start h ho hp)
  clear h
  have HK := hid (fun wz (hz : MM l E wz) => censusM hz)
  have HE : Hid (ceA E = ceA E) := hid rfl
  unfold ceA at HE ⊢
  obtain ⟨x0, x1, x2, x3, x4, x5, x6, x7, hxs⟩ : ∃ x0 x1 x2 x3 x4 x5 x6 x7 : Nat, ceL E = [x0, x1, x2, x3, x4, x5, x6, x7] := ⟨_, _, _, _, _, _, _, _, rfl⟩
  rw [hxs] at HK ⊢
  simp only [nI, List.map_cons, List.map_nil, natV] at HK ⊢
  clear hxs HE
  go_enter Tryz.func129, Tryz.ntmps129
  go_upto_region 1 with fail
  (try simp only [World.size_alloc, ho, hp])
  generalize hw2 : World.alloc (w.alloc _) _ = w2 at HX ⊢
  clear hw2 ho hp
  obtain ⟨o0, o1, o2, o3⟩ := HX.out.cells
  go_wp2_with fail
  refine (HK.out _ HX.out.mx.md.mm).mono ?_
  rintro e w3 ⟨rfl, hb3⟩
  have HX3 := hid (HX.out.below hb3.out)
  clear hb3 HX o0 o1 o2 o3 HK
  go_wp2_with (refine wpList_store_blk rfl 46 _ _ rfl p rfl (rsOf { data := #[] } 0 [0, 0, 0, 0, 0, 0, 0, 0] [0, 0, 0, 0, 0] [0, 0, 0] 0 [0, 0, 0, 0, 0, 0] [(x0 : Int), (x1 : Int), (x2 : Int), (x3 : Int), (x4 : Int), (x5 : Int), (x6 : Int), (x7 : Int)]) rfl HX3.out.mx.b rfl I0.out (rsOf_one _ _ _ _ _ _ _ _) ?_; intro w9 HB9 HU9)
  refine bodyPost_ret (results_blk (cs := rsOf { data := #[] } 0 [0, 0, 0, 0, 0, 0, 0, 0] [0, 0, 0, 0, 0] [0, 0, 0] 0 [0, 0, 0, 0, 0, 0] [(x0 : Int), (x1 : Int), (x2 : Int), (x3 : Int), (x4 : Int), (x5 : Int), (x6 : Int), (x7 : Int)]) Tryz.results129 rfl agg_rs HB9.out) rfl ?_
  exact ⟨rfl, hid (HX3.out.done HU9.out)⟩
set_option maxRecDepth 100000 in
set_option maxHeartbeats 1000000 in
theorem sv60 (h : MM l E w) (a b c : Int) (ha : U64 a) (hb : U64 b) (hc : U64 c) : Calls Tryz.prog 129 #[.pointer (some ⟨l.m, 0, none⟩), .agg #[.int .u8 60, .int .u64 a, .int .u64 b, .int .u64 c]] w fun e w' => e = .returned (.agg (biA E (nbI a)).toArray) ∧ Hid (MD w l E w') := by
  have I0 := hid info_rs
  have HR := hid (fun (cd : Int) (wz : World) => refM cd wz)
  have HA := hid (fun wz => ansM 0 0 wz)
  obtain ⟨o, ho⟩ : ∃ o, w.heap.size = o := ⟨_, rfl⟩
  obtain ⟨p, hp⟩ : ∃ p, o + 1 = p := ⟨_, rfl⟩
  have HX : Hid (MP w l E o p [.int .u8 60, .int .u64 a, .int .u64 b, .int .u64 c] ((w.alloc (.cells #[.int .u8 60, .int .u64 a, .int .u64 b, .int .u64 c] 31)).alloc (.cells #[.int .u8 0, .int .u64 0, .int .u64 0, .string { data := #[] }, .int .i64 0, .int .i64 0, .int .i64 0, .int .i64 0, .int .i64 0, .int .i64 0, .int .i64 0, .int .i64 0, .int .i64 0, .int .i64 0, .int .i64 0, .int .i64 0, .int .i64 0, .int .i64 0, .int .i64 0, .int .i64 0, .int .u8 0, .int .i64 0, .int .i64 0, .int .i64 0, .int .i64 0, .int .i64 0, .int .i64 0, .int .i64 0, .int .i64 0, .int .i64 0, .int .i64 0, .int .i64 0, .int .i64 0, .int .i64 0, .int .i64 0] 46))) := hid (MP.start h ho hp)
  clear h
  have HN := hid (fun wz => numM a ha wz)
  generalize nbI a = n at *
  have HB := hid (fun wz => bbM n wz)
  unfold biA
  by_cases hc_ : n < 0 ∨ 64 ≤ n
  · as_aux_lemma =>
    rw [if_pos hc_]
    rw [decide_eq_true hc_] at HB
    clear hc_
    go_enter Tryz.func129, Tryz.ntmps129
    go_upto_region 1 with fail
    (try simp only [World.size_alloc, ho, hp])
    generalize hw2 : World.alloc (w.alloc _) _ = w2 at HX ⊢
    clear hw2 ho hp
    obtain ⟨o0, o1, o2, o3⟩ := HX.out.cells
    (go_wp2_with fail; refine (HN.out _).mono ?_; rintro e_ w_ ⟨he_, hw_⟩; subst he_; have hs_ := hw_.symm; clear hw_; subst hs_)
    (go_wp2_with fail; refine (HB.out _).mono ?_; rintro e_ w_ ⟨he_, hw_⟩; subst he_; have hs_ := hw_.symm; clear hw_; subst hs_)
    go_wp2_with fail
    refine (HR.out 1 _).mono ?_
    rintro e w3 ⟨rfl, hb3⟩
    have HX3 := hid (HX.out.below hb3)
    clear hb3 HX o0 o1 o2 o3
    go_wp2_with (refine wpList_store_blk rfl 46 _ _ rfl p rfl (rsC 1 0 0) rfl HX3.out.mx.b rfl I0.out (rsC_one _ _ _) ?_; intro w9 HB9 HU9)
    refine bodyPost_ret (results_blk (cs := (rsC 1 0 0)) Tryz.results129 rfl agg_rs HB9.out) rfl ?_
    exact ⟨rfl, hid (HX3.out.done HU9.out)⟩
  rw [if_neg hc_]
  rw [decide_eq_false hc_] at HB
  obtain ⟨b0, rfl⟩ : ∃ b0 : Nat, n = (b0 : Int) := ⟨n.toNat, by omega⟩
  rw [show ((b0 : Int)).toNat = b0 by omega]
  have HK := hid (fun wz (hz : MM l E wz) => blockInfoM hz (show b0 < 64 by omega))
  unfold bkC at HK
  obtain ⟨x0, x1, x2, x3, x4, x5, hxs⟩ : ∃ x0 x1 x2 x3 x4 x5 : Nat, bkL E b0 = [x0, x1, x2, x3, x4, x5] := ⟨_, _, _, _, _, _, rfl⟩
  rw [hxs] at HK ⊢
  simp only [nI, List.map_cons, List.map_nil, natV] at HK ⊢
  generalize clM (flE E.T b0 32) = ck at *
  clear hxs hc_
  go_enter Tryz.func129, Tryz.ntmps129
  go_upto_region 1 with fail
  (try simp only [World.size_alloc, ho, hp])
  generalize hw2 : World.alloc (w.alloc _) _ = w2 at HX ⊢
  clear hw2 ho hp
  obtain ⟨o0, o1, o2, o3⟩ := HX.out.cells
  (go_wp2_with fail; refine (HN.out _).mono ?_; rintro e_ w_ ⟨he_, hw_⟩; subst he_; have hs_ := hw_.symm; clear hw_; subst hs_)
  (go_wp2_with fail; refine (HB.out _).mono ?_; rintro e_ w_ ⟨he_, hw_⟩; subst he_; have hs_ := hw_.symm; clear hw_; subst hs_)
  (go_wp2_with fail; refine (HN.out _).mono ?_; rintro e_ w_ ⟨he_, hw_⟩; subst he_; have hs_ := hw_.symm; clear hw_; subst hs_)
  go_wp2_with fail
  refine (HK.out _ HX.out.mx.md.mm).mono ?_
  rintro e w3 ⟨rfl, hb3⟩
  have HX3 := hid (HX.out.below hb3.out)
  clear hb3 HX o0 o1 o2 o3 HK
  go_wp2_with (refine wpList_store_blk rfl 46 _ _ rfl p rfl (rsOf { data := #[] } 0 [0, 0, 0, 0, 0, 0, 0, 0] [0, 0, 0, 0, 0] [0, 0, 0] ck [(x0 : Int), (x1 : Int), (x2 : Int), (x3 : Int), (x4 : Int), (x5 : Int)] [0, 0, 0, 0, 0, 0, 0, 0]) rfl HX3.out.mx.b rfl I0.out (rsOf_one _ _ _ _ _ _ _ _) ?_; intro w9 HB9 HU9)
  refine bodyPost_ret (results_blk (cs := rsOf { data := #[] } 0 [0, 0, 0, 0, 0, 0, 0, 0] [0, 0, 0, 0, 0] [0, 0, 0] ck [(x0 : Int), (x1 : Int), (x2 : Int), (x3 : Int), (x4 : Int), (x5 : Int)] [0, 0, 0, 0, 0, 0, 0, 0]) Tryz.results129 rfl agg_rs HB9.out) rfl ?_
  exact ⟨rfl, hid (HX3.out.done HU9.out)⟩
set_option maxRecDepth 100000 in
set_option maxHeartbeats 1000000 in
theorem sv55 (h : MM l E w) (a b c : Int) (ha : U64 a) (hb : U64 b) (hc : U64 c) : Calls Tryz.prog 129 #[.pointer (some ⟨l.m, 0, none⟩), .agg #[.int .u8 55, .int .u64 a, .int .u64 b, .int .u64 c]] w fun e w' => e = .returned (.agg (bmA E (nbI a)).toArray) ∧ Hid (MD w l E w') := by
  have I0 := hid info_rs
  have HR := hid (fun (cd : Int) (wz : World) => refM cd wz)
  have HA := hid (fun wz => ansM 0 0 wz)
  obtain ⟨o, ho⟩ : ∃ o, w.heap.size = o := ⟨_, rfl⟩
  obtain ⟨p, hp⟩ : ∃ p, o + 1 = p := ⟨_, rfl⟩
  have HX : Hid (MP w l E o p [.int .u8 55, .int .u64 a, .int .u64 b, .int .u64 c] ((w.alloc (.cells #[.int .u8 55, .int .u64 a, .int .u64 b, .int .u64 c] 31)).alloc (.cells #[.int .u8 0, .int .u64 0, .int .u64 0, .string { data := #[] }, .int .i64 0, .int .i64 0, .int .i64 0, .int .i64 0, .int .i64 0, .int .i64 0, .int .i64 0, .int .i64 0, .int .i64 0, .int .i64 0, .int .i64 0, .int .i64 0, .int .i64 0, .int .i64 0, .int .i64 0, .int .i64 0, .int .u8 0, .int .i64 0, .int .i64 0, .int .i64 0, .int .i64 0, .int .i64 0, .int .i64 0, .int .i64 0, .int .i64 0, .int .i64 0, .int .i64 0, .int .i64 0, .int .i64 0, .int .i64 0, .int .i64 0] 46))) := hid (MP.start h ho hp)
  clear h
  have HN := hid (fun wz => numM a ha wz)
  generalize nbI a = n at *
  have HB := hid (fun wz => bbM n wz)
  unfold bmA
  by_cases hc_ : n < 0 ∨ 64 ≤ n
  · as_aux_lemma =>
    rw [if_pos hc_]
    rw [decide_eq_true hc_] at HB
    clear hc_
    go_enter Tryz.func129, Tryz.ntmps129
    go_upto_region 1 with fail
    (try simp only [World.size_alloc, ho, hp])
    generalize hw2 : World.alloc (w.alloc _) _ = w2 at HX ⊢
    clear hw2 ho hp
    obtain ⟨o0, o1, o2, o3⟩ := HX.out.cells
    (go_wp2_with fail; refine (HN.out _).mono ?_; rintro e_ w_ ⟨he_, hw_⟩; subst he_; have hs_ := hw_.symm; clear hw_; subst hs_)
    (go_wp2_with fail; refine (HB.out _).mono ?_; rintro e_ w_ ⟨he_, hw_⟩; subst he_; have hs_ := hw_.symm; clear hw_; subst hs_)
    go_wp2_with fail
    refine (HR.out 1 _).mono ?_
    rintro e w3 ⟨rfl, hb3⟩
    have HX3 := hid (HX.out.below hb3)
    clear hb3 HX o0 o1 o2 o3
    go_wp2_with (refine wpList_store_blk rfl 46 _ _ rfl p rfl (rsC 1 0 0) rfl HX3.out.mx.b rfl I0.out (rsC_one _ _ _) ?_; intro w9 HB9 HU9)
    refine bodyPost_ret (results_blk (cs := (rsC 1 0 0)) Tryz.results129 rfl agg_rs HB9.out) rfl ?_
    exact ⟨rfl, hid (HX3.out.done HU9.out)⟩
  rw [if_neg hc_]
  rw [decide_eq_false hc_] at HB
  obtain ⟨b0, rfl⟩ : ∃ b0 : Nat, n = (b0 : Int) := ⟨n.toNat, by omega⟩
  rw [show ((b0 : Int)).toNat = b0 by omega]
  have HK := hid (fun wz (hz : MM l E wz) => blockMapM hz (show b0 < 64 by omega))
  unfold txA
  generalize bsA (bmL E b0) = s at *
  clear hc_
  go_enter Tryz.func129, Tryz.ntmps129
  go_upto_region 1 with fail
  (try simp only [World.size_alloc, ho, hp])
  generalize hw2 : World.alloc (w.alloc _) _ = w2 at HX ⊢
  clear hw2 ho hp
  obtain ⟨o0, o1, o2, o3⟩ := HX.out.cells
  (go_wp2_with fail; refine (HN.out _).mono ?_; rintro e_ w_ ⟨he_, hw_⟩; subst he_; have hs_ := hw_.symm; clear hw_; subst hs_)
  (go_wp2_with fail; refine (HB.out _).mono ?_; rintro e_ w_ ⟨he_, hw_⟩; subst he_; have hs_ := hw_.symm; clear hw_; subst hs_)
  (go_wp2_with fail; refine (HN.out _).mono ?_; rintro e_ w_ ⟨he_, hw_⟩; subst he_; have hs_ := hw_.symm; clear hw_; subst hs_)
  (go_wp2_with fail; refine (HK.out _ HX.out.mx.md.mm).mono ?_; rintro e_ w_ ⟨he_, hw_⟩; subst he_; have hs_ := hw_.symm; clear hw_; subst hs_)
  clear o0 o1 o2 o3 HK
  go_wp2_with (refine wpList_store_blk rfl 46 _ _ rfl p rfl (rsOf s 0 [0, 0, 0, 0, 0, 0, 0, 0] [0, 0, 0, 0, 0] [0, 0, 0] 0 [0, 0, 0, 0, 0, 0] [0, 0, 0, 0, 0, 0, 0, 0]) rfl HX.out.mx.b rfl I0.out (rsOf_one _ _ _ _ _ _ _ _) ?_; intro w9 HB9 HU9)
  refine bodyPost_ret (results_blk (cs := rsOf s 0 [0, 0, 0, 0, 0, 0, 0, 0] [0, 0, 0, 0, 0] [0, 0, 0] 0 [0, 0, 0, 0, 0, 0] [0, 0, 0, 0, 0, 0, 0, 0]) Tryz.results129 rfl agg_rs HB9.out) rfl ?_
  exact ⟨rfl, hid (HX.out.done HU9.out)⟩
set_option maxRecDepth 100000 in
set_option maxHeartbeats 1000000 in
theorem sv56 (h : MM l E w) (a b c : Int) (ha : U64 a) (hb : U64 b) (hc : U64 c) : Calls Tryz.prog 129 #[.pointer (some ⟨l.m, 0, none⟩), .agg #[.int .u8 56, .int .u64 a, .int .u64 b, .int .u64 c]] w fun e w' => e = .returned (.agg (txA (hmL E)).toArray) ∧ Hid (MD w l E w') := by
  have I0 := hid info_rs
  have HR := hid (fun (cd : Int) (wz : World) => refM cd wz)
  have HA := hid (fun wz => ansM 0 0 wz)
  obtain ⟨o, ho⟩ : ∃ o, w.heap.size = o := ⟨_, rfl⟩
  obtain ⟨p, hp⟩ : ∃ p, o + 1 = p := ⟨_, rfl⟩
  have HX : Hid (MP w l E o p [.int .u8 56, .int .u64 a, .int .u64 b, .int .u64 c] ((w.alloc (.cells #[.int .u8 56, .int .u64 a, .int .u64 b, .int .u64 c] 31)).alloc (.cells #[.int .u8 0, .int .u64 0, .int .u64 0, .string { data := #[] }, .int .i64 0, .int .i64 0, .int .i64 0, .int .i64 0, .int .i64 0, .int .i64 0, .int .i64 0, .int .i64 0, .int .i64 0, .int .i64 0, .int .i64 0, .int .i64 0, .int .i64 0, .int .i64 0, .int .i64 0, .int .i64 0, .int .u8 0, .int .i64 0, .int .i64 0, .int .i64 0, .int .i64 0, .int .i64 0, .int .i64 0, .int .i64 0, .int .i64 0, .int .i64 0, .int .i64 0, .int .i64 0, .int .i64 0, .int .i64 0, .int .i64 0] 46))) := hid (MP.start h ho hp)
  clear h
  have HK := hid (fun wz (hz : MM l E wz) => heapMapM hz)
  unfold txA
  generalize bsA (hmL E) = s at *
  go_enter Tryz.func129, Tryz.ntmps129
  go_upto_region 1 with fail
  (try simp only [World.size_alloc, ho, hp])
  generalize hw2 : World.alloc (w.alloc _) _ = w2 at HX ⊢
  clear hw2 ho hp
  obtain ⟨o0, o1, o2, o3⟩ := HX.out.cells
  (go_wp2_with fail; refine (HK.out _ HX.out.mx.md.mm).mono ?_; rintro e_ w_ ⟨he_, hw_⟩; subst he_; have hs_ := hw_.symm; clear hw_; subst hs_)
  clear o0 o1 o2 o3 HK
  go_wp2_with (refine wpList_store_blk rfl 46 _ _ rfl p rfl (rsOf s 0 [0, 0, 0, 0, 0, 0, 0, 0] [0, 0, 0, 0, 0] [0, 0, 0] 0 [0, 0, 0, 0, 0, 0] [0, 0, 0, 0, 0, 0, 0, 0]) rfl HX.out.mx.b rfl I0.out (rsOf_one _ _ _ _ _ _ _ _) ?_; intro w9 HB9 HU9)
  refine bodyPost_ret (results_blk (cs := rsOf s 0 [0, 0, 0, 0, 0, 0, 0, 0] [0, 0, 0, 0, 0] [0, 0, 0] 0 [0, 0, 0, 0, 0, 0] [0, 0, 0, 0, 0, 0, 0, 0]) Tryz.results129 rfl agg_rs HB9.out) rfl ?_
  exact ⟨rfl, hid (HX.out.done HU9.out)⟩
set_option maxRecDepth 100000 in
set_option maxHeartbeats 1000000 in
theorem sv58 (h : MM l E w) (a b c : Int) (ha : U64 a) (hb : U64 b) (hc : U64 c) : Calls Tryz.prog 129 #[.pointer (some ⟨l.m, 0, none⟩), .agg #[.int .u8 58, .int .u64 a, .int .u64 b, .int .u64 c]] w fun e w' => e = .returned (.agg (txA (placeL a.toNat)).toArray) ∧ Hid (MD w l E w') := by
  have I0 := hid info_rs
  have HR := hid (fun (cd : Int) (wz : World) => refM cd wz)
  have HA := hid (fun wz => ansM 0 0 wz)
  obtain ⟨o, ho⟩ : ∃ o, w.heap.size = o := ⟨_, rfl⟩
  obtain ⟨p, hp⟩ : ∃ p, o + 1 = p := ⟨_, rfl⟩
  have HX : Hid (MP w l E o p [.int .u8 58, .int .u64 a, .int .u64 b, .int .u64 c] ((w.alloc (.cells #[.int .u8 58, .int .u64 a, .int .u64 b, .int .u64 c] 31)).alloc (.cells #[.int .u8 0, .int .u64 0, .int .u64 0, .string { data := #[] }, .int .i64 0, .int .i64 0, .int .i64 0, .int .i64 0, .int .i64 0, .int .i64 0, .int .i64 0, .int .i64 0, .int .i64 0, .int .i64 0, .int .i64 0, .int .i64 0, .int .i64 0, .int .i64 0, .int .i64 0, .int .i64 0, .int .u8 0, .int .i64 0, .int .i64 0, .int .i64 0, .int .i64 0, .int .i64 0, .int .i64 0, .int .i64 0, .int .i64 0, .int .i64 0, .int .i64 0, .int .i64 0, .int .i64 0, .int .i64 0, .int .i64 0] 46))) := hid (MP.start h ho hp)
  clear h
  obtain ⟨x, rfl⟩ : ∃ x : Nat, a = (x : Int) := ⟨a.toNat, by have := ha.1; omega⟩
  have hxb : x < 18446744073709551616 := by have := ha.2; omega
  rw [show ((x : Int)).toNat = x by omega]
  have HK := hid (fun wz => placeM x hxb wz)
  unfold txA
  generalize bsA (placeL x) = s at *
  go_enter Tryz.func129, Tryz.ntmps129
  go_upto_region 1 with fail
  (try simp only [World.size_alloc, ho, hp])
  generalize hw2 : World.alloc (w.alloc _) _ = w2 at HX ⊢
  clear hw2 ho hp
  obtain ⟨o0, o1, o2, o3⟩ := HX.out.cells
  (go_wp2_with fail; refine (HK.out _).mono ?_; rintro e_ w_ ⟨he_, hw_⟩; subst he_; have hs_ := hw_.symm; clear hw_; subst hs_)
  clear o0 o1 o2 o3 HK
  go_wp2_with (refine wpList_store_blk rfl 46 _ _ rfl p rfl (rsOf s 0 [0, 0, 0, 0, 0, 0, 0, 0] [0, 0, 0, 0, 0] [0, 0, 0] 0 [0, 0, 0, 0, 0, 0] [0, 0, 0, 0, 0, 0, 0, 0]) rfl HX.out.mx.b rfl I0.out (rsOf_one _ _ _ _ _ _ _ _) ?_; intro w9 HB9 HU9)
  refine bodyPost_ret (results_blk (cs := rsOf s 0 [0, 0, 0, 0, 0, 0, 0, 0] [0, 0, 0, 0, 0] [0, 0, 0] 0 [0, 0, 0, 0, 0, 0] [0, 0, 0, 0, 0, 0, 0, 0]) Tryz.results129 rfl agg_rs HB9.out) rfl ?_
  exact ⟨rfl, hid (HX.out.done HU9.out)⟩
set_option maxRecDepth 100000 in
set_option maxHeartbeats 1000000 in
theorem sv57 (h : MM l E w) (a b c : Int) (ha : U64 a) (hb : U64 b) (hc : U64 c) : Calls Tryz.prog 129 #[.pointer (some ⟨l.m, 0, none⟩), .agg #[.int .u8 57, .int .u64 a, .int .u64 b, .int .u64 c]] w fun e w' => e = .returned (.agg (txA (dsL E a.toNat)).toArray) ∧ Hid (MD w l E w') := by
  have I0 := hid info_rs
  have HR := hid (fun (cd : Int) (wz : World) => refM cd wz)
  have HA := hid (fun wz => ansM 0 0 wz)
  obtain ⟨o, ho⟩ : ∃ o, w.heap.size = o := ⟨_, rfl⟩
  obtain ⟨p, hp⟩ : ∃ p, o + 1 = p := ⟨_, rfl⟩
  have HX : Hid (MP w l E o p [.int .u8 57, .int .u64 a, .int .u64 b, .int .u64 c] ((w.alloc (.cells #[.int .u8 57, .int .u64 a, .int .u64 b, .int .u64 c] 31)).alloc (.cells #[.int .u8 0, .int .u64 0, .int .u64 0, .string { data := #[] }, .int .i64 0, .int .i64 0, .int .i64 0, .int .i64 0, .int .i64 0, .int .i64 0, .int .i64 0, .int .i64 0, .int .i64 0, .int .i64 0, .int .i64 0, .int .i64 0, .int .i64 0, .int .i64 0, .int .i64 0, .int .i64 0, .int .u8 0, .int .i64 0, .int .i64 0, .int .i64 0, .int .i64 0, .int .i64 0, .int .i64 0, .int .i64 0, .int .i64 0, .int .i64 0, .int .i64 0, .int .i64 0, .int .i64 0, .int .i64 0, .int .i64 0] 46))) := hid (MP.start h ho hp)
  clear h
  obtain ⟨x, rfl⟩ : ∃ x : Nat, a = (x : Int) := ⟨a.toNat, by have := ha.1; omega⟩
  have hxb : x < 18446744073709551616 := by have := ha.2; omega
  rw [show ((x : Int)).toNat = x by omega]
  have HK := hid (fun wz (hz : MM l E wz) => describeM hz x hxb)
  unfold txA
  generalize bsA (dsL E x) = s at *
  go_enter Tryz.func129, Tryz.ntmps129
  go_upto_region 1 with fail
  (try simp only [World.size_alloc, ho, hp])
  generalize hw2 : World.alloc (w.alloc _) _ = w2 at HX ⊢
  clear hw2 ho hp
  obtain ⟨o0, o1, o2, o3⟩ := HX.out.cells
  (go_wp2_with fail; refine (HK.out _ HX.out.mx.md.mm).mono ?_; rintro e_ w_ ⟨he_, hw_⟩; subst he_; have hs_ := hw_.symm; clear hw_; subst hs_)
  clear o0 o1 o2 o3 HK
  go_wp2_with (refine wpList_store_blk rfl 46 _ _ rfl p rfl (rsOf s 0 [0, 0, 0, 0, 0, 0, 0, 0] [0, 0, 0, 0, 0] [0, 0, 0] 0 [0, 0, 0, 0, 0, 0] [0, 0, 0, 0, 0, 0, 0, 0]) rfl HX.out.mx.b rfl I0.out (rsOf_one _ _ _ _ _ _ _ _) ?_; intro w9 HB9 HU9)
  refine bodyPost_ret (results_blk (cs := rsOf s 0 [0, 0, 0, 0, 0, 0, 0, 0] [0, 0, 0, 0, 0] [0, 0, 0] 0 [0, 0, 0, 0, 0, 0] [0, 0, 0, 0, 0, 0, 0, 0]) Tryz.results129 rfl agg_rs HB9.out) rfl ?_
  exact ⟨rfl, hid (HX.out.done HU9.out)⟩
set_option maxRecDepth 100000 in
theorem svRest (h : MM l E w) (k : Nat) (hk : k ∉ [40, 41, 59, 61, 60, 55, 56, 58, 57]) (a b c : Int) : Calls Tryz.prog 129 #[.pointer (some ⟨l.m, 0, none⟩), .agg #[.int .u8 (k : Int), .int .u64 a, .int .u64 b, .int .u64 c]] w fun e w' => e = .returned (.agg (rsC 11 0 0).toArray) ∧ Hid (MD w l E w') := by
  have I0 := hid info_rs
  have HR := hid (fun (cd : Int) (wz : World) => refM cd wz)
  obtain ⟨o, ho⟩ : ∃ o, w.heap.size = o := ⟨_, rfl⟩
  obtain ⟨p, hp⟩ : ∃ p, o + 1 = p := ⟨_, rfl⟩
  have HX : Hid (MP w l E o p [.int .u8 (k : Int), .int .u64 a, .int .u64 b, .int .u64 c] ((w.alloc (.cells #[.int .u8 (k : Int), .int .u64 a, .int .u64 b, .int .u64 c] 31)).alloc (.cells #[.int .u8 0, .int .u64 0, .int .u64 0, .string { data := #[] }, .int .i64 0, .int .i64 0, .int .i64 0, .int .i64 0, .int .i64 0, .int .i64 0, .int .i64 0, .int .i64 0, .int .i64 0, .int .i64 0, .int .i64 0, .int .i64 0, .int .i64 0, .int .i64 0, .int .i64 0, .int .i64 0, .int .u8 0, .int .i64 0, .int .i64 0, .int .i64 0, .int .i64 0, .int .i64 0, .int .i64 0, .int .i64 0, .int .i64 0, .int .i64 0, .int .i64 0, .int .i64 0, .int .i64 0, .int .i64 0, .int .i64 0] 46))) := hid (MP.start h ho hp)
  clear h
  simp only [List.mem_cons, List.not_mem_nil, or_false, not_or] at hk
  obtain ⟨n40, n41, n59, n61, n60, n55, n56, n58, n57⟩ := hk
  have d40 : ((k : Int) == 40) = false := by simp; omega
  have d41 : ((k : Int) == 41) = false := by simp; omega
  have d59 : ((k : Int) == 59) = false := by simp; omega
  have d61 : ((k : Int) == 61) = false := by simp; omega
  have d60 : ((k : Int) == 60) = false := by simp; omega
  have d55 : ((k : Int) == 55) = false := by simp; omega
  have d56 : ((k : Int) == 56) = false := by simp; omega
  have d58 : ((k : Int) == 58) = false := by simp; omega
  have d57 : ((k : Int) == 57) = false := by simp; omega
  clear n40 n41 n59 n61 n60 n55 n56 n58 n57
  go_enter Tryz.func129, Tryz.ntmps129
  go_upto_region 1 with fail
  (try simp only [World.size_alloc, ho, hp])
  generalize hw2 : World.alloc (w.alloc _) _ = w2 at HX ⊢
  clear hw2 ho hp
  obtain ⟨o0, o1, o2, o3⟩ := HX.out.cells
  go_wp2_with fail
  refine (HR.out 11 _).mono ?_
  rintro e w3 ⟨rfl, hb3⟩
  have HX3 := hid (HX.out.below hb3)
  clear hb3 HX o0 o1 o2 o3
  go_wp2_with (refine wpList_store_blk rfl 46 _ _ rfl p rfl (rsC 11 0 0) rfl HX3.out.mx.b rfl I0.out (rsC_one _ _ _) ?_; intro w9 HB9 HU9)
  refine bodyPost_ret (results_blk (cs := (rsC 11 0 0)) Tryz.results129 rfl agg_rs HB9.out) rfl ?_
  exact ⟨rfl, hid (HX3.out.done HU9.out)⟩
end
end Go.Proofs.Qxb6500887aGreat
