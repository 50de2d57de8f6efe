/- Steps of playObjects (written by tools/mk_azzd.py). -/
import Derived.Test.Qxb6500887aGreatAzZc
namespace Go.Proofs.Qxb6500887aGreat
open Go.RowKit
set_option linter.unusedSimpArgs false
set_option linter.unusedVariables false
section
variable {l : AL} {S S' : AS} {w w' w0 : World}
theorem PX.oth {p r g : Nat} {oc cs : List Value} {t : TypeId} (h : PX l S w0 p r oc w) (hg : w0.heap.size ≤ g) (hb : Blk w g t cs) (h1 : t ≠ 31) (h2 : t ≠ 46) (hu : Upd g w w') : PX l S w0 p r oc w' := by
  refine ⟨⟨h.au.m.upd hu (fun k hk => by have := h.al k hk; omega), ⟨hu.os.trans h.au.u.os, hu.tape.trans h.au.u.tape, hu.output.trans h.au.u.output, Nat.le_trans h.au.u.size hu.size, fun k hk hn => ?_⟩⟩, h.op.upd hu (h.op.tneA hb (Ne.symm h1)), h.rb.upd hu (h.rb.tneA hb (Ne.symm h2)), h.lp, h.lr, h.al⟩
  rw [hu.block k (Nat.lt_of_lt_of_le hk h.au.u.size) (by omega)]
  exact h.au.u.block k hk hn
theorem PX.ul {p r : Nat} {oc : List Value} {gs : List Nat} (h : PX l S w0 p r oc w) (hu : UL gs w w') (hg : ∀ g ∈ gs, w0.heap.size ≤ g ∧ g ≠ p ∧ g ≠ r) (hm : AM l S w') : PX l S w0 p r oc w' := by
  refine ⟨⟨hm, ⟨hu.os.trans h.au.u.os, hu.tape.trans h.au.u.tape, hu.output.trans h.au.u.output, Nat.le_trans h.au.u.size hu.size, fun k hk hn => ?_⟩⟩, hu.blk h.op (fun hm => (hg _ hm).2.1 rfl), hu.blk h.rb (fun hm => (hg _ hm).2.2 rfl), h.lp, h.lr, h.al⟩
  rw [hu.block k (Nat.lt_of_lt_of_le hk h.au.u.size) (fun hm => by have := (hg k hm).1; omega)]
  exact h.au.u.block k hk hn
/-- Inside a step with an object in q. -/
structure PO (l : AL) (S : AS) (w0 : World) (p r : Nat) (oc : List Value) (q : Nat) (cs : List Value) (w : World) : Prop where
  px : PX l S w0 p r oc w
  ob : Blk w q 61 cs
theorem PO.below {p r q : Nat} {oc cs : List Value} (h : PO l S w0 p r oc q cs w) (hb : Below w.heap.size w w') : PO l S w0 p r oc q cs w' := ⟨h.px.below hb, h.ob.below hb⟩
theorem AL.all_nodup {l : AL} {g : Nat} (h : g ∈ l.wr) : g ∈ l.all := AL.wr_all h
theorem CtM.start {p r gv gt : Nat} {oc : List Value} (h : PX l S w0 p r oc w) (hv : w.heap.size = gv) (ht : gv + 1 = gt) : CtM l S gv gt p oc ((w.alloc (.cells #[.int .u64 0] 29)).alloc (.cells #[.int .u64 0] 29)) ∧ PX l S w0 p r oc ((w.alloc (.cells #[.int .u64 0] 29)).alloc (.cells #[.int .u64 0] 29)) ∧ (∀ g ∈ [gv, gt], w0.heap.size ≤ g ∧ g ≠ p ∧ g ≠ r) := by
  have k1 := Blk.new w [.int .u64 0] 29
  rw [hv] at k1
  have k2 := Blk.new (w.alloc (.cells #[.int .u64 0] 29)) [.int .u64 0] 29
  rw [World.size_alloc, hv, ht] at k2
  have hp := h.op.lt
  have hr := h.rb.lt
  have hs := h.au.u.size
  have h2 := (h.below (nbel w (.cells #[.int .u64 0] 29))).below (nbel _ (.cells #[.int .u64 0] 29))
  have hal := h.al
  refine ⟨⟨h2.am, ⟨0, k1.below (nbel _ _)⟩, ⟨0, k2⟩, h2.op, by omega, by omega, by omega, fun hm => by have := hal _ (AL.wr_all hm); omega, fun hm => by have := hal _ (AL.wr_all hm); omega, fun g hg => by have := hal g hg; exact ⟨by omega, by omega⟩⟩, h2, fun g hg => ?_⟩
  simp only [List.mem_cons, List.not_mem_nil, or_false] at hg
  rcases hg with rfl | rfl
  · exact ⟨by omega, by omega, by omega⟩
  · exact ⟨by omega, by omega, by omega⟩
set_option maxRecDepth 100000 in
set_option maxHeartbeats 8000000 in
theorem pl36 (h : AM l S w) (a b c : Int) (ha : U64 a) (hb : U64 b) (hc : U64 c) : Calls Tryz.prog 86 #[.pointer (some ⟨l.a, 0, none⟩), .agg #[.int .u8 36, .int .u64 a, .int .u64 b, .int .u64 c]] w (PyP l S w 36 a b c) := by
  have I0 := hid info_rs
  obtain ⟨p, hp⟩ : ∃ p, w.heap.size = p := ⟨_, rfl⟩
  obtain ⟨r, hr⟩ : ∃ r, p + 1 = r := ⟨_, rfl⟩
  have H0 : Hid (PX l S w p r [.int .u8 36, .int .u64 a, .int .u64 b, .int .u64 c] ((w.alloc (.cells #[.int .u8 36, .int .u64 a, .int .u64 b, .int .u64 c] 31)).alloc (.cells #[.int .u8 0, .int .u64 0, .int .u64 0, .string { data := #[] }, .int .i64 0, .int .i64 0, .int .i64 0, .int .i64 0, .int .i64 0, .int .i64 0, .int .i64 0, .int .i64 0, .int .i64 0, .int .i64 0, .int .i64 0, .int .i64 0, .int .i64 0, .int .i64 0, .int .i64 0, .int .i64 0, .int .u8 0, .int .i64 0, .int .i64 0, .int .i64 0, .int .i64 0, .int .i64 0, .int .i64 0, .int .i64 0, .int .i64 0, .int .i64 0, .int .i64 0, .int .i64 0, .int .i64 0, .int .i64 0, .int .i64 0] 46))) := hid (PX.start h hp hr)
  have HK := hid (fun wz (hz : AM l S wz) => nextCountedZ hz a b)
  clear h
  go_enter Tryz.func86, Tryz.ntmps86
  go_upto_region 1 with fail
  (try simp only [World.size_alloc, hp, hr])
  generalize hw1 : World.alloc (w.alloc _) _ = w1 at H0 ⊢
  clear hw1 hp hr
  obtain ⟨c0, c1, c2, c3⟩ := H0.out.cells
  have HC := hid (HK.out w1 H0.out.am)
  go_wp2_with fail
  refine HC.out.mono ?_
  rintro e w2 ⟨v, cd, rfl, hb_⟩
  have H1 := hid (H0.out.below hb_.out.2)
  clear hb_
  clear HC H0 c0 c1 c2 c3
  obtain ⟨c0, c1, c2, c3⟩ := H1.out.cells
  have HC := hid (H1.out.bel (giveZ v 0 cd w2))
  go_wp2_with fail
  refine HC.out.mono ?_
  rintro e w3 ⟨rfl, H2⟩
  clear HC H1 c0 c1 c2 c3
  obtain ⟨c0, c1, c2, c3⟩ := H2.out.cells
  clear c0 c1 c2 c3
  go_wp2_with (refine wpList_store_blk rfl 46 _ _ rfl r rfl (rsG cd v 0) rfl H2.out.rb (by first | rfl | (rw [rsG_len]; rfl)) (by first | exact I0.out | (rw [rsG_len]; exact I0.out)) (rsG_one _ _ _) ?_; intro w9 HB9 HU9)
  refine bodyPost_ret (results_blk (cs := rsG cd v 0) Tryz.results86 rfl (by first | exact agg_rs | (rw [rsG_len]; exact agg_rs)) HB9.out) rfl ?_
  exact PyP.mk rfl (RsOk.g _ _ _) (H2.out.done HU9.out) (PlR.rd rfl (Rd.free (by decide) (by decide)))
set_option maxRecDepth 100000 in
set_option maxHeartbeats 8000000 in
theorem pl37 (h : AM l S w) (a b c : Int) (ha : U64 a) (hb : U64 b) (hc : U64 c) : Calls Tryz.prog 86 #[.pointer (some ⟨l.a, 0, none⟩), .agg #[.int .u8 37, .int .u64 a, .int .u64 b, .int .u64 c]] w (PyP l S w 37 a b c) := by
  have I0 := hid info_rs
  obtain ⟨p, hp⟩ : ∃ p, w.heap.size = p := ⟨_, rfl⟩
  obtain ⟨r, hr⟩ : ∃ r, p + 1 = r := ⟨_, rfl⟩
  have H0 : Hid (PX l S w p r [.int .u8 37, .int .u64 a, .int .u64 b, .int .u64 c] ((w.alloc (.cells #[.int .u8 37, .int .u64 a, .int .u64 b, .int .u64 c] 31)).alloc (.cells #[.int .u8 0, .int .u64 0, .int .u64 0, .string { data := #[] }, .int .i64 0, .int .i64 0, .int .i64 0, .int .i64 0, .int .i64 0, .int .i64 0, .int .i64 0, .int .i64 0, .int .i64 0, .int .i64 0, .int .i64 0, .int .i64 0, .int .i64 0, .int .i64 0, .int .i64 0, .int .i64 0, .int .u8 0, .int .i64 0, .int .i64 0, .int .i64 0, .int .i64 0, .int .i64 0, .int .i64 0, .int .i64 0, .int .i64 0, .int .i64 0, .int .i64 0, .int .i64 0, .int .i64 0, .int .i64 0, .int .i64 0] 46))) := hid (PX.start h hp hr)
  have HK := hid (fun wz (hz : AM l S wz) => nextMarkedZ hz a b)
  clear h
  go_enter Tryz.func86, Tryz.ntmps86
  go_upto_region 1 with fail
  (try simp only [World.size_alloc, hp, hr])
  generalize hw1 : World.alloc (w.alloc _) _ = w1 at H0 ⊢
  clear hw1 hp hr
  obtain ⟨c0, c1, c2, c3⟩ := H0.out.cells
  have HC := hid (HK.out w1 H0.out.am)
  go_wp2_with fail
  refine HC.out.mono ?_
  rintro e w2 ⟨v, cd, rfl, hb_⟩
  have H1 := hid (H0.out.below hb_.out.2)
  clear hb_
  clear HC H0 c0 c1 c2 c3
  obtain ⟨c0, c1, c2, c3⟩ := H1.out.cells
  have HC := hid (H1.out.bel (giveZ v 0 cd w2))
  go_wp2_with fail
  refine HC.out.mono ?_
  rintro e w3 ⟨rfl, H2⟩
  clear HC H1 c0 c1 c2 c3
  obtain ⟨c0, c1, c2, c3⟩ := H2.out.cells
  clear c0 c1 c2 c3
  go_wp2_with (refine wpList_store_blk rfl 46 _ _ rfl r rfl (rsG cd v 0) rfl H2.out.rb (by first | rfl | (rw [rsG_len]; rfl)) (by first | exact I0.out | (rw [rsG_len]; exact I0.out)) (rsG_one _ _ _) ?_; intro w9 HB9 HU9)
  refine bodyPost_ret (results_blk (cs := rsG cd v 0) Tryz.results86 rfl (by first | exact agg_rs | (rw [rsG_len]; exact agg_rs)) HB9.out) rfl ?_
  exact PyP.mk rfl (RsOk.g _ _ _) (H2.out.done HU9.out) (PlR.rd rfl (Rd.free (by decide) (by decide)))
set_option maxRecDepth 100000 in
set_option maxHeartbeats 8000000 in
theorem pl38 (h : AM l S w) (a b c : Int) (ha : U64 a) (hb : U64 b) (hc : U64 c) : Calls Tryz.prog 86 #[.pointer (some ⟨l.a, 0, none⟩), .agg #[.int .u8 38, .int .u64 a, .int .u64 b, .int .u64 c]] w (PyP l S w 38 a b c) := by
  have I0 := hid info_rs
  obtain ⟨p, hp⟩ : ∃ p, w.heap.size = p := ⟨_, rfl⟩
  obtain ⟨r, hr⟩ : ∃ r, p + 1 = r := ⟨_, rfl⟩
  have H0 : Hid (PX l S w p r [.int .u8 38, .int .u64 a, .int .u64 b, .int .u64 c] ((w.alloc (.cells #[.int .u8 38, .int .u64 a, .int .u64 b, .int .u64 c] 31)).alloc (.cells #[.int .u8 0, .int .u64 0, .int .u64 0, .string { data := #[] }, .int .i64 0, .int .i64 0, .int .i64 0, .int .i64 0, .int .i64 0, .int .i64 0, .int .i64 0, .int .i64 0, .int .i64 0, .int .i64 0, .int .i64 0, .int .i64 0, .int .i64 0, .int .i64 0, .int .i64 0, .int .i64 0, .int .u8 0, .int .i64 0, .int .i64 0, .int .i64 0, .int .i64 0, .int .i64 0, .int .i64 0, .int .i64 0, .int .i64 0, .int .i64 0, .int .i64 0, .int .i64 0, .int .i64 0, .int .i64 0, .int .i64 0] 46))) := hid (PX.start h hp hr)
  have HK := hid (fun wz (hz : AM l S wz) => nextLoggedZ hz a b)
  clear h
  go_enter Tryz.func86, Tryz.ntmps86
  go_upto_region 1 with fail
  (try simp only [World.size_alloc, hp, hr])
  generalize hw1 : World.alloc (w.alloc _) _ = w1 at H0 ⊢
  clear hw1 hp hr
  obtain ⟨c0, c1, c2, c3⟩ := H0.out.cells
  have HC := hid (HK.out w1 H0.out.am)
  go_wp2_with fail
  refine HC.out.mono ?_
  rintro e w2 ⟨v, cd, rfl, hb_⟩
  have H1 := hid (H0.out.below hb_.out.2)
  clear hb_
  clear HC H0 c0 c1 c2 c3
  obtain ⟨c0, c1, c2, c3⟩ := H1.out.cells
  have HC := hid (H1.out.bel (giveZ v 0 cd w2))
  go_wp2_with fail
  refine HC.out.mono ?_
  rintro e w3 ⟨rfl, H2⟩
  clear HC H1 c0 c1 c2 c3
  obtain ⟨c0, c1, c2, c3⟩ := H2.out.cells
  clear c0 c1 c2 c3
  go_wp2_with (refine wpList_store_blk rfl 46 _ _ rfl r rfl (rsG cd v 0) rfl H2.out.rb (by first | rfl | (rw [rsG_len]; rfl)) (by first | exact I0.out | (rw [rsG_len]; exact I0.out)) (rsG_one _ _ _) ?_; intro w9 HB9 HU9)
  refine bodyPost_ret (results_blk (cs := rsG cd v 0) Tryz.results86 rfl (by first | exact agg_rs | (rw [rsG_len]; exact agg_rs)) HB9.out) rfl ?_
  exact PyP.mk rfl (RsOk.g _ _ _) (H2.out.done HU9.out) (PlR.rd rfl (Rd.free (by decide) (by decide)))
set_option maxRecDepth 100000 in
set_option maxHeartbeats 8000000 in
theorem pl39 (h : AM l S w) (a b c : Int) (ha : U64 a) (hb : U64 b) (hc : U64 c) : Calls Tryz.prog 86 #[.pointer (some ⟨l.a, 0, none⟩), .agg #[.int .u8 39, .int .u64 a, .int .u64 b, .int .u64 c]] w (PyP l S w 39 a b c) := by
  have I0 := hid info_rs
  obtain ⟨p, hp⟩ : ∃ p, w.heap.size = p := ⟨_, rfl⟩
  obtain ⟨r, hr⟩ : ∃ r, p + 1 = r := ⟨_, rfl⟩
  have H0 : Hid (PX l S w p r [.int .u8 39, .int .u64 a, .int .u64 b, .int .u64 c] ((w.alloc (.cells #[.int .u8 39, .int .u64 a, .int .u64 b, .int .u64 c] 31)).alloc (.cells #[.int .u8 0, .int .u64 0, .int .u64 0, .string { data := #[] }, .int .i64 0, .int .i64 0, .int .i64 0, .int .i64 0, .int .i64 0, .int .i64 0, .int .i64 0, .int .i64 0, .int .i64 0, .int .i64 0, .int .i64 0, .int .i64 0, .int .i64 0, .int .i64 0, .int .i64 0, .int .i64 0, .int .u8 0, .int .i64 0, .int .i64 0, .int .i64 0, .int .i64 0, .int .i64 0, .int .i64 0, .int .i64 0, .int .i64 0, .int .i64 0, .int .i64 0, .int .i64 0, .int .i64 0, .int .i64 0, .int .i64 0] 46))) := hid (PX.start h hp hr)
  have HK := hid (fun wz (hz : AM l S wz) => nextDoomedZ hz a b)
  clear h
  go_enter Tryz.func86, Tryz.ntmps86
  go_upto_region 1 with fail
  (try simp only [World.size_alloc, hp, hr])
  generalize hw1 : World.alloc (w.alloc _) _ = w1 at H0 ⊢
  clear hw1 hp hr
  obtain ⟨c0, c1, c2, c3⟩ := H0.out.cells
  have HC := hid (HK.out w1 H0.out.am)
  go_wp2_with fail
  refine HC.out.mono ?_
  rintro e w2 ⟨v, cd, rfl, hb_⟩
  have H1 := hid (H0.out.below hb_.out.2)
  clear hb_
  clear HC H0 c0 c1 c2 c3
  obtain ⟨c0, c1, c2, c3⟩ := H1.out.cells
  have HC := hid (H1.out.bel (giveZ v 0 cd w2))
  go_wp2_with fail
  refine HC.out.mono ?_
  rintro e w3 ⟨rfl, H2⟩
  clear HC H1 c0 c1 c2 c3
  obtain ⟨c0, c1, c2, c3⟩ := H2.out.cells
  clear c0 c1 c2 c3
  go_wp2_with (refine wpList_store_blk rfl 46 _ _ rfl r rfl (rsG cd v 0) rfl H2.out.rb (by first | rfl | (rw [rsG_len]; rfl)) (by first | exact I0.out | (rw [rsG_len]; exact I0.out)) (rsG_one _ _ _) ?_; intro w9 HB9 HU9)
  refine bodyPost_ret (results_blk (cs := rsG cd v 0) Tryz.results86 rfl (by first | exact agg_rs | (rw [rsG_len]; exact agg_rs)) HB9.out) rfl ?_
  exact PyP.mk rfl (RsOk.g _ _ _) (H2.out.done HU9.out) (PlR.rd rfl (Rd.free (by decide) (by decide)))
set_option maxRecDepth 100000 in
set_option maxHeartbeats 8000000 in
theorem pl64 (h : AM l S w) (a b c : Int) (ha : U64 a) (hb : U64 b) (hc : U64 c) : Calls Tryz.prog 86 #[.pointer (some ⟨l.a, 0, none⟩), .agg #[.int .u8 64, .int .u64 a, .int .u64 b, .int .u64 c]] w (PyP l S w 64 a b c) := by
  have I0 := hid info_rs
  obtain ⟨p, hp⟩ : ∃ p, w.heap.size = p := ⟨_, rfl⟩
  obtain ⟨r, hr⟩ : ∃ r, p + 1 = r := ⟨_, rfl⟩
  have H0 : Hid (PX l S w p r [.int .u8 64, .int .u64 a, .int .u64 b, .int .u64 c] ((w.alloc (.cells #[.int .u8 64, .int .u64 a, .int .u64 b, .int .u64 c] 31)).alloc (.cells #[.int .u8 0, .int .u64 0, .int .u64 0, .string { data := #[] }, .int .i64 0, .int .i64 0, .int .i64 0, .int .i64 0, .int .i64 0, .int .i64 0, .int .i64 0, .int .i64 0, .int .i64 0, .int .i64 0, .int .i64 0, .int .i64 0, .int .i64 0, .int .i64 0, .int .i64 0, .int .i64 0, .int .u8 0, .int .i64 0, .int .i64 0, .int .i64 0, .int .i64 0, .int .i64 0, .int .i64 0, .int .i64 0, .int .i64 0, .int .i64 0, .int .i64 0, .int .i64 0, .int .i64 0, .int .i64 0, .int .i64 0] 46))) := hid (PX.start h hp hr)
  have HK := hid (fun wz (hz : AM l S wz) => countedBetweenZ hz a b)
  clear h
  go_enter Tryz.func86, Tryz.ntmps86
  go_upto_region 1 with fail
  (try simp only [World.size_alloc, hp, hr])
  generalize hw1 : World.alloc (w.alloc _) _ = w1 at H0 ⊢
  clear hw1 hp hr
  obtain ⟨c0, c1, c2, c3⟩ := H0.out.cells
  have HC := hid (HK.out w1 H0.out.am)
  go_wp2_with fail
  refine HC.out.mono ?_
  rintro e w2 ⟨m, cd, rfl, hm_, hb_⟩
  have H1 := hid (H0.out.below hb_.out)
  clear hb_ hm_
  obtain ⟨v, hv⟩ : ∃ v : Int, IntKind.u64.wrap (m : Int) = v := ⟨_, rfl⟩
  clear HC H0 c0 c1 c2 c3
  obtain ⟨c0, c1, c2, c3⟩ := H1.out.cells
  have HC := hid (H1.out.bel (giveZ v 0 cd w2))
  go_wp2_with fail
  refine HC.out.mono ?_
  rintro e w3 ⟨rfl, H2⟩
  clear HC H1 c0 c1 c2 c3
  obtain ⟨c0, c1, c2, c3⟩ := H2.out.cells
  clear c0 c1 c2 c3
  go_wp2_with (refine wpList_store_blk rfl 46 _ _ rfl r rfl (rsG cd v 0) rfl H2.out.rb (by first | rfl | (rw [rsG_len]; rfl)) (by first | exact I0.out | (rw [rsG_len]; exact I0.out)) (rsG_one _ _ _) ?_; intro w9 HB9 HU9)
  refine bodyPost_ret (results_blk (cs := rsG cd v 0) Tryz.results86 rfl (by first | exact agg_rs | (rw [rsG_len]; exact agg_rs)) HB9.out) rfl ?_
  exact PyP.mk rfl (RsOk.g _ _ _) (H2.out.done HU9.out) (PlR.rd rfl (Rd.free (by decide) (by decide)))
set_option maxRecDepth 100000 in
set_option maxHeartbeats 8000000 in
theorem pl65 (h : AM l S w) (a b c : Int) (ha : U64 a) (hb : U64 b) (hc : U64 c) : Calls Tryz.prog 86 #[.pointer (some ⟨l.a, 0, none⟩), .agg #[.int .u8 65, .int .u64 a, .int .u64 b, .int .u64 c]] w (PyP l S w 65 a b c) := by
  have I0 := hid info_rs
  obtain ⟨p, hp⟩ : ∃ p, w.heap.size = p := ⟨_, rfl⟩
  obtain ⟨r, hr⟩ : ∃ r, p + 1 = r := ⟨_, rfl⟩
  have H0 : Hid (PX l S w p r [.int .u8 65, .int .u64 a, .int .u64 b, .int .u64 c] ((w.alloc (.cells #[.int .u8 65, .int .u64 a, .int .u64 b, .int .u64 c] 31)).alloc (.cells #[.int .u8 0, .int .u64 0, .int .u64 0, .string { data := #[] }, .int .i64 0, .int .i64 0, .int .i64 0, .int .i64 0, .int .i64 0, .int .i64 0, .int .i64 0, .int .i64 0, .int .i64 0, .int .i64 0, .int .i64 0, .int .i64 0, .int .i64 0, .int .i64 0, .int .i64 0, .int .i64 0, .int .u8 0, .int .i64 0, .int .i64 0, .int .i64 0, .int .i64 0, .int .i64 0, .int .i64 0, .int .i64 0, .int .i64 0, .int .i64 0, .int .i64 0, .int .i64 0, .int .i64 0, .int .i64 0, .int .i64 0] 46))) := hid (PX.start h hp hr)
  have HK := hid (fun wz (hz : AM l S wz) => markedBetweenZ hz a b)
  clear h
  go_enter Tryz.func86, Tryz.ntmps86
  go_upto_region 1 with fail
  (try simp only [World.size_alloc, hp, hr])
  generalize hw1 : World.alloc (w.alloc _) _ = w1 at H0 ⊢
  clear hw1 hp hr
  obtain ⟨c0, c1, c2, c3⟩ := H0.out.cells
  have HC := hid (HK.out w1 H0.out.am)
  go_wp2_with fail
  refine HC.out.mono ?_
  rintro e w2 ⟨m, cd, rfl, hm_, hb_⟩
  have H1 := hid (H0.out.below hb_.out)
  clear hb_ hm_
  obtain ⟨v, hv⟩ : ∃ v : Int, IntKind.u64.wrap (m : Int) = v := ⟨_, rfl⟩
  clear HC H0 c0 c1 c2 c3
  obtain ⟨c0, c1, c2, c3⟩ := H1.out.cells
  have HC := hid (H1.out.bel (giveZ v 0 cd w2))
  go_wp2_with fail
  refine HC.out.mono ?_
  rintro e w3 ⟨rfl, H2⟩
  clear HC H1 c0 c1 c2 c3
  obtain ⟨c0, c1, c2, c3⟩ := H2.out.cells
  clear c0 c1 c2 c3
  go_wp2_with (refine wpList_store_blk rfl 46 _ _ rfl r rfl (rsG cd v 0) rfl H2.out.rb (by first | rfl | (rw [rsG_len]; rfl)) (by first | exact I0.out | (rw [rsG_len]; exact I0.out)) (rsG_one _ _ _) ?_; intro w9 HB9 HU9)
  refine bodyPost_ret (results_blk (cs := rsG cd v 0) Tryz.results86 rfl (by first | exact agg_rs | (rw [rsG_len]; exact agg_rs)) HB9.out) rfl ?_
  exact PyP.mk rfl (RsOk.g _ _ _) (H2.out.done HU9.out) (PlR.rd rfl (Rd.free (by decide) (by decide)))
set_option maxRecDepth 100000 in
set_option maxHeartbeats 8000000 in
theorem pl66 (h : AM l S w) (a b c : Int) (ha : U64 a) (hb : U64 b) (hc : U64 c) : Calls Tryz.prog 86 #[.pointer (some ⟨l.a, 0, none⟩), .agg #[.int .u8 66, .int .u64 a, .int .u64 b, .int .u64 c]] w (PyP l S w 66 a b c) := by
  have I0 := hid info_rs
  obtain ⟨p, hp⟩ : ∃ p, w.heap.size = p := ⟨_, rfl⟩
  obtain ⟨r, hr⟩ : ∃ r, p + 1 = r := ⟨_, rfl⟩
  have H0 : Hid (PX l S w p r [.int .u8 66, .int .u64 a, .int .u64 b, .int .u64 c] ((w.alloc (.cells #[.int .u8 66, .int .u64 a, .int .u64 b, .int .u64 c] 31)).alloc (.cells #[.int .u8 0, .int .u64 0, .int .u64 0, .string { data := #[] }, .int .i64 0, .int .i64 0, .int .i64 0, .int .i64 0, .int .i64 0, .int .i64 0, .int .i64 0, .int .i64 0, .int .i64 0, .int .i64 0, .int .i64 0, .int .i64 0, .int .i64 0, .int .i64 0, .int .i64 0, .int .i64 0, .int .u8 0, .int .i64 0, .int .i64 0, .int .i64 0, .int .i64 0, .int .i64 0, .int .i64 0, .int .i64 0, .int .i64 0, .int .i64 0, .int .i64 0, .int .i64 0, .int .i64 0, .int .i64 0, .int .i64 0] 46))) := hid (PX.start h hp hr)
  have HK := hid (fun wz (hz : AM l S wz) => loggedBetweenZ hz a b)
  clear h
  go_enter Tryz.func86, Tryz.ntmps86
  go_upto_region 1 with fail
  (try simp only [World.size_alloc, hp, hr])
  generalize hw1 : World.alloc (w.alloc _) _ = w1 at H0 ⊢
  clear hw1 hp hr
  obtain ⟨c0, c1, c2, c3⟩ := H0.out.cells
  have HC := hid (HK.out w1 H0.out.am)
  go_wp2_with fail
  refine HC.out.mono ?_
  rintro e w2 ⟨m, cd, rfl, hm_, hb_⟩
  have H1 := hid (H0.out.below hb_.out)
  clear hb_ hm_
  obtain ⟨v, hv⟩ : ∃ v : Int, IntKind.u64.wrap (m : Int) = v := ⟨_, rfl⟩
  clear HC H0 c0 c1 c2 c3
  obtain ⟨c0, c1, c2, c3⟩ := H1.out.cells
  have HC := hid (H1.out.bel (giveZ v 0 cd w2))
  go_wp2_with fail
  refine HC.out.mono ?_
  rintro e w3 ⟨rfl, H2⟩
  clear HC H1 c0 c1 c2 c3
  obtain ⟨c0, c1, c2, c3⟩ := H2.out.cells
  clear c0 c1 c2 c3
  go_wp2_with (refine wpList_store_blk rfl 46 _ _ rfl r rfl (rsG cd v 0) rfl H2.out.rb (by first | rfl | (rw [rsG_len]; rfl)) (by first | exact I0.out | (rw [rsG_len]; exact I0.out)) (rsG_one _ _ _) ?_; intro w9 HB9 HU9)
  refine bodyPost_ret (results_blk (cs := rsG cd v 0) Tryz.results86 rfl (by first | exact agg_rs | (rw [rsG_len]; exact agg_rs)) HB9.out) rfl ?_
  exact PyP.mk rfl (RsOk.g _ _ _) (H2.out.done HU9.out) (PlR.rd rfl (Rd.free (by decide) (by decide)))
end
end Go.Proofs.Qxb6500887aGreat
