/- Census (written by tools/mk_azyc.py). -/
import Derived.Test.Qxb6500887aGreatAzYb
namespace Go.Proofs.Qxb6500887aGreat
open Go.RowKit
set_option linter.unusedSimpArgs false
set_option linter.unusedVariables false

section
variable {l : AL} {S : AS} {w w' w0 : World} {p q : Nat} {cs : List Value} {o : Ob} {gs : List (Nat × TypeId × Nat)} {bs : List (Nat × TypeId × List Value)}
theorem ent_ce : FnE 266 := fun args w => by simp [callFunc, Tryz.func266, Tryz.f266]
set_option maxRecDepth 100000 in
set_option maxHeartbeats 8000000 in
theorem census1Z {gc rr bx : Nat} (H2 : Hid (RG l S w0 [(gc, 44, 8), (rr, 44, 8)] [(bx, 24, [.pointer (some ⟨l.a, 0, none⟩)])] w)) (k : Nat) (v : Int) (hk : k < 16384) : Calls Tryz.prog 266 #[.int .i64 (k : Int), .int .u64 v, .pointer (some ⟨bx, 0, none⟩), .pointer (some ⟨gc, 0, none⟩)] w (OkP fun w' => RG l S w0 [(gc, 44, 8), (rr, 44, 8)] [(bx, 24, [.pointer (some ⟨l.a, 0, none⟩)])] w') := by
  have I0 := hid info_ob
  have k2 : w.cell? ⟨bx, 0, none⟩ = some (.pointer (some ⟨l.a, 0, none⟩)) := (H2.out.fix (bx, 24, [.pointer (some ⟨l.a, 0, none⟩)]) (by simp)).cell 0
  have HO := hid (openGranuleZ H2.out.am k hk)
  have Hlen := hid (opL_len l S k)
  have Hone := hid (opL_one l S k)
  have HOk := hid (fun (hc : opC S k = 0) => (opC_ok hk (H2.out.am.wl _) hc).2.1)
  go_enter Tryz.func266, Tryz.ntmps266
  go_wp2_with fail
  refine HO.out.mono ?_
  rintro e w3 ⟨rfl, hb3⟩
  have H3 := hid (H2.out.below hb3)
  clear hb3 H2 HO k2
  obtain ⟨q, hq⟩ : ∃ q, w3.heap.size = q := ⟨_, rfl⟩
  have HN : Hid (Blk (w3.alloc (.cells #[.pointer none, .int .i64 0, .int .u64 0, .int .i64 0, .int .i64 0] 61)) q 61 ob0) := hid (by
    have kk := Blk.new w3 ob0 61
    rw [hq] at kk
    exact kk)
  (try simp only [hq])
  go_upto_region 2 with (refine wpList_store_blk rfl 61 _ _ rfl q rfl (opL l S k) rfl HN.out (by rw [Hlen.out]; rfl) (by rw [Hlen.out]; exact I0.out) Hone.out ?_; intro w4 HB4 HU4)
  by_cases hc : opC S k = 0
  rotate_left
  · as_aux_lemma =>
    have H4 := hid ((H3.out.newSet (cs := ob0) hq HU4.out HB4.out).drop)
    have dc : (opC S k == 0) = false := by simpa using hc
    have dc2 : (opC S k != 0) = true := by simp [bne, dc]
    generalize opC S k = c at *
    clear hc HB4 HU4 H3 HN hq
    go_wp2
    go_ret
    exact OkP.mk rfl H4.out
  as_aux_lemma =>
  have hob := HOk.out hc
  have e1 : opL l S k = obL l (opO S k) := by unfold opL; rw [if_pos hc]
  rw [e1] at HB4
  rw [hc]
  have H4 : Hid (RG l S w0 [(gc, 44, 8), (rr, 44, 8)] [(q, 61, obL l (opO S k)), (bx, 24, [.pointer (some ⟨l.a, 0, none⟩)])] w4) := hid (H3.out.newSet (cs := ob0) hq HU4.out HB4.out)
  clear HB4 HU4 H3 HN hq HOk Hlen Hone e1 hc
  have hs2 := hob.s2
  have HLk := hid (fun wz (hz : AM l S wz) => linksZ hz hob)
  have HWd := hid (fun wz => hdWordsZ (opO S k).sz (opO S k).rf hs2 wz)
  have hkb := hob.k
  generalize hL : (((rfsL S ((opO S k).k + 1) (opO S k).rf).filter fun (x : Nat) => decide (rfOk (x : Int))).length : Int) = nl at *
  generalize hoo : opO S k = o at *
  clear hoo hL hob
  have HLk2 : Hid (∀ wz, AM l S wz → Calls Tryz.prog 267 #[.agg #[.pointer (some ⟨l.a, 0, none⟩), .int .i64 (o.k : Int), .int .u64 (o.raw : Int), .int .i64 (o.sz : Int), .int .i64 (o.rf : Int)]] wz fun e w' => e = .returned (.int .i64 nl) ∧ Below wz.heap.size wz w') := hid (fun wz hz => (HLk.out wz hz).mono (by rintro e w1 ⟨rfl, h⟩; exact ⟨rfl, h.out⟩))
  obtain ⟨⟨x_, cx_⟩, zx_⟩ := H4.out.icell (i := 4) (show (gc, 44, 8) ∈ _ by simp) (by decide)
  go_upto_region 5 with fail
  have HP_ := hid (fun y => H4.out.put (show (gc, 44, 8) ∈ _ by simp) 4 y)
  generalize hz_ : World.setCell _ (⟨gc, 4, none⟩ : Addr) _ = w_H5
  have H5 : Hid (RG l S w0 [(gc, 44, 8), (rr, 44, 8)] [(q, 61, obL l o), (bx, 24, [.pointer (some ⟨l.a, 0, none⟩)])] w_H5) := hid (by rw [← hz_]; exact HP_.out _)
  clear hz_ HP_ cx_ zx_ H4
  go_upto_region 5 with fail
  obtain ⟨X, W, HTT, HH0, hne, HCl⟩ := class_below w_H5
  obtain ⟨⟨xe, ce⟩, ze⟩ := H5.out.icell (i := 5) (show (gc, 44, 8) ∈ _ by simp) (by decide)
  have hlt : gc < w_H5.heap.size := by
    obtain ⟨_, _, h2⟩ := H5.out.ints (gc, 44, 8) (by simp)
    exact h2.lt
  have y9 : ∀ y, (W y).cell? ⟨gc, 5, none⟩ = some (.int .i64 xe) := fun y => by
    rw [← ce]
    exact World.cell?_of_block ((HTT.out y).block gc hlt)
  have y0 : ∀ y, (W y).cell? ⟨q, 0, none⟩ = some (.pointer (some ⟨l.a, 0, none⟩)) := fun y => ((H5.out.below (HTT.out y)).fix (q, 61, obL l o) (by simp)).cell 0
  have y1 : ∀ y, (W y).cell? ⟨q, 1, none⟩ = some (.int .i64 (o.k : Int)) := fun y => ((H5.out.below (HTT.out y)).fix (q, 61, obL l o) (by simp)).cell 1
  have y2 : ∀ y, (W y).cell? ⟨q, 2, none⟩ = some (.int .u64 (o.raw : Int)) := fun y => ((H5.out.below (HTT.out y)).fix (q, 61, obL l o) (by simp)).cell 2
  have y3 : ∀ y, (W y).cell? ⟨q, 3, none⟩ = some (.int .i64 (o.sz : Int)) := fun y => ((H5.out.below (HTT.out y)).fix (q, 61, obL l o) (by simp)).cell 3
  have y4 : ∀ y, (W y).cell? ⟨q, 4, none⟩ = some (.int .i64 (o.rf : Int)) := fun y => ((H5.out.below (HTT.out y)).fix (q, 61, obL l o) (by simp)).cell 4
  have HCt := hid (fun y => HWd.out (W y))
  refine wp_region_class_lastT W rfl (by kernel_rfl) (by kernel_rfl) (by kernel_rfl) HH0.out ?_
  dsimp only [List.dropLast, List.getLast]
  repeat (go_big_quiet_step (first | (go_at_call 42; with_reducible exact Calls.class_of HCl.out (HCt.out _))))
  refine wpQuiet_nil ?_
  intro y
  have Hq := hid (H5.out.below (HTT.out y))
  generalize W y = wq at Hq ⊢
  clear y0 y1 y2 y3 y4 y9 HCt HH0 HTT HCl hne H5 ce ze hlt
  obtain ⟨⟨x_, cx_⟩, zx_⟩ := Hq.out.icell (i := 5) (show (gc, 44, 8) ∈ _ by simp) (by decide)
  go_upto_region 6 with fail
  have HP_ := hid (fun y => Hq.out.put (show (gc, 44, 8) ∈ _ by simp) 5 y)
  generalize hz_ : World.setCell _ (⟨gc, 5, none⟩ : Addr) _ = w_H6
  have H6 : Hid (RG l S w0 [(gc, 44, 8), (rr, 44, 8)] [(q, 61, obL l o), (bx, 24, [.pointer (some ⟨l.a, 0, none⟩)])] w_H6) := hid (by rw [← hz_]; exact HP_.out _)
  clear hz_ HP_ cx_ zx_ Hq
  have q0 := (H6.out.fix (q, 61, obL l o) (by simp)).cell 0
  have q1 := (H6.out.fix (q, 61, obL l o) (by simp)).cell 1
  have q2 := (H6.out.fix (q, 61, obL l o) (by simp)).cell 2
  have q3 := (H6.out.fix (q, 61, obL l o) (by simp)).cell 3
  have q4 := (H6.out.fix (q, 61, obL l o) (by simp)).cell 4
  simp only [obL, List.getElem?_cons_zero, List.getElem?_cons_succ] at q0 q1 q2 q3 q4
  obtain ⟨⟨x_, cx_⟩, zx_⟩ := H6.out.icell (i := 6) (show (gc, 44, 8) ∈ _ by simp) (by decide)
  go_upto_region 7 with fail
  have HP_ := hid (fun y => H6.out.put (show (gc, 44, 8) ∈ _ by simp) 6 y)
  generalize hz_ : World.setCell _ (⟨gc, 6, none⟩ : Addr) _ = w_H7
  have H7 : Hid (RG l S w0 [(gc, 44, 8), (rr, 44, 8)] [(q, 61, obL l o), (bx, 24, [.pointer (some ⟨l.a, 0, none⟩)])] w_H7) := hid (by rw [← hz_]; exact HP_.out _)
  clear hz_ HP_ cx_ zx_ H6
  clear q0 q1 q2 q3 q4
  go_upto_region 7 with fail
  obtain ⟨X, W, HTT, HH0, hne, HCl⟩ := class_below w_H7
  obtain ⟨⟨xe, ce⟩, ze⟩ := H7.out.icell (i := 7) (show (gc, 44, 8) ∈ _ by simp) (by decide)
  have hlt : gc < w_H7.heap.size := by
    obtain ⟨_, _, h2⟩ := H7.out.ints (gc, 44, 8) (by simp)
    exact h2.lt
  have y9 : ∀ y, (W y).cell? ⟨gc, 7, none⟩ = some (.int .i64 xe) := fun y => by
    rw [← ce]
    exact World.cell?_of_block ((HTT.out y).block gc hlt)
  have y0 : ∀ y, (W y).cell? ⟨q, 0, none⟩ = some (.pointer (some ⟨l.a, 0, none⟩)) := fun y => ((H7.out.below (HTT.out y)).fix (q, 61, obL l o) (by simp)).cell 0
  have y1 : ∀ y, (W y).cell? ⟨q, 1, none⟩ = some (.int .i64 (o.k : Int)) := fun y => ((H7.out.below (HTT.out y)).fix (q, 61, obL l o) (by simp)).cell 1
  have y2 : ∀ y, (W y).cell? ⟨q, 2, none⟩ = some (.int .u64 (o.raw : Int)) := fun y => ((H7.out.below (HTT.out y)).fix (q, 61, obL l o) (by simp)).cell 2
  have y3 : ∀ y, (W y).cell? ⟨q, 3, none⟩ = some (.int .i64 (o.sz : Int)) := fun y => ((H7.out.below (HTT.out y)).fix (q, 61, obL l o) (by simp)).cell 3
  have y4 : ∀ y, (W y).cell? ⟨q, 4, none⟩ = some (.int .i64 (o.rf : Int)) := fun y => ((H7.out.below (HTT.out y)).fix (q, 61, obL l o) (by simp)).cell 4
  have HCt := hid (fun y => HLk2.out (W y) (H7.out.below (HTT.out y)).am)
  refine wp_region_class_lastT W rfl (by kernel_rfl) (by kernel_rfl) (by kernel_rfl) HH0.out ?_
  dsimp only [List.dropLast, List.getLast]
  repeat (go_big_quiet_step (first | (go_at_call 267; with_reducible exact Calls.class_of HCl.out (HCt.out _))))
  refine wpQuiet_nil ?_
  intro y
  have Hq := hid (H7.out.below (HTT.out y))
  generalize W y = wq at Hq ⊢
  clear y0 y1 y2 y3 y4 y9 HCt HH0 HTT HCl hne H7 ce ze hlt
  obtain ⟨⟨x_, cx_⟩, zx_⟩ := Hq.out.icell (i := 7) (show (gc, 44, 8) ∈ _ by simp) (by decide)
  go_upto_region 8 with fail
  have HP_ := hid (fun y => Hq.out.put (show (gc, 44, 8) ∈ _ by simp) 7 y)
  generalize hz_ : World.setCell _ (⟨gc, 7, none⟩ : Addr) _ = w_H8
  have H8 : Hid (RG l S w0 [(gc, 44, 8), (rr, 44, 8)] [(q, 61, obL l o), (bx, 24, [.pointer (some ⟨l.a, 0, none⟩)])] w_H8) := hid (by rw [← hz_]; exact HP_.out _)
  clear hz_ HP_ cx_ zx_ Hq
  go_wp2
  go_ret
  exact OkP.mk rfl H8.out.drop
set_option maxRecDepth 100000 in
set_option maxHeartbeats 8000000 in
theorem censusZ (h : AM l S w) : Calls Tryz.prog 240 #[.pointer (some ⟨l.a, 0, none⟩)] w fun e w' => ∃ xs : List Int, xs.length = 8 ∧ e = .returned (.agg (xs.map inV).toArray) ∧ Hid (Below w.heap.size w w') := by
  obtain ⟨bx, hbx⟩ : ∃ r, w.heap.size = r := ⟨_, rfl⟩
  obtain ⟨rr, hrr⟩ : ∃ r, bx + 1 = r := ⟨_, rfl⟩
  have H0 : Hid (RG l S w [(rr, 44, 8)] [(bx, 24, [.pointer (some ⟨l.a, 0, none⟩)])] ((w.alloc (.cells #[.pointer (some ⟨l.a, 0, none⟩)] 24)).alloc (.cells #[.int .i64 0, .int .i64 0, .int .i64 0, .int .i64 0, .int .i64 0, .int .i64 0, .int .i64 0, .int .i64 0] 44))) := hid (((RG.start h).newF hbx 24 [.pointer (some ⟨l.a, 0, none⟩)]).newI (by rw [World.size_alloc]; omega) 44 [0, 0, 0, 0, 0, 0, 0, 0])
  clear h
  have en1 : ∀ args w, (callFunc 266 args).run Tryz.prog w = .ok (.enter 266 args) w := ent_ce
  go_enter Tryz.func240, Tryz.ntmps240
  go_upto_region 1 with fail
  (try simp only [World.size_alloc, hbx, hrr])
  generalize hw1 : World.alloc (w.alloc _) _ = w1 at H0 ⊢
  clear hw1 hbx hrr
  obtain ⟨gc, hgc⟩ : ∃ u, w1.heap.size = u := ⟨_, rfl⟩
  have H1 : Hid (RG l S w [(gc, 44, 8), (rr, 44, 8)] [(bx, 24, [.pointer (some ⟨l.a, 0, none⟩)])] (w1.alloc (.cells #[.int .i64 0, .int .i64 0, .int .i64 0, .int .i64 0, .int .i64 0, .int .i64 0, .int .i64 0, .int .i64 0] 44))) := hid (H0.out.newI hgc 44 [0, 0, 0, 0, 0, 0, 0, 0])
  go_upto_region 2 with fail
  (try simp only [hgc])
  generalize hw2 : w1.alloc _ = w2 at H1 ⊢
  clear hw2 hgc H0
  go_upto_region 3 with fail
  go_loopw [5] (fun u wr => ∃ b : Nat, u = .int .i64 (b : Int) ∧ b ≤ 4 ∧ Hid (RG l S w [(gc, 44, 8), (rr, 44, 8)] [(bx, 24, [.pointer (some ⟨l.a, 0, none⟩)])] wr)) (fun u _ => 4 - (intOf u).toNat)
  case atStart => exact ⟨0, rfl, by omega, H1⟩
  case round =>
  clear H1
  obtain ⟨b, rfl, hb, HK⟩ := hrel
  have k1 := HK.out.am.cells.2.1
  have k2 : wr.cell? ⟨bx, 0, none⟩ = some (.pointer (some ⟨l.a, 0, none⟩)) := (HK.out.fix (bx, 24, [.pointer (some ⟨l.a, 0, none⟩)]) (by simp)).cell 0
  by_cases hbn : b < 4
  · as_aux_lemma =>
    have dq : decide ((b : Int) < 4) = true := decide_eq_true (by omega)
    have dq' : decide (b < 4) = true := decide_eq_true (by omega)
    have HN : Hid (Calls Tryz.prog 262 #[.pointer (some ⟨l.tc, 0, none⟩), .int .i64 0, .int .i64 16384, .int .u64 (b : Int)] wr fun e w' => ∃ c : Nat, e = .returned (.tuple #[.int .i64 ((16384 : Int) - 0 - (c : Int)), .bool true]) ∧ c ≤ 16777216 ∧ Hid (Below wr.heap.size wr w')) := hid (HK.out.am.tc.countEqual 0 16384 b (by omega) (by omega) (by have : 2 ^ 2 - 1 = 3 := rfl; omega))
    go_wp2_with fail
    refine HN.out.mono ?_
    rintro e w3 ⟨c, rfl, hc, HB⟩
    have HR := hid (HK.out.below HB.out)
    obtain ⟨⟨x_, cx_⟩, zx_⟩ := HR.out.icell (i := b) (show (gc, 44, 8) ∈ _ by simp) (by omega)
    clear HB HK HN k1 k2
    go_upto_region 6 with fail
    have HP_ := hid (fun y => HR.out.put (show (gc, 44, 8) ∈ _ by simp) b y)
    generalize hz_ : World.setCell _ (⟨gc, b, none⟩ : Addr) _ = w_4
    have HF : Hid (RG l S w [(gc, 44, 8), (rr, 44, 8)] [(bx, 24, [.pointer (some ⟨l.a, 0, none⟩)])] w_4) := hid (by rw [← hz_]; exact HP_.out _)
    clear hz_ HP_ cx_ zx_ HR
    go_wp2
    exact ⟨⟨b + 1, by go_num, by omega, HF⟩, by simp [intOf]; omega⟩
  as_aux_lemma =>
  have dq : decide ((b : Int) < 4) = false := decide_eq_false (by omega)
  have dq' : decide (b < 4) = false := decide_eq_false (by omega)
  have HE : Hid (Calls Tryz.prog 230 #[.pointer (some ⟨l.tc, 0, none⟩), .int .i64 ((0 : Nat) : Int), .int .i64 ((16384 : Nat) : Int), .func (.func 266) #[] #[.pointer (some ⟨bx, 0, none⟩), .pointer (some ⟨gc, 0, none⟩)]] wr fun e w' => e = .returned (.bool true) ∧ RG l S w [(gc, 44, 8), (rr, 44, 8)] [(bx, 24, [.pointer (some ⟨l.a, 0, none⟩)])] w') := hid
    (TB.each (n := 16384) (wd := 2) (per := 32) (len := 512) (X := S.C) (b := l.bc) (t := l.tc) (w := wr) 266 #[.pointer (some ⟨bx, 0, none⟩), .pointer (some ⟨gc, 0, none⟩)] (fun w1 => RG l S w [(gc, 44, 8), (rr, 44, 8)] [(bx, 24, [.pointer (some ⟨l.a, 0, none⟩)])] w1) HK.out (fun w1 h1 => h1.am.tc) (fun w1 w2 h1 h2 => h1.below h2) 0 16384 (by omega) (by omega) (fun k w1 k1 k2 k3 h1 => census1Z (hid h1) k _ k2) ent_ce)
  go_wp2_with fail
  refine HE.out.mono ?_
  rintro e w4 ⟨rfl, h4⟩
  have H4 := hid h4
  clear h4 HK k1 k2 HE
  have HGi := hid (H4.out.ints (gc, 44, 8) (by simp))
  have HRi := hid (H4.out.ints (rr, 44, 8) (by simp))
  obtain ⟨xs, hl, hbx⟩ := HGi.out
  obtain ⟨ys, hl2, hby⟩ := HRi.out
  have Hx := hid hbx
  have Hy := hid hby
  have Hl := hid (show (xs.map inV).length = 8 by rw [List.length_map]; exact hl)
  have Hl2 := hid (show (ys.map inV).length = 8 by rw [List.length_map]; exact hl2)
  have Hone := hid (inV_one xs)
  have Hxs := hid hl
  clear hbx hby hl hl2 HGi HRi
  generalize hcs : xs.map inV = cs_ at *
  have Hcs := hid hcs
  clear hcs
  go_wp2_with (first | (refine wpList_load_blk rfl 44 _ rfl gc rfl cs_ Hx.out _ Tryz.underlying44 rfl (by rw [Hl.out]; exact info_ce) ?_) | (refine wpList_store_blk rfl 44 _ _ rfl rr rfl cs_ rfl Hy.out (by rw [Hl.out, Hl2.out]) (by rw [Hl.out]; exact info_ce) Hone.out ?_; intro w9 HB9 HU9))
  refine bodyPost_ret (results_blk (cs := cs_) Tryz.results240 rfl (by rw [Hl.out]; exact agg_ce) HB9.out) rfl ?_
  exact ⟨xs, Hxs.out, by rw [Hcs.out], hid (H4.out.bel.trans (HU9.out.below (H4.out.lo (rr, 44, 8) (by simp)) H4.out.bel.size))⟩
end
end Go.Proofs.Qxb6500887aGreat
