/- AuditLines (written by tools/mk_azyd.py). -/
import Derived.Test.Qxb6500887aGreatAzYc
namespace Go.Proofs.Qxb6500887aGreat
open Go.RowKit
set_option linter.unusedSimpArgs false
set_option linter.unusedVariables false

def z2049 : List Value := (List.replicate 2049 (0 : Int)).map inV
theorem zero_2049 (w : World) : (zeroValue 251).run Tryz.prog w = .ok (.agg z2049.toArray) w := by kernel_rfl
section
variable {l : AL} {S : AS} {w w' w0 : World} {p q : Nat} {cs : List Value} {o : Ob} {gs : List (Nat × TypeId × Nat)} {bs : List (Nat × TypeId × List Value)}
theorem ent_al : FnE 265 := fun args w => by simp [callFunc, Tryz.func265, Tryz.f265]
set_option maxRecDepth 100000 in
set_option maxHeartbeats 8000000 in
theorem auditLines1Z {gst rr bx : Nat} (H2 : Hid (RG l S w0 [(gst, 251, 2049), (rr, 38, 3)] [(bx, 24, [.pointer (some ⟨l.a, 0, none⟩)])] w)) (k : Nat) (v : Int) (hk : k < 16384) : Calls Tryz.prog 265 #[.int .i64 (k : Int), .int .u64 v, .pointer (some ⟨bx, 0, none⟩), .pointer (some ⟨gst, 0, none⟩)] w (OkP fun w' => RG l S w0 [(gst, 251, 2049), (rr, 38, 3)] [(bx, 24, [.pointer (some ⟨l.a, 0, none⟩)])] w') := by
  have I0 := hid info_ob
  have k2 : w.cell? ⟨bx, 0, none⟩ = some (.pointer (some ⟨l.a, 0, none⟩)) := (H2.out.fix (bx, 24, [.pointer (some ⟨l.a, 0, none⟩)]) (by simp)).cell 0
  have HO := hid (openGranuleZ H2.out.am k hk)
  have Hlen := hid (opL_len l S k)
  have Hone := hid (opL_one l S k)
  have HOk := hid (fun (hc : opC S k = 0) => (opC_ok hk (H2.out.am.wl _) hc).2.1)
  go_enter Tryz.func265, Tryz.ntmps265
  go_wp2_with fail
  refine HO.out.mono ?_
  rintro e w3 ⟨rfl, hb3⟩
  have H3 := hid (H2.out.below hb3)
  clear hb3 H2 HO k2
  obtain ⟨q, hq⟩ : ∃ q, w3.heap.size = q := ⟨_, rfl⟩
  have HN : Hid (Blk (w3.alloc (.cells #[.pointer none, .int .i64 0, .int .u64 0, .int .i64 0, .int .i64 0] 61)) q 61 ob0) := hid (by
    have kk := Blk.new w3 ob0 61
    rw [hq] at kk
    exact kk)
  (try simp only [hq])
  go_upto_region 2 with (refine wpList_store_blk rfl 61 _ _ rfl q rfl (opL l S k) rfl HN.out (by rw [Hlen.out]; rfl) (by rw [Hlen.out]; exact I0.out) Hone.out ?_; intro w4 HB4 HU4)
  by_cases hc : opC S k = 0
  rotate_left
  · as_aux_lemma =>
    have H4 := hid ((H3.out.newSet (cs := ob0) hq HU4.out HB4.out).drop)
    have dc : (opC S k == 0) = false := by simpa using hc
    have dc2 : (opC S k != 0) = true := by simp [bne, dc]
    generalize opC S k = c at *
    clear hc HB4 HU4 H3 HN hq
    go_wp2
    go_ret
    exact OkP.mk rfl H4.out
  as_aux_lemma =>
  have hob := HOk.out hc
  have e1 : opL l S k = obL l (opO S k) := by unfold opL; rw [if_pos hc]
  rw [e1] at HB4
  rw [hc]
  have H4 : Hid (RG l S w0 [(gst, 251, 2049), (rr, 38, 3)] [(q, 61, obL l (opO S k)), (bx, 24, [.pointer (some ⟨l.a, 0, none⟩)])] w4) := hid (H3.out.newSet (cs := ob0) hq HU4.out HB4.out)
  clear HB4 HU4 H3 HN hq HOk Hlen Hone e1 hc
  have HEx := hid (fun wz (hz : AM l S wz) => obExtentZ hz hob)
  have hE : EOk (opO S k).k (1 + (opO S k).sz) := ⟨by omega, by have := hob.k; omega, hob.ev⟩
  have HFl := hid (fun wz => extFirst_nat hE wz)
  have HLl := hid (fun wz => extLast_nat hE wz)
  obtain ⟨hl1, hl2⟩ := hE.lo
  clear hE hob
  generalize loL (opO S k).k = lo at *
  generalize hiL (opO S k).k (1 + (opO S k).sz) = la at *
  obtain ⟨nn, hnn⟩ : ∃ nn, 1 + (opO S k).sz = nn := ⟨_, rfl⟩
  simp only [hnn] at HEx HFl HLl
  clear hnn
  generalize hoo : opO S k = o at *
  clear hoo
  have q0 := (H4.out.fix (q, 61, obL l o) (by simp)).cell 0
  have q1 := (H4.out.fix (q, 61, obL l o) (by simp)).cell 1
  have q2 := (H4.out.fix (q, 61, obL l o) (by simp)).cell 2
  have q3 := (H4.out.fix (q, 61, obL l o) (by simp)).cell 3
  have q4 := (H4.out.fix (q, 61, obL l o) (by simp)).cell 4
  simp only [obL, List.getElem?_cons_zero, List.getElem?_cons_succ] at q0 q1 q2 q3 q4
  go_wp2_with fail
  refine (HEx.out _ H4.out.am).mono ?_
  rintro e w5 ⟨rfl, hb5⟩
  have H5 := hid (H4.out.below hb5)
  clear hb5 H4 q0 q1 q2 q3 q4 HEx
  obtain ⟨r, hr⟩ : ∃ r, w5.heap.size = r := ⟨_, rfl⟩
  have H6 : Hid (RG l S w0 [(gst, 251, 2049), (rr, 38, 3)] [(r, 84, [.int .i64 (o.k : Int), .int .i64 (nn : Int)]), (q, 61, obL l o), (bx, 24, [.pointer (some ⟨l.a, 0, none⟩)])] (w5.alloc (.cells #[.int .i64 (o.k : Int), .int .i64 (nn : Int)] 84))) := hid (H5.out.newF hr 84 [.int .i64 (o.k : Int), .int .i64 (nn : Int)])
  go_upto_region 4 with fail
  (try simp only [hr])
  generalize hw6 : w5.alloc _ = w6 at H6 ⊢
  clear hw6 hr H5
  have q5 := (H6.out.fix (r, 84, [.int .i64 (o.k : Int), .int .i64 (nn : Int)]) (by simp)).cell 0
  have q6 := (H6.out.fix (r, 84, [.int .i64 (o.k : Int), .int .i64 (nn : Int)]) (by simp)).cell 1
  simp only [List.getElem?_cons_zero, List.getElem?_cons_succ] at q5 q6
  go_wp2_with fail
  refine (HFl.out w6).mono ?_
  rintro e w7 ⟨rfl, hb7⟩
  have H7 := hid (H6.out.below hb7)
  clear hb7 H6 q5 q6 HFl
  obtain ⟨⟨x_, cx_⟩, zx_⟩ := H7.out.icell (i := lo) (show (gst, 251, 2049) ∈ _ by simp) (by omega)
  go_upto_region 5 with fail
  have HP_ := hid (fun y => H7.out.put (show (gst, 251, 2049) ∈ _ by simp) lo y)
  generalize hz_ : World.setCell _ (⟨gst, lo, none⟩ : Addr) _ = w8
  have H8 : Hid (RG l S w0 [(gst, 251, 2049), (rr, 38, 3)] [(r, 84, [.int .i64 (o.k : Int), .int .i64 (nn : Int)]), (q, 61, obL l o), (bx, 24, [.pointer (some ⟨l.a, 0, none⟩)])] w8) := hid (by rw [← hz_]; exact HP_.out _)
  clear hz_ HP_ cx_ zx_ H7
  have q5 := (H8.out.fix (r, 84, [.int .i64 (o.k : Int), .int .i64 (nn : Int)]) (by simp)).cell 0
  have q6 := (H8.out.fix (r, 84, [.int .i64 (o.k : Int), .int .i64 (nn : Int)]) (by simp)).cell 1
  simp only [List.getElem?_cons_zero, List.getElem?_cons_succ] at q5 q6
  go_wp2_with fail
  refine (HLl.out w8).mono ?_
  rintro e w9 ⟨rfl, hb9⟩
  have H9 := hid (H8.out.below hb9)
  clear hb9 H8 q5 q6 HLl
  obtain ⟨⟨x_, cx_⟩, zx_⟩ := H9.out.icell (i := la + 1) (show (gst, 251, 2049) ∈ _ by simp) (by omega)
  go_wp2
  go_ret
  exact OkP.mk rfl ((H9.out.put (show (gst, 251, 2049) ∈ _ by simp) (la + 1) _).drop.drop)
set_option maxRecDepth 100000 in
set_option maxHeartbeats 8000000 in
theorem auditLinesZ (h : AM l S w) : Calls Tryz.prog 239 #[.pointer (some ⟨l.a, 0, none⟩)] w fun e w' => ∃ xs : List Int, xs.length = 3 ∧ e = .returned (.agg (xs.map inV).toArray) ∧ Hid (Below w.heap.size w w') := by
  obtain ⟨bx, hbx⟩ : ∃ r, w.heap.size = r := ⟨_, rfl⟩
  obtain ⟨rr, hrr⟩ : ∃ r, bx + 1 = r := ⟨_, rfl⟩
  have H0 : Hid (RG l S w [(rr, 38, 3)] [(bx, 24, [.pointer (some ⟨l.a, 0, none⟩)])] ((w.alloc (.cells #[.pointer (some ⟨l.a, 0, none⟩)] 24)).alloc (.cells #[.int .i64 0, .int .i64 0, .int .i64 0] 38))) := hid (((RG.start h).newF hbx 24 [.pointer (some ⟨l.a, 0, none⟩)]).newI (by rw [World.size_alloc]; omega) 38 [0, 0, 0])
  clear h
  have en1 : ∀ args w, (callFunc 265 args).run Tryz.prog w = .ok (.enter 265 args) w := ent_al
  go_enter Tryz.func239, Tryz.ntmps239
  go_upto_region 1 with fail
  (try simp only [World.size_alloc, hbx, hrr])
  generalize hw1 : World.alloc (w.alloc _) _ = w1 at H0 ⊢
  clear hw1 hbx hrr
  obtain ⟨gst, hgst⟩ : ∃ u, w1.heap.size = u := ⟨_, rfl⟩
  have hz := zero_2049
  have hzl : z2049.length = 2049 := by unfold z2049; simp
  have H1 : Hid (RG l S w [(gst, 251, 2049), (rr, 38, 3)] [(bx, 24, [.pointer (some ⟨l.a, 0, none⟩)])] (w1.alloc (.cells z2049.toArray 251))) := hid (by
    have := H0.out.newI hgst 251 (List.replicate 2049 (0 : Int))
    rw [List.length_replicate] at this
    exact this)
  generalize z2049 = Z at hz hzl H1
  go_upto_region 2 with fail
  (try simp only [hgst])
  generalize hw2 : w1.alloc _ = w2 at H1 ⊢
  clear hw2 hgst H0 hz hzl
  have k1 := H1.out.am.cells.2.1
  have k2 : w2.cell? ⟨bx, 0, none⟩ = some (.pointer (some ⟨l.a, 0, none⟩)) := (H1.out.fix (bx, 24, [.pointer (some ⟨l.a, 0, none⟩)]) (by simp)).cell 0
  have HE : Hid (Calls Tryz.prog 230 #[.pointer (some ⟨l.tc, 0, none⟩), .int .i64 ((0 : Nat) : Int), .int .i64 ((16384 : Nat) : Int), .func (.func 265) #[] #[.pointer (some ⟨bx, 0, none⟩), .pointer (some ⟨gst, 0, none⟩)]] w2 fun e w' => e = .returned (.bool true) ∧ RG l S w [(gst, 251, 2049), (rr, 38, 3)] [(bx, 24, [.pointer (some ⟨l.a, 0, none⟩)])] w') := hid
    (TB.each (n := 16384) (wd := 2) (per := 32) (len := 512) (X := S.C) (b := l.bc) (t := l.tc) (w := w2) 265 #[.pointer (some ⟨bx, 0, none⟩), .pointer (some ⟨gst, 0, none⟩)] (fun w1 => RG l S w [(gst, 251, 2049), (rr, 38, 3)] [(bx, 24, [.pointer (some ⟨l.a, 0, none⟩)])] w1) H1.out (fun w1 h1 => h1.am.tc) (fun w1 w2 h1 h2 => h1.below h2) 0 16384 (by omega) (by omega) (fun k w1 k1 k2 k3 h1 => auditLines1Z (hid h1) k _ k2) ent_al)
  go_wp2_with fail
  refine HE.out.mono ?_
  rintro e w3 ⟨rfl, h3⟩
  have H3 := hid h3
  clear h3 H1 k1 k2 HE
  obtain ⟨gr, hgr⟩ : ∃ u, w3.heap.size = u := ⟨_, rfl⟩
  have H4 : Hid (RG l S w [(gr, 38, 3), (gst, 251, 2049), (rr, 38, 3)] [(bx, 24, [.pointer (some ⟨l.a, 0, none⟩)])] (w3.alloc (.cells #[.int .i64 0, .int .i64 0, .int .i64 0] 38))) := hid (H3.out.newI hgr 38 [0, 0, 0])
  go_upto_region 4 with fail
  (try simp only [hgr])
  generalize hw4 : w3.alloc _ = w4 at H4 ⊢
  clear hw4 hgr H3
  go_upto_region 6 with fail
  go_loopw [5, 6] (fun t u wr => ∃ (b : Nat) (x : Int), u = .int .i64 (b : Int) ∧ t = .int .i64 x ∧ b ≤ 2048 ∧ Hid (RG l S w [(gr, 38, 3), (gst, 251, 2049), (rr, 38, 3)] [(bx, 24, [.pointer (some ⟨l.a, 0, none⟩)])] wr)) (fun _ u _ => 2048 - (intOf u).toNat)
  case atStart => exact ⟨0, 0, rfl, rfl, by omega, H4⟩
  case round =>
  clear H4
  obtain ⟨b, x, rfl, rfl, hb, HK⟩ := hrel
  by_cases hbn : b < 2048
  rotate_left
  · as_aux_lemma =>
    have dq : decide ((b : Int) < 2048) = false := decide_eq_false (by omega)
    have dq' : decide (b < 2048) = false := decide_eq_false (by omega)
    go_upto_region 15 with fail
    have HGi := hid (HK.out.ints (gr, 38, 3) (by simp))
    have HRi := hid (HK.out.ints (rr, 38, 3) (by simp))
    obtain ⟨xs, hl, hbx⟩ := HGi.out
    obtain ⟨ys, hl2, hby⟩ := HRi.out
    have Hx := hid hbx
    have Hy := hid hby
    have Hl := hid (show (xs.map inV).length = 3 by rw [List.length_map]; exact hl)
    have Hl2 := hid (show (ys.map inV).length = 3 by rw [List.length_map]; exact hl2)
    have Hone := hid (inV_one xs)
    have Hxs := hid hl
    clear hbx hby hl hl2 HGi HRi
    generalize hcs : xs.map inV = cs_ at *
    have Hcs := hid hcs
    clear hcs
    go_wp2_with (first | (refine wpList_load_blk rfl 38 _ rfl gr rfl cs_ Hx.out _ Tryz.underlying38 rfl (by rw [Hl.out]; exact info_lr) ?_) | (refine wpList_store_blk rfl 38 _ _ rfl rr rfl cs_ rfl Hy.out (by rw [Hl.out, Hl2.out]) (by rw [Hl.out]; exact info_lr) Hone.out ?_; intro w9 HB9 HU9))
    refine bodyPost_ret (results_blk (cs := cs_) Tryz.results239 rfl (by rw [Hl.out]; exact agg_lr) HB9.out) rfl ?_
    exact ⟨xs, Hxs.out, by rw [Hcs.out], hid (HK.out.bel.trans (HU9.out.below (HK.out.lo (rr, 38, 3) (by simp)) HK.out.bel.size))⟩
  as_aux_lemma =>
  have dq : decide ((b : Int) < 2048) = true := decide_eq_true (by omega)
  have dq' : decide (b < 2048) = true := decide_eq_true (by omega)
  have k1 := HK.out.am.cells.2.2.2.2.1
  have k2 : wr.cell? ⟨bx, 0, none⟩ = some (.pointer (some ⟨l.a, 0, none⟩)) := (HK.out.fix (bx, 24, [.pointer (some ⟨l.a, 0, none⟩)]) (by simp)).cell 0
  obtain ⟨⟨y, cy⟩, zy⟩ := HK.out.icell (i := b) (show (gst, 251, 2049) ∈ _ by simp) (by omega)
  have HG := hid (HK.out.am.tt.get b (by omega))
  have hlt := eN_lt 4 16 S.T b
  generalize eN 4 16 S.T b = v at *
  have hv : v < 16 := hlt
  go_wp2_with fail
  refine HG.out.mono ?_
  rintro e w5 ⟨rfl, hd5⟩
  have H5 := hid (HK.out.below (hd5.below _))
  clear hd5 HG HK k1 k2 cy zy hlt
  obtain ⟨z, hz⟩ : ∃ z, wrap64 (x + y) = z := ⟨_, rfl⟩
  (try simp only [hz])
  clear hz
  by_cases h1 : (v : Int) = z
  · as_aux_lemma =>
    have d1 : ((v : Int) == z) = true := by simp [h1]
    clear h1
    obtain ⟨⟨x_, cx_⟩, zx_⟩ := H5.out.icell (i := 0) (show (gr, 38, 3) ∈ _ by simp) (by decide)
    go_upto_region 7 with fail
    have HP_ := hid (fun y => H5.out.put (show (gr, 38, 3) ∈ _ by simp) 0 y)
    generalize hz_ : World.setCell _ (⟨gr, 0, none⟩ : Addr) _ = w_H6
    have H6 : Hid (RG l S w [(gr, 38, 3), (gst, 251, 2049), (rr, 38, 3)] [(bx, 24, [.pointer (some ⟨l.a, 0, none⟩)])] w_H6) := hid (by rw [← hz_]; exact HP_.out _)
    clear hz_ HP_ cx_ zx_ H5
    go_wp2
    exact ⟨⟨b + 1, _, by go_num, rfl, by omega, H6⟩, by simp [intOf]; omega⟩
  have d1 : ((v : Int) == z) = false := by simpa using h1
  by_cases h2 : z < (v : Int)
  · as_aux_lemma =>
    have d2 : decide (z < (v : Int)) = true := decide_eq_true h2
    obtain ⟨⟨x_, cx_⟩, zx_⟩ := H5.out.icell (i := 1) (show (gr, 38, 3) ∈ _ by simp) (by decide)
    go_upto_region 7 with fail
    have HP_ := hid (fun y => H5.out.put (show (gr, 38, 3) ∈ _ by simp) 1 y)
    generalize hz_ : World.setCell _ (⟨gr, 1, none⟩ : Addr) _ = w_H6
    have H6 : Hid (RG l S w [(gr, 38, 3), (gst, 251, 2049), (rr, 38, 3)] [(bx, 24, [.pointer (some ⟨l.a, 0, none⟩)])] w_H6) := hid (by rw [← hz_]; exact HP_.out _)
    clear hz_ HP_ cx_ zx_ H5
    go_wp2
    exact ⟨⟨b + 1, _, by go_num, rfl, by omega, H6⟩, by simp [intOf]; omega⟩
  · as_aux_lemma =>
    have d2 : decide (z < (v : Int)) = false := decide_eq_false h2
    obtain ⟨⟨x_, cx_⟩, zx_⟩ := H5.out.icell (i := 2) (show (gr, 38, 3) ∈ _ by simp) (by decide)
    go_upto_region 7 with fail
    have HP_ := hid (fun y => H5.out.put (show (gr, 38, 3) ∈ _ by simp) 2 y)
    generalize hz_ : World.setCell _ (⟨gr, 2, none⟩ : Addr) _ = w_H6
    have H6 : Hid (RG l S w [(gr, 38, 3), (gst, 251, 2049), (rr, 38, 3)] [(bx, 24, [.pointer (some ⟨l.a, 0, none⟩)])] w_H6) := hid (by rw [← hz_]; exact HP_.out _)
    clear hz_ HP_ cx_ zx_ H5
    go_wp2
    exact ⟨⟨b + 1, _, by go_num, rfl, by omega, H6⟩, by simp [intOf]; omega⟩
end
end Go.Proofs.Qxb6500887aGreat
