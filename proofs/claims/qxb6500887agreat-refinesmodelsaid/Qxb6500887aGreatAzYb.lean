/- Audit, links, Census (written by tools/mk_azyb.py). -/
import Derived.Test.Qxb6500887aGreatAzYa
namespace Go.Proofs.Qxb6500887aGreat
open Go.RowKit
set_option linter.unusedSimpArgs false
set_option linter.unusedVariables false

section
variable {l : AL} {S : AS} {w w' w0 : World} {p q : Nat} {cs : List Value} {o : Ob} {gs : List (Nat × TypeId × Nat)} {bs : List (Nat × TypeId × List Value)}
set_option maxRecDepth 100000 in
set_option maxHeartbeats 8000000 in
theorem auditZ (h : AM l S w) : Calls Tryz.prog 238 #[.pointer (some ⟨l.a, 0, none⟩)] w fun e w' => ∃ xs : List Int, xs.length = 5 ∧ e = .returned (.agg (xs.map inV).toArray) ∧ Hid (Below w.heap.size w w') := by
  obtain ⟨bx, hbx⟩ : ∃ r, w.heap.size = r := ⟨_, rfl⟩
  obtain ⟨rr, hrr⟩ : ∃ r, bx + 1 = r := ⟨_, rfl⟩
  have H0 : Hid (RG l S w [(rr, 36, 5)] [(bx, 24, [.pointer (some ⟨l.a, 0, none⟩)])] ((w.alloc (.cells #[.pointer (some ⟨l.a, 0, none⟩)] 24)).alloc (.cells #[.int .i64 0, .int .i64 0, .int .i64 0, .int .i64 0, .int .i64 0] 36))) := hid (((RG.start h).newF hbx 24 [.pointer (some ⟨l.a, 0, none⟩)]).newI (by rw [World.size_alloc]; omega) 36 [0, 0, 0, 0, 0])
  clear h
  have en1 : ∀ args w, (callFunc 263 args).run Tryz.prog w = .ok (.enter 263 args) w := ent_ad
  go_enter Tryz.func238, Tryz.ntmps238
  go_upto_region 1 with fail
  (try simp only [World.size_alloc, hbx, hrr])
  generalize hw1 : World.alloc (w.alloc _) _ = w1 at H0 ⊢
  clear hw1 hbx hrr
  obtain ⟨gr, hgr⟩ : ∃ u, w1.heap.size = u := ⟨_, rfl⟩
  have H1 : Hid (RG l S w [(gr, 36, 5), (rr, 36, 5)] [(bx, 24, [.pointer (some ⟨l.a, 0, none⟩)])] (w1.alloc (.cells #[.int .i64 0, .int .i64 0, .int .i64 0, .int .i64 0, .int .i64 0] 36))) := hid (H0.out.newI hgr 36 [0, 0, 0, 0, 0])
  go_upto_region 2 with fail
  (try simp only [hgr])
  generalize hw2 : w1.alloc _ = w2 at H1 ⊢
  clear hw2 hgr H0
  obtain ⟨ge, hge⟩ : ∃ u, w2.heap.size = u := ⟨_, rfl⟩
  have H2 : Hid (RG l S w [(ge, 3, 1), (gr, 36, 5), (rr, 36, 5)] [(bx, 24, [.pointer (some ⟨l.a, 0, none⟩)])] (w2.alloc (.cells #[.int .i64 0] 3))) := hid (H1.out.newI hge 3 [0])
  go_upto_region 3 with fail
  (try simp only [hge])
  generalize hw3 : w2.alloc _ = w3 at H2 ⊢
  clear hw3 hge H1
  have k1 := H2.out.am.cells.2.1
  have k2 : w3.cell? ⟨bx, 0, none⟩ = some (.pointer (some ⟨l.a, 0, none⟩)) := (H2.out.fix (bx, 24, [.pointer (some ⟨l.a, 0, none⟩)]) (by simp)).cell 0
  have HE : Hid (Calls Tryz.prog 230 #[.pointer (some ⟨l.tc, 0, none⟩), .int .i64 ((0 : Nat) : Int), .int .i64 ((16384 : Nat) : Int), .func (.func 263) #[] #[.pointer (some ⟨gr, 0, none⟩), .pointer (some ⟨ge, 0, none⟩), .pointer (some ⟨bx, 0, none⟩)]] w3 fun e w' => e = .returned (.bool true) ∧ RG l S w [(ge, 3, 1), (gr, 36, 5), (rr, 36, 5)] [(bx, 24, [.pointer (some ⟨l.a, 0, none⟩)])] w') := hid
    (TB.each (n := 16384) (wd := 2) (per := 32) (len := 512) (X := S.C) (b := l.bc) (t := l.tc) (w := w3) 263 #[.pointer (some ⟨gr, 0, none⟩), .pointer (some ⟨ge, 0, none⟩), .pointer (some ⟨bx, 0, none⟩)] (fun w1 => RG l S w [(ge, 3, 1), (gr, 36, 5), (rr, 36, 5)] [(bx, 24, [.pointer (some ⟨l.a, 0, none⟩)])] w1) H2.out (fun w1 h1 => h1.am.tc) (fun w1 w2 h1 h2 => h1.below h2) 0 16384 (by omega) (by omega) (fun k w1 k1 k2 k3 h1 => audit1Z (hid h1) k _ k2) ent_ad)
  go_wp2_with fail
  refine HE.out.mono ?_
  rintro e w4 ⟨rfl, h4⟩
  have H4 := hid h4
  clear h4 H2 k1 k2 HE
  have HGi := hid (H4.out.ints (gr, 36, 5) (by simp))
  have HRi := hid (H4.out.ints (rr, 36, 5) (by simp))
  obtain ⟨xs, hl, hbx⟩ := HGi.out
  obtain ⟨ys, hl2, hby⟩ := HRi.out
  have Hx := hid hbx
  have Hy := hid hby
  have Hl := hid (show (xs.map inV).length = 5 by rw [List.length_map]; exact hl)
  have Hl2 := hid (show (ys.map inV).length = 5 by rw [List.length_map]; exact hl2)
  have Hone := hid (inV_one xs)
  have Hxs := hid hl
  clear hbx hby hl hl2 HGi HRi
  generalize hcs : xs.map inV = cs_ at *
  have Hcs := hid hcs
  clear hcs
  go_wp2_with (first | (refine wpList_load_blk rfl 36 _ rfl gr rfl cs_ Hx.out _ Tryz.underlying36 rfl (by rw [Hl.out]; exact info_rp) ?_) | (refine wpList_store_blk rfl 36 _ _ rfl rr rfl cs_ rfl Hy.out (by rw [Hl.out, Hl2.out]) (by rw [Hl.out]; exact info_rp) Hone.out ?_; intro w9 HB9 HU9))
  refine bodyPost_ret (results_blk (cs := cs_) Tryz.results238 rfl (by rw [Hl.out]; exact agg_rp) HB9.out) rfl ?_
  exact ⟨xs, Hxs.out, by rw [Hcs.out], hid (H4.out.bel.trans (HU9.out.below (H4.out.lo (rr, 36, 5) (by simp)) H4.out.bel.size))⟩
set_option maxRecDepth 100000 in
set_option maxHeartbeats 2000000 in
theorem linksZ (h : AM l S w) (ho : ObOk o) : Calls Tryz.prog 267 #[.agg #[.pointer (some ⟨l.a, 0, none⟩), .int .i64 (o.k : Int), .int .u64 (o.raw : Int), .int .i64 (o.sz : Int), .int .i64 (o.rf : Int)]] w fun e w' => e = .returned (.int .i64 (((rfsL S (o.k + 1) o.rf).filter fun (x : Nat) => decide (rfOk (x : Int))).length : Int)) ∧ Hid (Below w.heap.size w w') := by
  obtain ⟨z, hz⟩ : ∃ z : Nat → Nat, z = fun m => ((rfsL S (o.k + 1) m).filter fun (x : Nat) => decide (rfOk (x : Int))).length := ⟨_, rfl⟩
  have Hz0 : Hid (z 0 = 0) := hid (by rw [hz]; rfl)
  have Hz1 : Hid (∀ m, z (m + 1) = z m + (if S.W (o.k + 1 + m) ≠ 0 ∧ rfOk ((S.W (o.k + 1 + m) : Nat) : Int) then 1 else 0)) := hid (fun m => by
    rw [hz]
    show ((rfsL S (o.k + 1) (m + 1)).filter fun (x : Nat) => decide (rfOk (x : Int))).length = ((rfsL S (o.k + 1) m).filter fun (x : Nat) => decide (rfOk (x : Int))).length + _
    rw [rfsL_step, List.filter_append, List.length_append]
    congr 1
    by_cases h0 : S.W (o.k + 1 + m) = 0
    · rw [if_pos h0, if_neg (fun q => q.1 h0)]; rfl
    · rw [if_neg h0]
      by_cases h1 : rfOk ((S.W (o.k + 1 + m) : Nat) : Int)
      · rw [if_pos ⟨h0, h1⟩]; simp [h1]
      · rw [if_neg (fun q => h1 q.2)]; simp [h1])
  have Hzl : Hid (∀ m, z m ≤ m) := hid (fun m => by
    rw [hz]
    exact Nat.le_trans (List.length_filter_le _ _) (rfsL_len _ _ _))
  have Hzn : Hid (((rfsL S (o.k + 1) o.rf).filter fun (x : Nat) => decide (rfOk (x : Int))).length = z o.rf) := hid (by rw [hz])
  rw [Hzn.out]
  clear hz Hzn
  obtain ⟨p, hp⟩ : ∃ p, w.heap.size = p := ⟨_, rfl⟩
  have HX : Hid (OX w l S p (obL l o) (w.alloc (.cells #[.pointer (some ⟨l.a, 0, none⟩), .int .i64 (o.k : Int), .int .u64 (o.raw : Int), .int .i64 (o.sz : Int), .int .i64 (o.rf : Int)] 61))) := hid (OX.new (cs := (obL l o)) h (Below.refl _ w) hp)
  have HA := hid h
  have o2 := ho.s2
  have o3 := ho.rf
  have o4 := ho.k
  obtain ⟨n, hn⟩ : ∃ n, o.rf = n := ⟨_, rfl⟩
  obtain ⟨f, hf⟩ : ∃ f, o.k + 1 = f := ⟨_, rfl⟩
  have ef : (o.k : Int) + 1 = (f : Int) := by omega
  have Hn := hid hn
  obtain ⟨zr, hzr⟩ : ∃ zr, z o.rf = zr := ⟨_, rfl⟩
  rw [hzr]
  have Hzr : Hid (z n = zr) := hid (by rw [← hn, hzr])
  clear hzr
  rw [hn] at o3
  have hkb : f + n ≤ 32768 := by omega
  have d1 : ¬ (32768 = f) := by have := ho.s1; omega
  have e1 : f + n - f = n := by omega
  rw [hf] at Hz1
  clear h ho hn hf
  go_enter Tryz.func267, Tryz.ntmps267
  go_upto_region 1 with fail
  (try simp only [hp])
  generalize hw1 : w.alloc _ = w1 at HX ⊢
  clear hw1 hp
  have p0 := HX.out.bk.cell 0
  have p1 := HX.out.bk.cell 1
  have p2 := HX.out.bk.cell 2
  have p3 := HX.out.bk.cell 3
  have p4 := HX.out.bk.cell 4
  simp only [obL, List.getElem?_cons_zero, List.getElem?_cons_succ] at p0 p1 p2 p3 p4
  rw [Hn.out] at p4
  have a0 := HX.out.am.cells.1
  go_upto_region 3 with fail
  go_region
  go_wp2_with fail
  simp only [e1]
  have HB0 : Hid (Below w.heap.size w w1.drew) := hid (HX.out.below (Drew.below ⟨1, rfl⟩ _)).bel
  clear a0 p0 p1 p2 p3 p4 HX
  go_loopw [4, 25] (fun t u wr => ∃ q : Nat, u = .int .i64 (q : Int) ∧ t = .int .i64 ((z q : Nat) : Int) ∧ q ≤ n ∧ Hid (Below w.heap.size w wr)) (fun _ u _ => n - (intOf u).toNat)
  case atStart => exact ⟨0, rfl, by rw [Hz0.out]; rfl, Nat.zero_le _, HB0⟩
  case round =>
  clear HB0
  obtain ⟨q, rfl, rfl, hq, HK⟩ := hrel
  by_cases hqn : q < n
  rotate_left
  · as_aux_lemma =>
    have dq : decide ((q : Int) < (n : Int)) = false := decide_eq_false (by omega)
    obtain rfl : q = n := by omega
    rw [Hzr.out]
    go_wp2
    go_ret
    exact ⟨rfl, HK⟩
  as_aux_lemma =>
  have dq : decide ((q : Int) < (n : Int)) = true := decide_eq_true (by omega)
  have cw := (HA.out.below HK.out).word (i := f + q) (by omega)
  have HCk := hid (fun wz => checkRefZ ((S.W (f + q) : Nat) : Int) wz)
  have Hz2 := hid (Hz1.out q)
  have hzl := Hzl.out q
  generalize S.W (f + q) = x at *
  have Hzq : ∃ y, z q = y := ⟨_, rfl⟩
  obtain ⟨y, hy⟩ := Hzq
  rw [hy] at Hz2 hzl ⊢
  clear hy
  by_cases hr : rfOk (x : Int)
  rotate_left
  · as_aux_lemma =>
    rw [if_neg hr, if_neg hr] at HCk
    have Hf : Hid (z (q + 1) = y) := hid (by rw [Hz2.out, if_neg (fun h => hr h.2), Nat.add_zero])
    clear hr
    (go_wp2_with fail; refine (HCk.out wr).mono ?_; rintro e_ w_ ⟨he_, hw_⟩; subst he_; have hs_ := hw_.symm; clear hw_; subst hs_)
    go_wp2
    exact ⟨⟨q + 1, by go_num, by rw [Hf.out], by omega, HK⟩, by simp [intOf]; omega⟩
  rw [if_pos hr, if_pos hr] at HCk
  by_cases h0 : x = 0
  · as_aux_lemma =>
    have Hf : Hid (z (q + 1) = y) := hid (by rw [Hz2.out, if_neg (fun h => h.1 h0), Nat.add_zero])
    have d0 : ((x : Int) == 0) = true := by simp [h0]
    have d0' : ((x : Int) != 0) = false := by simp [bne, d0]
    clear hr h0
    (go_wp2_with fail; refine (HCk.out wr).mono ?_; rintro e_ w_ ⟨he_, hw_⟩; subst he_; have hs_ := hw_.symm; clear hw_; subst hs_)
    go_wp2
    exact ⟨⟨q + 1, by go_num, by rw [Hf.out], by omega, HK⟩, by simp [intOf]; omega⟩
  · as_aux_lemma =>
    have Hf : Hid (z (q + 1) = y + 1) := hid (by rw [Hz2.out, if_pos ⟨h0, hr⟩])
    have d0 : ((x : Int) == 0) = false := by simp; omega
    have d0' : ((x : Int) != 0) = true := by simp [bne, d0]
    clear hr h0
    (go_wp2_with fail; refine (HCk.out wr).mono ?_; rintro e_ w_ ⟨he_, hw_⟩; subst he_; have hs_ := hw_.symm; clear hw_; subst hs_)
    go_wp2
    exact ⟨⟨q + 1, by go_num, by rw [Hf.out]; go_num, by omega, HK⟩, by simp [intOf]; omega⟩
end
end Go.Proofs.Qxb6500887aGreat
