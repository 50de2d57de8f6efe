/- The closures of playObjects, EachField, IsZero, exactly (written by tools/mk_ax4.py). -/
import Derived.Test.Qxb6500887aGreatAx3
namespace Go.Proofs.Qxb6500887aGreat
open Go.RowKit
set_option linter.unusedSimpArgs false
set_option linter.unusedVariables false
/-- Two counters with their values, and a step's copy, captured by a closure. -/
structure CtX (l : AL) (S : AS) (gv gt go : Nat) (oc : List Value) (xv xt : Nat) (w : World) : Prop where
  am : AM l S w
  v : Blk w gv 29 [.int .u64 (xv : Int)]
  t : Blk w gt 29 [.int .u64 (xt : Int)]
  o : Blk w go 31 oc
  n1 : gv ≠ gt
  n2 : gv ≠ go
  n3 : gt ≠ go
  n6 : ∀ g ∈ [l.a, l.tc, l.tm, l.tl, l.tt, l.w, l.bc, l.bm, l.bl, l.bt], g ≠ gv ∧ g ≠ gt
section
variable {l : AL} {S : AS} {w w' w0 : World} {gv gt go xv xt : Nat} {oc : List Value}
theorem CtX.below (h : CtX l S gv gt go oc xv xt w) (hb : Below w.heap.size w w') : CtX l S gv gt go oc xv xt w' := ⟨h.am.below hb, h.v.below hb, h.t.below hb, h.o.below hb, h.n1, h.n2, h.n3, h.n6⟩
theorem CtX.putV (h : CtX l S gv gt go oc xv xt w) (x : Nat) : CtX l S gv gt go oc x xt (w.setCell ⟨gv, 0, none⟩ (.int .u64 (x : Int))) ∧ Upd gv w (w.setCell ⟨gv, 0, none⟩ (.int .u64 (x : Int))) := by
  have hu : Upd gv w (w.setCell ⟨gv, 0, none⟩ (.int .u64 (x : Int))) := (Upd.refl gv w).setCell rfl _
  exact ⟨⟨h.am.upd hu (fun k hk => (h.n6 k hk).1), h.v.set 0 _, h.t.upd hu (Ne.symm h.n1), h.o.upd hu (Ne.symm h.n2), h.n1, h.n2, h.n3, h.n6⟩, hu⟩
theorem CtX.putT (h : CtX l S gv gt go oc xv xt w) (x : Nat) : CtX l S gv gt go oc xv x (w.setCell ⟨gt, 0, none⟩ (.int .u64 (x : Int))) ∧ Upd gt w (w.setCell ⟨gt, 0, none⟩ (.int .u64 (x : Int))) := by
  have hu : Upd gt w (w.setCell ⟨gt, 0, none⟩ (.int .u64 (x : Int))) := (Upd.refl gt w).setCell rfl _
  exact ⟨⟨h.am.upd hu (fun k hk => (h.n6 k hk).2), h.v.upd hu h.n1, h.t.set 0 _, h.o.upd hu (Ne.symm h.n3), h.n1, h.n2, h.n3, h.n6⟩, hu⟩
set_option maxRecDepth 100000 in
theorem clo1X {ka a b c : Int} {mo : Nat} (h : CtX l S gv gt go [.int .u8 ka, .int .u64 a, .int .u64 b, .int .u64 c] xv xt w) (i f r : Nat) (hmo : b = (mo : Int)) (hv : xv ≤ 40000) (ht : xt < 18446744073709551616) (hi : i ≤ 32768) (hf : f ≤ 200000) (hr : r < 18446744073709551616) : Calls Tryz.prog 176 #[.int .i64 (i : Int), .int .u64 (f : Int), .int .u64 (r : Int), .pointer (some ⟨gv, 0, none⟩), .pointer (some ⟨gt, 0, none⟩), .pointer (some ⟨go, 0, none⟩)] w (fun e w' => e = .returned (.bool (decide (xv + 1 < mo))) ∧ CtX l S gv gt go [.int .u8 ka, .int .u64 a, .int .u64 b, .int .u64 c] (xv + 1) ((xt + (i + f + r) % 18446744073709551616) % 18446744073709551616) w' ∧ UL [gv, gt] w w') := by
  have HM := hid hmo
  clear hmo
  have c1 := h.v.cell 0
  have c2 := h.t.cell 0
  have c3 := h.o.cell 2
  have z1 := h.v.frozen 0
  have z2 := h.t.frozen 0
  have H0 := hid h
  have m1 := h.n1
  have m2 := h.n2
  have m3 := h.n3
  simp only [List.getElem?_cons_zero, List.getElem?_cons_succ] at c1 c2 c3
  rw [HM.out] at c3
  clear h
  obtain ⟨x1, hx1⟩ : ∃ x1, xv + 1 = x1 := ⟨_, rfl⟩
  have ex : (xv : Int) + 1 = (x1 : Int) := by omega
  have hxb : x1 ≤ 50000 := by omega
  have H1 := hid (H0.out.putV x1)
  obtain ⟨a1, ha1⟩ : ∃ a1, i + f = a1 := ⟨_, rfl⟩
  have ea1 : (i : Int) + (f : Int) = (a1 : Int) := by omega
  have ha1b : a1 ≤ 300000 := by omega
  obtain ⟨a2, ha2⟩ : ∃ a2, (a1 + r) % 18446744073709551616 = a2 := ⟨_, rfl⟩
  have ew2 : IntKind.u64.wrap ((a1 : Int) + (r : Int)) = (a2 : Int) := by rw [IntKind.wrap_u64]; omega
  have ha2b : a2 < 18446744073709551616 := by omega
  obtain ⟨y1, hy1⟩ : ∃ y1, (xt + a2) % 18446744073709551616 = y1 := ⟨_, rfl⟩
  have ey : IntKind.u64.wrap ((xt : Int) + (a2 : Int)) = (y1 : Int) := by rw [IntKind.wrap_u64]; omega
  have hy1b : y1 < 18446744073709551616 := by omega
  rw [show i + f + r = a1 + r by omega, ha2, hy1]
  clear ha1 ha2 hy1
  rw [hx1]
  clear hx1
  go_enter Tryz.func176, Tryz.ntmps176
  go_upto_region 2 with fail
  generalize hw1 : w.setCell _ _ = w1 at H1 ⊢
  clear hw1 c1 c2 c3 z1 z2 ex
  have c1 := H1.out.1.v.cell 0
  have c2 := H1.out.1.t.cell 0
  have c3 := H1.out.1.o.cell 2
  have z2 := H1.out.1.t.frozen 0
  simp only [List.getElem?_cons_zero, List.getElem?_cons_succ] at c1 c2 c3
  rw [HM.out] at c3
  go_upto_region 3 with fail
  have H2 := hid (H1.out.1.putT y1)
  generalize hw2 : w1.setCell _ _ = w2 at H2 ⊢
  clear hw2 c1 c2 c3 z2
  have H3 : Hid (CtX l S gv gt go [.int .u8 ka, .int .u64 a, .int .u64 b, .int .u64 c] x1 y1 w2 ∧ UL [gv, gt] w w2) := hid ⟨H2.out.1, (UL.ofUpd H1.out.2 (by simp)).trans (UL.ofUpd H2.out.2 (by simp))⟩
  have c1 := H3.out.1.v.cell 0
  have c3 := H3.out.1.o.cell 2
  simp only [List.getElem?_cons_zero, List.getElem?_cons_succ] at c1 c3
  rw [HM.out] at c3
  obtain ⟨d, hd⟩ : ∃ d : Bool, decide (x1 < mo) = d := ⟨_, rfl⟩
  have d1 : decide ((x1 : Int) < (mo : Int)) = d := by rw [← hd]; simp
  have HD := hid hd
  clear hd
  go_wp2
  go_ret
  exact ⟨by rw [HD.out]; rfl, H3.out⟩
set_option maxRecDepth 100000 in
theorem clo2X {ka a b c : Int} {mo : Nat} (h : CtX l S gv gt go [.int .u8 ka, .int .u64 a, .int .u64 b, .int .u64 c] xv xt w) (f r : Nat) (hmo : b = (mo : Int)) (hv : xv ≤ 40000) (ht : xt < 18446744073709551616) (hf : f ≤ 200000) (hr : r < 4) : Calls Tryz.prog 186 #[.int .u64 (f : Int), .int .u8 (r : Int), .pointer (some ⟨gv, 0, none⟩), .pointer (some ⟨gt, 0, none⟩), .pointer (some ⟨go, 0, none⟩)] w (fun e w' => e = .returned (.bool (decide (xv + 1 < mo))) ∧ CtX l S gv gt go [.int .u8 ka, .int .u64 a, .int .u64 b, .int .u64 c] (xv + 1) ((xt + (f + r)) % 18446744073709551616) w' ∧ UL [gv, gt] w w') := by
  have HM := hid hmo
  clear hmo
  have c1 := h.v.cell 0
  have c2 := h.t.cell 0
  have c3 := h.o.cell 2
  have z1 := h.v.frozen 0
  have z2 := h.t.frozen 0
  have H0 := hid h
  have m1 := h.n1
  have m2 := h.n2
  have m3 := h.n3
  simp only [List.getElem?_cons_zero, List.getElem?_cons_succ] at c1 c2 c3
  rw [HM.out] at c3
  clear h
  obtain ⟨x1, hx1⟩ : ∃ x1, xv + 1 = x1 := ⟨_, rfl⟩
  have ex : (xv : Int) + 1 = (x1 : Int) := by omega
  have hxb : x1 ≤ 50000 := by omega
  have H1 := hid (H0.out.putV x1)
  obtain ⟨a2, ha2⟩ : ∃ a2, f + r = a2 := ⟨_, rfl⟩
  have ew2 : (f : Int) + (r : Int) = (a2 : Int) := by omega
  have ha2b : a2 ≤ 400000 := by omega
  obtain ⟨y1, hy1⟩ : ∃ y1, (xt + a2) % 18446744073709551616 = y1 := ⟨_, rfl⟩
  have ey : IntKind.u64.wrap ((xt : Int) + (a2 : Int)) = (y1 : Int) := by rw [IntKind.wrap_u64]; omega
  have hy1b : y1 < 18446744073709551616 := by omega
  rw [ha2, hy1]
  clear ha2 hy1
  rw [hx1]
  clear hx1
  go_enter Tryz.func186, Tryz.ntmps186
  go_upto_region 2 with fail
  generalize hw1 : w.setCell _ _ = w1 at H1 ⊢
  clear hw1 c1 c2 c3 z1 z2 ex
  have c1 := H1.out.1.v.cell 0
  have c2 := H1.out.1.t.cell 0
  have c3 := H1.out.1.o.cell 2
  have z2 := H1.out.1.t.frozen 0
  simp only [List.getElem?_cons_zero, List.getElem?_cons_succ] at c1 c2 c3
  rw [HM.out] at c3
  go_upto_region 3 with fail
  have H2 := hid (H1.out.1.putT y1)
  generalize hw2 : w1.setCell _ _ = w2 at H2 ⊢
  clear hw2 c1 c2 c3 z2
  have H3 : Hid (CtX l S gv gt go [.int .u8 ka, .int .u64 a, .int .u64 b, .int .u64 c] x1 y1 w2 ∧ UL [gv, gt] w w2) := hid ⟨H2.out.1, (UL.ofUpd H1.out.2 (by simp)).trans (UL.ofUpd H2.out.2 (by simp))⟩
  have c1 := H3.out.1.v.cell 0
  have c3 := H3.out.1.o.cell 2
  simp only [List.getElem?_cons_zero, List.getElem?_cons_succ] at c1 c3
  rw [HM.out] at c3
  obtain ⟨d, hd⟩ : ∃ d : Bool, decide (x1 < mo) = d := ⟨_, rfl⟩
  have d1 : decide ((x1 : Int) < (mo : Int)) = d := by rw [← hd]; simp
  have HD := hid hd
  clear hd
  go_wp2
  go_ret
  exact ⟨by rw [HD.out]; rfl, H3.out⟩
set_option maxRecDepth 100000 in
theorem clo3X {ka a b c : Int} {mo : Nat} (h : CtX l S gv gt go [.int .u8 ka, .int .u64 a, .int .u64 b, .int .u64 c] xv xt w) (f : Nat) (hmo : c = (mo : Int)) (hv : xv ≤ 40000) (ht : xt < 18446744073709551616) (hf : f ≤ 200000) : Calls Tryz.prog 188 #[.int .u64 (f : Int), .pointer (some ⟨gv, 0, none⟩), .pointer (some ⟨gt, 0, none⟩), .pointer (some ⟨go, 0, none⟩)] w (fun e w' => e = .returned (.bool (decide (xv + 1 < mo))) ∧ CtX l S gv gt go [.int .u8 ka, .int .u64 a, .int .u64 b, .int .u64 c] (xv + 1) ((xt + f) % 18446744073709551616) w' ∧ UL [gv, gt] w w') := by
  have HM := hid hmo
  clear hmo
  have c1 := h.v.cell 0
  have c2 := h.t.cell 0
  have c3 := h.o.cell 3
  have z1 := h.v.frozen 0
  have z2 := h.t.frozen 0
  have H0 := hid h
  have m1 := h.n1
  have m2 := h.n2
  have m3 := h.n3
  simp only [List.getElem?_cons_zero, List.getElem?_cons_succ] at c1 c2 c3
  rw [HM.out] at c3
  clear h
  obtain ⟨x1, hx1⟩ : ∃ x1, xv + 1 = x1 := ⟨_, rfl⟩
  have ex : (xv : Int) + 1 = (x1 : Int) := by omega
  have hxb : x1 ≤ 50000 := by omega
  have H1 := hid (H0.out.putV x1)
  obtain ⟨y1, hy1⟩ : ∃ y1, (xt + f) % 18446744073709551616 = y1 := ⟨_, rfl⟩
  have ey : IntKind.u64.wrap ((xt : Int) + (f : Int)) = (y1 : Int) := by rw [IntKind.wrap_u64]; omega
  have hy1b : y1 < 18446744073709551616 := by omega
  rw [hy1]
  clear hy1
  rw [hx1]
  clear hx1
  go_enter Tryz.func188, Tryz.ntmps188
  go_upto_region 2 with fail
  generalize hw1 : w.setCell _ _ = w1 at H1 ⊢
  clear hw1 c1 c2 c3 z1 z2 ex
  have c1 := H1.out.1.v.cell 0
  have c2 := H1.out.1.t.cell 0
  have c3 := H1.out.1.o.cell 3
  have z2 := H1.out.1.t.frozen 0
  simp only [List.getElem?_cons_zero, List.getElem?_cons_succ] at c1 c2 c3
  rw [HM.out] at c3
  go_upto_region 3 with fail
  have H2 := hid (H1.out.1.putT y1)
  generalize hw2 : w1.setCell _ _ = w2 at H2 ⊢
  clear hw2 c1 c2 c3 z2
  have H3 : Hid (CtX l S gv gt go [.int .u8 ka, .int .u64 a, .int .u64 b, .int .u64 c] x1 y1 w2 ∧ UL [gv, gt] w w2) := hid ⟨H2.out.1, (UL.ofUpd H1.out.2 (by simp)).trans (UL.ofUpd H2.out.2 (by simp))⟩
  have c1 := H3.out.1.v.cell 0
  have c3 := H3.out.1.o.cell 3
  simp only [List.getElem?_cons_zero, List.getElem?_cons_succ] at c1 c3
  rw [HM.out] at c3
  obtain ⟨d, hd⟩ : ∃ d : Bool, decide (x1 < mo) = d := ⟨_, rfl⟩
  have d1 : decide ((x1 : Int) < (mo : Int)) = d := by rw [← hd]; simp
  have HD := hid hd
  clear hd
  go_wp2
  go_ret
  exact ⟨by rw [HD.out]; rfl, H3.out⟩
end
section
variable {l : AL} {S : AS} {w w' w0 : World} {p q : Nat} {o : Ob}
theorem EO.stepX {I I' : World → Prop} {gs : List Nat} (hgs : ∀ g ∈ gs, g < w0.heap.size) (h : EO I p l o w0 gs w) (hi : I' w') (hu : UL gs w w') : EO I' p l o w0 gs w' := ⟨hi, hu.blk h.b (fun hm => by have := hgs p hm; have := h.lo; omega), h.u.trans hu, h.lo⟩
set_option maxRecDepth 100000 in
set_option maxHeartbeats 4000000 in
/-- EachField, whatever the closure. -/
theorem eachFieldX (fid : FuncId) (cp : Array Value) (hent : FnE fid) (I : Nat → World → Prop) (D : World → Prop) (gs : List Nat) (hgs : ∀ g ∈ gs, g < w.heap.size) (hI : I 0 w) (hA : ∀ q w1, I q w1 → AM l S w1) (hbel : ∀ q w1 w2, I q w1 → Below w1.heap.size w1 w2 → I q w2) (ho : ObOk o)
    (hcall : ∀ (i : Nat) w1, i < o.rf → I i w1 → rfOk ((S.W (o.k + 1 + i) : Nat) : Int) → Calls Tryz.prog fid (#[.int .i64 (i : Int), .int .u64 (65536 + ((o.k + 1 + i : Nat) : Int)), .int .u64 ((S.W (o.k + 1 + i) : Nat) : Int)] ++ cp) w1 (fun e w' => ∃ ok : Bool, e = .returned (.bool ok) ∧ (ok = true → I (i + 1) w') ∧ (ok = false → D w') ∧ UL gs w1 w')) :
    Calls Tryz.prog 144 #[.agg #[.pointer (some ⟨l.a, 0, none⟩), .int .i64 (o.k : Int), .int .u64 (o.raw : Int), .int .i64 (o.sz : Int), .int .i64 (o.rf : Int)], .func (.func fid) #[] cp] w fun e w' => ∃ c : Int, e = .returned (.int .u8 c) ∧ Hid (((c = ckC S o ∧ c ≠ 0 ∧ I 0 w') ∨ (ckC S o = 0 ∧ c = 9 ∧ ∃ i, i < o.rf ∧ I i w' ∧ ¬ rfOk ((S.W (o.k + 1 + i) : Nat) : Int)) ∨ (ckC S o = 0 ∧ c = 0 ∧ (I o.rf w' ∨ D w'))) ∧ UL gs w w') := by
  obtain ⟨p, hp⟩ : ∃ p, w.heap.size = p := ⟨_, rfl⟩
  have HX : Hid (EO (I 0) p l o w gs (w.alloc (.cells #[.pointer (some ⟨l.a, 0, none⟩), .int .i64 (o.k : Int), .int .u64 (o.raw : Int), .int .i64 (o.sz : Int), .int .i64 (o.rf : Int)] 61))) := hid (by
    have k := Blk.new w (obL l o) 61
    rw [hp] at k
    exact ⟨hbel _ _ _ hI (nbel w _), k, UL.ofBelow (nbel w _), by omega⟩)
  have HC : Hid (∀ wz, AM l S wz → Calls Tryz.prog 208 #[.agg #[.pointer (some ⟨l.a, 0, none⟩), .int .i64 (o.k : Int), .int .u64 (o.raw : Int), .int .i64 (o.sz : Int), .int .i64 (o.rf : Int)]] wz fun e w' => e = .returned (.int .u8 (ckC S o)) ∧ Below wz.heap.size wz w') := hid (fun wz hz => checkZ hz ho)
  have o2 := ho.s2
  have o3 := ho.rf
  have o4 := ho.k
  have HA := hid hA
  have HBe := hid hbel
  have HG := hid hgs
  unfold FnE at hent
  clear hI hA hbel hgs ho
  by_cases hc : S.W o.k = o.raw
  rotate_left
  · as_aux_lemma =>
    have e0 : ckC S o = 6 := by unfold ckC; rw [if_neg hc]
    rw [e0] at HC
    have HE0 := hid e0
    clear hc e0 hcall
    go_enter Tryz.func144, Tryz.ntmps144
    go_upto_region 1 with fail
    (try simp only [hp])
    generalize hw1 : w.alloc _ = w1 at HX ⊢
    clear hw1 hp
    obtain ⟨p0, p1, p2, p3, p4⟩ := HX.out.ps
    go_wp2_with fail
    refine (HC.out _ (HA.out _ _ HX.out.i)).mono ?_
    rintro e w2 ⟨rfl, hb2⟩
    have HX2 := hid (HX.out.below (HBe.out _) hb2)
    clear hb2 HX p0 p1 p2 p3 p4
    go_wp2
    go_ret
    exact ⟨6, rfl, hid ⟨.inl ⟨HE0.out.symm, by decide, HX2.out.i⟩, HX2.out.u⟩⟩
  have e0 : ckC S o = 0 := by unfold ckC; rw [if_pos hc]
  rw [e0] at HC
  have HE0 := hid e0
  clear hc e0
  obtain ⟨n, hn⟩ : ∃ n, o.rf = n := ⟨_, rfl⟩
  obtain ⟨f, hfk⟩ : ∃ f, o.k + 1 = f := ⟨_, rfl⟩
  rw [hn] at o3 hcall
  simp only [hfk] at hcall
  have Hf := hid hfk
  have ef : (o.k : Int) + 1 = (f : Int) := by omega
  have hkb : f + n ≤ 32768 := by omega
  have HCa := hid hcall
  have Hn := hid hn
  clear hcall hn hfk
  go_enter Tryz.func144, Tryz.ntmps144
  go_upto_region 1 with fail
  (try simp only [hp])
  generalize hw1 : w.alloc _ = w1 at HX ⊢
  clear hw1 hp
  obtain ⟨p0, p1, p2, p3, p4⟩ := HX.out.ps
  go_wp2_with fail
  refine (HC.out _ (HA.out _ _ HX.out.i)).mono ?_
  rintro e w2 ⟨rfl, hb2⟩
  have HX2 := hid (HX.out.below (HBe.out _) hb2)
  clear hb2 HX p0 p1 p2 p3 p4
  obtain ⟨p0, p1, p2, p3, p4⟩ := HX2.out.ps
  go_upto_region 6 with fail
  clear p0 p1 p2 p3 p4
  go_loopw [7] (fun u wr => ∃ q : Nat, u = .int .i64 (q : Int) ∧ q ≤ n ∧ Hid (EO (I q) p l o w gs wr)) (fun u _ => n - (intOf u).toNat)
  case atStart => exact ⟨0, rfl, Nat.zero_le _, HX2⟩
  case round =>
  clear HX2
  obtain ⟨q, rfl, hq, HK⟩ := hrel
  obtain ⟨p0, p1, p2, p3, p4⟩ := HK.out.ps
  rw [Hn.out] at p4
  by_cases hqn : q < n
  rotate_left
  · as_aux_lemma =>
    have dq : decide ((q : Int) < (n : Int)) = false := decide_eq_false (by omega)
    have dq' : decide (q < n) = false := decide_eq_false (by omega)
    go_wp2
    go_ret
    exact ⟨0, rfl, hid ⟨.inr (.inr ⟨HE0.out, rfl, .inl (by rw [Hn.out, show n = q by omega]; exact HK.out.i)⟩), HK.out.u⟩⟩
  as_aux_lemma =>
  have dq : decide ((q : Int) < (n : Int)) = true := decide_eq_true (by omega)
  have dq' : decide (q < n) = true := decide_eq_true (by omega)
  have p4' : wr.cell? ⟨p, 4, none⟩ = some (.int .i64 (o.rf : Int)) := HK.out.ps.2.2.2.2
  rw [← Hn.out] at p4 dq dq'
  clear p4'
  go_wp2_with fail
  refine (HC.out _ (HA.out _ _ HK.out.i)).mono ?_
  rintro e w2 ⟨rfl, hb2⟩
  have HX2 := hid (HK.out.below (HBe.out _) hb2)
  clear hb2 HK p0 p1 p2 p3 p4
  obtain ⟨p0, p1, p2, p3, p4⟩ := HX2.out.ps
  have a0 := (HA.out _ _ HX2.out.i).cells.1
  have cw := (HA.out _ _ HX2.out.i).word (i := f + q) (by omega)
  have HCk := hid (fun wz => checkRefZ ((S.W (f + q) : Nat) : Int) wz)
  have HCq := hid (fun wz hz => HCa.out q wz hqn hz)
  obtain ⟨x, hx⟩ : ∃ x, S.W (f + q) = x := ⟨_, rfl⟩
  rw [hx] at cw HCk HCq
  have HWx := hid hx
  clear hx HCa
  by_cases hr : rfOk (x : Int)
  rotate_left
  · as_aux_lemma =>
    rw [if_neg hr, if_neg hr] at HCk
    have Hr := hid hr
    clear hr HCq
    (go_wp2_with fail; refine (HCk.out w2).mono ?_; rintro e_ w_ ⟨he_, hw_⟩; subst he_; have hs_ := hw_.symm; clear hw_; subst hs_)
    go_wp2
    go_ret
    exact ⟨9, rfl, hid ⟨.inr (.inl ⟨HE0.out, rfl, q, by rw [Hn.out]; exact hqn, HX2.out.i, by rw [Hf.out, HWx.out]; exact Hr.out⟩), HX2.out.u⟩⟩
  as_aux_lemma =>
  rw [if_pos hr, if_pos hr] at HCk
  have Hr := hid hr
  clear hr
  have HCl : Hid (∀ wz, I q wz → Calls Tryz.prog fid (#[.int .i64 (q : Int), .int .u64 (65536 + ((f : Int) + (q : Int))), .int .u64 (x : Int)] ++ cp) wz (fun e w' => ∃ ok : Bool, e = .returned (.bool ok) ∧ (ok = true → I (q + 1) w') ∧ (ok = false → D w') ∧ UL gs wz w')) := hid (fun wz hz => by
    have := HCq.out wz hz Hr.out
    rw [show ((f + q : Nat) : Int) = (f : Int) + (q : Int) by omega] at this
    exact this)
  (go_wp2_with fail; refine (HCk.out w2).mono ?_; rintro e_ w_ ⟨he_, hw_⟩; subst he_; have hs_ := hw_.symm; clear hw_; subst hs_)
  go_wp2_with fail
  refine (HCl.out _ HX2.out.i).mono ?_
  rintro e w4 ⟨ok, rfl, hi4, hd4, hu4⟩
  have HX4 : Hid ((ok = true → EO (I (q + 1)) p l o w gs w4) ∧ (ok = false → D w4 ∧ UL gs w w4)) := hid ⟨fun ho => HX2.out.stepX HG.out (hi4 ho) hu4, fun ho => ⟨hd4 ho, HX2.out.u.trans hu4⟩⟩
  clear hi4 hd4 hu4 HX2 p0 p1 p2 p3 p4 a0 cw HCl HCk HCq
  cases ok with
  | false =>
    as_aux_lemma =>
    go_wp2
    go_ret
    exact ⟨0, rfl, hid ⟨.inr (.inr ⟨HE0.out, rfl, .inr (HX4.out.2 (by trivial)).1⟩), (HX4.out.2 (by trivial)).2⟩⟩
  | true =>
    as_aux_lemma =>
    go_wp2
    exact ⟨⟨q + 1, by go_num, by omega, hid (HX4.out.1 (by trivial))⟩, by simp [intOf]; omega⟩
end
section
variable {l : AL} {S : AS} {w w' w0 : World}
set_option maxRecDepth 100000 in
theorem isZeroX (h : AM l S w) (x n : Int) : Calls Tryz.prog 60 #[.pointer (some ⟨l.a, 0, none⟩), .int .u64 x, .int .i64 n] w fun e w' => ∃ z : Bool, e = .returned (.tuple #[.bool z, .int .u8 (wrCd x n)]) ∧ w' = w ∧ Hid (wrCd x n = 0 → (z = true ↔ ∀ i, i < n.toNat → S.W (wIx x + i) = 0)) := by
  by_cases hc : wrCd x n = 0
  · rw [hc]
    have HR := hid (range_g hc w)
    have hb := wrCd_ok hc
    have hw := wIx_of hb.1
    obtain ⟨m, hm0⟩ : ∃ m, n.toNat = m := ⟨_, rfl⟩
    rw [hm0] at HR ⊢
    have hm : wIx x + m ≤ 32768 := by omega
    have hlo : ¬ (32768 = wIx x) := by omega
    have d1 : ((wIx x + m : Nat) : Int) - (wIx x : Int) = (m : Int) := by omega
    have e1 : wIx x + m - wIx x = m := by omega
    have hlo2 := hw.2
    generalize wIx x = lo at *
    have HA := hid h
    have c0 := h.cells.1
    clear hb hw hc h hm0
    go_enter Tryz.func60, Tryz.ntmps60
    (go_wp2_with fail; refine (HR.out).mono ?_; rintro e_ w_ ⟨he_, hw_⟩; subst he_; have hs_ := hw_.symm; clear hw_; subst hs_)
    go_upto_region 5 with fail
    go_loopw [31] (fun u wr => wr = w ∧ ∃ q : Nat, u = .int .i64 (q : Int) ∧ q ≤ m ∧ Hid (∀ i, i < q → S.W (lo + i) = 0)) (fun u _ => m - (intOf u).toNat)
    case atStart => exact ⟨rfl, 0, rfl, Nat.zero_le _, hid (fun i hi => by omega)⟩
    case round =>
    obtain ⟨hwr, q, rfl, hq, HZ⟩ := hrel
    have hwr' := hwr.symm
    clear hwr
    subst hwr'
    by_cases hql : q < m
    · have dq : decide ((q : Int) < (m : Int)) = true := decide_eq_true (by omega)
      have cw := HA.out.word (i := lo + q) (by omega)
      obtain ⟨y, hyw⟩ : ∃ y, S.W (lo + q) = y := ⟨_, rfl⟩
      rw [hyw] at cw
      have HY := hid hyw
      clear hyw
      by_cases hy : y = 0
      · as_aux_lemma =>
        have dy : ((y : Int) == 0) = true := by simp [hy]
        have HZ2 : Hid (∀ i, i < q + 1 → S.W (lo + i) = 0) := hid (fun i hi => by
          by_cases e : i = q
          · rw [e, HY.out]; exact hy
          · exact HZ.out i (by omega))
        clear hy HZ HY
        go_wp2
        exact ⟨⟨by trivial, q + 1, by go_num, by omega, HZ2⟩, by simp [intOf]; omega⟩
      · as_aux_lemma =>
        have dy : ((y : Int) == 0) = false := by simp; omega
        go_wp2
        refine bodyPost_ret (results_tmp2 Tryz.results60 _ _ _) rfl ?_
        exact ⟨false, rfl, rfl, hid (fun _ => ⟨fun h => absurd h (by decide), fun h => absurd (HY.out ▸ h q hql) hy⟩)⟩
    · as_aux_lemma =>
      have dq : decide ((q : Int) < (m : Int)) = false := decide_eq_false (by omega)
      go_wp2
      refine bodyPost_ret (results_tmp2 Tryz.results60 _ _ _) rfl ?_
      exact ⟨true, rfl, rfl, hid (fun _ => ⟨fun _ i hi => HZ.out i (by omega), fun _ => rfl⟩)⟩
  · have HR := hid (range_b hc w)
    have dc : (wrCd x n == 0) = false := by simpa using hc
    generalize wrCd x n = c at *
    have Hc := hid hc
    clear hc h
    go_enter Tryz.func60, Tryz.ntmps60
    (go_wp2_with fail; refine (HR.out).mono ?_; rintro e_ w_ ⟨he_, hw_⟩; subst he_; have hs_ := hw_.symm; clear hw_; subst hs_)
    go_wp2
    refine bodyPost_ret (results_tmp2 Tryz.results60 _ _ _) rfl ?_
    exact ⟨false, rfl, rfl, hid (fun hh => absurd hh Hc.out)⟩
end
end Go.Proofs.Qxb6500887aGreat
