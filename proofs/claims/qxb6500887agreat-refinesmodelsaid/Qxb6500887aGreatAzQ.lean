/- EachCounted, EachLogged, EachField for any closure; the closures of playObjects (written by tools/mk_azq.py). -/
import Derived.Test.Qxb6500887aGreatAzP
namespace Go.Proofs.Qxb6500887aGreat
open Go.RowKit
set_option linter.unusedSimpArgs false
set_option linter.unusedVariables false

/-- A function can be entered. -/
def FnE (fid : FuncId) : Prop := ∀ args w, (callFunc fid args).run Tryz.prog w = .ok (.enter fid args) w
/-- Inside an Each: the caller's invariant, the closure boxed in block p. -/
structure EB (I : World → Prop) (p : Nat) (ty : TypeId) (v : Value) (w0 : World) (gs : List Nat) (w : World) : Prop where
  i : I w
  b : Blk w p ty [v]
  u : UL gs w0 w
  lo : w0.heap.size ≤ p
section
variable {I : World → Prop} {p : Nat} {ty : TypeId} {v : Value} {w0 w w' : World} {gs : List Nat}
theorem EB.below (hbel : ∀ w1 w2, I w1 → Below w1.heap.size w1 w2 → I w2) (h : EB I p ty v w0 gs w) (hb : Below w.heap.size w w') : EB I p ty v w0 gs w' := ⟨hbel _ _ h.i hb, h.b.below hb, h.u.then hb, h.lo⟩
theorem EB.step (hgs : ∀ g ∈ gs, g < w0.heap.size) (h : EB I p ty v w0 gs w) (hi : I w') (hu : UL gs w w') : EB I p ty v w0 gs w' := ⟨hi, hu.blk h.b (fun hm => by have := hgs p hm; have := h.lo; omega), h.u.trans hu, h.lo⟩
theorem EB.start (hbel : ∀ w1 w2, I w1 → Below w1.heap.size w1 w2 → I w2) (hi : I w) (hp : w.heap.size = p) : EB I p ty v w gs (w.alloc (.cells #[v] ty)) := by
  have k := Blk.new w [v] ty
  rw [hp] at k
  exact ⟨hbel _ _ hi (nbel w _), k, UL.ofBelow (nbel w _), by omega⟩
theorem EB.cell (h : EB I p ty v w0 gs w) : w.cell? ⟨p, 0, none⟩ = some v := h.b.cell 0
end
section
variable {l : AL} {S : AS} {w w' w0 : World} {p q : Nat} {cs : List Value} {o : Ob}
set_option maxRecDepth 100000 in
theorem eachC1Z (fid : FuncId) (cp : Array Value) (hent : FnE fid) {Q : Ending → World → Prop} (k v : Nat) (hk : k < 16384) (hv : v < 4) (hb : w.cell? ⟨p, 0, none⟩ = some (.func (.func fid) #[] cp))
    (hc : Calls Tryz.prog fid (#[.int .u64 (65536 + (k : Int) * 2), .int .u8 (v : Int)] ++ cp) w (fun e w' => ∃ ok : Bool, e = .returned (.bool ok) ∧ Q (.returned (.bool ok)) w')) : Calls Tryz.prog 231 #[.int .i64 (k : Int), .int .u64 (v : Int), .pointer (some ⟨p, 0, none⟩)] w (fun e w' => ∃ ok : Bool, e = .returned (.bool ok) ∧ Q (.returned (.bool ok)) w') := by
  have HA := hid (addrOfGranule_in (k : Int) (by omega) (by omega) w)
  have HC := hid hc
  unfold FnE at hent
  clear hc
  go_enter Tryz.func231, Tryz.ntmps231
  (go_wp2_with fail; refine (HA.out).mono ?_; rintro e_ w_ ⟨he_, hw_⟩; subst he_; have hs_ := hw_.symm; clear hw_; subst hs_)
  go_wp2_with fail
  refine HC.out.mono ?_
  rintro e w2 ⟨ok, rfl, hq⟩
  have HQ := hid hq
  clear hq HC
  go_wp2
  go_ret
  exact ⟨ok, rfl, HQ.out⟩
set_option maxRecDepth 100000 in
theorem eachL1Z (fid : FuncId) (cp : Array Value) (hent : FnE fid) {Q : Ending → World → Prop} (k v : Nat) (hk : k < 32768) (hv : v < 4) (hb : w.cell? ⟨p, 0, none⟩ = some (.func (.func fid) #[] cp))
    (hc : Calls Tryz.prog fid (#[.int .u64 (65536 + (k : Int))] ++ cp) w (fun e w' => ∃ ok : Bool, e = .returned (.bool ok) ∧ Q (.returned (.bool ok)) w')) : Calls Tryz.prog 232 #[.int .i64 (k : Int), .int .u64 (v : Int), .pointer (some ⟨p, 0, none⟩)] w (fun e w' => ∃ ok : Bool, e = .returned (.bool ok) ∧ Q (.returned (.bool ok)) w') := by
  have HA := hid (addrOfWord_in (k : Int) (by omega) (by omega) w)
  have HC := hid hc
  unfold FnE at hent
  clear hc
  go_enter Tryz.func232, Tryz.ntmps232
  (go_wp2_with fail; refine (HA.out).mono ?_; rintro e_ w_ ⟨he_, hw_⟩; subst he_; have hs_ := hw_.symm; clear hw_; subst hs_)
  go_wp2_with fail
  refine HC.out.mono ?_
  rintro e w2 ⟨ok, rfl, hq⟩
  have HQ := hid hq
  clear hq HC
  go_wp2
  go_ret
  exact ⟨ok, rfl, HQ.out⟩
theorem ent_c1 : FnE 231 := fun args w => by simp [callFunc, Tryz.func231, Tryz.f231]
theorem ent_l1 : FnE 232 := fun args w => by simp [callFunc, Tryz.func232, Tryz.f232]
set_option maxRecDepth 100000 in
set_option maxHeartbeats 1000000 in
/-- EachCounted, whatever the closure. -/
theorem eachCountedZ (fid : FuncId) (cp : Array Value) (hent : FnE fid) (I : World → Prop) (gs : List Nat) (hgs : ∀ g ∈ gs, g < w.heap.size) (hI : I w) (hA : ∀ w1, I w1 → AM l S w1) (hbel : ∀ w1 w2, I w1 → Below w1.heap.size w1 w2 → I w2) (x : Int)
    (hcall : ∀ (k v : Nat) w1, k < 16384 → v < 4 → I w1 → Calls Tryz.prog fid (#[.int .u64 (65536 + (k : Int) * 2), .int .u8 (v : Int)] ++ cp) w1 (fun e w' => ∃ ok : Bool, e = .returned (.bool ok) ∧ I w' ∧ UL gs w1 w')) :
    Calls Tryz.prog 185 #[.pointer (some ⟨l.a, 0, none⟩), .int .i64 x, .func (.func fid) #[] cp] w fun e w' => e = .returned (.int .u8 (if 0 ≤ x ∧ x < 64 then 0 else 1)) ∧ Hid (I w' ∧ UL gs w w') := by
  obtain ⟨p, hp⟩ : ∃ p, w.heap.size = p := ⟨_, rfl⟩
  have HX : Hid (EB I p 199 (.func (.func fid) #[] cp) w gs (w.alloc (.cells #[.func (.func fid) #[] cp] 199))) := hid (EB.start hbel hI hp)
  have HV := hid (fun wz => validBlock_walk x wz)
  have HA := hid hA
  have HBe := hid hbel
  have HG := hid hgs
  have HCa := hid hcall
  have HEn := hid hent
  have en1 : ∀ args w, (callFunc 231 args).run Tryz.prog w = .ok (.enter 231 args) w := ent_c1
  clear hI hA hbel hgs hcall hent
  by_cases hv : 0 ≤ x ∧ x < 64
  · rw [if_pos hv]
    rw [decide_eq_true hv] at HV
    obtain ⟨b, rfl⟩ : ∃ b : Nat, x = (b : Int) := ⟨x.toNat, by omega⟩
    have hb : b < 64 := by omega
    clear hv
    have f1 : (b : Int) * 256 = ((b * 256 : Nat) : Int) := by omega
    have f2 : ((b : Int) + 1) * 256 = (((b + 1) * 256 : Nat) : Int) := by omega
    have HE : Hid (∀ wz, EB I p 199 (.func (.func fid) #[] cp) w gs wz → Calls Tryz.prog 230 #[.pointer (some ⟨l.tc, 0, none⟩), .int .i64 ((b : Int) * 256), .int .i64 (((b : Int) + 1) * 256), .func (.func 231) #[] #[.pointer (some ⟨p, 0, none⟩)]] wz fun e w' => e = .returned (.bool true) ∧ EB I p 199 (.func (.func fid) #[] cp) w gs w') := hid (fun wz hz => by
      have := TB.each (n := 16384) (wd := 2) (per := 32) (len := 512) (X := S.C) (b := l.bc) (t := l.tc) (w := wz) 231 #[.pointer (some ⟨p, 0, none⟩)] (fun w1 => EB I p 199 (.func (.func fid) #[] cp) w gs w1) hz (fun w1 h1 => (HA.out _ h1.i).tc) (fun w1 w2 h1 h2 => h1.below HBe.out h2) (b * 256) ((b + 1) * 256) (by omega) (by omega) (fun k w1 k1 k2 k3 h1 => by
        have := eachC1Z (w := w1) (p := p) (Q := fun e w' => EB I p 199 (.func (.func fid) #[] cp) w gs w') fid cp HEn.out k (eN 2 32 S.C k) (by omega) (eN_lt 2 32 S.C k) h1.cell ((HCa.out k (eN 2 32 S.C k) w1 (by omega) (eN_lt 2 32 S.C k) h1.i).mono (by rintro e w2 ⟨ok, rfl, i2, u2⟩; exact ⟨ok, rfl, h1.step HG.out i2 u2⟩))
        exact this) ent_c1
      rw [← f1, ← f2] at this
      exact this)
    have HA0 := hid HA.out
    clear f1 f2 HCa HA HG
    go_enter Tryz.func185, Tryz.ntmps185
    go_upto_region 1 with fail
    (try simp only [hp])
    generalize hw1 : w.alloc _ = w1 at HX ⊢
    clear hw1 hp
    (go_wp2_with fail; refine (HV.out w1).mono ?_; rintro e_ w_ ⟨he_, hw_⟩; subst he_; have hs_ := hw_.symm; clear hw_; subst hs_)
    have k1 := (HA0.out _ HX.out.i).cells.2.1
    go_wp2_with fail
    refine (HE.out _ HX.out).mono ?_
    rintro e w2 ⟨rfl, he2⟩
    have HX2 := hid he2
    clear he2 HX HE
    go_wp2
    go_ret
    exact ⟨rfl, hid ⟨HX2.out.i, HX2.out.u⟩⟩
  · rw [if_neg hv]
    rw [decide_eq_false hv] at HV
    clear hv
    go_enter Tryz.func185, Tryz.ntmps185
    go_upto_region 1 with fail
    (try simp only [hp])
    generalize hw1 : w.alloc _ = w1 at HX ⊢
    clear hw1 hp
    (go_wp2_with fail; refine (HV.out w1).mono ?_; rintro e_ w_ ⟨he_, hw_⟩; subst he_; have hs_ := hw_.symm; clear hw_; subst hs_)
    go_wp2
    go_ret
    exact ⟨rfl, hid ⟨HX.out.i, HX.out.u⟩⟩
set_option maxRecDepth 100000 in
set_option maxHeartbeats 1000000 in
/-- EachLogged, whatever the closure. -/
theorem eachLoggedZ (fid : FuncId) (cp : Array Value) (hent : FnE fid) (I : World → Prop) (gs : List Nat) (hgs : ∀ g ∈ gs, g < w.heap.size) (hI : I w) (hA : ∀ w1, I w1 → AM l S w1) (hbel : ∀ w1 w2, I w1 → Below w1.heap.size w1 w2 → I w2) (x y : Int)
    (hcall : ∀ (k : Nat) w1, k < 32768 → I w1 → Calls Tryz.prog fid (#[.int .u64 (65536 + (k : Int))] ++ cp) w1 (fun e w' => ∃ ok : Bool, e = .returned (.bool ok) ∧ I w' ∧ UL gs w1 w')) :
    Calls Tryz.prog 187 #[.pointer (some ⟨l.a, 0, none⟩), .int .u64 x, .int .u64 y, .func (.func fid) #[] cp] w fun e w' => e = .returned (.int .u8 (stC x y false)) ∧ Hid (I w' ∧ UL gs w w') := by
  obtain ⟨p, hp⟩ : ∃ p, w.heap.size = p := ⟨_, rfl⟩
  have HX : Hid (EB I p 201 (.func (.func fid) #[] cp) w gs (w.alloc (.cells #[.func (.func fid) #[] cp] 201))) := hid (EB.start hbel hI hp)
  have HA := hid hA
  have HBe := hid hbel
  have HG := hid hgs
  have HCa := hid hcall
  have HEn := hid hent
  have en1 : ∀ args w, (callFunc 232 args).run Tryz.prog w = .ok (.enter 232 args) w := ent_l1
  clear hI hA hbel hgs hcall hent
  by_cases hc : stC x y false = 0
  · rw [hc]
    have HS := hid (fun wz => stretch_g hc wz)
    obtain ⟨b1, b2, hz⟩ := stC_ok hc
    clear hz hc
    generalize wIx x = lo at *
    generalize wIx y = hi at *
    have HE : Hid (∀ wz, EB I p 201 (.func (.func fid) #[] cp) w gs wz → Calls Tryz.prog 230 #[.pointer (some ⟨l.tl, 0, none⟩), .int .i64 (lo : Int), .int .i64 (hi : Int), .func (.func 232) #[] #[.pointer (some ⟨p, 0, none⟩)]] wz fun e w' => e = .returned (.bool true) ∧ EB I p 201 (.func (.func fid) #[] cp) w gs w') := hid (fun wz hz => by
      have := TB.each (n := 32768) (wd := 1) (per := 64) (len := 512) (X := S.L) (b := l.bl) (t := l.tl) (w := wz) 232 #[.pointer (some ⟨p, 0, none⟩)] (fun w1 => EB I p 201 (.func (.func fid) #[] cp) w gs w1) hz (fun w1 h1 => (HA.out _ h1.i).tl) (fun w1 w2 h1 h2 => h1.below HBe.out h2) lo hi b1 b2 (fun k w1 k1 k2 k3 h1 => by
        have h2 := eN_lt 1 64 S.L k
        have := eachL1Z (w := w1) (p := p) (Q := fun e w' => EB I p 201 (.func (.func fid) #[] cp) w gs w') fid cp HEn.out k (eN 1 64 S.L k) (by omega) (Nat.lt_trans h2 (by decide)) h1.cell ((HCa.out k w1 (by omega) h1.i).mono (by rintro e w2 ⟨ok, rfl, i2, u2⟩; exact ⟨ok, rfl, h1.step HG.out i2 u2⟩))
        exact this) ent_l1
      exact this)
    have HA0 := hid HA.out
    clear HCa HA HG
    go_enter Tryz.func187, Tryz.ntmps187
    go_upto_region 1 with fail
    (try simp only [hp])
    generalize hw1 : w.alloc _ = w1 at HX ⊢
    clear hw1 hp
    (go_wp2_with fail; refine (HS.out w1).mono ?_; rintro e_ w_ ⟨he_, hw_⟩; subst he_; have hs_ := hw_.symm; clear hw_; subst hs_)
    have k1 := (HA0.out _ HX.out.i).cells.2.2.2.1
    go_wp2_with fail
    refine (HE.out _ HX.out).mono ?_
    rintro e w2 ⟨rfl, he2⟩
    have HX2 := hid he2
    clear he2 HX HE
    go_wp2
    go_ret
    exact ⟨rfl, hid ⟨HX2.out.i, HX2.out.u⟩⟩
  · have HS := hid (fun wz => stretch_b hc wz)
    have dc : (stC x y false == 0) = false := by simpa using hc
    have dc2 : (stC x y false != 0) = true := by simp [bne, dc]
    generalize stC x y false = c at *
    clear hc
    go_enter Tryz.func187, Tryz.ntmps187
    go_upto_region 1 with fail
    (try simp only [hp])
    generalize hw1 : w.alloc _ = w1 at HX ⊢
    clear hw1 hp
    (go_wp2_with fail; refine (HS.out w1).mono ?_; rintro e_ w_ ⟨he_, hw_⟩; subst he_; have hs_ := hw_.symm; clear hw_; subst hs_)
    go_wp2
    go_ret
    exact ⟨rfl, hid ⟨HX.out.i, HX.out.u⟩⟩
end
/-- Two counters and a step's copy, captured by a closure. -/
structure CtM (l : AL) (S : AS) (gv gt go : Nat) (oc : List Value) (w : World) : Prop where
  am : AM l S w
  v : ∃ x : Int, Blk w gv 29 [.int .u64 x]
  t : ∃ x : Int, Blk w gt 29 [.int .u64 x]
  o : Blk w go 31 oc
  n1 : gv ≠ gt
  n2 : gv ≠ go
  n3 : gt ≠ go
  n4 : gv ∉ l.wr
  n5 : gt ∉ l.wr
  n6 : ∀ g ∈ [l.a, l.tc, l.tm, l.tl, l.tt, l.w, l.bc, l.bm, l.bl, l.bt], g ≠ gv ∧ g ≠ gt
section
variable {l : AL} {S : AS} {w w' w0 : World} {gv gt go : Nat} {oc : List Value}
theorem CtM.below (h : CtM l S gv gt go oc w) (hb : Below w.heap.size w w') : CtM l S gv gt go oc w' := by
  obtain ⟨x, hx⟩ := h.v
  obtain ⟨y, hy⟩ := h.t
  exact ⟨h.am.below hb, ⟨x, hx.below hb⟩, ⟨y, hy.below hb⟩, h.o.below hb, h.n1, h.n2, h.n3, h.n4, h.n5, h.n6⟩
theorem AM.upd {g : Nat} (h : AM l S w) (hu : Upd g w w') (hn : ∀ k ∈ [l.a, l.tc, l.tm, l.tl, l.tt, l.w, l.bc, l.bm, l.bl, l.bt], k ≠ g) : AM l S w' := by
  simp only [List.mem_cons, List.not_mem_nil, or_false, forall_eq_or_imp, forall_eq] at hn
  obtain ⟨h1, h2, h3, h4, h5, h6, h7, h8, h9, h0⟩ := hn
  exact ⟨h.a.upd hu h1, h.ws.upd hu h6, h.wl, h.tc.upd hu h2 h7, h.tm.upd hu h3 h8, h.tl.upd hu h4 h9, h.tt.upd hu h5 h0, h.nd, h.vl⟩
theorem CtM.putV (h : CtM l S gv gt go oc w) (x : Int) : CtM l S gv gt go oc (w.setCell ⟨gv, 0, none⟩ (.int .u64 x)) ∧ Upd gv w (w.setCell ⟨gv, 0, none⟩ (.int .u64 x)) := by
  have hu : Upd gv w (w.setCell ⟨gv, 0, none⟩ (.int .u64 x)) := (Upd.refl gv w).setCell rfl _
  obtain ⟨x0, hx⟩ := h.v
  obtain ⟨y, hy⟩ := h.t
  exact ⟨⟨h.am.upd hu (fun k hk => (h.n6 k hk).1), ⟨x, hx.set 0 _⟩, ⟨y, hy.upd hu (Ne.symm h.n1)⟩, h.o.upd hu (Ne.symm h.n2), h.n1, h.n2, h.n3, h.n4, h.n5, h.n6⟩, hu⟩
theorem CtM.putT (h : CtM l S gv gt go oc w) (x : Int) : CtM l S gv gt go oc (w.setCell ⟨gt, 0, none⟩ (.int .u64 x)) ∧ Upd gt w (w.setCell ⟨gt, 0, none⟩ (.int .u64 x)) := by
  have hu : Upd gt w (w.setCell ⟨gt, 0, none⟩ (.int .u64 x)) := (Upd.refl gt w).setCell rfl _
  obtain ⟨x0, hx⟩ := h.v
  obtain ⟨y, hy⟩ := h.t
  exact ⟨⟨h.am.upd hu (fun k hk => (h.n6 k hk).2), ⟨x0, hx.upd hu h.n1⟩, ⟨x, hy.set 0 _⟩, h.o.upd hu (Ne.symm h.n3), h.n1, h.n2, h.n3, h.n4, h.n5, h.n6⟩, hu⟩
set_option maxRecDepth 100000 in
theorem ent_p1 : FnE 176 := fun args w => by simp [callFunc, Tryz.func176, Tryz.f176]
set_option maxRecDepth 100000 in
theorem clo1 {ka a b c : Int} (h : CtM l S gv gt go [.int .u8 ka, .int .u64 a, .int .u64 b, .int .u64 c] w) (i f r : Int) (hi0 : 0 ≤ i) (hi1 : i ≤ 32768) : Calls Tryz.prog 176 #[.int .i64 i, .int .u64 f, .int .u64 r, .pointer (some ⟨gv, 0, none⟩), .pointer (some ⟨gt, 0, none⟩), .pointer (some ⟨go, 0, none⟩)] w (fun e w' => ∃ ok : Bool, e = .returned (.bool ok) ∧ CtM l S gv gt go [.int .u8 ka, .int .u64 a, .int .u64 b, .int .u64 c] w' ∧ UL [gv, gt] w w') := by
  obtain ⟨x, hx⟩ := h.v
  obtain ⟨y, hy⟩ := h.t
  have c1 := hx.cell 0
  have c2 := hy.cell 0
  have c3 := h.o.cell 2
  have z1 := hx.frozen 0
  have z2 := hy.frozen 0
  have H0 := hid h
  have m1 := h.n1
  have m2 := h.n2
  have m3 := h.n3
  simp only [List.getElem?_cons_zero, List.getElem?_cons_succ] at c1 c2 c3
  clear hx hy h
  go_enter Tryz.func176, Tryz.ntmps176
  go_upto_region 2 with fail
  have H1 := hid (H0.out.putV (IntKind.u64.wrap (x + 1)))
  obtain ⟨x1, hx1⟩ : ∃ x1, IntKind.u64.wrap (x + 1) = x1 := ⟨_, rfl⟩
  rw [hx1] at H1
  (try simp only [hx1])
  generalize hw1 : w.setCell _ _ = w1 at H1 ⊢
  clear hw1 c1 c2 c3 z1 z2 hx1
  obtain ⟨xa, hxa⟩ := H1.out.1.v
  obtain ⟨ya, hya⟩ := H1.out.1.t
  have c1 := hxa.cell 0
  have c2 := hya.cell 0
  have c3 := H1.out.1.o.cell 2
  have z2 := hya.frozen 0
  simp only [List.getElem?_cons_zero, List.getElem?_cons_succ] at c1 c2 c3
  clear hxa hya
  go_upto_region 3 with fail
  have H2 := hid (fun z : Int => H1.out.1.putT z)
  generalize hz : w1.setCell ⟨gt, 0, none⟩ _ = w2
  have H3 : Hid (CtM l S gv gt go [.int .u8 ka, .int .u64 a, .int .u64 b, .int .u64 c] w2 ∧ UL [gv, gt] w w2) := hid (by
    rw [← hz]
    exact ⟨(H2.out _).1, (UL.ofUpd H1.out.2 (by simp)).trans (UL.ofUpd (H2.out _).2 (by simp))⟩)
  clear hz H2 c1 c2 c3 z2
  obtain ⟨xb, hxb⟩ := H3.out.1.v
  have c1 := hxb.cell 0
  have c3 := H3.out.1.o.cell 2
  simp only [List.getElem?_cons_zero, List.getElem?_cons_succ] at c1 c3
  clear hxb
  go_wp2
  go_ret
  exact ⟨_, rfl, H3.out⟩
set_option maxRecDepth 100000 in
theorem ent_p2 : FnE 186 := fun args w => by simp [callFunc, Tryz.func186, Tryz.f186]
set_option maxRecDepth 100000 in
theorem clo2 {ka a b c : Int} (h : CtM l S gv gt go [.int .u8 ka, .int .u64 a, .int .u64 b, .int .u64 c] w) (f r : Int) : Calls Tryz.prog 186 #[.int .u64 f, .int .u8 r, .pointer (some ⟨gv, 0, none⟩), .pointer (some ⟨gt, 0, none⟩), .pointer (some ⟨go, 0, none⟩)] w (fun e w' => ∃ ok : Bool, e = .returned (.bool ok) ∧ CtM l S gv gt go [.int .u8 ka, .int .u64 a, .int .u64 b, .int .u64 c] w' ∧ UL [gv, gt] w w') := by
  obtain ⟨x, hx⟩ := h.v
  obtain ⟨y, hy⟩ := h.t
  have c1 := hx.cell 0
  have c2 := hy.cell 0
  have c3 := h.o.cell 2
  have z1 := hx.frozen 0
  have z2 := hy.frozen 0
  have H0 := hid h
  have m1 := h.n1
  have m2 := h.n2
  have m3 := h.n3
  simp only [List.getElem?_cons_zero, List.getElem?_cons_succ] at c1 c2 c3
  clear hx hy h
  go_enter Tryz.func186, Tryz.ntmps186
  go_upto_region 2 with fail
  have H1 := hid (H0.out.putV (IntKind.u64.wrap (x + 1)))
  obtain ⟨x1, hx1⟩ : ∃ x1, IntKind.u64.wrap (x + 1) = x1 := ⟨_, rfl⟩
  rw [hx1] at H1
  (try simp only [hx1])
  generalize hw1 : w.setCell _ _ = w1 at H1 ⊢
  clear hw1 c1 c2 c3 z1 z2 hx1
  obtain ⟨xa, hxa⟩ := H1.out.1.v
  obtain ⟨ya, hya⟩ := H1.out.1.t
  have c1 := hxa.cell 0
  have c2 := hya.cell 0
  have c3 := H1.out.1.o.cell 2
  have z2 := hya.frozen 0
  simp only [List.getElem?_cons_zero, List.getElem?_cons_succ] at c1 c2 c3
  clear hxa hya
  go_upto_region 3 with fail
  have H2 := hid (fun z : Int => H1.out.1.putT z)
  generalize hz : w1.setCell ⟨gt, 0, none⟩ _ = w2
  have H3 : Hid (CtM l S gv gt go [.int .u8 ka, .int .u64 a, .int .u64 b, .int .u64 c] w2 ∧ UL [gv, gt] w w2) := hid (by
    rw [← hz]
    exact ⟨(H2.out _).1, (UL.ofUpd H1.out.2 (by simp)).trans (UL.ofUpd (H2.out _).2 (by simp))⟩)
  clear hz H2 c1 c2 c3 z2
  obtain ⟨xb, hxb⟩ := H3.out.1.v
  have c1 := hxb.cell 0
  have c3 := H3.out.1.o.cell 2
  simp only [List.getElem?_cons_zero, List.getElem?_cons_succ] at c1 c3
  clear hxb
  go_wp2
  go_ret
  exact ⟨_, rfl, H3.out⟩
set_option maxRecDepth 100000 in
theorem ent_p3 : FnE 188 := fun args w => by simp [callFunc, Tryz.func188, Tryz.f188]
set_option maxRecDepth 100000 in
theorem clo3 {ka a b c : Int} (h : CtM l S gv gt go [.int .u8 ka, .int .u64 a, .int .u64 b, .int .u64 c] w) (f : Int) : Calls Tryz.prog 188 #[.int .u64 f, .pointer (some ⟨gv, 0, none⟩), .pointer (some ⟨gt, 0, none⟩), .pointer (some ⟨go, 0, none⟩)] w (fun e w' => ∃ ok : Bool, e = .returned (.bool ok) ∧ CtM l S gv gt go [.int .u8 ka, .int .u64 a, .int .u64 b, .int .u64 c] w' ∧ UL [gv, gt] w w') := by
  obtain ⟨x, hx⟩ := h.v
  obtain ⟨y, hy⟩ := h.t
  have c1 := hx.cell 0
  have c2 := hy.cell 0
  have c3 := h.o.cell 3
  have z1 := hx.frozen 0
  have z2 := hy.frozen 0
  have H0 := hid h
  have m1 := h.n1
  have m2 := h.n2
  have m3 := h.n3
  simp only [List.getElem?_cons_zero, List.getElem?_cons_succ] at c1 c2 c3
  clear hx hy h
  go_enter Tryz.func188, Tryz.ntmps188
  go_upto_region 2 with fail
  have H1 := hid (H0.out.putV (IntKind.u64.wrap (x + 1)))
  obtain ⟨x1, hx1⟩ : ∃ x1, IntKind.u64.wrap (x + 1) = x1 := ⟨_, rfl⟩
  rw [hx1] at H1
  (try simp only [hx1])
  generalize hw1 : w.setCell _ _ = w1 at H1 ⊢
  clear hw1 c1 c2 c3 z1 z2 hx1
  obtain ⟨xa, hxa⟩ := H1.out.1.v
  obtain ⟨ya, hya⟩ := H1.out.1.t
  have c1 := hxa.cell 0
  have c2 := hya.cell 0
  have c3 := H1.out.1.o.cell 3
  have z2 := hya.frozen 0
  simp only [List.getElem?_cons_zero, List.getElem?_cons_succ] at c1 c2 c3
  clear hxa hya
  go_upto_region 3 with fail
  have H2 := hid (fun z : Int => H1.out.1.putT z)
  generalize hz : w1.setCell ⟨gt, 0, none⟩ _ = w2
  have H3 : Hid (CtM l S gv gt go [.int .u8 ka, .int .u64 a, .int .u64 b, .int .u64 c] w2 ∧ UL [gv, gt] w w2) := hid (by
    rw [← hz]
    exact ⟨(H2.out _).1, (UL.ofUpd H1.out.2 (by simp)).trans (UL.ofUpd (H2.out _).2 (by simp))⟩)
  clear hz H2 c1 c2 c3 z2
  obtain ⟨xb, hxb⟩ := H3.out.1.v
  have c1 := hxb.cell 0
  have c3 := H3.out.1.o.cell 3
  simp only [List.getElem?_cons_zero, List.getElem?_cons_succ] at c1 c3
  clear hxb
  go_wp2
  go_ret
  exact ⟨_, rfl, H3.out⟩
end
end Go.Proofs.Qxb6500887aGreat
