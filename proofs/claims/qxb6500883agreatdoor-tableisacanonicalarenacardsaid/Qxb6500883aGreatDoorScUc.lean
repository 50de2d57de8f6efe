/- Parts. -/
import Derived.Test.Qxb6500883aGreatDoorScUb
namespace Go.Proofs.Qxb6500883aGreatDoor
open Go.RowKit
set_option linter.unusedSimpArgs false
set_option linter.unusedVariables false
/-- Parts appends a type's parts to a row of one's own. -/
def PaC (w0 : World) (tB : Nat) (T : TS) (id : Nat) (x : TR) : Prop := ∀ (w : World) (ax : Option Addr) (m q : Nat) (xs : List Nat), OwR rtId w0.heap.size w (.slice ax m q) xs → Below w0.heap.size w0 w → xs.length + (prtT T x).length ≤ 1000000 → Calls Tryz.prog 32 #[.pointer (some ⟨tB, 0, none⟩), .slice ax m q, .int .i32 (id : Int)] w fun e w' => ∃ v, e = .returned v ∧ Hid (OwR rtId w0.heap.size w' v (xs ++ prtT T x) ∧ Kep w (.slice ax m q) w' ∧ ∀ g, v.ownBlock = some g → (Value.slice ax m q).ownBlock = some g ∨ w.heap.size ≤ g)
section
variable {τ : Rl} {w w0 : World} {tB n0 ga mn mf : Nat} {V : TV} {T : TS} {al : Nat → Int} {bn : ByteArray → Option Nat}
theorem ty_all (h : TbM τ w0 tB V T) {i : Nat} {x : TR} (hx : T.types[i]? = some x) : ∃ gt q, ∀ wz, Below w0.heap.size w0 wz → wz.cell? ⟨tB, 0, none⟩ = some (.slice (some ⟨gt, 0, none⟩) T.types.length q) ∧ ∀ j, j < 12 → wz.cell? ⟨gt, i * 12 + j, none⟩ = (trC x)[j]? := by
  obtain ⟨gt, q, hv, hgl, _, hc⟩ := h.ty hx
  exact ⟨gt, q, fun wz hz => ⟨by rw [← hv]; exact (h.below hz).b.cell 0, fun j hj => by rw [keepCell _ (hz.block gt hgl)]; exact hc j hj⟩⟩
set_option maxRecDepth 100000 in
set_option maxHeartbeats 4000000 in
theorem partsNo (h : TbM τ w0 tB V T) {id : Nat} {x : TR} (hx : T.types[id]? = some x) (hk : x.kind < 3 ∨ x.kind = 5 ∨ x.kind = 6) : PaC w0 tB T id x := by
  intro w ax m q xs hr hb hl
  obtain ⟨gt, qt, hC⟩ := ty_all h hx
  have hlt := (List.getElem?_eq_some_iff.1 hx).1
  have i1 : (id : Int) < (T.types.length : Int) := by omega
  obtain ⟨c0, hc⟩ := hC w hb
  have k0 : w.cell? ⟨gt, id * 12, none⟩ = some (.int .u8 (x.kind : Int)) := hc 0 (by decide)
  have hp : prtT T x = [] := by unfold prtT; rw [if_neg (by omega), if_neg (by omega), if_neg (by omega)]
  rw [hp, List.append_nil]
  obtain ⟨kd, hkd⟩ : ∃ k, x.kind = k := ⟨_, rfl⟩
  rw [hkd] at k0 hk
  have t3 : ((kd : Int) == 3) = false := by simp; omega
  have t4 : ((kd : Int) == 4) = false := by simp; omega
  have t7 : ((kd : Int) == 7) = false := by simp; omega
  have t8 : ((kd : Int) == 8) = false := by simp; omega
  have HR := hid hr
  clear h hx hkd hk hp hl hC hc hr hb
  generalize T.types.length = nt at c0 hlt i1
  go_enter Tryz.func32, Tryz.ntmps32
  go_wp2
  go_ret
  exact ⟨_, rfl, hid ⟨HR.out, Kep.refl _ _, fun g hg => .inl hg⟩⟩
set_option maxRecDepth 100000 in
set_option maxHeartbeats 4000000 in
theorem partsSer (h : TbM τ w0 tB V T) {id e : Nat} {x : TR} (hx : T.types[id]? = some x) (hk : x.kind = 3 ∨ x.kind = 4) (he : x.elem = (e : Int)) : PaC w0 tB T id x := by
  intro w ax m q xs hr hb hl
  obtain ⟨gt, qt, hC⟩ := ty_all h hx
  have hlt := (List.getElem?_eq_some_iff.1 hx).1
  have i1 : (id : Int) < (T.types.length : Int) := by omega
  obtain ⟨c0, hc⟩ := hC w hb
  have k0 : w.cell? ⟨gt, id * 12, none⟩ = some (.int .u8 (x.kind : Int)) := hc 0 (by decide)
  have k3 : w.cell? ⟨gt, id * 12 + 3, none⟩ = some (.int .i32 (e : Int)) := by rw [← he]; exact hc 3 (by decide)
  have hp : prtT T x = [e] := by unfold prtT; rw [if_pos hk, he]; rfl
  rw [hp] at hl ⊢
  have hl : xs.length + 1 ≤ 1000000 := hl
  have HR := hid hr
  have HB := hid hb
  obtain ⟨kd, hkd⟩ : ∃ k, x.kind = k := ⟨_, rfl⟩
  rw [hkd] at k0 hk
  clear h hx hkd hp hC hc hr hb he
  generalize T.types.length = nt at c0 hlt i1
  rcases hk with rfl | rfl
  all_goals (
    go_enter Tryz.func32, Tryz.ntmps32
    go_wp2_with (at_builtin; refine stopHere ?_)
    intro _
    obtain ⟨k8, hk8⟩ : ∃ k, w.heap.size = k := ⟨_, rfl⟩
    obtain ⟨wf, hwf⟩ : ∃ wf, w.alloc (.cells #[.int .i32 (e : Int)] 47) = wf := ⟨_, rfl⟩
    have HBf : Hid (Below w.heap.size w wf) := hid (by rw [← hwf]; exact nbel w _)
    have HNw : Hid (∀ ad, some (⟨k8, 0, none⟩ : Addr) = some ad → ∀ j u, ([e].flatMap rtId.f)[j]? = some u → wf.cell? (ad.add j) = some u) := hid (by rw [← hwf]; exact newX rtId w e _ hk8.symm)
    (try simp only [hwf, hk8])
    clear hwf hk8
    have HKf := hid (HR.out.below HBf.out)
    refine wpList_app_l okId rfl _ _ HKf.out rfl [e] rfl (some ⟨k8, 0, none⟩) 1 1 rfl rfl (fun h => by cases h) HNw.out (by show (xs.length + 1) * 4 ≤ _; omega) (Nat.le_trans HB.out.size HBf.out.size) ?_
    intro v9 w9 hr9 hk9 hg9
    obtain ⟨a9, q9, h9⟩ := hr9.out.shape
    obtain ⟨n9, hn9⟩ : ∃ k, (xs ++ [e]).length = k := ⟨_, rfl⟩
    rw [hn9] at h9
    have HF := hid (And.intro hr9.out (And.intro ((Kep.ofB (.slice ax m q) HBf.out).then hk9.out (fun g hg => .inl hg)) (fun g (hg : v9.ownBlock = some g) => show (Value.slice ax m q).ownBlock = some g ∨ w.heap.size ≤ g by
      rcases hg9 g hg with h | h
      · exact .inl h
      · exact .inr (Nat.le_trans HBf.out.size h))))
    subst h9
    clear hn9 hr9 hk9 hg9 HKf HNw HBf
    go_wp2
    go_ret
    exact ⟨_, rfl, HF⟩)
set_option maxRecDepth 100000 in
set_option maxHeartbeats 4000000 in
theorem partsUni (h : TbM τ w0 tB V T) {id : Nat} {x : TR} (hx : T.types[id]? = some x) (hk : x.kind = 8) (h2 : x.lo < x.hi) (h3 : x.hi ≤ T.opts.length) : PaC w0 tB T id x := by
  intro w ax m q xs hr hb hl
  obtain ⟨gt, qt, hC⟩ := ty_all h hx
  have hlt := (List.getElem?_eq_some_iff.1 hx).1
  have i1 : (id : Int) < (T.types.length : Int) := by omega
  obtain ⟨c0, hc⟩ := hC w hb
  have k0 : w.cell? ⟨gt, id * 12, none⟩ = some (.int .u8 (x.kind : Int)) := hc 0 (by decide)
  rw [hk] at k0
  have k4 : w.cell? ⟨gt, id * 12 + 4, none⟩ = some (.int .i32 (x.lo : Int)) := hc 4 (by decide)
  have k5 : w.cell? ⟨gt, id * 12 + 5, none⟩ = some (.int .i32 (x.hi : Int)) := hc 5 (by decide)
  obtain ⟨gf, nF, qF, qx, hUF, hgf, hsl, hcl⟩ := h.optR h2 h3
  have c2 : w.cell? ⟨tB, 2, none⟩ = some (.slice (some ⟨gf, 0, none⟩) nF qF) := by rw [← hUF]; exact (h.below hb).b.cell 2
  have hp : prtT T x = opT T x := by unfold prtT; rw [if_neg (by omega), if_neg (by omega), if_pos hk]
  rw [hp] at hl ⊢
  obtain ⟨lo, hlo1⟩ : ∃ a, x.lo = a := ⟨_, rfl⟩
  obtain ⟨hi, hhi1⟩ : ∃ a, x.hi = a := ⟨_, rfl⟩
  obtain ⟨mm, hm⟩ : ∃ m, hi - lo = m := ⟨_, rfl⟩
  rw [hlo1, hhi1, hm] at hsl
  rw [hlo1] at k4 hcl
  rw [hhi1] at k5
  have hol : (opT T x).length = mm := by unfold opT; rw [List.length_take, List.length_drop]; omega
  obtain ⟨os, hos⟩ : ∃ l, opT T x = l := ⟨_, rfl⟩
  rw [hos] at hcl hol hl ⊢
  have Hcl : Hid (∀ wz, Below w0.heap.size w0 wz → ∀ ad, some (⟨gf, lo, none⟩ : Addr) = some ad → ∀ j u, (os.flatMap rtId.f)[j]? = some u → wz.cell? (ad.add j) = some u) := hid (fun wz hz ad had j u hu => by
    cases had
    have e2 := getElem?_flatMap_const (f := rtId.f) (sz := 1) (by decide) os (fun _ _ => rfl) j
    rw [e2, Nat.div_one] at hu
    cases hj : os[j]? with
    | none => rw [hj] at hu; cases hu
    | some o =>
      rw [hj] at hu
      have hu : ([Value.int .i32 (o : Int)] : List Value)[j % 1]? = some u := hu
      rw [Nat.mod_one] at hu
      have hu : some (Value.int .i32 (o : Int)) = some u := hu
      rw [← hu, add_lit]
      exact hcl wz hz j o hj)
  have Hol := hid hol
  have Hl := hid hl
  have HR := hid hr
  have HBB := hid hb
  clear h hx hk h2 h3 hl hC hc hp hr hb hUF hcl hos hlo1 hhi1 hm hgf hol
  generalize T.types.length = nt at c0 hlt i1
  go_enter Tryz.func32, Tryz.ntmps32
  go_upto_region 13 with fail
  obtain ⟨X0, W, hT, hI⟩ := class_mk (fun w' => Drew w w')
  have H0 : Hid (∃ y, w.drew = W y) := hid (hI _ ⟨1, rfl⟩)
  have hne : Nonempty X0 := ⟨H0.out.choose⟩
  have HTT := hid hT
  have a2 : ∀ z, (W z).cell? ⟨tB, 2, none⟩ = some (.slice (some ⟨gf, 0, none⟩) nF qF) := fun y => by obtain ⟨m, e⟩ := hT y; rw [e]; exact c2
  have a4 : ∀ z, (W z).cell? ⟨gt, id * 12 + 4, none⟩ = some (.int .i32 (lo : Int)) := fun y => by obtain ⟨m, e⟩ := hT y; rw [e]; exact k4
  have a5 : ∀ z, (W z).cell? ⟨gt, id * 12 + 5, none⟩ = some (.int .i32 (hi : Int)) := fun y => by obtain ⟨m, e⟩ := hT y; rw [e]; exact k5
  clear hT hI
  refine wp_region_class_tailT W 14 (by kernel_rfl) (by kernel_rfl) (by kernel_rfl) H0.out ?_
  dsimp only [List.take, List.drop]
  repeat (go_big_quiet_step (fail))
  refine wpQuiet_nil ?_
  intro z
  have HD := hid (HTT.out z)
  have HB := hid ((HTT.out z).below w.heap.size)
  have a2z := a2 z
  have a4z := a4 z
  have a5z := a5 z
  generalize W z = w2 at HD HB a2z a4z a5z ⊢
  clear H0 HTT a2 a4 a5
  have HR2 := hid (HR.out.below HB.out)
  refine wpList_app_l okId rfl _ _ HR2.out rfl os rfl (some ⟨gf, lo, none⟩) mm qx rfl Hol.out (fun h => by cases h) (Hcl.out w2 (HBB.out.trans (HB.out.mono HBB.out.size))) (by have := Hl.out; rw [Hol.out] at this; show (xs.length + mm) * 4 ≤ _; omega) (Nat.le_trans HBB.out.size HB.out.size) ?_
  intro v9 w9 hr9 hk9 hg9
  obtain ⟨a9, q9, h9⟩ := hr9.out.shape
  obtain ⟨n9, hn9⟩ : ∃ k, (xs ++ os).length = k := ⟨_, rfl⟩
  rw [hn9] at h9
  have HF := hid (And.intro hr9.out (And.intro ((Kep.ofB (.slice ax m q) HB.out).then hk9.out (fun g hg => .inl hg)) (fun g (hg : v9.ownBlock = some g) => show (Value.slice ax m q).ownBlock = some g ∨ w.heap.size ≤ g by
    rcases hg9 g hg with h | h
    · exact .inl h
    · exact .inr (Nat.le_trans HB.out.size h))))
  subst h9
  clear hn9 hr9 hk9 hg9 HR2 HB HD a2z a4z a5z
  go_wp2
  go_ret
  exact ⟨_, rfl, HF⟩
/-- Appending under way: from w, w with the row v on. -/
structure PaI (w0 w : World) (ax : Option Addr) (m q : Nat) (ys : List Nat) (v : Value) (wr : World) : Prop where
  o : OwR rtId w0.heap.size wr v ys
  k : Kep w (.slice ax m q) wr
  g : ∀ g, v.ownBlock = some g → (Value.slice ax m q).ownBlock = some g ∨ w.heap.size ≤ g
theorem PaI.start {ax : Option Addr} {m q : Nat} {xs : List Nat} (h : OwR rtId w0.heap.size w (.slice ax m q) xs) : PaI w0 w ax m q xs (.slice ax m q) w := ⟨h, Kep.refl _ _, fun g hg => .inl hg⟩
theorem PaI.below {ax : Option Addr} {m q : Nat} {ys : List Nat} {v : Value} {wr w' : World} (h : PaI w0 w ax m q ys v wr) (hb : Below wr.heap.size wr w') : PaI w0 w ax m q ys v w' :=
  ⟨h.o.below hb, h.k.then (Kep.ofB v hb) h.g, h.g⟩
theorem PaI.app {ax : Option Addr} {m q : Nat} {ys zs : List Nat} {v v' : Value} {wr w' : World} (h : PaI w0 w ax m q ys v wr) (ho : OwR rtId w0.heap.size w' v' zs) (hk : Kep wr v w') (hg : ∀ g, v'.ownBlock = some g → v.ownBlock = some g ∨ wr.heap.size ≤ g) : PaI w0 w ax m q zs v' w' :=
  ⟨ho, h.k.then hk h.g, fun g h1 => by
    rcases hg g h1 with h2 | h2
    · exact h.g g h2
    · exact .inr (Nat.le_trans h.k.size h2)⟩
theorem PaI.base {ax : Option Addr} {m q : Nat} {xs ys : List Nat} {v : Value} {wr : World} (h : PaI w0 w ax m q ys v wr) (hr : OwR rtId w0.heap.size w (.slice ax m q) xs) (hb : Below w0.heap.size w0 w) : Below w0.heap.size w0 wr := hb.trans (h.k.below hr.hi hb.size)
set_option maxRecDepth 100000 in
set_option maxHeartbeats 4000000 in
theorem partsCon (h : TbM τ w0 tB V T) {id : Nat} {x : TR} (hx : T.types[id]? = some x) (hk : x.kind = 7) (h2 : x.lo < x.hi) (h3 : x.hi ≤ T.flds.length) : PaC w0 tB T id x := by
  intro w ax m q xs hr hb hl
  obtain ⟨gt, qt, hC⟩ := ty_all h hx
  have hlt := (List.getElem?_eq_some_iff.1 hx).1
  have i1 : (id : Int) < (T.types.length : Int) := by omega
  obtain ⟨c0, hc⟩ := hC w hb
  have k0 : w.cell? ⟨gt, id * 12, none⟩ = some (.int .u8 (x.kind : Int)) := hc 0 (by decide)
  rw [hk] at k0
  have k4 : w.cell? ⟨gt, id * 12 + 4, none⟩ = some (.int .i32 (x.lo : Int)) := hc 4 (by decide)
  have k5 : w.cell? ⟨gt, id * 12 + 5, none⟩ = some (.int .i32 (x.hi : Int)) := hc 5 (by decide)
  obtain ⟨gf, nF, qF, qx, fo, hUF, hgf, hsl, hcl⟩ := h.fldR h2 h3
  have c1 : w.cell? ⟨tB, 1, none⟩ = some (.slice (some ⟨gf, 0, none⟩) nF qF) := by rw [← hUF]; exact (h.below hb).b.cell 1
  have hp : prtT T x = (flT T x).map (·.typ) := by unfold prtT; rw [if_neg (by omega), if_pos hk]
  rw [hp] at hl ⊢
  obtain ⟨lo, hlo1⟩ : ∃ a, x.lo = a := ⟨_, rfl⟩
  obtain ⟨hi, hhi1⟩ : ∃ a, x.hi = a := ⟨_, rfl⟩
  obtain ⟨mm, hm⟩ : ∃ m, hi - lo = m := ⟨_, rfl⟩
  rw [hlo1, hhi1, hm] at hsl
  rw [hlo1] at k4
  rw [hhi1] at k5
  have hol : (flT T x).length = mm := by unfold flT; rw [List.length_take, List.length_drop]; omega
  obtain ⟨fs, hfs⟩ : ∃ l, flT T x = l := ⟨_, rfl⟩
  rw [hfs] at hcl hol hl ⊢
  rw [List.length_map, hol] at hl
  have Hcl := hid hcl
  have Hol := hid hol
  have HR := hid hr
  have HBB := hid hb
  have HP := hid (PaI.start (w0 := w0) hr)
  clear h hx hk h2 h3 hC hc hp hr hb hUF hcl hfs hlo1 hhi1 hm hgf hol
  generalize T.types.length = nt at c0 hlt i1
  go_enter Tryz.func32, Tryz.ntmps32
  go_upto_region 7 with fail
  obtain ⟨X0, W, hT, hI⟩ := class_mk (fun w' => Drew w w')
  have H0 : Hid (∃ y, w.drew = W y) := hid (hI _ ⟨1, rfl⟩)
  have hne : Nonempty X0 := ⟨H0.out.choose⟩
  have HTT := hid hT
  have a1 : ∀ z, (W z).cell? ⟨tB, 1, none⟩ = some (.slice (some ⟨gf, 0, none⟩) nF qF) := fun y => by obtain ⟨m, e⟩ := hT y; rw [e]; exact c1
  have a4 : ∀ z, (W z).cell? ⟨gt, id * 12 + 4, none⟩ = some (.int .i32 (lo : Int)) := fun y => by obtain ⟨m, e⟩ := hT y; rw [e]; exact k4
  have a5 : ∀ z, (W z).cell? ⟨gt, id * 12 + 5, none⟩ = some (.int .i32 (hi : Int)) := fun y => by obtain ⟨m, e⟩ := hT y; rw [e]; exact k5
  clear hT hI
  refine wp_region_class W (by kernel_rfl) (by kernel_rfl) H0.out ?_
  repeat (go_big_quiet_step (fail))
  refine wpQuiet_nil ?_
  intro z
  have HD := hid (HTT.out z)
  have HB := hid ((HTT.out z).below w.heap.size)
  have a1z := a1 z
  have a4z := a4 z
  have a5z := a5 z
  generalize W z = w2 at HD HB a1z a4z a5z ⊢
  clear H0 HTT a1 a4 a5
  have HP2 : Hid (PaI w0 w ax m q (xs ++ (fs.take 0).map (·.typ)) (.slice ax m q) w2) := hid (by rw [List.take_zero]; show PaI w0 w ax m q (xs ++ []) _ _; rw [List.append_nil]; exact HP.out.below HB.out)
  clear HD HB a1z a4z a5z c1 k4 k5 hsl k0 c0 HP
  go_upto_region 8 with fail
  go_loopw [46, 1] (fun t v wr => ∃ (j : Nat) (ax' : Option Addr) (nx qx : Nat), t = .int .i64 (j : Int) ∧ v = .slice ax' nx qx ∧ j ≤ mm ∧ Hid (PaI w0 w ax m q (xs ++ (fs.take j).map (·.typ)) (.slice ax' nx qx) wr)) (fun t _ _ => mm - (intOf t).toNat)
  case atStart => exact ⟨0, _, _, _, rfl, rfl, Nat.zero_le _, HP2⟩
  case round =>
  obtain ⟨j, ax', nx, qx', rfl, rfl, hj, HI⟩ := hrel
  clear HP2
  by_cases hin : j < mm
  rotate_left
  · have d1 : decide ((j : Int) < (mm : Int)) = false := decide_eq_false (by omega)
    have HF : Hid (PaI w0 w ax m q (xs ++ fs.map (·.typ)) (.slice ax' nx qx') wr) := hid (by
      have := HI.out
      rw [List.take_of_length_le (by rw [Hol.out]; omega)] at this
      exact this)
    clear HI
    go_wp2
    go_ret
    exact ⟨_, rfl, hid ⟨HF.out.o, HF.out.k, HF.out.g⟩⟩
  have d1 : decide ((j : Int) < (mm : Int)) = true := decide_eq_true (by omega)
  have i2 : (j : Int) < (mm : Int) := by omega
  obtain ⟨fd, hf⟩ : ∃ f, fs[j]? = some f := ⟨_, List.getElem?_eq_getElem (by rw [Hol.out]; exact hin)⟩
  obtain ⟨f0, f1⟩ := Hcl.out wr (HI.out.base HR.out HBB.out) j fd hf
  have Htk : Hid ((fs.take (j + 1)).map (·.typ) = (fs.take j).map (·.typ) ++ [fd.typ]) := hid (by rw [List.take_add_one, hf]; simp)
  have hnx : (xs ++ (fs.take j).map (·.typ)).length = nx := by
    obtain ⟨a, b, hh⟩ := HI.out.o.shape
    injection hh with e1 e2 e3
    exact e2.symm
  have hnx2 : nx = xs.length + j := by rw [← hnx, List.length_append, List.length_map, List.length_take, Hol.out, Nat.min_eq_left (by omega)]
  have HNx := hid (And.intro hnx hnx2)
  obtain ⟨nm, hnm⟩ : ∃ a, fd.name = a := ⟨_, rfl⟩
  obtain ⟨o, ho⟩ : ∃ a, fd.typ = a := ⟨_, rfl⟩
  rw [hnm] at f0
  rw [ho] at f1 Htk
  obtain ⟨q9, hq9⟩ : ∃ q, wr.heap.size = q := ⟨_, rfl⟩
  have hbn := Blk.new wr [.string ⟨#[]⟩, .int .i32 0] 63
  rw [hq9] at hbn
  have HBn := hid hbn
  have Hone : Hid (∀ u ∈ fdC ⟨nm, o⟩, u.oneCell' = true) := hid (okFd.one ⟨nm, o⟩)
  have Hinf : Hid ((Tryz.prog.info? 63).map (·.size) = some 2) := hid (by kernel_rfl)
  clear hbn hf hnm ho hnx hnx2
  go_upto_region 10 with (refine wpList_store_blk rfl 63 _ _ rfl q9 (by simp [Act.eval, hq9]) (fdC ⟨nm, o⟩) rfl HBn.out rfl Hinf.out Hone.out ?_; intro w6 HB6 HU6)
  (try simp only [Act.put])
  have HP6 := hid (HI.out.below (Below.updN (nbel wr (.cells #[.string ⟨#[]⟩, .int .i32 0] 63)) HU6.out (by omega) (nbel wr (.cells #[.string ⟨#[]⟩, .int .i32 0] 63)).size))
  have g1 : w6.cell? ⟨q9, 1, none⟩ = some (.int .i32 (o : Int)) := HB6.out.cell 1
  clear HI HBn HU6 HB6 f0 f1 Hone Hinf hq9
  go_wp2_with (at_builtin; refine stopHere ?_)
  intro _
  obtain ⟨k8, hk8⟩ : ∃ k, w6.heap.size = k := ⟨_, rfl⟩
  obtain ⟨wf, hwf⟩ : ∃ wf, w6.alloc (.cells #[.int .i32 (o : Int)] 47) = wf := ⟨_, rfl⟩
  have HBf : Hid (Below w6.heap.size w6 wf) := hid (by rw [← hwf]; exact nbel w6 _)
  have HNw : Hid (∀ ad, some (⟨k8, 0, none⟩ : Addr) = some ad → ∀ j u, ([o].flatMap rtId.f)[j]? = some u → wf.cell? (ad.add j) = some u) := hid (by rw [← hwf]; exact newX rtId w6 o _ hk8.symm)
  (try simp only [hwf, hk8])
  clear hwf hk8
  have HPf := hid (HP6.out.below HBf.out)
  refine wpList_app_l okId rfl _ _ HPf.out.o rfl [o] rfl (some ⟨k8, 0, none⟩) 1 1 rfl rfl (fun h => by cases h) HNw.out (by rw [HNx.out.1]; have := HNx.out.2; show (nx + 1) * 4 ≤ _; omega) (HPf.out.base HR.out HBB.out).size ?_
  intro v9 w9 hr9 hk9 hg9
  have HE : Hid (PaI w0 w ax m q (xs ++ (fs.take (j + 1)).map (·.typ)) v9 w9) := hid (by
    have := HPf.out.app hr9.out hk9.out hg9
    rw [Htk.out, ← List.append_assoc]
    exact this)
  obtain ⟨a9, q9, h9⟩ := hr9.out.shape
  obtain ⟨n9, hn9⟩ : ∃ k, (xs ++ (fs.take j).map (·.typ) ++ [o]).length = k := ⟨_, rfl⟩
  rw [hn9] at h9
  subst h9
  clear hn9 hr9 hk9 hg9 HPf HNw HBf HP6 g1 HNx Htk
  go_wp2
  exact ⟨⟨j + 1, _, _, _, by go_num, rfl, by omega, HE⟩, by simp [intOf]; omega⟩
/-- Parts, whatever the type. -/
theorem partsW (h : TbM τ w0 tB V T) {id : Nat} {x : TR} (hx : T.types[id]? = some x) (ho : TyO T id x) : PaC w0 tB T id x := by
  rcases ho with ho | ⟨h1, h2⟩
  · cases ho with
    | ser h1 h2 h3 => exact partsSer h hx h1 h2
    | bit h1 h2 => exact partsNo h hx (by omega)
    | con h1 h2 h3 h4 => exact partsCon h hx h1 h2 h3
    | uni h1 h2 h3 h4 => exact partsUni h hx h1 h2 h3
  · exact partsNo h hx (by omega)
end
end Go.Proofs.Qxb6500883aGreatDoor
