/- The table's readers: Kind, Name, Elem, Valid, FieldIndex, Lookup, Const, Decls, Structure. -/
import Derived.Test.Qxb6500883aGreatDoorScRa
namespace Go.Proofs.Qxb6500883aGreatDoor
open Go.RowKit
set_option linter.unusedSimpArgs false
set_option linter.unusedVariables false
section
variable {τ : Rl} {w : World} {tB n0 ga mn mf : Nat} {V : TV} {T : TS} {al : Nat → Int} {bn : ByteArray → Option Nat}
set_option maxRecDepth 100000 in
theorem kindW (h : TbM τ w tB V T) {i : Nat} {x : TR} (hx : T.types[i]? = some x) : Calls Tryz.prog 26 #[.pointer (some ⟨tB, 0, none⟩), .int .i32 (i : Int)] w fun e w' => e = .returned (.int .u8 (x.kind : Int)) ∧ w' = w := by
  obtain ⟨gt, q, hv, _, _, hc⟩ := h.ty hx
  have c0 : w.cell? ⟨tB, 0, none⟩ = some (.slice (some ⟨gt, 0, none⟩) T.types.length q) := by rw [← hv]; exact h.b.cell 0
  have hi := (List.getElem?_eq_some_iff.1 hx).1
  have i1 : (i : Int) < (T.types.length : Int) := by omega
  have c1 : w.cell? ⟨gt, i * 12, none⟩ = some (.int .u8 (x.kind : Int)) := hc 0 (by decide)
  clear h hv hc hx
  generalize T.types.length = n at c0 hi i1
  go_enter Tryz.func26, Tryz.ntmps26
  go_wp2
  go_ret
  exact ⟨rfl, rfl⟩
set_option maxRecDepth 100000 in
theorem nameTW (h : TbM τ w tB V T) {i : Nat} {x : TR} (hx : T.types[i]? = some x) : Calls Tryz.prog 37 #[.pointer (some ⟨tB, 0, none⟩), .int .i32 (i : Int)] w fun e w' => e = .returned (.string x.name) ∧ w' = w := by
  obtain ⟨gt, q, hv, _, _, hc⟩ := h.ty hx
  have c0 : w.cell? ⟨tB, 0, none⟩ = some (.slice (some ⟨gt, 0, none⟩) T.types.length q) := by rw [← hv]; exact h.b.cell 0
  have hi := (List.getElem?_eq_some_iff.1 hx).1
  have i1 : (i : Int) < (T.types.length : Int) := by omega
  have c1 : w.cell? ⟨gt, i * 12 + 7, none⟩ = some (.string x.name) := hc 7 (by decide)
  clear h hv hc hx
  generalize T.types.length = n at c0 hi i1
  go_enter Tryz.func37, Tryz.ntmps37
  go_wp2
  go_ret
  exact ⟨rfl, rfl⟩
set_option maxRecDepth 100000 in
theorem elemW (h : TbM τ w tB V T) {i : Nat} {x : TR} (hx : T.types[i]? = some x) : Calls Tryz.prog 27 #[.pointer (some ⟨tB, 0, none⟩), .int .i32 (i : Int)] w fun e w' => e = .returned (.int .i32 x.elem) ∧ w' = w := by
  obtain ⟨gt, q, hv, _, _, hc⟩ := h.ty hx
  have c0 : w.cell? ⟨tB, 0, none⟩ = some (.slice (some ⟨gt, 0, none⟩) T.types.length q) := by rw [← hv]; exact h.b.cell 0
  have hi := (List.getElem?_eq_some_iff.1 hx).1
  have i1 : (i : Int) < (T.types.length : Int) := by omega
  have c1 : w.cell? ⟨gt, i * 12 + 3, none⟩ = some (.int .i32 x.elem) := hc 3 (by decide)
  clear h hv hc hx
  generalize T.types.length = n at c0 hi i1
  go_enter Tryz.func27, Tryz.ntmps27
  go_wp2
  go_ret
  exact ⟨rfl, rfl⟩
set_option maxRecDepth 100000 in
theorem validNW (tB : Nat) (w : World) : Calls Tryz.prog 25 #[.pointer (some ⟨tB, 0, none⟩), .int .i32 (-1)] w fun e w' => e = .returned (.bool false) ∧ w' = w := by
  go_enter Tryz.func25, Tryz.ntmps25
  go_wp2
  go_ret
  exact ⟨rfl, rfl⟩
set_option maxRecDepth 100000 in
theorem validLW (h : TbM τ w tB V T) (h0 : 0 < T.types.length) (h1 : T.types.length ≤ 200000) : Calls Tryz.prog 25 #[.pointer (some ⟨tB, 0, none⟩), .int .i32 (T.types.length : Int)] w fun e w' => e = .returned (.bool false) ∧ w' = w := by
  obtain ⟨x, hx⟩ : ∃ x, T.types[0]? = some x := ⟨_, List.getElem?_eq_getElem h0⟩
  obtain ⟨gt, q, hv, _, _, hc⟩ := h.ty hx
  have c0 : w.cell? ⟨tB, 0, none⟩ = some (.slice (some ⟨gt, 0, none⟩) T.types.length q) := by rw [← hv]; exact h.b.cell 0
  clear h hv hc hx
  generalize T.types.length = n at c0 h1 ⊢
  have d1 : decide ((n : Int) ≥ 0) = true := decide_eq_true (by omega)
  have d2 : decide ((0 : Int) ≤ (n : Int)) = true := decide_eq_true (by omega)
  have ew : IntKind.i64.wrap (n : Int) = (n : Int) := by rw [IntKind.wrap_i64]; omega
  go_enter Tryz.func25, Tryz.ntmps25
  go_wp2
  go_ret
  exact ⟨rfl, rfl⟩
set_option maxRecDepth 100000 in
theorem structureW {w0 : World} (h : TRd w0 τ tB V T ga al) {id : Nat} {r : List UInt8} (hA : ∀ (w : World) (ax : Option Addr) (m q : Nat) (bs : List UInt8), OwR rtB w0.heap.size w (.slice ax m q) bs → Below w0.heap.size w0 w → bs.length + r.length ≤ 70368744177664 → Calls Tryz.prog 51 #[.pointer (some ⟨tB, 0, none⟩), .slice ax m q, .int .i32 (id : Int)] w fun e w' => ∃ v, e = .returned v ∧ Hid (OwR rtB w0.heap.size w' v (bs ++ r) ∧ Below w0.heap.size w0 w')) (hl : r.length ≤ 70368744177664) : Calls Tryz.prog 33 #[.pointer (some ⟨tB, 0, none⟩), .int .i32 (id : Int)] w0 fun e w' => e = .returned (.string ⟨r.toArray⟩) ∧ Below w0.heap.size w0 w' := by
  have HA := hid (hA w0 none 0 0 [] (OwR.nil _ _ _) (Below.refl _ _) (by simpa using hl))
  clear h hl hA
  go_enter Tryz.func33, Tryz.ntmps33
  go_wp2_with fail
  refine HA.out.mono ?_
  rintro e w1 ⟨v, rfl, h1⟩
  have hr1 := h1.out.1
  rw [List.nil_append] at hr1
  obtain ⟨a1, q1, hv1⟩ := hr1.shape
  obtain ⟨n1, hn1⟩ : ∃ k, r.length = k := ⟨_, rfl⟩
  rw [hn1] at hv1
  subst hv1
  have hst := hr1.str
  have HB := hid h1.out.2
  clear HA h1 hr1 hn1
  go_wp2
  go_ret
  exact ⟨rfl, HB.out⟩
set_option maxRecDepth 100000 in
theorem fieldIndexS (h : TbG n0 τ w tB V T ga mn mf al bn) {i j : Nat} {s : ByteArray} (hk : sealT T T.types.length ⟨(i : Int), s⟩ = some (.int .i32 (j : Int))) (hj : j ≤ 200000) : Calls Tryz.prog 29 #[.pointer (some ⟨tB, 0, none⟩), .int .i32 (i : Int), .string s] w fun e w' => e = .returned (.tuple #[.int .i64 (j : Int), .bool true]) ∧ w' = w := by
  have c5 : w.cell? ⟨tB, 5, none⟩ = some (.map (some mf)) := by rw [← h.vf]; exact h.tb.b.cell 5
  have hlk0 := h.fm.lookT (P := Tryz.prog) Tryz.underlying90 keyFK ⟨(i : Int), s⟩ (z := .int .i32 0) (fun w => by kernel_rfl)
  rw [hk] at hlk0
  have hlk : (Instr.lookup 90 (.map (some mf)) (.agg #[.int .i32 (i : Int), .string s]) true).run Tryz.prog w = .ok (.tuple #[.int .i32 (j : Int), .bool true]) w := hlk0
  clear hlk0
  have ew : IntKind.i64.wrap (j : Int) = (j : Int) := by rw [IntKind.wrap_i64]; omega
  clear h hk
  go_enter Tryz.func29, Tryz.ntmps29
  go_wp2
  go_ret2
  exact ⟨rfl, rfl⟩
set_option maxRecDepth 100000 in
theorem fieldIndexN (h : TbG n0 τ w tB V T ga mn mf al bn) {i : Nat} {s : ByteArray} (hk : sealT T T.types.length ⟨(i : Int), s⟩ = none) : Calls Tryz.prog 29 #[.pointer (some ⟨tB, 0, none⟩), .int .i32 (i : Int), .string s] w fun e w' => e = .returned (.tuple #[.int .i64 0, .bool false]) ∧ w' = w := by
  have c5 : w.cell? ⟨tB, 5, none⟩ = some (.map (some mf)) := by rw [← h.vf]; exact h.tb.b.cell 5
  have hlk0 := h.fm.lookT (P := Tryz.prog) Tryz.underlying90 keyFK ⟨(i : Int), s⟩ (z := .int .i32 0) (fun w => by kernel_rfl)
  rw [hk] at hlk0
  have hlk : (Instr.lookup 90 (.map (some mf)) (.agg #[.int .i32 (i : Int), .string s]) true).run Tryz.prog w = .ok (.tuple #[.int .i32 0, .bool false]) w := hlk0
  clear hlk0
  clear h hk
  go_enter Tryz.func29, Tryz.ntmps29
  go_wp2
  go_ret2
  exact ⟨rfl, rfl⟩
set_option maxRecDepth 100000 in
theorem lookupSW (h : TbG n0 τ w tB V T ga mn mf al bn) {s : ByteArray} {d : Nat} {y : DC} (hb : bn s = some d) (hy : T.decls[d]? = some y) : Calls Tryz.prog 35 #[.pointer (some ⟨tB, 0, none⟩), .string s] w fun e w' => e = .returned (.tuple #[.int .i32 (if y.sort = 0 then -1 else y.typ), .bool (decide (y.sort ≠ 0))]) ∧ w' = w := by
  obtain ⟨gd, q, hv, _, hc⟩ := h.tb.d.get (by decide) (fun _ => rfl) hy
  have c3 : w.cell? ⟨tB, 3, none⟩ = some (.slice (some ⟨gd, 0, none⟩) T.decls.length q) := by rw [← hv]; exact h.tb.b.cell 3
  have c4 : w.cell? ⟨tB, 4, none⟩ = some (.map (some mn)) := by rw [← h.vb]; exact h.tb.b.cell 4
  have hi := (List.getElem?_eq_some_iff.1 hy).1
  have i1 : (d : Int) < (T.decls.length : Int) := by omega
  have k0 : w.cell? ⟨gd, d * 4, none⟩ = some (.int .u8 (y.sort : Int)) := hc 0 (by decide)
  have k3 : w.cell? ⟨gd, d * 4 + 3, none⟩ = some (.int .i32 y.typ) := hc 3 (by decide)
  have hlk0 := h.mg.lookT (P := Tryz.prog) Tryz.underlying89 (keyStr Tryz.underlying9) s (z := .int .i32 0) (fun w => by kernel_rfl)
  rw [hb] at hlk0
  have hlk : (Instr.lookup 89 (.map (some mn)) (.string s) true).run Tryz.prog w = .ok (.tuple #[.int .i32 (d : Int), .bool true]) w := hlk0
  clear hlk0
  clear h hv hc hy hb
  generalize T.decls.length = n at c3 hi i1
  by_cases h0 : y.sort = 0
  · have e1 : ((y.sort : Int) == 0) = true := by simp; omega
    have e2 : decide (y.sort ≠ 0) = false := decide_eq_false (by omega)
    rw [if_pos h0, e2]
    clear e2 h0
    go_enter Tryz.func35, Tryz.ntmps35
    go_wp2
    go_ret2
    exact ⟨rfl, rfl⟩
  · have e1 : ((y.sort : Int) == 0) = false := by simp; omega
    have e2 : decide (y.sort ≠ 0) = true := decide_eq_true (by omega)
    rw [if_neg h0, e2]
    clear e2 h0
    go_enter Tryz.func35, Tryz.ntmps35
    go_wp2
    go_ret2
    exact ⟨rfl, rfl⟩
set_option maxRecDepth 100000 in
theorem constW (h : TbG n0 τ w tB V T ga mn mf al bn) {s : ByteArray} {d : Nat} {y : DC} (hb : bn s = some d) (hy : T.decls[d]? = some y) : Calls Tryz.prog 36 #[.pointer (some ⟨tB, 0, none⟩), .string s] w fun e w' => e = .returned (.tuple #[.int .u64 (if y.sort = 0 then (y.value : Int) else 0), .bool (decide (y.sort = 0))]) ∧ w' = w := by
  obtain ⟨gd, q, hv, _, hc⟩ := h.tb.d.get (by decide) (fun _ => rfl) hy
  have c3 : w.cell? ⟨tB, 3, none⟩ = some (.slice (some ⟨gd, 0, none⟩) T.decls.length q) := by rw [← hv]; exact h.tb.b.cell 3
  have c4 : w.cell? ⟨tB, 4, none⟩ = some (.map (some mn)) := by rw [← h.vb]; exact h.tb.b.cell 4
  have hi := (List.getElem?_eq_some_iff.1 hy).1
  have i1 : (d : Int) < (T.decls.length : Int) := by omega
  have k0 : w.cell? ⟨gd, d * 4, none⟩ = some (.int .u8 (y.sort : Int)) := hc 0 (by decide)
  have k2 : w.cell? ⟨gd, d * 4 + 2, none⟩ = some (.int .u64 (y.value : Int)) := hc 2 (by decide)
  have hlk0 := h.mg.lookT (P := Tryz.prog) Tryz.underlying89 (keyStr Tryz.underlying9) s (z := .int .i32 0) (fun w => by kernel_rfl)
  rw [hb] at hlk0
  have hlk : (Instr.lookup 89 (.map (some mn)) (.string s) true).run Tryz.prog w = .ok (.tuple #[.int .i32 (d : Int), .bool true]) w := hlk0
  clear hlk0
  clear h hv hc hy hb
  generalize T.decls.length = n at c3 hi i1
  by_cases h0 : y.sort = 0
  · have e1 : ((y.sort : Int) != 0) = false := by simp; omega
    have e2 : decide (y.sort = 0) = true := decide_eq_true (by omega)
    rw [if_pos h0, e2]
    clear e2 h0
    go_enter Tryz.func36, Tryz.ntmps36
    go_wp2
    go_ret2
    exact ⟨rfl, rfl⟩
  · have e1 : ((y.sort : Int) != 0) = true := by simp; omega
    have e2 : decide (y.sort = 0) = false := decide_eq_false (by omega)
    rw [if_neg h0, e2]
    clear e2 h0
    go_enter Tryz.func36, Tryz.ntmps36
    go_wp2
    go_ret2
    exact ⟨rfl, rfl⟩
theorem slice_dd {a : Option Addr} {n cp : Nat} (h3 : n ≤ cp) (hs : ∀ ad, a = some ad → ad.spot = none) (w : World) : (Instr.sliceAt 71 (.slice a n cp) none (some (.int .i64 (n : Int))) (some (.int .i64 (n : Int)))).run Tryz.prog w = .ok (.slice a n n) w := by
  have e5 : (n : Int) ≤ (cp : Int) := by omega
  have e7 : ¬ (cp < n) := by omega
  cases a with
  | none => simp [Instr.sliceAt, go_sem, Instr.sliceBounds, e5, e7, Addr.add]
  | some ad =>
    obtain ⟨b, o, sp⟩ := ad
    have : sp = none := hs _ rfl
    subst this
    simp [Instr.sliceAt, go_sem, Instr.sliceBounds, e5, e7, Addr.add]
set_option maxRecDepth 100000 in
theorem declsW (h : TbM τ w tB V T) : ∃ a, (∀ d y, T.decls[d]? = some y → ∃ gd, a = some ⟨gd, 0, none⟩ ∧ gd < w.heap.size ∧ ∀ j, j < 4 → w.cell? ⟨gd, d * 4 + j, none⟩ = (dcC y)[j]?) ∧ (∀ ad, a = some ad → ad.spot = none) ∧ ∀ w1 : World, Below w.heap.size w w1 → Calls Tryz.prog 34 #[.pointer (some ⟨tB, 0, none⟩)] w1 fun e w' => e = .returned (.slice a T.decls.length T.decls.length) ∧ Hid (Below w1.heap.size w1 w') := by
  obtain ⟨aF, qF, hUF⟩ := h.d.shape
  have hcap := h.d
  rw [hUF] at hcap
  have hcq := hcap.cap
  have hsp : ∀ ad, aF = some ad → ad.spot = none := fun ad ha => by
    rcases h.d.own.2 with ⟨e, _⟩ | ⟨g, cap, cur, e, _⟩
    · rw [hUF] at e
      injection e with e1
      rw [e1] at ha
      cases ha
    · rw [hUF] at e
      injection e with e1
      rw [e1] at ha
      cases ha
      rfl
  refine ⟨aF, fun d y hy => ?_, hsp, fun w1 hb => ?_⟩
  · obtain ⟨g, q, hv, hl, hc⟩ := h.d.get (by decide) (fun _ => rfl) hy
    rw [hUF] at hv
    injection hv with e1 e2 e3
    exact ⟨g, e1, hl, hc⟩
  · have h1 := h.below hb
    have c3 : w1.cell? ⟨tB, 3, none⟩ = some (.slice aF T.decls.length qF) := by rw [← hUF]; exact h1.b.cell 3
    have hsl := fun wz => slice_dd (a := aF) (n := T.decls.length) (cp := qF) hcq.2 hsp wz
    clear h hcap hUF h1 hb
    generalize T.decls.length = n at c3 hsl ⊢
    go_enter Tryz.func34, Tryz.ntmps34
    go_upto_region 1 with fail
    obtain ⟨X0, W, hT, hI⟩ := class_mk (fun w' => Drew w1 w')
    have H0 : Hid (∃ y, w1.drew = W y) := hid (hI _ ⟨1, rfl⟩)
    have hne : Nonempty X0 := ⟨H0.out.choose⟩
    have HTT := hid hT
    have a3 : ∀ z, (W z).cell? ⟨tB, 3, none⟩ = some (.slice aF n qF) := fun y => by obtain ⟨m, e⟩ := hT y; rw [e]; exact c3
    clear hT hI
    refine wp_region_class W (by kernel_rfl) (by kernel_rfl) H0.out ?_
    repeat (go_big_quiet_step (fail))
    refine wpQuiet_nil ?_
    intro z
    have HD := hid (HTT.out z)
    have HB := hid ((HTT.out z).below w1.heap.size)
    have a3z := a3 z
    generalize W z = w2 at HD HB a3z ⊢
    clear H0 HTT a3
    go_wp2
    go_ret
    exact ⟨rfl, HB⟩
end
end Go.Proofs.Qxb6500883aGreatDoor
