/- The law TableIsACanonicalArena: its memory. -/
import Derived.Test.Qxb6500883aGreatDoorScUf
import Derived.Test.Qxb6500883aGreatDoorScVg
namespace Go.Proofs.Qxb6500883aGreatDoor
open Go.RowKit
set_option linter.unusedSimpArgs false
set_option linter.unusedVariables false
/-- The law's own memory: the variable 'table', the map 'seen', the row 'used'. -/
structure LwM (w3 : World) (tB pt ms gu nt : Nat) (fs : ByteArray → Option Value) (fu : Nat → Bool) (w : World) : Prop where
  b : Below w3.heap.size w3 w
  p : Blk w pt 24 [.pointer (some ⟨tB, 0, none⟩)]
  sn : MG (fun s : ByteArray => Value.string s) w ms fs
  us : RwBo w gu nt fu
  lp : w3.heap.size ≤ pt
  lm : w3.heap.size ≤ ms
  lu : w3.heap.size ≤ gu
section
variable {w3 w w' : World} {tB pt ms gu nt : Nat} {fs : ByteArray → Option Value} {fu : Nat → Bool}
theorem LwM.below (h : LwM w3 tB pt ms gu nt fs fu w) (hb : Below w.heap.size w w') : LwM w3 tB pt ms gu nt fs fu w' :=
  ⟨h.b.trans (hb.mono h.b.size), h.p.below hb, h.sn.below hb, Blk.below h.us hb, h.lp, h.lm, h.lu⟩
theorem LwM.ne (h : LwM w3 tB pt ms gu nt fs fu w) : pt ≠ gu := fun e => by
  subst e
  have h1 := h.p
  have h2 := h.us
  unfold RwBo at h2
  unfold Blk at h1 h2
  rw [h1] at h2
  injection h2 with h2
  injection h2 with _ h3
  exact absurd h3 (by decide)
theorem LwM.setU (h : LwM w3 tB pt ms gu nt fs fu w) {j : Nat} (hj : j < nt) (x : Bool) : LwM w3 tB pt ms gu nt fs (fup fu j x) (w.setCell ⟨gu, j, none⟩ (.bool x)) :=
  have hu : Upd gu w (w.setCell ⟨gu, j, none⟩ (.bool x)) := (Upd.refl gu w).setCell rfl _
  ⟨Below.updN h.b hu h.lu h.b.size, h.p.of (hu.block pt h.p.lt h.ne), h.sn.upd hu (h.sn.ne h.us), h.us.set hj x, h.lp, h.lm, h.lu⟩
theorem LwM.putS (h : LwM w3 tB pt ms gu nt fs fu w) (s : ByteArray) (v : Value) : ∃ w', (Instr.mapUpdate 54 (.map (some ms)) (.string s) v).run Tryz.prog w = .ok () w' ∧ LwM w3 tB pt ms gu nt (gup fs s (some v)) fu w' := by
  obtain ⟨w', h1, h2, h3⟩ := h.sn.put (P := Tryz.prog) Tryz.underlying54 (keyStr Tryz.underlying9) s v
  exact ⟨w', h1, ⟨Below.updN h.b h3 h.lm h.b.size, h.p.of (h3.block pt h.p.lt (fun e => (h.sn.ne h.p) e.symm)), h2, Blk.of h.us (h3.block gu (Blk.lt h.us) (fun e => (h.sn.ne h.us) e.symm)), h.lp, h.lm, h.lu⟩⟩
theorem LwM.lookS (h : LwM w3 tB pt ms gu nt fs fu w) (s : ByteArray) (hs : fs s = none) : (Instr.lookup 54 (.map (some ms)) (.string s) false).run Tryz.prog w = .ok (.bool false) w := by
  have := h.sn.look (P := Tryz.prog) Tryz.underlying54 (keyStr Tryz.underlying9) s (z := .bool false) (fun w => by kernel_rfl)
  rw [hs] at this
  exact this
theorem LwM.cell (h : LwM w3 tB pt ms gu nt fs fu w) : w.cell? ⟨pt, 0, none⟩ = some (.pointer (some ⟨tB, 0, none⟩)) := h.p.cell 0
end
theorem run_makeMap0 {t kt vt : TypeId} (ht : Tryz.prog.underlying t = some (.map kt vt)) (wz : World) : (Instr.makeMap t none).run Tryz.prog wz = .ok (.map (some wz.heap.size)) (wz.alloc (.map #[] 0)) := by
  simp [Instr.makeMap, go_sem, ht]
/-- What 'seen' holds behind i types. -/
def SnI (T : TS) (al : Nat → Int) (i : Nat) (fs : ByteArray → Option Value) : Prop := ∀ s v, fs s = some v → ∃ (j : Nat) (x : TR), j < i ∧ T.types[j]? = some x ∧ s = ⟨(strB T al j x).toArray⟩
/-- What 'used' holds behind i types. -/
def UsI (T : TS) (i : Nat) (fu : Nat → Bool) : Prop := ∀ t j, t < i → j ∈ prI T t → fu j = true
theorem SnI.none {T : TS} {al : Nat → Int} {bn : ByteArray → Option Nat} (hA : ArP T al bn) {i : Nat} {x : TR} {fs : ByteArray → Option Value} (h : SnI T al i fs) (hx : T.types[i]? = some x) : fs ⟨(strB T al i x).toArray⟩ = none := by
  cases hf : fs ⟨(strB T al i x).toArray⟩ with
  | none => rfl
  | some v =>
    obtain ⟨j, y, h1, h2, h3⟩ := h _ v hf
    have e : strB T al i x = strB T al j y := by
      have := congrArg (fun s : ByteArray => s.data.toList) h3
      simpa using this
    have := hA.si i j x y hx h2 e
    omega
theorem SnI.put {T : TS} {al : Nat → Int} {i : Nat} {x : TR} {fs : ByteArray → Option Value} {v : Value} (h : SnI T al i fs) (hx : T.types[i]? = some x) : SnI T al (i + 1) (gup fs ⟨(strB T al i x).toArray⟩ (some v)) := fun s u hu => by
  by_cases e : s = ⟨(strB T al i x).toArray⟩
  · exact ⟨i, x, by omega, hx, e⟩
  · rw [gup_ne _ _ e] at hu
    obtain ⟨j, y, h1, h2, h3⟩ := h s u hu
    exact ⟨j, y, by omega, h2, h3⟩
theorem UsI.step {T : TS} {i : Nat} {fu : Nat → Bool} (h : UsI T i fu) : UsI T (i + 1) (mrk fu (prI T i)) := fun t j ht hj => by
  unfold mrk
  rw [Bool.or_eq_true]
  by_cases e : t = i
  · subst e; exact .inr (decide_eq_true hj)
  · exact .inl (h t j (by omega) hj)
/-- A type's record as the law reads it. -/
theorem ArP.tyo {T : TS} {al : Nat → Int} {bn : ByteArray → Option Nat} (hA : ArP T al bn) (i : Nat) (x : TR) (hx : T.types[i]? = some x) : TyO T i x := by
  by_cases h8 : i < 8
  · exact .inr (hA.lo i x h8 hx)
  · exact .inl (hA.st i x (by omega) hx)
theorem ArP.trd {n0 : Nat} {τ : Rl} {w : World} {tB : Nat} {V : TV} {T : TS} {ga mn mf : Nat} {al : Nat → Int} {bn : ByteArray → Option Nat} (hA : ArP T al bn) (h : TbG n0 τ w tB V T ga mn mf al bn) : TRd w τ tB V T ga al := ⟨h.tb, h.va, h.al, hA.ab, hA.st, hA.n2, hA.no, hA.nd, hA.ln⟩
theorem ArP.prl {T : TS} {al : Nat → Int} {bn : ByteArray → Option Nat} (hA : ArP T al bn) (i : Nat) : (prI T i).length ≤ 200000 := by
  unfold prI
  cases hx : T.types[i]? with
  | none => exact Nat.zero_le _
  | some x =>
    show (prtT T x).length ≤ 200000
    have h1 := hA.nf
    have h2 := hA.no
    unfold prtT flT opT
    repeat' split
    all_goals simp
    all_goals omega
/-- The parts, put together: the element, the fields, the options. -/
theorem ArP.join {T : TS} {al : Nat → Int} {bn : ByteArray → Option Nat} (hA : ArP T al bn) {i : Nat} {x : TR} (hx : T.types[i]? = some x) : (if 0 ≤ x.elem then [x.elem.toNat] else []) ++ (flX T x).map (·.typ) ++ opX T x = prI T i := by
  rw [prI_get hx]
  unfold prtT flX opX
  by_cases h8 : i < 8
  · obtain ⟨h1, h2⟩ := hA.lo i x h8 hx
    rw [if_neg (show ¬ 0 ≤ x.elem by omega), if_neg (show ¬ x.kind = 7 by omega), if_neg (show ¬ x.kind = 8 by omega), if_neg (show ¬ (x.kind = 3 ∨ x.kind = 4) by omega), if_neg (show ¬ x.kind = 7 by omega)]
    rfl
  · obtain ⟨h1, h0, h2⟩ := hA.hi i x (by omega) hx
    by_cases h3 : x.kind = 3 ∨ x.kind = 4
    · obtain ⟨e, he⟩ := (hA.tyo i x hx).e3 h3
      rw [if_pos (show 0 ≤ x.elem by omega), if_neg (show ¬ x.kind = 7 by omega), if_neg (show ¬ x.kind = 8 by omega), if_pos h3]
      rfl
    · have := h2 (by omega) (by omega)
      rw [if_neg (show ¬ 0 ≤ x.elem by omega), if_neg h3]
      by_cases h7 : x.kind = 7
      · rw [if_pos h7, if_neg (show ¬ x.kind = 8 by omega)]; simp [h7]
      · rw [if_neg h7]; simp [h7]
section
variable {τ : Rl} {w w0 : World} {tB : Nat} {V : TV} {T : TS}
set_option maxRecDepth 100000 in
theorem fieldsA (h : TbM τ w tB V T) {i : Nat} {x : TR} (hx : T.types[i]? = some x) (ho : TyO T i x) : ∃ (a : Option Addr) (m : Nat), (flX T x).length = m ∧ (∀ j f, (flX T x)[j]? = some f → ∃ g fo, a = some ⟨g, fo, none⟩ ∧ g < w.heap.size ∧ ∀ wz, Below w.heap.size w wz → wz.cell? ⟨g, fo + j * 2, none⟩ = some (.string f.name) ∧ wz.cell? ⟨g, fo + j * 2 + 1, none⟩ = some (.int .i32 (f.typ : Int))) ∧ ∀ w1, Below w.heap.size w w1 → Calls Tryz.prog 28 #[.pointer (some ⟨tB, 0, none⟩), .int .i32 (i : Int)] w1 fun e w' => e = .returned (.slice a m m) ∧ Hid (Below w1.heap.size w1 w') := by
  obtain ⟨gt, qt, hC⟩ := ty_all h hx
  have hi := (List.getElem?_eq_some_iff.1 hx).1
  have i1 : (i : Int) < (T.types.length : Int) := by omega
  by_cases h7 : x.kind = 7
  · obtain ⟨hlo, hhi⟩ := ho.f7 h7
    obtain ⟨gf, nF, qF, qx, fo, hUF, hgf, _, hcl⟩ := h.fldR hlo hhi
    have hcap := h.f
    obtain ⟨aF, q2, hUF2⟩ := h.f.shape
    rw [hUF] at hUF2
    injection hUF2 with e1 e2 e3
    subst e2
    rw [hUF] at hcap
    have hcq := hcap.cap
    have hsl := fun wz => slice3_fd (g := gf) (n := T.flds.length) (cp := qF) hlo hhi hcq.2 wz
    have hfl : flX T x = flT T x := by unfold flX; rw [if_pos h7]
    refine ⟨some ⟨gf, x.lo * 2, none⟩, x.hi - x.lo, by rw [hfl]; unfold flT; rw [List.length_take, List.length_drop]; omega, fun j f hf => ?_, fun w1 hb1 => ?_⟩
    · rw [hfl] at hf
      refine ⟨gf, x.lo * 2, rfl, hgf, fun wz hz => ?_⟩
      have hj2 := (List.getElem?_eq_some_iff.1 hf).1
      unfold flT at hf hj2
      rw [List.length_take, List.length_drop] at hj2
      rw [List.getElem?_take, if_pos (by omega), List.getElem?_drop] at hf
      obtain ⟨g2, q', hv2, _, hc2⟩ := (h.below hz).f.get (by decide) (fun _ => rfl) hf
      rw [hUF] at hv2
      injection hv2 with e1 e2 e3
      injection e1 with e1
      injection e1 with e1
      subst e1
      refine ⟨?_, ?_⟩
      · have := hc2 0 (by decide)
        rw [show (x.lo + j) * rtFd.n + 0 = x.lo * 2 + j * 2 by show (x.lo + j) * 2 + 0 = _; omega] at this
        exact this
      · have := hc2 1 (by decide)
        rw [show (x.lo + j) * rtFd.n + 1 = x.lo * 2 + j * 2 + 1 by show (x.lo + j) * 2 + 1 = _; omega] at this
        exact this
    · obtain ⟨c0, hc⟩ := hC w1 hb1
      have k0 : w1.cell? ⟨gt, i * 12, none⟩ = some (.int .u8 (x.kind : Int)) := hc 0 (by decide)
      have k4 : w1.cell? ⟨gt, i * 12 + 4, none⟩ = some (.int .i32 (x.lo : Int)) := hc 4 (by decide)
      have k5 : w1.cell? ⟨gt, i * 12 + 5, none⟩ = some (.int .i32 (x.hi : Int)) := hc 5 (by decide)
      have c1 : w1.cell? ⟨tB, 1, none⟩ = some (.slice (some ⟨gf, 0, none⟩) T.flds.length qF) := by rw [← hUF]; exact (h.below hb1).b.cell 1
      rw [h7] at k0
      clear h hC hc hx ho hUF hcl hcap hcq hfl h7 e1 e3 hb1
      generalize T.types.length = n at c0 hi i1
      generalize T.flds.length = nF at c1 hsl
      generalize x.lo = lo at *
      generalize x.hi = hi at *
      go_enter Tryz.func28, Tryz.ntmps28
      go_upto_region 4 with fail
      obtain ⟨X0, W, hT, hI⟩ := class_mk (fun w' => Drew w1 w')
      have H0 : Hid (∃ y, w1.drew = W y) := hid (hI _ ⟨1, rfl⟩)
      have hne : Nonempty X0 := ⟨H0.out.choose⟩
      have HTT := hid hT
      have a1 : ∀ z, (W z).cell? ⟨tB, 1, none⟩ = some (.slice (some ⟨gf, 0, none⟩) nF qF) := fun y => by obtain ⟨m, e⟩ := hT y; rw [e]; exact c1
      have a4 : ∀ z, (W z).cell? ⟨gt, i * 12 + 4, none⟩ = some (.int .i32 (lo : Int)) := fun y => by obtain ⟨m, e⟩ := hT y; rw [e]; exact k4
      have a5 : ∀ z, (W z).cell? ⟨gt, i * 12 + 5, none⟩ = some (.int .i32 (hi : Int)) := fun y => by obtain ⟨m, e⟩ := hT y; rw [e]; exact k5
      clear hT hI
      refine wp_region_class W (by kernel_rfl) (by kernel_rfl) H0.out ?_
      repeat (go_big_quiet_step (fail))
      refine wpQuiet_nil ?_
      intro z
      have HD := hid (HTT.out z)
      have HB := hid ((HTT.out z).below w1.heap.size)
      have a1z := a1 z
      have a4z := a4 z
      have a5z := a5 z
      generalize W z = w2 at HD HB a1z a4z a5z ⊢
      clear H0 HTT a1 a4 a5
      go_wp2
      go_ret
      exact ⟨rfl, HB⟩
  · have t1 : ((x.kind : Int) != 7) = true := by simp; omega
    refine ⟨none, 0, by unfold flX; rw [if_neg h7]; rfl, fun j f hf => ?_, fun w1 hb1 => ?_⟩
    · unfold flX at hf
      rw [if_neg h7] at hf
      cases hf
    obtain ⟨c0, hc⟩ := hC w1 hb1
    have k0 : w1.cell? ⟨gt, i * 12, none⟩ = some (.int .u8 (x.kind : Int)) := hc 0 (by decide)
    clear h hC hc hx ho h7 hb1
    generalize T.types.length = n at c0 hi i1
    go_enter Tryz.func28, Tryz.ntmps28
    go_wp2
    go_ret
    exact ⟨rfl, hid (Below.refl _ _)⟩
set_option maxRecDepth 100000 in
theorem optionsA (h : TbM τ w tB V T) {i : Nat} {x : TR} (hx : T.types[i]? = some x) (ho : TyO T i x) : ∃ (a : Option Addr) (m : Nat), (opX T x).length = m ∧ (a = none → m = 0) ∧ (∀ ad, a = some ad → ∀ j u, ((opX T x).flatMap rtId.f)[j]? = some u → ∀ wz, Below w.heap.size w wz → wz.cell? (ad.add j) = some u) ∧ ∀ w1, Below w.heap.size w w1 → Calls Tryz.prog 30 #[.pointer (some ⟨tB, 0, none⟩), .int .i32 (i : Int)] w1 fun e w' => e = .returned (.slice a m m) ∧ Hid (Below w1.heap.size w1 w') := by
  obtain ⟨gt, qt, hC⟩ := ty_all h hx
  have hi := (List.getElem?_eq_some_iff.1 hx).1
  have i1 : (i : Int) < (T.types.length : Int) := by omega
  by_cases h8 : x.kind = 8
  · obtain ⟨hlo, hhi⟩ := ho.o8 h8
    obtain ⟨gf, nF, qF, qx, hUF, hgf, _, hcl⟩ := h.optR hlo hhi
    have hcap := h.o
    obtain ⟨aF, q2, hUF2⟩ := h.o.shape
    rw [hUF] at hUF2
    injection hUF2 with e1 e2 e3
    subst e2
    rw [hUF] at hcap
    have hcq := hcap.cap
    have hsl := fun wz => slice3_id (g := gf) (n := T.opts.length) (cp := qF) hlo hhi hcq.2 wz
    have hfl : opX T x = opT T x := by unfold opX; rw [if_pos h8]
    refine ⟨some ⟨gf, x.lo, none⟩, x.hi - x.lo, by rw [hfl]; unfold opT; rw [List.length_take, List.length_drop]; omega, fun h => by (cases h), fun ad had j u hu wz hz => ?_, fun w1 hb1 => ?_⟩
    · cases had
      rw [hfl] at hu
      have e2 := getElem?_flatMap_const (f := rtId.f) (sz := 1) (by decide) (opT T x) (fun _ _ => rfl) j
      rw [e2, Nat.div_one] at hu
      cases hj : (opT T x)[j]? with
      | none => rw [hj] at hu; cases hu
      | some o =>
        rw [hj] at hu
        have hu : ([Value.int .i32 (o : Int)] : List Value)[j % 1]? = some u := hu
        rw [Nat.mod_one] at hu
        have hu : some (Value.int .i32 (o : Int)) = some u := hu
        rw [← hu]
        rw [add_lit]
        exact hcl wz hz j o hj
    · obtain ⟨c0, hc⟩ := hC w1 hb1
      have k0 : w1.cell? ⟨gt, i * 12, none⟩ = some (.int .u8 (x.kind : Int)) := hc 0 (by decide)
      have k4 : w1.cell? ⟨gt, i * 12 + 4, none⟩ = some (.int .i32 (x.lo : Int)) := hc 4 (by decide)
      have k5 : w1.cell? ⟨gt, i * 12 + 5, none⟩ = some (.int .i32 (x.hi : Int)) := hc 5 (by decide)
      have c2 : w1.cell? ⟨tB, 2, none⟩ = some (.slice (some ⟨gf, 0, none⟩) T.opts.length qF) := by rw [← hUF]; exact (h.below hb1).b.cell 2
      rw [h8] at k0
      clear h hC hc hx ho hUF hcl hcap hcq hfl h8 e1 e3 hb1
      generalize T.types.length = n at c0 hi i1
      generalize T.opts.length = nF at c2 hsl
      generalize x.lo = lo at *
      generalize x.hi = hi at *
      go_enter Tryz.func30, Tryz.ntmps30
      go_upto_region 4 with fail
      obtain ⟨X0, W, hT, hI⟩ := class_mk (fun w' => Drew w1 w')
      have H0 : Hid (∃ y, w1.drew = W y) := hid (hI _ ⟨1, rfl⟩)
      have hne : Nonempty X0 := ⟨H0.out.choose⟩
      have HTT := hid hT
      have a1 : ∀ z, (W z).cell? ⟨tB, 2, none⟩ = some (.slice (some ⟨gf, 0, none⟩) nF qF) := fun y => by obtain ⟨m, e⟩ := hT y; rw [e]; exact c2
      have a4 : ∀ z, (W z).cell? ⟨gt, i * 12 + 4, none⟩ = some (.int .i32 (lo : Int)) := fun y => by obtain ⟨m, e⟩ := hT y; rw [e]; exact k4
      have a5 : ∀ z, (W z).cell? ⟨gt, i * 12 + 5, none⟩ = some (.int .i32 (hi : Int)) := fun y => by obtain ⟨m, e⟩ := hT y; rw [e]; exact k5
      clear hT hI
      refine wp_region_class W (by kernel_rfl) (by kernel_rfl) H0.out ?_
      repeat (go_big_quiet_step (fail))
      refine wpQuiet_nil ?_
      intro z
      have HD := hid (HTT.out z)
      have HB := hid ((HTT.out z).below w1.heap.size)
      have a1z := a1 z
      have a4z := a4 z
      have a5z := a5 z
      generalize W z = w2 at HD HB a1z a4z a5z ⊢
      clear H0 HTT a1 a4 a5
      go_wp2
      go_ret
      exact ⟨rfl, HB⟩
  · have t1 : ((x.kind : Int) != 8) = true := by simp; omega
    refine ⟨none, 0, by unfold opX; rw [if_neg h8]; rfl, fun _ => rfl, fun ad had => by (cases had), fun w1 hb1 => ?_⟩
    obtain ⟨c0, hc⟩ := hC w1 hb1
    have k0 : w1.cell? ⟨gt, i * 12, none⟩ = some (.int .u8 (x.kind : Int)) := hc 0 (by decide)
    clear h hC hc hx ho h8 hb1
    generalize T.types.length = n at c0 hi i1
    go_enter Tryz.func30, Tryz.ntmps30
    go_wp2
    go_ret
    exact ⟨rfl, hid (Below.refl _ _)⟩
end
theorem OwR.rdg {n0 : Nat} {w : World} {a : Option Addr} {m c : Nat} {xs : List Nat} (h : OwR rtId n0 w (.slice a m c) xs) : Rdg w a m (xs.map fun (x : Nat) => Value.int .i32 (x : Int)) :=
  ⟨by rw [List.length_map]; exact h.lenId, fun i v hv => by
    rw [List.getElem?_map] at hv
    cases ho : xs[i]? with
    | none => rw [ho] at hv; cases hv
    | some o =>
      rw [ho] at hv
      obtain ⟨g, h1, h2, h3, h4⟩ := h.id ho
      refine ⟨g, 0, h1, ?_⟩
      rw [Nat.zero_add, h4]
      exact hv⟩
/-- A name with a space is no field's. -/
theorem ArP.nsf {T : TS} {al : Nat → Int} {bn : ByteArray → Option Nat} (hA : ArP T al bn) (i : Nat) : sealT T T.types.length ⟨(i : Int), ⟨#[110, 111, 32, 115, 117, 99, 104, 32, 102, 105, 101, 108, 100]⟩⟩ = none := by
  refine sealT_none _ (Nat.le_refl _) (fun i' x d _ hx h7 hd e => ?_)
  injection e with _ e2
  have h1 := ((hA.fn i' x hx h7).2 d hd).wd 32 (by rw [← e2]; decide)
  exact absurd h1 (by decide)
end Go.Proofs.Qxb6500883aGreatDoor
