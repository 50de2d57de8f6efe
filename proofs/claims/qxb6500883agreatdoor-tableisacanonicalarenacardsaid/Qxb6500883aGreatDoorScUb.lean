/- The table's readers: Fields, Options, Parts. -/
import Derived.Test.Qxb6500883aGreatDoorScUa
import Derived.Test.Qxb6500883aGreatDoorScRb
namespace Go.Proofs.Qxb6500883aGreatDoor
open Go.RowKit
set_option linter.unusedSimpArgs false
set_option linter.unusedVariables false
/-- Fields, options of any type. -/
def flX (T : TS) (x : TR) : List FD := if x.kind = 7 then flT T x else []
def opX (T : TS) (x : TR) : List Nat := if x.kind = 8 then opT T x else []
/-- A type's record is in order. -/
def TyO (T : TS) (i : Nat) (x : TR) : Prop := StrOk T i x ∨ (x.kind < 3 ∧ x.elem = -1)
theorem TyO.f7 {T : TS} {i : Nat} {x : TR} (h : TyO T i x) (h7 : x.kind = 7) : x.lo < x.hi ∧ x.hi ≤ T.flds.length := by
  rcases h with h | h
  · cases h with
    | ser h1 _ _ => omega
    | bit h1 _ => omega
    | con _ h2 h3 _ => exact ⟨h2, h3⟩
    | uni h1 _ _ _ => omega
  · omega
theorem TyO.o8 {T : TS} {i : Nat} {x : TR} (h : TyO T i x) (h8 : x.kind = 8) : x.lo < x.hi ∧ x.hi ≤ T.opts.length := by
  rcases h with h | h
  · cases h with
    | ser h1 _ _ => omega
    | bit h1 _ => omega
    | con h1 _ _ _ => omega
    | uni _ h2 h3 _ => exact ⟨h2, h3⟩
  · omega
theorem TyO.e3 {T : TS} {i : Nat} {x : TR} (h : TyO T i x) (h3 : x.kind = 3 ∨ x.kind = 4) : ∃ e : Nat, x.elem = (e : Int) := by
  rcases h with h | h
  · cases h with
    | ser h1 h2 _ => exact ⟨_, h2⟩
    | bit h1 _ => omega
    | con h1 _ _ _ => omega
    | uni h1 _ _ _ => omega
  · omega
theorem Kep.ofB {w w' : World} (v : Value) (h : Below w.heap.size w w') : Kep w v w' := ⟨h.os, h.tape, h.output, h.size, fun k hk _ => h.block k hk⟩
theorem Kep.refl (w : World) (v : Value) : Kep w v w := ⟨rfl, rfl, rfl, Nat.le_refl _, fun _ _ _ => rfl⟩
theorem Kep.then {w w1 w2 : World} {v v1 : Value} (h : Kep w v w1) (k : Kep w1 v1 w2) (ho : ∀ g, v1.ownBlock = some g → v.ownBlock = some g ∨ w.heap.size ≤ g) : Kep w v w2 :=
  ⟨k.os.trans h.os, k.tape.trans h.tape, k.output.trans h.output, Nat.le_trans h.size k.size, fun b hb hne => by
    have e1 := h.blk b hb hne
    have hs := h.size
    have e2 := k.blk b (by omega) (fun g hg => by
      rcases ho g hg with h1 | h1
      · exact hne g h1
      · omega)
    exact e2.trans e1⟩
section
variable {τ : Rl} {w w0 : World} {tB n0 ga mn mf : Nat} {V : TV} {T : TS} {al : Nat → Int} {bn : ByteArray → Option Nat}
theorem slice3_fd {g n cp lo hi : Nat} (h1 : lo < hi) (h2 : hi ≤ n) (h3 : n ≤ cp) (w : World) : (Instr.sliceAt 60 (.slice (some ⟨g, 0, none⟩) n cp) (some (.int .i32 (lo : Int))) (some (.int .i32 (hi : Int))) (some (.int .i32 (hi : Int)))).run Tryz.prog w = .ok (.slice (some ⟨g, lo * 2, none⟩) (hi - lo) (hi - lo)) w := by
  have e3 : ¬ (hi < lo) := by omega
  have e4 : (lo : Int) ≤ (hi : Int) := by omega
  have e5 : (hi : Int) ≤ (cp : Int) := by omega
  have e6 : hi ≤ cp := by omega
  have e7 : ¬ (cp < hi) := by omega
  have e8 : ¬ (hi - lo = 0) := by omega
  have e9 : lo ≤ hi := by omega
  have e10 : ¬ (hi = lo) := by omega
  simp [Instr.sliceAt, go_sem, Instr.sliceBounds, e9, e3, e4, e5, e6, e7, e8, e10, Addr.add]
  intro h0; exact h0.symm
theorem slice3_id {g n cp lo hi : Nat} (h1 : lo < hi) (h2 : hi ≤ n) (h3 : n ≤ cp) (w : World) : (Instr.sliceAt 58 (.slice (some ⟨g, 0, none⟩) n cp) (some (.int .i32 (lo : Int))) (some (.int .i32 (hi : Int))) (some (.int .i32 (hi : Int)))).run Tryz.prog w = .ok (.slice (some ⟨g, lo, none⟩) (hi - lo) (hi - lo)) w := by
  have e3 : ¬ (hi < lo) := by omega
  have e4 : (lo : Int) ≤ (hi : Int) := by omega
  have e5 : (hi : Int) ≤ (cp : Int) := by omega
  have e6 : hi ≤ cp := by omega
  have e7 : ¬ (cp < hi) := by omega
  have e8 : ¬ (hi - lo = 0) := by omega
  have e9 : lo ≤ hi := by omega
  have e10 : ¬ (hi = lo) := by omega
  simp [Instr.sliceAt, go_sem, Instr.sliceBounds, e9, e3, e4, e5, e6, e7, e8, e10, Addr.add]
  intro h0; exact h0.symm
set_option maxRecDepth 100000 in
theorem fieldsW (h : TbM τ w tB V T) {i : Nat} {x : TR} (hx : T.types[i]? = some x) (ho : TyO T i x) : ∃ (a : Option Addr) (m : Nat), (flX T x).length = m ∧ (∀ j f, (flX T x)[j]? = some f → ∃ g fo, a = some ⟨g, fo, none⟩ ∧ g < w.heap.size ∧ ∀ wz, Below w.heap.size w wz → wz.cell? ⟨g, fo + j * 2, none⟩ = some (.string f.name) ∧ wz.cell? ⟨g, fo + j * 2 + 1, none⟩ = some (.int .i32 (f.typ : Int))) ∧ Calls Tryz.prog 28 #[.pointer (some ⟨tB, 0, none⟩), .int .i32 (i : Int)] w fun e w' => e = .returned (.slice a m m) ∧ Hid (Below w.heap.size w w') := by
  obtain ⟨gt, q, hv, _, _, hc⟩ := h.ty hx
  have c0 : w.cell? ⟨tB, 0, none⟩ = some (.slice (some ⟨gt, 0, none⟩) T.types.length q) := by rw [← hv]; exact h.b.cell 0
  have hi := (List.getElem?_eq_some_iff.1 hx).1
  have i1 : (i : Int) < (T.types.length : Int) := by omega
  have k0 : w.cell? ⟨gt, i * 12, none⟩ = some (.int .u8 (x.kind : Int)) := hc 0 (by decide)
  by_cases h7 : x.kind = 7
  · obtain ⟨hlo, hhi⟩ := ho.f7 h7
    obtain ⟨gf, nF, qF, qx, fo, hUF, hgf, _, hcl⟩ := h.fldR hlo hhi
    have hcap := h.f
    obtain ⟨aF, q2, hUF2⟩ := h.f.shape
    rw [hUF] at hUF2
    injection hUF2 with e1 e2 e3
    subst e2
    rw [hUF] at hcap
    have hcq := hcap.cap
    have hsl := fun wz => slice3_fd (g := gf) (n := T.flds.length) (cp := qF) hlo hhi hcq.2 wz
    have hfl : flX T x = flT T x := by unfold flX; rw [if_pos h7]
    refine ⟨some ⟨gf, x.lo * 2, none⟩, x.hi - x.lo, by rw [hfl]; unfold flT; rw [List.length_take, List.length_drop]; omega, fun j f hf => ?_, ?_⟩
    · rw [hfl] at hf
      obtain ⟨gf', hv', hl', hc'⟩ : ∃ g', V.f = .slice (some ⟨g', 0, none⟩) T.flds.length qF ∧ g' = gf ∧ True := ⟨gf, hUF, rfl, trivial⟩
      refine ⟨gf, x.lo * 2, rfl, hgf, fun wz hz => ?_⟩
      have hj2 := (List.getElem?_eq_some_iff.1 hf).1
      unfold flT at hf hj2
      rw [List.length_take, List.length_drop] at hj2
      rw [List.getElem?_take, if_pos (by omega), List.getElem?_drop] at hf
      obtain ⟨g2, q', hv2, _, hc2⟩ := (h.below hz).f.get (by decide) (fun _ => rfl) hf
      rw [hUF] at hv2
      injection hv2 with e1 e2 e3
      injection e1 with e1
      injection e1 with e1
      subst e1
      refine ⟨?_, ?_⟩
      · have := hc2 0 (by decide)
        rw [show (x.lo + j) * rtFd.n + 0 = x.lo * 2 + j * 2 by show (x.lo + j) * 2 + 0 = _; omega] at this
        exact this
      · have := hc2 1 (by decide)
        rw [show (x.lo + j) * rtFd.n + 1 = x.lo * 2 + j * 2 + 1 by show (x.lo + j) * 2 + 1 = _; omega] at this
        exact this
    · have k4 : w.cell? ⟨gt, i * 12 + 4, none⟩ = some (.int .i32 (x.lo : Int)) := hc 4 (by decide)
      have k5 : w.cell? ⟨gt, i * 12 + 5, none⟩ = some (.int .i32 (x.hi : Int)) := hc 5 (by decide)
      have c1 : w.cell? ⟨tB, 1, none⟩ = some (.slice (some ⟨gf, 0, none⟩) T.flds.length qF) := by rw [← hUF]; exact h.b.cell 1
      rw [h7] at k0
      clear h hv hc hx ho hUF hcl hcap hcq hfl h7 e1 e3
      generalize T.types.length = n at c0 hi i1
      generalize T.flds.length = nF at c1 hsl
      generalize x.lo = lo at *
      generalize x.hi = hi at *
      go_enter Tryz.func28, Tryz.ntmps28
      go_upto_region 4 with fail
      obtain ⟨X0, W, hT, hI⟩ := class_mk (fun w' => Drew w w')
      have H0 : Hid (∃ y, w.drew = W y) := hid (hI _ ⟨1, rfl⟩)
      have hne : Nonempty X0 := ⟨H0.out.choose⟩
      have HTT := hid hT
      have a1 : ∀ z, (W z).cell? ⟨tB, 1, none⟩ = some (.slice (some ⟨gf, 0, none⟩) nF qF) := fun y => by obtain ⟨m, e⟩ := hT y; rw [e]; exact c1
      have a4 : ∀ z, (W z).cell? ⟨gt, i * 12 + 4, none⟩ = some (.int .i32 (lo : Int)) := fun y => by obtain ⟨m, e⟩ := hT y; rw [e]; exact k4
      have a5 : ∀ z, (W z).cell? ⟨gt, i * 12 + 5, none⟩ = some (.int .i32 (hi : Int)) := fun y => by obtain ⟨m, e⟩ := hT y; rw [e]; exact k5
      clear hT hI
      refine wp_region_class W (by kernel_rfl) (by kernel_rfl) H0.out ?_
      repeat (go_big_quiet_step (fail))
      refine wpQuiet_nil ?_
      intro z
      have HD := hid (HTT.out z)
      have HB := hid ((HTT.out z).below w.heap.size)
      have a1z := a1 z
      have a4z := a4 z
      have a5z := a5 z
      generalize W z = w2 at HD HB a1z a4z a5z ⊢
      clear H0 HTT a1 a4 a5
      go_wp2
      go_ret
      exact ⟨rfl, HB⟩
  · have t1 : ((x.kind : Int) != 7) = true := by simp; omega
    refine ⟨none, 0, by unfold flX; rw [if_neg h7]; rfl, fun j f hf => ?_, ?_⟩
    · unfold flX at hf
      rw [if_neg h7] at hf
      cases hf
    clear h hv hc hx ho h7
    generalize T.types.length = n at c0 hi i1
    go_enter Tryz.func28, Tryz.ntmps28
    go_wp2
    go_ret
    exact ⟨rfl, hid (Below.refl _ _)⟩
set_option maxRecDepth 100000 in
theorem optionsW (h : TbM τ w tB V T) {i : Nat} {x : TR} (hx : T.types[i]? = some x) (ho : TyO T i x) : ∃ (a : Option Addr) (m : Nat), (opX T x).length = m ∧ (a = none → m = 0) ∧ (∀ ad, a = some ad → ∀ j u, ((opX T x).flatMap rtId.f)[j]? = some u → ∀ wz, Below w.heap.size w wz → wz.cell? (ad.add j) = some u) ∧ Calls Tryz.prog 30 #[.pointer (some ⟨tB, 0, none⟩), .int .i32 (i : Int)] w fun e w' => e = .returned (.slice a m m) ∧ Hid (Below w.heap.size w w') := by
  obtain ⟨gt, q, hv, _, _, hc⟩ := h.ty hx
  have c0 : w.cell? ⟨tB, 0, none⟩ = some (.slice (some ⟨gt, 0, none⟩) T.types.length q) := by rw [← hv]; exact h.b.cell 0
  have hi := (List.getElem?_eq_some_iff.1 hx).1
  have i1 : (i : Int) < (T.types.length : Int) := by omega
  have k0 : w.cell? ⟨gt, i * 12, none⟩ = some (.int .u8 (x.kind : Int)) := hc 0 (by decide)
  by_cases h8 : x.kind = 8
  · obtain ⟨hlo, hhi⟩ := ho.o8 h8
    obtain ⟨gf, nF, qF, qx, hUF, hgf, _, hcl⟩ := h.optR hlo hhi
    have hcap := h.o
    obtain ⟨aF, q2, hUF2⟩ := h.o.shape
    rw [hUF] at hUF2
    injection hUF2 with e1 e2 e3
    subst e2
    rw [hUF] at hcap
    have hcq := hcap.cap
    have hsl := fun wz => slice3_id (g := gf) (n := T.opts.length) (cp := qF) hlo hhi hcq.2 wz
    have hfl : opX T x = opT T x := by unfold opX; rw [if_pos h8]
    refine ⟨some ⟨gf, x.lo, none⟩, x.hi - x.lo, by rw [hfl]; unfold opT; rw [List.length_take, List.length_drop]; omega, fun h => by (cases h), fun ad had j u hu wz hz => ?_, ?_⟩
    · cases had
      rw [hfl] at hu
      have e2 := getElem?_flatMap_const (f := rtId.f) (sz := 1) (by decide) (opT T x) (fun _ _ => rfl) j
      rw [e2, Nat.div_one] at hu
      cases hj : (opT T x)[j]? with
      | none => rw [hj] at hu; cases hu
      | some o =>
        rw [hj] at hu
        have hu : ([Value.int .i32 (o : Int)] : List Value)[j % 1]? = some u := hu
        rw [Nat.mod_one] at hu
        have hu : some (Value.int .i32 (o : Int)) = some u := hu
        rw [← hu]
        rw [add_lit]
        exact hcl wz hz j o hj
    · have k4 : w.cell? ⟨gt, i * 12 + 4, none⟩ = some (.int .i32 (x.lo : Int)) := hc 4 (by decide)
      have k5 : w.cell? ⟨gt, i * 12 + 5, none⟩ = some (.int .i32 (x.hi : Int)) := hc 5 (by decide)
      have c2 : w.cell? ⟨tB, 2, none⟩ = some (.slice (some ⟨gf, 0, none⟩) T.opts.length qF) := by rw [← hUF]; exact h.b.cell 2
      rw [h8] at k0
      clear h hv hc hx ho hUF hcl hcap hcq hfl h8 e1 e3
      generalize T.types.length = n at c0 hi i1
      generalize T.opts.length = nF at c2 hsl
      generalize x.lo = lo at *
      generalize x.hi = hi at *
      go_enter Tryz.func30, Tryz.ntmps30
      go_upto_region 4 with fail
      obtain ⟨X0, W, hT, hI⟩ := class_mk (fun w' => Drew w w')
      have H0 : Hid (∃ y, w.drew = W y) := hid (hI _ ⟨1, rfl⟩)
      have hne : Nonempty X0 := ⟨H0.out.choose⟩
      have HTT := hid hT
      have a1 : ∀ z, (W z).cell? ⟨tB, 2, none⟩ = some (.slice (some ⟨gf, 0, none⟩) nF qF) := fun y => by obtain ⟨m, e⟩ := hT y; rw [e]; exact c2
      have a4 : ∀ z, (W z).cell? ⟨gt, i * 12 + 4, none⟩ = some (.int .i32 (lo : Int)) := fun y => by obtain ⟨m, e⟩ := hT y; rw [e]; exact k4
      have a5 : ∀ z, (W z).cell? ⟨gt, i * 12 + 5, none⟩ = some (.int .i32 (hi : Int)) := fun y => by obtain ⟨m, e⟩ := hT y; rw [e]; exact k5
      clear hT hI
      refine wp_region_class W (by kernel_rfl) (by kernel_rfl) H0.out ?_
      repeat (go_big_quiet_step (fail))
      refine wpQuiet_nil ?_
      intro z
      have HD := hid (HTT.out z)
      have HB := hid ((HTT.out z).below w.heap.size)
      have a1z := a1 z
      have a4z := a4 z
      have a5z := a5 z
      generalize W z = w2 at HD HB a1z a4z a5z ⊢
      clear H0 HTT a1 a4 a5
      go_wp2
      go_ret
      exact ⟨rfl, HB⟩
  · have t1 : ((x.kind : Int) != 8) = true := by simp; omega
    refine ⟨none, 0, by unfold opX; rw [if_neg h8]; rfl, fun _ => rfl, fun ad had => by (cases had), ?_⟩
    clear h hv hc hx ho h8
    generalize T.types.length = n at c0 hi i1
    go_enter Tryz.func30, Tryz.ntmps30
    go_wp2
    go_ret
    exact ⟨rfl, hid (Below.refl _ _)⟩
end
end Go.Proofs.Qxb6500883aGreatDoor
