/- Two arenas: the first difference, plainly; Equal of two tables. -/
import Derived.Test.Qxb6500887aGreatAzW
import Derived.Deep.DeepCutAuto
namespace Go.Proofs.Qxb6500887aGreat
open Go.RowKit
set_option linter.unusedSimpArgs false
set_option linter.unusedVariables false
/-- A struct is built in a quiet walk, behind 'go_big_quiet_want'. -/
theorem quiet_buildO {P : Program} {C : World → Prop} {K : Act → Prop} {a : Act} {o : Oper} (t : TypeId) (parts : Array (Nat × Operand)) (ho : o.op = .build t parts) (cs : Array Value)
    (hb : P.built t (parts.map fun (i, x) => (i, a.eval x)).toList = some cs) (h : K (a.put o.dst (.agg cs))) : o.quiet P a C K := by
  refine ⟨.agg cs, fun w hC => ?_, h⟩
  have e : (execOp a.eval o).run P w = .ok (.value (.agg cs)) w := by
    unfold execOp
    simp only [ho, Sem.run_bind, run_build w t _ cs hb, Result.andThen_ok]
    rfl
  unfold Oper.quietAt
  rw [e]
  exact ⟨rfl, rfl⟩
def eqT (n : Nat) (f g : Nat → Nat) : Prop := ∀ i, i < n → f i = g i
def fdT (n : Nat) (f g : Nat → Nat) (i : Nat) : Prop := i < n ∧ f i ≠ g i ∧ ∀ j, j < i → f j = g j
section
variable {n i i' p p' : Nat} {f g : Nat → Nat} {S S' S'' : AS} {l l' : AL} {w w' : World}
theorem fdT.uniq (h : fdT n f g i) (k : fdT n f g i') : i = i' := by
  rcases Nat.lt_trichotomy i i' with c | c | c
  · exact absurd (k.2.2 i c) h.2.1
  · exact c
  · exact absurd (h.2.2 i' c) k.2.1
theorem eqT.nofd (h : eqT n f g) (k : fdT n f g i) : False := k.2.1 (h i k.1)
theorem eqT.symm (h : eqT n f g) : eqT n g f := fun i hi => (h i hi).symm
theorem eqT.trans {e : Nat → Nat} (h : eqT n f g) (k : eqT n g e) : eqT n f e := fun i hi => (h i hi).trans (k i hi)
theorem eqT.refl (n : Nat) (f : Nat → Nat) : eqT n f f := fun _ _ => rfl
def tWd : Nat → Nat | 0 => 2 | 1 => 1 | 2 => 1 | _ => 4
def tPr : Nat → Nat | 0 => 32 | 1 => 64 | 2 => 64 | _ => 16
def tLn : Nat → Nat | 0 => 512 | 1 => 256 | 2 => 512 | _ => 128
def tN : Nat → Nat | 0 => 16384 | 1 => 16384 | 2 => 32768 | _ => 2048
def AS.tX (S : AS) : Nat → (Nat → Nat) | 0 => S.C | 1 => S.M | 2 => S.L | _ => S.T
def AL.tT (l : AL) : Nat → Nat | 0 => l.tc | 1 => l.tm | 2 => l.tl | _ => l.tt
def AL.tB (l : AL) : Nat → Nat | 0 => l.bc | 1 => l.bm | 2 => l.bl | _ => l.bt
def AS.te (S : AS) (j i : Nat) : Nat := eN (tWd j) (tPr j) (S.tX j) i
theorem AM.tbj (h : AM l S w) {j : Nat} (hj : j < 4) : TB (l.tT j) (l.tB j) (tN j) (tWd j) (tPr j) (tLn j) (S.tX j) w := by
  match j, hj with
  | 0, _ => exact h.tc
  | 1, _ => exact h.tm
  | 2, _ => exact h.tl
  | 3, _ => exact h.tt
/-- All entries are the same. -/
def Sm (S S' : AS) : Prop := eqT 32768 S.W S'.W ∧ ∀ j, j < 4 → eqT (tN j) (S.te j) (S'.te j)
theorem Sm.refl (S : AS) : Sm S S := ⟨eqT.refl _ _, fun _ _ => eqT.refl _ _⟩
theorem Sm.symm (h : Sm S S') : Sm S' S := ⟨h.1.symm, fun j hj => (h.2 j hj).symm⟩
theorem Sm.trans (h : Sm S S') (k : Sm S' S'') : Sm S S'' := ⟨h.1.trans k.1, fun j hj => (h.2 j hj).trans (k.2 j hj)⟩
/-- The first difference. -/
def Fd (S S' : AS) (p i : Nat) : Prop := (p = 0 ∧ i = 0 ∧ Sm S S') ∨ (p = 1 ∧ fdT 32768 S.W S'.W i) ∨ ∃ j, j < 4 ∧ p = j + 2 ∧ eqT 32768 S.W S'.W ∧ (∀ j', j' < j → eqT (tN j') (S.te j') (S'.te j')) ∧ fdT (tN j) (S.te j) (S'.te j) i
theorem Fd.uniq (h : Fd S S' p i) (k : Fd S S' p' i') : p = p' ∧ i = i' := by
  rcases h with ⟨rfl, rfl, hs⟩ | ⟨rfl, hf⟩ | ⟨j, hj, rfl, hw, ha, hf⟩ <;> rcases k with ⟨rfl, rfl, ks⟩ | ⟨rfl, kf⟩ | ⟨j', kj, rfl, kw, ka, kf⟩
  · exact ⟨rfl, rfl⟩
  · exact (hs.1.nofd kf).elim
  · exact ((hs.2 j' kj).nofd kf).elim
  · exact (ks.1.nofd hf).elim
  · exact ⟨rfl, hf.uniq kf⟩
  · exact (kw.nofd hf).elim
  · exact ((ks.2 j hj).nofd hf).elim
  · exact (hw.nofd kf).elim
  · rcases Nat.lt_trichotomy j j' with c | c | c
    · exact ((ka j c).nofd hf).elim
    · subst c; exact ⟨rfl, hf.uniq kf⟩
    · exact ((ha j' c).nofd kf).elim
theorem Fd.zero (h : Fd S S' p i) : p = 0 ↔ Sm S S' := by
  rcases h with ⟨rfl, rfl, hs⟩ | ⟨rfl, hf⟩ | ⟨j, hj, rfl, hw, ha, hf⟩
  · exact ⟨fun _ => hs, fun _ => rfl⟩
  · exact ⟨fun e => by omega, fun e => (e.1.nofd hf).elim⟩
  · exact ⟨fun e => by omega, fun e => ((e.2 j hj).nofd hf).elim⟩
theorem Fd.bnd (h : Fd S S' p i) : p ≤ 5 ∧ i ≤ 32768 := by
  rcases h with ⟨rfl, rfl, hs⟩ | ⟨rfl, hf⟩ | ⟨j, hj, rfl, hw, ha, hf⟩
  · omega
  · exact ⟨by omega, by have := hf.1; omega⟩
  · refine ⟨by omega, ?_⟩
    have := hf.1
    have : tN j ≤ 32768 := by match j, hj with | 0, _ => decide | 1, _ => decide | 2, _ => decide | 3, _ => decide
    omega
/-- Words that agree entry for entry are the same. -/
theorem enW_ext {wd per x y : Nat} (hw : Wd wd per) (hx : x < 18446744073709551616) (hy : y < 18446744073709551616) (h : ∀ j, j < per → enW wd x j = enW wd y j) : x = y := by
  apply Nat.eq_of_testBit_eq
  intro i
  by_cases hi : i < 64
  · have hm := hw.mul
    have hwd : 0 < wd := by omega
    have hj : i / wd < per := by
      rw [Nat.div_lt_iff_lt_mul hwd]
      omega
    have e := congrArg (fun z => z.testBit (i % wd)) (h (i / wd) hj)
    simp only [testBit_enW] at e
    rw [show i / wd * wd + i % wd = i by rw [Nat.mul_comm]; exact Nat.div_add_mod i wd, decide_eq_true (Nat.mod_lt i hwd), Bool.and_true, Bool.and_true] at e
    exact e
  · rw [Nat.testBit_lt_two_pow (Nat.lt_of_lt_of_le hx (Nat.pow_le_pow_right (n := 2) (by decide) (by omega : 64 ≤ i))), Nat.testBit_lt_two_pow (Nat.lt_of_lt_of_le hy (Nat.pow_le_pow_right (n := 2) (by decide) (by omega : 64 ≤ i)))]
theorem TK.fill {n wd per len : Nat} (h : TK n wd per len) {q j : Nat} (hq : q < len) (hj : j < per) : per * q + j < n := by
  rw [h.len]
  calc per * q + j < per * q + per := by omega
    _ = per * (q + 1) := by rw [Nat.mul_add, Nat.mul_one]
    _ ≤ per * len := Nat.mul_le_mul_left _ hq
theorem eN_words {t b t' b' n wd per len : Nat} {X Y : Nat → Nat} (h : TB t b n wd per len X w) (h' : TB t' b' n wd per len Y w') : eqT n (eN wd per X) (eN wd per Y) ↔ eqT len X Y := by
  constructor
  · intro e q hq
    refine enW_ext h.k.wd (h.lt q) (h'.lt q) fun j hj => ?_
    have := e (per * q + j) (h.k.fill hq hj)
    rw [eN_at h.k.wd q j hj, eN_at h.k.wd q j hj] at this
    exact this
  · intro e i hi
    unfold eN
    rw [e (i / per) (h.k.div hi)]
set_option maxRecDepth 100000 in
set_option maxHeartbeats 1000000 in
theorem TB.sameShape {t b t' b' n wd per len : Nat} {X Y : Nat → Nat} (h : TB t b n wd per len X w) (h' : TB t' b' n wd per len Y w) : Calls Tryz.prog 211 #[.pointer (some ⟨t, 0, none⟩), .pointer (some ⟨t', 0, none⟩)] w fun e w' => e = .returned (.bool true) ∧ Below w.heap.size w w' := by
  have HX := hid h
  have HY := hid h'
  have hn := h.k.n
  have hwd := h.k.wd.mul
  clear h h'
  go_enter Tryz.func211, Tryz.ntmps211
  go_upto_region 1 with fail
  obtain ⟨X', W, HTT, H0, hne, HCl⟩ := class_below w
  have y1 : ∀ y, (W y).cell? ⟨t, 1, none⟩ = some (.int .i64 (n : Int)) := fun y => (HX.out.below (HTT.out y)).cells.2.1
  have y2 : ∀ y, (W y).cell? ⟨t, 2, none⟩ = some (.int .u64 (wd : Int)) := fun y => (HX.out.below (HTT.out y)).cells.2.2.1
  have z1 : ∀ y, (W y).cell? ⟨t', 1, none⟩ = some (.int .i64 (n : Int)) := fun y => (HY.out.below (HTT.out y)).cells.2.1
  have z2 : ∀ y, (W y).cell? ⟨t', 2, none⟩ = some (.int .u64 (wd : Int)) := fun y => (HY.out.below (HTT.out y)).cells.2.2.1
  refine wp_region_class_last W rfl (by kernel_rfl) (by kernel_rfl) (by kernel_rfl) H0.out ?_
  dsimp only [List.dropLast, List.getLast]
  repeat (go_big_quiet_step (fail))
  refine wpQuiet_nil ?_
  intro z
  have HZ := hid (HTT.out z)
  generalize W z = wz at HZ ⊢
  clear y1 y2 z1 z2 H0 HTT HCl hne HX HY
  go_wp2
  go_ret
  exact ⟨rfl, HZ.out⟩
set_option maxRecDepth 100000 in
set_option maxHeartbeats 1000000 in
theorem TB.equal {t b t' b' n wd per len : Nat} {X Y : Nat → Nat} (h : TB t b n wd per len X w) (h' : TB t' b' n wd per len Y w) : Calls Tryz.prog 151 #[.pointer (some ⟨t, 0, none⟩), .pointer (some ⟨t', 0, none⟩)] w fun e w' => ∃ r : Bool, e = .returned (.bool r) ∧ Hid ((r = true ↔ eqT n (eN wd per X) (eN wd per Y)) ∧ Below w.heap.size w w') := by
  have HE := hid (eN_words h h')
  have HC := hid (h.sameShape h')
  have HX := hid h
  have HY := hid h'
  have hlen : len ≤ 32768 := h.k.small
  clear h h'
  go_enter Tryz.func151, Tryz.ntmps151
  go_wp2_with fail
  refine HC.out.mono ?_
  rintro e w1 ⟨rfl, hb1⟩
  have HX1 := hid (HX.out.below hb1)
  have HY1 := hid (HY.out.below hb1)
  have HB := hid hb1
  clear HC hb1 HX HY
  obtain ⟨a0, _, _, _, _, _⟩ := HX1.out.cells
  obtain ⟨b0, _, _, _, _, _⟩ := HY1.out.cells
  go_wp2_with fail
  go_loopw [16] (fun u wr => ∃ (k : Nat), u = .int .i64 (k : Int) ∧ k ≤ len ∧ Hid (eqT k X Y) ∧ wr = w1) (fun u _ => len - (intOf u).toNat)
  case atStart => exact ⟨0, rfl, Nat.zero_le _, hid (fun i hi => by omega), rfl⟩
  case round =>
  obtain ⟨k, rfl, hk, HK, rfl⟩ := hrel
  by_cases hlt : k < len
  rotate_left
  · have HF : Hid (eqT len X Y) := hid (by have := HK.out; rwa [show k = len by omega] at this)
    have hkn : k = len := by omega
    subst hkn
    clear HK
    go_wp2
    go_ret
    exact ⟨true, rfl, hid ⟨⟨fun _ => HE.out.2 HF.out, fun _ => rfl⟩, HB.out⟩⟩
  have x0 := HX1.out.word hlt
  have y0 := HY1.out.word hlt
  by_cases he : X k = Y k
  · have d0 : (((X k : Nat) : Int) != ((Y k : Nat) : Int)) = false := by simp [he]
    have HF : Hid (eqT (k + 1) X Y) := hid (fun i hi => by
      by_cases c : i < k
      · exact HK.out i c
      · rw [show i = k by omega]; exact he)
    clear HK he
    go_wp2
    exact ⟨⟨k + 1, by go_num, by omega, HF, trivial⟩, by simp [intOf]; omega⟩
  · have d0 : (((X k : Nat) : Int) != ((Y k : Nat) : Int)) = true := by simp; omega
    have HF : Hid (¬ eqT len X Y) := hid (fun e => he (e k hlt))
    clear HK he
    go_wp2
    go_ret
    exact ⟨false, rfl, hid ⟨⟨fun e => (by cases e), fun e => (HF.out (HE.out.1 e)).elim⟩, HB.out⟩⟩
end
end Go.Proofs.Qxb6500887aGreat
