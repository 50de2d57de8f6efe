/- Objects: headers, check, openGranule, Open. -/
import Derived.Test.Qxb6500887aGreatAzD
import Derived.Test.Qxb6500887aGreatLastT
namespace Go.Proofs.Qxb6500887aGreat
open Go.RowKit
set_option linter.unusedSimpArgs false
set_option linter.unusedVariables false

/-- The worlds above w, as a class. -/
theorem class_below (w : World) : ∃ (X : Type) (W : X → World), Hid (∀ x, Below w.heap.size w (W x)) ∧ Hid (∃ y, w.drew = W y) ∧ Nonempty X ∧ Hid (∀ x w', Below (W x).heap.size (W x) w' → ∃ y, w' = W y) := by
  obtain ⟨X, W, hT, hI⟩ := class_mk (fun w' => Below w.heap.size w w')
  have h0 : ∃ y, w.drew = W y := hI _ (Drew.below ⟨1, rfl⟩ _)
  exact ⟨X, W, hid hT, hid h0, ⟨h0.choose⟩, hid (fun x w' hb => hI _ ((hT x).trans (hb.mono (hT x).size)))⟩
/-- An opened object. -/
structure Ob where
  k : Nat
  raw : Nat
  sz : Nat
  rf : Nat
def obL (l : AL) (o : Ob) : List Value := [.pointer (some ⟨l.a, 0, none⟩), .int .i64 (o.k : Int), .int .u64 (o.raw : Int), .int .i64 (o.sz : Int), .int .i64 (o.rf : Int)]
def ob0 : List Value := [.pointer none, .int .i64 0, .int .u64 0, .int .i64 0, .int .i64 0]
structure ObOk (o : Ob) : Prop where
  k : o.k + 1 + o.sz ≤ 32768
  rf : o.rf ≤ o.sz
  s1 : 1 ≤ o.sz
  s2 : o.sz ≤ 8192
  ev : o.k % 2 = 0
  rw : o.raw < 18446744073709551616
theorem info_ob : (Tryz.prog.info? 61).map (·.size) = some 5 := by kernel_rfl
theorem agg_ob : AggOf Tryz.prog 61 5 := AggOf.struct Tryz.underlying61 (by kernel_rfl)
theorem obL_one (l : AL) (o : Ob) : ∀ u ∈ obL l o, u.oneCell' = true := by
  intro u hu
  simp only [obL, List.mem_cons, List.not_mem_nil, or_false] at hu
  rcases hu with rfl | rfl | rfl | rfl | rfl <;> rfl
theorem ob0_one : ∀ u ∈ ob0, u.oneCell' = true := by
  intro u hu
  simp only [ob0, List.mem_cons, List.not_mem_nil, or_false] at hu
  rcases hu with rfl | rfl | rfl | rfl | rfl <;> rfl
set_option maxRecDepth 100000 in
theorem hdWordsZ (sz rf : Nat) (h : sz ≤ 8192) (w : World) : Calls Tryz.prog 42 #[.agg #[.int .i64 (sz : Int), .int .i64 (rf : Int)]] w fun e w' => e = .returned (.int .i64 ((1 + sz : Nat) : Int)) ∧ Below w.heap.size w w' := by
  go_enter Tryz.func42, Tryz.ntmps42
  go_wp2
  go_ret
  exact ⟨by first | rfl | simp, nbel _ _⟩
set_option maxRecDepth 100000 in
theorem hdDataZ (sz rf : Nat) (h : sz ≤ 8192) (h2 : rf ≤ sz) (w : World) : Calls Tryz.prog 41 #[.agg #[.int .i64 (sz : Int), .int .i64 (rf : Int)]] w fun e w' => e = .returned (.int .i64 ((sz - rf : Nat) : Int)) ∧ Below w.heap.size w w' := by
  have e1 : (sz : Int) - (rf : Int) = ((sz - rf : Nat) : Int) := by omega
  go_enter Tryz.func41, Tryz.ntmps41
  go_wp2
  go_ret
  exact ⟨by first | rfl | (rw [← e1]; rfl) | simp, nbel _ _⟩
/-- Inside a method of an object: the arena, the object's copy in the block p. -/
structure OX (w0 : World) (l : AL) (S : AS) (p : Nat) (cs : List Value) (w : World) : Prop where
  am : AM l S w
  bel : Below w0.heap.size w0 w
  bk : Blk w p 61 cs
  lo : w0.heap.size ≤ p
section
variable {l : AL} {S : AS} {w w' w0 : World} {p : Nat} {cs : List Value} {o : Ob}
theorem OX.below (h : OX w0 l S p cs w) (hb : Below w.heap.size w w') : OX w0 l S p cs w' := ⟨h.am.below hb, h.bel.trans (hb.mono h.bel.size), h.bk.below hb, h.lo⟩
theorem OX.new (h : AM l S w) (hb : Below w0.heap.size w0 w) (hp : w.heap.size = p) : OX w0 l S p cs (w.alloc (.cells cs.toArray 61)) := by
  have k := Blk.new w cs 61
  rw [hp] at k
  have := hb.size
  exact ⟨h.below (nbel w _), hb.trans ((nbel w _).mono hb.size), k, by omega⟩
theorem OX.ps (h : OX w0 l S p (obL l o) w) : w.cell? ⟨p, 0, none⟩ = some (.pointer (some ⟨l.a, 0, none⟩)) ∧ w.cell? ⟨p, 1, none⟩ = some (.int .i64 (o.k : Int)) ∧ w.cell? ⟨p, 2, none⟩ = some (.int .u64 (o.raw : Int)) ∧ w.cell? ⟨p, 3, none⟩ = some (.int .i64 (o.sz : Int)) ∧ w.cell? ⟨p, 4, none⟩ = some (.int .i64 (o.rf : Int)) := ⟨h.bk.cell 0, h.bk.cell 1, h.bk.cell 2, h.bk.cell 3, h.bk.cell 4⟩
/-- Whether an object's header word still stands. -/
def ckC (S : AS) (o : Ob) : Int := if S.W o.k = o.raw then 0 else 6
set_option maxRecDepth 100000 in
set_option maxHeartbeats 1000000 in
theorem checkZ (h : AM l S w) (ho : ObOk o) : Calls Tryz.prog 208 #[.agg (obL l o).toArray] w fun e w' => e = .returned (.int .u8 (ckC S o)) ∧ Below w.heap.size w w' := by
  obtain ⟨p, hp⟩ : ∃ p, w.heap.size = p := ⟨_, rfl⟩
  have HX := hid (OX.new (cs := obL l o) h (Below.refl _ w) hp)
  have hk : o.k < 32768 := by have := ho.k; omega
  obtain ⟨c, hc⟩ : ∃ c, ckC S o = c := ⟨_, rfl⟩
  rw [hc]
  have HC := hid hc
  clear hc h ho
  dsimp only [obL] at HX ⊢
  go_enter Tryz.func208, Tryz.ntmps208
  go_upto_region 1 with fail
  (try simp only [hp])
  generalize hw2 : w.alloc _ = w2 at HX ⊢
  clear hw2 hp
  obtain ⟨X, W, HTT, H0, hne, HCl⟩ := class_below w2
  have HXw := hid (fun y => HX.out.below (HTT.out y))
  have p0 : ∀ y, (W y).cell? ⟨p, 0, none⟩ = some (.pointer (some ⟨l.a, 0, none⟩)) := fun y => (HXw.out y).bk.cell 0
  have p1 : ∀ y, (W y).cell? ⟨p, 1, none⟩ = some (.int .i64 (o.k : Int)) := fun y => (HXw.out y).bk.cell 1
  have p2 : ∀ y, (W y).cell? ⟨p, 2, none⟩ = some (.int .u64 (o.raw : Int)) := fun y => (HXw.out y).bk.cell 2
  have a0 : ∀ y, (W y).cell? ⟨l.a, 0, none⟩ = some (.slice (some ⟨l.w, 0, none⟩) 32768 32768) := fun y => (HXw.out y).am.cells.1
  have x0 : ∀ y, (W y).cell? ⟨l.w, o.k, none⟩ = some (.int .u64 ((S.W o.k : Nat) : Int)) := fun y => (HXw.out y).am.word hk
  have ik : (o.k : Int) < 32768 := by omega
  obtain ⟨k, hkk⟩ : ∃ k, o.k = k := ⟨_, rfl⟩
  obtain ⟨x, hx⟩ : ∃ x, S.W o.k = x := ⟨_, rfl⟩
  obtain ⟨r, hr⟩ : ∃ r, o.raw = r := ⟨_, rfl⟩
  have HCC : Hid (c = if x = r then 0 else 6) := hid (by rw [← HC.out]; unfold ckC; rw [hx, hr])
  rw [hx] at x0
  rw [hr] at p2
  rw [hkk] at x0 p1 ik
  obtain ⟨bq, hbq⟩ : ∃ b, ((x : Int) != (r : Int)) = b := ⟨_, rfl⟩
  have HCB : Hid ((bq = false → c = 0) ∧ (bq = true → c = 6)) := hid (by
    rw [HCC.out, ← hbq]
    by_cases e : x = r
    · simp [e]
    · have : ¬ ((x : Int) = (r : Int)) := by omega
      simp [e, this])
  clear hx hr HC hk hkk HCC
  refine wp_region_class W (by kernel_rfl) (by kernel_rfl) H0.out ?_
  repeat (go_big_quiet_step (fail))
  refine wpQuiet_nil ?_
  intro z
  have HZ := hid (HXw.out z).bel
  generalize W z = wz at HZ ⊢
  clear p0 p1 p2 a0 x0 HXw H0 HTT HCl hne HX
  clear hbq
  cases bq with
  | false =>
    as_aux_lemma =>
    have HE : Hid (c = 0) := hid (HCB.out.1 rfl)
    go_wp2
    go_ret
    exact ⟨by rw [HE.out]; rfl, HZ.out⟩
  | true =>
    as_aux_lemma =>
    have HE : Hid (c = 6) := hid (HCB.out.2 rfl)
    go_wp2
    go_ret
    exact ⟨by rw [HE.out]; rfl, HZ.out⟩
set_option maxRecDepth 100000 in
theorem check0 (w : World) : Calls Tryz.prog 208 #[.agg ob0.toArray] w fun e w' => e = .returned (.int .u8 6) ∧ Below w.heap.size w w' := by
  obtain ⟨p, hp⟩ : ∃ p, w.heap.size = p := ⟨_, rfl⟩
  have HX : Hid (Below w.heap.size w (w.alloc (.cells ob0.toArray 61)) ∧ Blk (w.alloc (.cells ob0.toArray 61)) p 61 ob0) := hid (by
    have k := Blk.new w ob0 61
    rw [hp] at k
    exact ⟨nbel w _, k⟩)
  dsimp only [ob0] at HX ⊢
  go_enter Tryz.func208, Tryz.ntmps208
  go_upto_region 1 with fail
  (try simp only [hp])
  generalize hw2 : w.alloc _ = w2 at HX ⊢
  clear hw2 hp
  obtain ⟨X, W, HTT, H0, hne, HCl⟩ := class_below w2
  have p0 : ∀ y, (W y).cell? ⟨p, 0, none⟩ = some (.pointer none) := fun y => (HX.out.2.below (HTT.out y)).cell 0
  have HXw := hid (fun y => HX.out.1.trans ((HTT.out y).mono HX.out.1.size))
  refine wp_region_class W (by kernel_rfl) (by kernel_rfl) H0.out ?_
  repeat (go_big_quiet_step (fail))
  refine wpQuiet_nil ?_
  intro z
  have HZ := hid (HXw.out z)
  generalize W z = wz at HZ ⊢
  go_wp2
  go_ret
  exact ⟨rfl, HZ.out⟩
end
end Go.Proofs.Qxb6500887aGreat
