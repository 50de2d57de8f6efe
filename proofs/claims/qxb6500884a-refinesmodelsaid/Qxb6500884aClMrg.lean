/- appendMerged. -/
import Derived.Test.Qxb6500884aClMem
import Derived.Test.Qxb6500884aRoom
namespace Go.Proofs.Qxb6500884a
open Go.RowKit
set_option linter.unusedSimpArgs false
set_option linter.unusedVariables false

/-- One interval more, behind the list whose last is ab. -/
def mstep (ms : List (Int × Int)) (ab r : Int × Int) : List (Int × Int) := if r.1 ≤ ab.2 + 1 then ms ++ [(ab.1, if ab.2 < r.2 then r.2 else ab.2)] else ms ++ [ab, r]
/-- The first cells of a block are a list's. -/
structure Pre (cs : List Value) (mg : List (Int × Int)) (old : List Value) : Prop where
  len : cs.length = old.length
  pre : ∀ i, i < mg.length * 2 → cs[i]? = (mg.flatMap ivC)[i]?
  oth : ∀ i, mg.length * 2 ≤ i → cs[i]? = old[i]?
theorem flat_get {mg : List (Int × Int)} {i j : Nat} {p : Int × Int} (h : mg[i]? = some p) (hj : j < 2) : (mg.flatMap ivC)[i * 2 + j]? = (ivC p)[j]? := by
  rw [getElem?_flatMap_const (sz := 2) (by omega) mg (fun _ _ => rfl), show (i * 2 + j) / 2 = i by omega, show (i * 2 + j) % 2 = j by omega, h]
  rfl
theorem flat_len (mg : List (Int × Int)) : (mg.flatMap ivC).length = mg.length * 2 := length_flatMap_const (f := ivC) (sz := 2) mg (fun _ _ => rfl)
theorem Pre.set {cs old : List Value} {ms : List (Int × Int)} {a b y : Int} (h : Pre cs (ms ++ [(a, b)]) old) (hl : ms.length * 2 + 2 ≤ old.length) : Pre (cs.set (ms.length * 2 + 1) (.int .i64 y)) (ms ++ [(a, y)]) old := by
  have h0 := h.len
  refine ⟨by simp [h.len], fun i hi => ?_, fun i hi => ?_⟩
  · simp at hi
    by_cases he : i = ms.length * 2 + 1
    · subst he
      rw [List.getElem?_set_self (by omega), flat_get (p := (a, y)) (by simp) (by omega)]
      rfl
    · rw [List.getElem?_set_ne (fun e => he e.symm), h.pre i (by simp; omega)]
      by_cases hm : i < ms.length * 2
      · rw [List.flatMap_append, List.flatMap_append, List.getElem?_append_left (by rw [flat_len]; exact hm), List.getElem?_append_left (by rw [flat_len]; exact hm)]
      · have : i = ms.length * 2 + 0 := by omega
        rw [this, flat_get (p := (a, b)) (by simp) (by omega), flat_get (p := (a, y)) (by simp) (by omega)]
        rfl
  · simp at hi
    rw [List.getElem?_set_ne (by omega), h.oth i (by simp; omega)]
theorem Pre.app {cs old : List Value} {mg : List (Int × Int)} {x y : Int} (h : Pre cs mg old) (hl : mg.length * 2 + 2 ≤ old.length) : Pre (splice cs (mg.length * 2) [.int .i64 x, .int .i64 y]) (mg ++ [(x, y)]) old := by
  have h0 := h.len
  unfold splice
  have ht : (cs.take (mg.length * 2)).length = mg.length * 2 := by rw [List.length_take]; omega
  refine ⟨by simp; omega, fun i hi => ?_, fun i hi => ?_⟩
  · simp at hi
    rw [List.flatMap_append]
    by_cases hm : i < mg.length * 2
    · rw [List.append_assoc, List.getElem?_append_left (by omega), List.getElem?_take, if_pos hm, h.pre i hm, List.getElem?_append_left (by rw [flat_len]; exact hm)]
    · rw [List.append_assoc, List.getElem?_append_right (by omega), ht, List.getElem?_append_left (by simp; omega)]
      rw [List.getElem?_append_right (by rw [flat_len]; omega), flat_len]
      rfl
  · simp at hi
    rw [List.getElem?_append_right (by simp; omega), List.getElem?_drop, ← h.oth i (by omega)]
    congr 1
    simp
    omega
structure Am (g n : Nat) (old : List Value) (mg : List (Int × Int)) (w : World) (e : Ending) (w' : World) : Prop where
  ret : e = .returned (.slice (some ⟨g, 0, none⟩) mg.length n)
  upd : Upd g w w'
  blk : ∃ ds, Blk w' g 67 ds ∧ Pre ds mg old
set_option maxRecDepth 100000 in
set_option maxHeartbeats 2000000 in
theorem merged_walk (g n : Nat) (cs old : List Value) (ms : List (Int × Int)) (a b x y : Int) (w : World) (hb : Blk w g 67 cs) (hp : Pre cs (ms ++ [(a, b)]) old) (hn : ms.length + 2 ≤ n) (hn2 : n ≤ 100000000000) (hl : n * 2 = old.length) (hb2 : b ≤ 196607) (hb1 : 0 ≤ b) :
    Calls Try.prog 38 #[.slice (some ⟨g, 0, none⟩) (ms.length + 1) n, .agg #[.int .i64 x, .int .i64 y]] w fun e w' => Am g n old (mstep ms (a, b) (x, y)) w e w' := by
  obtain ⟨i0, hi, hz0, hz1, hz2⟩ := info_ivz
  have HI := hid (And.intro hi (And.intro hz0 (And.intro hz1 hz2)))
  obtain ⟨m, hm⟩ : ∃ m, ms.length = m := ⟨_, rfl⟩
  obtain ⟨q, hq⟩ : ∃ q, w.heap.size = q := ⟨_, rfl⟩
  have hgq : g < q := by have := hb.lt; omega
  have hb1' := Blk.new w [.int .i64 x, .int .i64 y] 67
  rw [hq] at hb1'
  have hbg := hb.alloc (.cells [Value.int .i64 x, .int .i64 y].toArray 67)
  have hu1 : Upd g w (w.alloc (.cells [Value.int .i64 x, .int .i64 y].toArray 67)) := (Upd.refl g w).alloc _
  obtain ⟨w1, hw1⟩ : ∃ w1, w.alloc (.cells #[.int .i64 x, .int .i64 y] 67) = w1 := ⟨_, rfl⟩
  have hw1' : w.alloc (.cells [Value.int .i64 x, .int .i64 y].toArray 67) = w1 := hw1
  rw [hw1'] at hb1' hbg hu1
  have HBq := hid hb1'
  have HBg := hid hbg
  have HU1 := hid hu1
  have HP := hid hp
  have chi : cs[m * 2 + 1]? = some (.int .i64 b) := by rw [hp.pre _ (by simp; omega), flat_get (p := (a, b)) (by rw [← hm]; simp) (by omega)]; rfl
  have Hchi := hid chi
  have HM : Hid (mstep ms (a, b) (x, y) = if x ≤ b + 1 then ms ++ [(a, if b < y then y else b)] else ms ++ [(a, b), (x, y)]) := hid rfl
  have Hm := hid hm
  have q0 : ∀ nn, (w1.drewN nn).cell? ⟨q, 0, none⟩ = some (.int .i64 x) := fun nn => (HBq.out.drewN nn).cell 0
  have g1 : ∀ nn, (w1.drewN nn).cell? ⟨g, m * 2 + 1, none⟩ = some (.int .i64 b) := fun nn => by rw [(HBg.out.drewN nn).cell]; exact Hchi.out
  rw [hm] at hn
  rw [hm]
  obtain ⟨lm, hlm⟩ : ∃ lm, m + 1 = lm := ⟨_, rfl⟩
  have e1 : (lm : Int) - 1 = (m : Int) := by omega
  have d0 : decide ((0 : Int) < (lm : Int)) = true := decide_eq_true (by omega)
  have d0' : decide (0 < lm) = true := decide_eq_true (by omega)
  have i1 : (m : Int) < (lm : Int) := by omega
  have hlm2 : lm + 1 ≤ n := by omega
  have Hlm := hid hlm
  rw [hlm]
  clear hi hz0 hz1 hz2 hb hp hb1' hbg hu1 hw1' chi hm hlm
  by_cases hxb : x ≤ b + 1
  · have dx : decide (x ≤ b + 1) = true := decide_eq_true hxb
    have HM2 : Hid (mstep ms (a, b) (x, y) = ms ++ [(a, if b < y then y else b)]) := hid (by rw [HM.out, if_pos hxb])
    go_enter Try.func38, Try.ntmps38
    go_upto_region 2 with fail
    try simp only [hw1]
    clear hw1
    go_quiet (fail)
    have HBq2 := hid (HBq.out.drewN nq)
    have HBg2 := hid (HBg.out.drewN nq)
    have HU2 := hid (HU1.out.drewN nq)
    generalize w1.drewN nq = w2 at HBq2 HBg2 HU2 ⊢
    clear q0 g1 HBq HBg HU1
    have q1 : ∀ nn, (w2.drewN nn).cell? ⟨q, 1, none⟩ = some (.int .i64 y) := fun nn => (HBq2.out.drewN nn).cell 1
    have g1 : ∀ nn, (w2.drewN nn).cell? ⟨g, m * 2 + 1, none⟩ = some (.int .i64 b) := fun nn => by rw [(HBg2.out.drewN nn).cell]; exact Hchi.out
    go_upto_region 3 with fail
    by_cases hby : b < y
    · have dy : decide (b < y) = true := decide_eq_true hby
      have HM3 : Hid (mstep ms (a, b) (x, y) = ms ++ [(a, y)]) := hid (by rw [HM2.out, if_pos hby])
      go_quiet (fail)
      have q1' : (w2.drewN nq).cell? ⟨q, 1, none⟩ = some (.int .i64 y) := q1 nq
      have g1' : (w2.drewN nq).cell? ⟨g, m * 2 + 1, none⟩ = some (.int .i64 b) := g1 nq
      have HBg3 := hid (HBg2.out.drewN nq)
      have HU3 := hid (HU2.out.drewN nq)
      have fg := HBg3.out.frozen (m * 2 + 1)
      generalize w2.drewN nq = w3 at HBg3 HU3 q1' g1' fg ⊢
      clear q1 g1
      go_wp2
      go_ret
      refine ⟨by rw [HM3.out, List.length_append, Hm.out, ← Hlm.out]; rfl, HU3.out.setCell rfl _, _, HBg3.out.set (m * 2 + 1) (.int .i64 y), ?_⟩
      rw [HM3.out, ← Hm.out]
      exact HP.out.set (by rw [Hm.out]; omega)
    · have dy : decide (b < y) = false := decide_eq_false hby
      have HM3 : Hid (mstep ms (a, b) (x, y) = ms ++ [(a, b)]) := hid (by rw [HM2.out, if_neg hby])
      go_quiet (fail)
      have HBg3 := hid (HBg2.out.drewN nq)
      have HU3 := hid (HU2.out.drewN nq)
      generalize w2.drewN nq = w3 at HBg3 HU3 ⊢
      clear q1 g1
      go_wp2
      go_ret
      exact ⟨by rw [HM3.out, List.length_append, Hm.out, ← Hlm.out]; rfl, HU3.out, _, HBg3.out, by rw [HM3.out]; exact HP.out⟩
  · have dx : decide (x ≤ b + 1) = false := decide_eq_false hxb
    have HM2 : Hid (mstep ms (a, b) (x, y) = (ms ++ [(a, b)]) ++ [(x, y)]) := hid (by rw [HM.out, if_neg hxb]; simp)
    go_enter Try.func38, Try.ntmps38
    go_upto_region 2 with fail
    try simp only [hw1]
    clear hw1
    go_quiet (fail)
    have HBq2 := hid (HBq.out.drewN nq)
    have HBg2 := hid (HBg.out.drewN nq)
    have HU2 := hid (HU1.out.drewN nq)
    generalize w1.drewN nq = w2 at HBq2 HBg2 HU2 ⊢
    clear q0 g1 HBq HBg HU1
    have q0' : w2.cell? ⟨q, 0, none⟩ = some (.int .i64 x) := HBq2.out.cell 0
    have q1' : w2.cell? ⟨q, 1, none⟩ = some (.int .i64 y) := HBq2.out.cell 1
    have HBg3 := hid (HBg2.out.alloc (.cells #[.int .i64 x, .int .i64 y] 67))
    have HNew := hid (newRow w2 [.int .i64 x, .int .i64 y] 67 w2.heap.size rfl)
    have hfit : lm * 2 + 2 ≤ cs.length := by rw [HP.out.len]; omega
    have HU3 : Hid (Upd g w (w2.alloc (.cells #[.int .i64 x, .int .i64 y] 67))) := hid (HU2.out.alloc _)
    go_wp2_with (at_builtin; refine wpList_append_blk rfl (.tmp 39) (.tmp 41) 25 rfl 67 i0 2 Try.underlying25 HI.out.1 HI.out.2.2.1 g lm n cs rfl HBg3.out ⟨w2.heap.size, 0, none⟩ 1 1 [.int .i64 x, .int .i64 y] rfl rfl (fun j u hu => HNew.out _ rfl j u hu) (fun u hu => by simp at hu; rcases hu with rfl | rfl <;> rfl) hlm2 hfit ?_; intro w8 hb8 hu8; have HB8 := hid hb8; have HU8 := hid hu8; clear hb8 hu8)
    go_ret
    refine ⟨by rw [HM2.out, List.length_append, List.length_append, Hm.out, ← Hlm.out]; rfl, HU3.out.trans HU8.out, _, HB8.out, ?_⟩
    have h1 := HP.out.app (x := x) (y := y) (by rw [List.length_append, Hm.out]; simp; omega)
    rw [List.length_append, Hm.out] at h1
    rw [HM2.out, ← Hlm.out]
    exact h1
end Go.Proofs.Qxb6500884a
