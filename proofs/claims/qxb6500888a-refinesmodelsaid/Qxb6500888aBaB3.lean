/- The barrier: pop, peek, PushRoot, PopRoot, Root, Depth. -/
import Derived.Test.Qxb6500888aBaB2
namespace Go.Proofs.Qxb6500888a
open Go.RowKit
set_option linter.unusedSimpArgs false
set_option linter.unusedVariables false

def badM (x : Int) : Prop := x < 0 ∨ 4 ≤ x
instance (x : Int) : Decidable (badM x) := inferInstanceAs (Decidable (x < 0 ∨ 4 ≤ x))
def pushS (G : GS) (B : BS) (x : Int) (ref : Nat) : Nat × BS :=
  if badM x then (1, B) else if (G.head ref).isSome = false then (4, B) else if (B.roots x.toNat).length = 64 then (8, B) else (0, { B with roots := fup B.roots x.toNat (B.roots x.toNat ++ [ref]) })
/-- The last of a list and what lies ahead of it. -/
def popS (B : BS) (x : Int) : (Nat × Nat) × BS :=
  if badM x then ((0, 1), B) else if (B.roots x.toNat).length = 0 then ((0, 9), B) else (((B.roots x.toNat).getD ((B.roots x.toNat).length - 1) 0, 0), { B with roots := fup B.roots x.toNat (B.roots x.toNat).dropLast })
def rootS (B : BS) (x k : Int) : Nat × Nat :=
  if badM x then (0, 1) else if k < 0 ∨ ((B.roots x.toNat).length : Int) ≤ k then (0, 10) else ((B.roots x.toNat).getD ((B.roots x.toNat).length - 1 - k.toNat) 0, 0)
section
variable {w w' : World} {ρ : Rl} {L : GL} {T : BL} {G : GS} {B : BS}
set_option maxRecDepth 1000000 in
set_option maxHeartbeats 2000000 in
theorem peek_bad (h : BM w ρ L T G B) {m : Nat} (hm : m < 4) {k : Int} (hk : k < 0 ∨ ((B.roots m).length : Int) ≤ k) : Calls Try.prog 90 #[.pointer (some ⟨T.bB, 3 + m * 69 + 3, none⟩), .int .i64 k] w fun e w' => e = .returned (.tuple #[.int .u64 0, .int .u8 10]) ∧ w' = w := by
  have c1 := h.depth hm
  obtain ⟨o, ho⟩ : ∃ o, 3 + m * 69 + 3 = o := ⟨_, rfl⟩
  rw [show 3 + m * 69 + 67 = o + 64 by omega] at c1
  rw [ho]
  generalize (B.roots m).length = n at c1 hk
  clear h hm ho
  by_cases h0 : k < 0
  · have d1 : decide (k < 0) = true := decide_eq_true h0
    go_enter Try.func90, Try.ntmps90
    go_wp2
    exact bodyPost_ret (v := .tuple #[.int .u64 0, .int .u8 10]) (by simp [results, Try.results90, go_sem]) rfl ⟨rfl, rfl⟩
  · have d1 : decide (k < 0) = false := decide_eq_false h0
    have d2 : decide (k ≥ (n : Int)) = true := decide_eq_true (by omega)
    have d3 : decide ((n : Int) ≤ k) = true := decide_eq_true (by omega)
    go_enter Try.func90, Try.ntmps90
    go_wp2
    exact bodyPost_ret (v := .tuple #[.int .u64 0, .int .u8 10]) (by simp [results, Try.results90, go_sem]) rfl ⟨rfl, rfl⟩
set_option maxRecDepth 1000000 in
set_option maxHeartbeats 2000000 in
theorem peek_ok (h : BM w ρ L T G B) {m : Nat} (hm : m < 4) {k : Nat} (hk : k < (B.roots m).length) : Calls Try.prog 90 #[.pointer (some ⟨T.bB, 3 + m * 69 + 3, none⟩), .int .i64 (k : Int)] w fun e w' => e = .returned (.tuple #[.int .u64 (((B.roots m).getD ((B.roots m).length - 1 - k) 0 : Nat) : Int), .int .u8 0]) ∧ Below w.heap.size w w' := by
  have hl := h.rl m
  obtain ⟨o, ho⟩ : ∃ o, 3 + m * 69 + 3 = o := ⟨_, rfl⟩
  obtain ⟨X, W, HTT, H0, hne, HC⟩ := class_below w
  have c1 := h.depth hm
  rw [show 3 + m * 69 + 67 = o + 64 by omega] at c1
  have d1 : ∀ y, (W y).cell? ⟨T.bB, o + 64, none⟩ = some (.int .i64 ((B.roots m).length : Int)) := fun y => by
    have := (h.below (HTT.out y)).depth hm
    rw [show 3 + m * 69 + 67 = o + 64 by omega] at this
    exact this
  obtain ⟨j, hj⟩ : ∃ j, (B.roots m).length - 1 - k = j := ⟨_, rfl⟩
  have d2 : ∀ y, (W y).cell? ⟨T.bB, o + j, none⟩ = some (.int .u64 (((B.roots m).getD j 0 : Nat) : Int)) := fun y => by
    have := (h.below (HTT.out y)).slot hm (k := j) (by omega)
    rw [show 3 + m * 69 + (3 + j) = o + j by omega] at this
    exact this
  rw [ho, hj]
  generalize (B.roots m).getD j 0 = x at d2 ⊢
  generalize (B.roots m).length = n at c1 d1 hk hl hj
  have e1 : decide ((k : Int) < 0) = false := decide_eq_false (by omega)
  have e2 : decide ((k : Int) ≥ (n : Int)) = false := decide_eq_false (by omega)
  have e3 : decide ((n : Int) ≤ (k : Int)) = false := decide_eq_false (by omega)
  have i1 : (n : Int) ≤ 64 := by omega
  have i2 : (n : Int) - 1 - (k : Int) = (j : Int) := by omega
  have i3 : (j : Int) < 64 := by omega
  have i4 : (k : Int) < 64 := by omega
  have i5 : (1 : Int) ≤ (n : Int) := by omega
  clear h hm ho hl hj hk
  go_enter Try.func90, Try.ntmps90
  go_upto_region 3 with fail
  refine wp_region_class W (by kernel_rfl) (by kernel_rfl) H0.out ?_
  repeat (go_big_quiet_step (fail))
  refine wpQuiet_nil ?_
  intro z
  have HZ := hid (HTT.out z)
  generalize W z = wz at HZ ⊢
  clear d1 d2 H0 HTT HC hne c1
  go_wp2
  exact bodyPost_ret (v := .tuple #[.int .u64 (x : Int), .int .u8 0]) (by simp [results, Try.results90, go_sem]) rfl ⟨rfl, HZ.out⟩
set_option maxRecDepth 1000000 in
set_option maxHeartbeats 2000000 in
theorem pop_bad (h : BM w ρ L T G B) {m : Nat} (hm : m < 4) (h0 : (B.roots m).length = 0) : Calls Try.prog 85 #[.pointer (some ⟨T.bB, 3 + m * 69 + 3, none⟩)] w fun e w' => e = .returned (.tuple #[.int .u64 0, .int .u8 9]) ∧ w' = w := by
  have c1 := h.depth hm
  obtain ⟨o, ho⟩ : ∃ o, 3 + m * 69 + 3 = o := ⟨_, rfl⟩
  rw [show 3 + m * 69 + 67 = o + 64 by omega, h0] at c1
  have c1' : w.cell? ⟨T.bB, o + 64, none⟩ = some (.int .i64 0) := c1
  rw [ho]
  clear h hm ho h0 c1
  go_enter Try.func85, Try.ntmps85
  go_wp2
  exact bodyPost_ret (v := .tuple #[.int .u64 0, .int .u8 9]) (by simp [results, Try.results85, go_sem]) rfl ⟨rfl, rfl⟩
set_option maxRecDepth 1000000 in
set_option maxHeartbeats 2000000 in
theorem pop_ok (h : BM w ρ L T G B) {m n : Nat} (hm : m < 4) (hn : (B.roots m).length = n + 1) : Calls Try.prog 85 #[.pointer (some ⟨T.bB, 3 + m * 69 + 3, none⟩)] w fun e w' => e = .returned (.tuple #[.int .u64 (((B.roots m).getD n 0 : Nat) : Int), .int .u8 0]) ∧ BM w' ρ L T G { B with roots := fup B.roots m (B.roots m).dropLast } ∧ Fr bX ρ w ρ w' := by
  have HH := hid h
  have Hm := hid (And.intro hm hn)
  have hl := h.rl m
  obtain ⟨o, ho⟩ : ∃ o, 3 + m * 69 + 3 = o := ⟨_, rfl⟩
  have Ho := hid ho
  have c1 := h.depth hm
  rw [show 3 + m * 69 + 67 = o + 64 by omega, hn] at c1
  have c1' : w.cell? ⟨T.bB, o + 64, none⟩ = some (.int .i64 ((n : Int) + 1)) := c1
  have f1 := h.bb.frozen (o + 64)
  have c2 := h.slot hm (k := n) (by omega)
  rw [show 3 + m * 69 + (3 + n) = o + n by omega] at c2
  have f2 := h.bb.frozen (o + n)
  rw [ho]
  obtain ⟨x, hx⟩ : ∃ x, (B.roots m).getD n 0 = x := ⟨_, rfl⟩
  rw [hx] at c2 ⊢
  have Hx := hid hx
  have i1 : (n : Int) < 64 := by omega
  have i2 : (((n : Int) + 1) == 0) = false := by simp; omega
  have hne : n ≠ 64 := by omega
  clear h hm hn ho hl hx c1
  go_enter Try.func85, Try.ntmps85
  go_upto_region 4 with fail
  have HU : Hid (Upd T.bB w (w.setCell ⟨T.bB, o + 64, none⟩ (.int .i64 (n : Int)))) := hid (upd1 _ _ _ _)
  have HBk : Hid (Blk (w.setCell ⟨T.bB, o + 64, none⟩ (.int .i64 (n : Int))) T.bB 137 ((fnC 285 (bF L T B)).set (o + 64) (.int .i64 (n : Int)))) := hid (HH.out.bb.set _ _)
  obtain ⟨w1, hw1⟩ : ∃ w1, w.setCell ⟨T.bB, o + 64, none⟩ (.int .i64 (n : Int)) = w1 := ⟨_, rfl⟩
  rw [hw1] at HU HBk
  (try simp only [hw1])
  have ho' : o + 67 < 285 := by have := Ho.out; have := Hm.out.1; omega
  clear c1' f1 hw1 c2 f2
  have e64 : ∀ q : World, Below w1.heap.size w1 q → q.cell? ⟨T.bB, o + 64, none⟩ = some (.int .i64 (n : Int)) := fun q hq => by
    rw [(HBk.out.below hq).cell, List.getElem?_set_self (by rw [fnC_len]; omega)]
  have en : ∀ q : World, Below w1.heap.size w1 q → q.cell? ⟨T.bB, o + n, none⟩ = some (.int .u64 (x : Int)) := fun q hq => by
    have h1 := HH.out.slot Hm.out.1 (k := n) (by omega)
    rw [Hx.out] at h1
    rw [show 3 + m * 69 + (3 + n) = o + n by have := Ho.out; omega, HH.out.bb.cell] at h1
    rw [(HBk.out.below hq).cell, List.getElem?_set_ne (by omega), h1]
  have Ee := hid (And.intro e64 en)
  clear e64 en
  obtain ⟨X, W, HTT, H0, hne', HC⟩ := class_below w1
  have d1 : ∀ y, (W y).cell? ⟨T.bB, o + 64, none⟩ = some (.int .i64 (n : Int)) := fun y => Ee.out.1 _ (HTT.out y)
  have d2 : ∀ y, (W y).cell? ⟨T.bB, o + n, none⟩ = some (.int .u64 (x : Int)) := fun y => Ee.out.2 _ (HTT.out y)
  refine wp_region_class W (by kernel_rfl) (by kernel_rfl) H0.out ?_
  repeat (go_big_quiet_step (fail))
  refine wpQuiet_nil ?_
  intro z
  have HZ := hid (HTT.out z)
  generalize W z = wz at HZ ⊢
  clear d1 d2 H0 HTT HC hne'
  obtain ⟨X, W, HTT, H0, hne', HC⟩ := class_below wz
  have HTz : Hid (∀ y, Below w1.heap.size w1 (W y)) := hid (fun y => HZ.out.trans ((HTT.out y).mono HZ.out.size))
  have d1 : ∀ y, (W y).cell? ⟨T.bB, o + 64, none⟩ = some (.int .i64 (n : Int)) := fun y => Ee.out.1 _ (HTz.out y)
  go_upto_region 5 with fail
  refine wp_region_class_lastT W rfl (by kernel_rfl) (by kernel_rfl) (by kernel_rfl) H0.out ?_
  dsimp only [List.dropLast]
  repeat (go_big_quiet_step (fail))
  refine wpQuiet_nil ?_
  intro z2
  have HZ2 := hid (HTz.out z2)
  generalize W z2 = wy at HZ2 ⊢
  clear d1 H0 HTT HC hne' HTz HZ
  have c2 := Ee.out.2 _ HZ2.out
  have HBy := hid (HBk.out.below HZ2.out)
  have f2 := HBy.out.frozen (o + n)
  have HR : Hid (BM (wy.setCell ⟨T.bB, o + n, none⟩ (.int .u64 0)) ρ L T G { B with roots := fup B.roots m (B.roots m).dropLast } ∧ Fr bX ρ w ρ (wy.setCell ⟨T.bB, o + n, none⟩ (.int .u64 0))) := hid (by
    have e1 : o + n = 3 + m * 69 + (3 + n) := by have := Ho.out; omega
    have e2 : o + 64 = 3 + m * 69 + 67 := by have := Ho.out; omega
    have hb := HBy.out.set (o + n) (.int .u64 0)
    rw [List.set_comm _ _ (by omega), e1, e2] at hb
    have hlen := Hm.out.2
    rw [e1]
    refine HH.out.root Hm.out.1 (k := n) (n := n) (x := 0) (by omega) (by simp; omega) (by omega) ?_ (fun j hj hjn => ?_) ?_ hb
    · have : (B.roots m).dropLast[n]? = none := List.getElem?_eq_none (by simp; omega)
      simp [List.getD, this]
    · rcases Nat.lt_or_ge j n with h2 | h2
      · have : (B.roots m).dropLast[j]? = (B.roots m)[j]? := by rw [List.getElem?_dropLast, if_pos (by omega)]
        simp [List.getD, this]
      · have h3 : (B.roots m)[j]? = none := List.getElem?_eq_none (by omega)
        have h4 : (B.roots m).dropLast[j]? = none := List.getElem?_eq_none (by simp; omega)
        simp [List.getD, h3, h4]
    · exact (HU.out.ofBelow HZ2.out).trans (upd1 _ _ _ _))
  clear HBy HBk HU HZ2 Ee
  go_wp2
  exact bodyPost_ret (v := .tuple #[.int .u64 (x : Int), .int .u8 0]) (by simp [results, Try.results85, go_sem]) rfl ⟨rfl, HR.out⟩
/-- What PushRoot answers. -/
def PrP (w : World) (ρ : Rl) (L : GL) (T : BL) (G : GS) (r : Nat × BS) (e : Ending) (w' : World) : Prop := e = .returned (.int .u8 (r.1 : Int)) ∧ BM w' ρ L T G r.2 ∧ Fr bX ρ w ρ w'
set_option maxRecDepth 1000000 in
set_option maxHeartbeats 2000000 in
theorem pushRoot_walk (h : BM w ρ L T G B) (x : Int) (ref : Nat) : Calls Try.prog 53 #[.pointer (some ⟨T.bB, 0, none⟩), .int .i64 x, .int .u64 (ref : Int)] w fun e w' => PrP w ρ L T G (pushS G B x ref) e w' := by
  have HH := hid h
  by_cases hx : badM x
  · have HM := hid (mutator_bad T.bB hx w)
    have HR : Hid (PrP w ρ L T G (pushS G B x ref) (.returned (.int .u8 1)) w) := hid (by unfold pushS; rw [if_pos hx]; exact ⟨rfl, h, Fr.refl _ _ _⟩)
    clear h
    go_enter Try.func53, Try.ntmps53
    go_wp2_with fail
    refine HM.out.mono ?_
    rintro e1 w1 ⟨rfl, rfl⟩
    clear HM
    go_wp2
    go_ret
    exact HR.out
  · obtain ⟨m, rfl, hm⟩ : ∃ m : Nat, x = (m : Int) ∧ m < 4 := ⟨x.toNat, by unfold badM at hx; omega, by unfold badM at hx; omega⟩
    have HM := hid (mutator_ok T.bB hm w)
    have c0 := h.gcells.1
    have HS := hid (shapeOf_walk h.gm ref)
    obtain ⟨⟨p, q⟩, hp⟩ : ∃ z, (G.head ref).getD (0, 0) = z := ⟨_, rfl⟩
    rw [hp] at HS
    unfold shV at HS
    dsimp only at HS
    have HX : Hid (∀ b, (G.head ref).isSome = b → pushS G B (m : Int) ref = if b = false then (4, B) else if (B.roots m).length = 64 then (8, B) else (0, { B with roots := fup B.roots m (B.roots m ++ [ref]) })) := hid (fun b hb => by
      unfold pushS
      rw [if_neg hx, hb]
      rfl)
    obtain ⟨b, hb⟩ : ∃ b, (G.head ref).isSome = b := ⟨_, rfl⟩
    rw [hb] at HS
    have HX2 := hid (HX.out b hb)
    have Hm := hid hm
    clear HX hb hp h hm hx
    go_enter Try.func53, Try.ntmps53
    go_wp2_with fail
    refine HM.out.mono ?_
    rintro e1 w1 ⟨rfl, rfl⟩
    clear HM
    go_wp2_with fail
    refine HS.out.mono ?_
    rintro e2 w2 ⟨rfl, hb2⟩
    have HM2 := hid (HH.out.below hb2)
    have HB2 := hid hb2
    clear HS c0 hb2
    cases b with
    | false =>
      as_aux_lemma =>
      rw [if_pos rfl] at HX2
      have HR : Hid (∀ w3, Below w2.heap.size w2 w3 → PrP w1 ρ L T G (pushS G B (m : Int) ref) (.returned (.int .u8 4)) w3) := hid (fun w3 hw3 => by rw [HX2.out]; exact ⟨rfl, HM2.out.below hw3, Fr.below (HB2.out.trans (hw3.mono HB2.out.size))⟩)
      go_wp2
      go_ret
      exact HR.out _ (nbel _ _)
    | true =>
      as_aux_lemma =>
      rw [if_neg (by decide)] at HX2
      go_upto_region 7 with fail
      obtain ⟨w3, hw3⟩ : ∃ w3, w2.alloc (.cells #[.int .i64 (p : Int), .int .i64 (q : Int)] 73) = w3 := ⟨_, rfl⟩
      have hb3 : Below w2.heap.size w2 w3 := by rw [← hw3]; exact nbel _ _
      (try simp only [hw3])
      have HM3 := hid (HM2.out.below hb3)
      have HF3 : Hid (Fr bX ρ w1 ρ w3) := hid (Fr.below (HB2.out.trans (hb3.mono HB2.out.size)))
      have HP := hid (push_walk HM3.out Hm.out ref)
      clear hw3 hb3 HM2 HB2
      go_wp2_with fail
      refine HP.out.mono ?_
      intro e4 w4 h4
      have HR : Hid (PrP w1 ρ L T G (pushS G B (m : Int) ref) e4 w4 ∧ ∃ v, e4 = .returned v) := hid (by
        rw [HX2.out]
        unfold PuP at h4
        by_cases h64 : (B.roots m).length = 64
        · rw [if_pos h64] at h4 ⊢
          obtain ⟨rfl, rfl⟩ := h4
          exact ⟨⟨rfl, HM3.out, HF3.out⟩, _, rfl⟩
        · rw [if_neg h64] at h4 ⊢
          obtain ⟨rfl, h5, h6⟩ := h4
          exact ⟨⟨rfl, h5, HF3.out.trans h6⟩, _, rfl⟩)
      clear h4 HP HM3 HF3 HX2
      obtain ⟨v, hv⟩ := HR.out.2
      subst hv
      go_wp2
      go_ret
      exact HR.out.1
def PoP (w : World) (ρ : Rl) (L : GL) (T : BL) (G : GS) (r : (Nat × Nat) × BS) (e : Ending) (w' : World) : Prop := e = .returned (.tuple #[.int .u64 (r.1.1 : Int), .int .u8 (r.1.2 : Int)]) ∧ BM w' ρ L T G r.2 ∧ Fr bX ρ w ρ w'
set_option maxRecDepth 1000000 in
set_option maxHeartbeats 2000000 in
theorem popRoot_walk (h : BM w ρ L T G B) (x : Int) : Calls Try.prog 54 #[.pointer (some ⟨T.bB, 0, none⟩), .int .i64 x] w fun e w' => PoP w ρ L T G (popS B x) e w' := by
  by_cases hx : badM x
  · have HM := hid (mutator_bad T.bB hx w)
    have HR : Hid (PoP w ρ L T G (popS B x) (.returned (.tuple #[.int .u64 0, .int .u8 1])) w) := hid (by unfold popS; rw [if_pos hx]; exact ⟨rfl, h, Fr.refl _ _ _⟩)
    clear h
    go_enter Try.func54, Try.ntmps54
    go_wp2_with fail
    refine HM.out.mono ?_
    rintro e1 w1 ⟨rfl, rfl⟩
    clear HM
    go_wp2
    exact bodyPost_ret (v := .tuple #[.int .u64 0, .int .u8 1]) (by simp [results, Try.results54, go_sem]) rfl HR.out
  · obtain ⟨m, rfl, hm⟩ : ∃ m : Nat, x = (m : Int) ∧ m < 4 := ⟨x.toNat, by unfold badM at hx; omega, by unfold badM at hx; omega⟩
    have HM := hid (mutator_ok T.bB hm w)
    by_cases h0 : (B.roots m).length = 0
    · have HP := hid (pop_bad h hm h0)
      have HR : Hid (PoP w ρ L T G (popS B (m : Int)) (.returned (.tuple #[.int .u64 0, .int .u8 9])) w) := hid (by unfold popS; rw [if_neg hx, if_pos (show (B.roots (m : Int).toNat).length = 0 from h0)]; exact ⟨rfl, h, Fr.refl _ _ _⟩)
      clear h hx hm h0
      go_enter Try.func54, Try.ntmps54
      go_wp2_with fail
      refine HM.out.mono ?_
      rintro e1 w1 ⟨rfl, rfl⟩
      clear HM
      go_wp2_with fail
      refine HP.out.mono ?_
      rintro e1 w1 ⟨rfl, rfl⟩
      clear HP
      go_wp2
      exact bodyPost_ret (v := .tuple #[.int .u64 0, .int .u8 9]) (by simp [results, Try.results54, go_sem]) rfl HR.out
    · obtain ⟨n, hn⟩ : ∃ n, (B.roots m).length = n + 1 := ⟨(B.roots m).length - 1, by omega⟩
      have HP := hid (pop_ok h hm hn)
      have HX : Hid (popS B (m : Int) = (((B.roots m).getD n 0, 0), { B with roots := fup B.roots m (B.roots m).dropLast })) := hid (by
        unfold popS
        rw [if_neg hx]
        show (if (B.roots m).length = 0 then _ else (((B.roots m).getD ((B.roots m).length - 1) 0, 0), _)) = _
        rw [if_neg h0, hn]
        rfl)
      clear h hx hm h0 hn
      go_enter Try.func54, Try.ntmps54
      go_wp2_with fail
      refine HM.out.mono ?_
      rintro e1 w1 ⟨rfl, rfl⟩
      clear HM
      go_wp2_with fail
      refine HP.out.mono ?_
      rintro e1 w2 ⟨rfl, h5, h6⟩
      have HR : Hid (PoP w1 ρ L T G (popS B (m : Int)) (.returned (.tuple #[.int .u64 (((B.roots m).getD n 0 : Nat) : Int), .int .u8 0])) w2) := hid (by rw [HX.out]; exact ⟨rfl, h5, h6⟩)
      clear HP h5 h6 HX
      generalize (B.roots m).getD n 0 = y at HR ⊢
      go_wp2
      exact bodyPost_ret (v := .tuple #[.int .u64 (y : Int), .int .u8 0]) (by simp [results, Try.results54, go_sem]) rfl HR.out
set_option maxRecDepth 1000000 in
set_option maxHeartbeats 2000000 in
theorem root_walk (h : BM w ρ L T G B) (x k : Int) : Calls Try.prog 67 #[.pointer (some ⟨T.bB, 0, none⟩), .int .i64 x, .int .i64 k] w fun e w' => e = .returned (.tuple #[.int .u64 ((rootS B x k).1 : Int), .int .u8 ((rootS B x k).2 : Int)]) ∧ Below w.heap.size w w' := by
  by_cases hx : badM x
  · have HM := hid (mutator_bad T.bB hx w)
    have e : rootS B x k = (0, 1) := by unfold rootS; rw [if_pos hx]
    rw [e]
    clear h e
    go_enter Try.func67, Try.ntmps67
    go_wp2_with fail
    refine HM.out.mono ?_
    rintro e1 w1 ⟨rfl, rfl⟩
    clear HM
    go_wp2
    exact bodyPost_ret (v := .tuple #[.int .u64 0, .int .u8 1]) (by simp [results, Try.results67, go_sem]) rfl ⟨rfl, Below.refl _ _⟩
  · obtain ⟨m, rfl, hm⟩ : ∃ m : Nat, x = (m : Int) ∧ m < 4 := ⟨x.toNat, by unfold badM at hx; omega, by unfold badM at hx; omega⟩
    have HM := hid (mutator_ok T.bB hm w)
    have e : rootS B (m : Int) k = if k < 0 ∨ ((B.roots m).length : Int) ≤ k then (0, 10) else ((B.roots m).getD ((B.roots m).length - 1 - k.toNat) 0, 0) := by unfold rootS; rw [if_neg hx]; rfl
    rw [e]
    clear e
    by_cases h0 : k < 0 ∨ ((B.roots m).length : Int) ≤ k
    · rw [if_pos h0]
      have HP := hid (peek_bad h hm h0)
      clear h hx hm h0
      go_enter Try.func67, Try.ntmps67
      go_wp2_with fail
      refine HM.out.mono ?_
      rintro e1 w1 ⟨rfl, rfl⟩
      clear HM
      go_wp2_with fail
      refine HP.out.mono ?_
      rintro e1 w1 ⟨rfl, rfl⟩
      clear HP
      go_wp2
      exact bodyPost_ret (v := .tuple #[.int .u64 0, .int .u8 10]) (by simp [results, Try.results67, go_sem]) rfl ⟨rfl, Below.refl _ _⟩
    · rw [if_neg h0]
      obtain ⟨j, rfl⟩ : ∃ j : Nat, k = (j : Int) := ⟨k.toNat, by omega⟩
      have HP := hid (peek_ok h hm (k := j) (by omega))
      rw [show (j : Int).toNat = j from rfl]
      clear h hx hm h0
      generalize (B.roots m).getD ((B.roots m).length - 1 - j) 0 = y at HP ⊢
      go_enter Try.func67, Try.ntmps67
      go_wp2_with fail
      refine HM.out.mono ?_
      rintro e1 w1 ⟨rfl, rfl⟩
      clear HM
      go_wp2_with fail
      refine HP.out.mono ?_
      rintro e1 w2 ⟨rfl, hb2⟩
      have HB := hid hb2
      clear HP hb2
      go_wp2
      exact bodyPost_ret (v := .tuple #[.int .u64 (y : Int), .int .u8 0]) (by simp [results, Try.results67, go_sem]) rfl ⟨rfl, HB.out⟩
set_option maxRecDepth 1000000 in
set_option maxHeartbeats 2000000 in
theorem depth_bad {x : Int} (hx : badM x) (bB : Nat) (w : World) : Calls Try.prog 48 #[.pointer (some ⟨bB, 0, none⟩), .int .i64 x] w fun e w' => e = .returned (.tuple #[.int .i64 0, .int .u8 1]) ∧ w' = w := by
  have HM := hid (mutator_bad bB hx w)
  go_enter Try.func48, Try.ntmps48
  go_wp2_with fail
  refine HM.out.mono ?_
  rintro e1 w1 ⟨rfl, rfl⟩
  clear HM
  go_wp2
  exact bodyPost_ret (v := .tuple #[.int .i64 0, .int .u8 1]) (by simp [results, Try.results48, go_sem]) rfl ⟨rfl, rfl⟩
set_option maxRecDepth 1000000 in
set_option maxHeartbeats 2000000 in
theorem depth_walk (h : BM w ρ L T G B) {m : Nat} (hm : m < 4) : Calls Try.prog 48 #[.pointer (some ⟨T.bB, 0, none⟩), .int .i64 (m : Int)] w fun e w' => e = .returned (.tuple #[.int .i64 ((B.roots m).length : Int), .int .u8 0]) ∧ w' = w := by
  have HM := hid (mutator_ok T.bB hm w)
  have c1 := h.depth hm
  generalize (B.roots m).length = n at c1 ⊢
  have c1' : w.cell? ⟨T.bB, 3 + m * 69 + 3 + 64, none⟩ = some (.int .i64 (n : Int)) := c1
  clear h hm c1
  go_enter Try.func48, Try.ntmps48
  go_wp2_with fail
  refine HM.out.mono ?_
  rintro e1 w1 ⟨rfl, rfl⟩
  clear HM
  go_wp2
  exact bodyPost_ret (v := .tuple #[.int .i64 (n : Int), .int .u8 0]) (by simp [results, Try.results48, go_sem]) rfl ⟨rfl, rfl⟩
end
end Go.Proofs.Qxb6500888a
