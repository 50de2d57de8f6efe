/- The barrier: mutator, the shadow stacks, the trace's state. -/
import Derived.Test.Qxb6500888aBaB1
namespace Go.Proofs.Qxb6500888a
open Go.RowKit
set_option linter.unusedSimpArgs false
set_option linter.unusedVariables false

theorem upd1 (g a : Nat) (v : Value) (w : World) : Upd g w (w.setCell ⟨g, a, none⟩ v) := (Upd.refl g w).setCell (p := ⟨g, a, none⟩) rfl v
theorem upd2 (g a b : Nat) (v u : Value) (w : World) : Upd g w ((w.setCell ⟨g, a, none⟩ v).setCell ⟨g, b, none⟩ u) := (upd1 g a v w).trans (upd1 g b u _)
theorem bF_ext (L : GL) (T T' : BL) (B B' : BS) {f : Nat → Value} (h0 : ∀ i, i < 3 → f i = bF L T B i) (h1 : ∀ m j, m < 4 → j < 69 → f (3 + m * 69 + j) = mF T' B' m j) (h2 : ∀ i, 279 ≤ i → i < 285 → f i = eF T' B' i) : fnC 285 f = fnC 285 (bF L T' B') := by
  apply fnC_congr
  intro i hi
  by_cases e2 : i < 279
  · by_cases e3 : i < 3
    · rw [h0 i e3]
      unfold bF
      rcases (by omega : i = 0 ∨ i = 1 ∨ i = 2) with rfl | rfl | rfl <;> rfl
    · obtain ⟨m', j', hm', hj', rfl⟩ : ∃ m' j', m' < 4 ∧ j' < 69 ∧ i = 3 + m' * 69 + j' := ⟨(i - 3) / 69, (i - 3) % 69, by omega, by omega, by omega⟩
      rw [h1 m' j' hm' hj', bF_m L T' B' hm' hj']
  · rw [h2 i (by omega) hi, bF_e L T' B' (by omega)]
theorem mF_roots (T : BL) (B : BS) (R : Nat → List Nat) {m j : Nat} (h : ¬ (3 ≤ j ∧ j ≤ 67) ∨ R m = B.roots m) : mF T { B with roots := R } m j = mF T B m j := by
  unfold mF
  rcases h with h | h
  · by_cases h0 : j = 0
    · rw [if_pos h0, if_pos h0]
    by_cases h1 : j = 1
    · rw [if_neg h0, if_pos h1, if_neg h0, if_pos h1]
    by_cases h2 : j = 2
    · rw [if_neg h0, if_neg h1, if_pos h2, if_neg h0, if_neg h1, if_pos h2]
    rw [if_neg h0, if_neg h1, if_neg h2, if_neg (by omega), if_neg (by omega), if_neg h0, if_neg h1, if_neg h2, if_neg (by omega), if_neg (by omega)]
  · dsimp only
    rw [h]
theorem mF_slot (T : BL) (B : BS) {m k : Nat} (hk : k < 64) : mF T B m (3 + k) = .int .u64 (((B.roots m).getD k 0 : Nat) : Int) := by
  unfold mF
  rw [if_neg (by omega), if_neg (by omega), if_neg (by omega), if_pos (by omega), show 3 + k - 3 = k by omega]
/-- One root stack is another, one slot and its depth written. -/
theorem bF_root (L : GL) (T : BL) (B : BS) {m k n x : Nat} (hm : m < 4) (hk : k < 64) {r : List Nat} (hr : r.length = n) (h1 : r.getD k 0 = x) (h2 : ∀ j, j < 64 → j ≠ k → r.getD j 0 = (B.roots m).getD j 0) :
    fnC 285 (fup (fup (bF L T B) (3 + m * 69 + (3 + k)) (.int .u64 (x : Int))) (3 + m * 69 + 67) (.int .i64 (n : Int))) = fnC 285 (bF L T { B with roots := fup B.roots m r }) := by
  apply bF_ext L T T B
  · intro i hi
    rw [fup_ne _ _ (by omega), fup_ne _ _ (by omega)]
  · intro m' j hm' hj
    by_cases em : m' = m
    · subst em
      by_cases ej : j = 67
      · subst ej
        rw [fup_self]
        show _ = Value.int .i64 ((fup B.roots m' r m').length : Int)
        rw [fup_self, hr]
      · rw [fup_ne _ _ (by omega)]
        by_cases ek : j = 3 + k
        · subst ek
          rw [fup_self, mF_slot T _ hk]
          show _ = Value.int .u64 ((((fup B.roots m' r m').getD k 0 : Nat)) : Int)
          rw [fup_self, h1]
        · rw [fup_ne _ _ (by omega), bF_m L T B hm hj]
          by_cases h3 : 3 ≤ j ∧ j ≤ 67
          · obtain ⟨q, rfl⟩ : ∃ q, j = 3 + q := ⟨j - 3, by omega⟩
            rw [mF_slot T _ (by omega), mF_slot T _ (by omega)]
            show _ = Value.int .u64 ((((fup B.roots m' r m').getD q 0 : Nat)) : Int)
            rw [fup_self, h2 q (by omega) (by omega)]
          · exact (mF_roots T B _ (.inl h3)).symm
    · rw [fup_ne _ _ (by omega), fup_ne _ _ (by omega), bF_m L T B hm' hj]
      exact (mF_roots T B _ (.inr (fup_ne _ _ em))).symm
  · intro i h3 h4
    rw [fup_ne _ _ (by omega), fup_ne _ _ (by omega), bF_e L T B h3]
    rfl
section
variable {w w' : World} {ρ : Rl} {L : GL} {T : BL} {G : GS} {B : BS}
/-- A root stack is written. -/
theorem BMx.root (h : BM w ρ L T G B) {m k n x : Nat} (hm : m < 4) (hk : k < 64) {r : List Nat} (hr : r.length = n) (hn : n ≤ 64) (h1 : r.getD k 0 = x) (h2 : ∀ j, j < 64 → j ≠ k → r.getD j 0 = (B.roots m).getD j 0) (hu : Upd T.bB w w')
    (hb : Blk w' T.bB 137 (((fnC 285 (bF L T B)).set (3 + m * 69 + (3 + k)) (.int .u64 (x : Int))).set (3 + m * 69 + 67) (.int .i64 (n : Int)))) :
    BM w' ρ L T G { B with roots := fup B.roots m r } ∧ Fr bX ρ w ρ w' := by
  rw [fnC_set _ (by omega), fnC_set _ (by omega), bF_root L T B hm hk hr h1 h2] at hb
  refine h.own hu hb rfl rfl rfl (fun m' => ?_) rfl
  by_cases e : m' = m
  · subst e; show (fup B.roots m' r m').length ≤ 64; rw [fup_self]; omega
  · show (fup B.roots m r m').length ≤ 64; rw [fup_ne _ _ e]; exact h.rl m'
set_option maxRecDepth 1000000 in
theorem mutator_ok (bB : Nat) {m : Nat} (hm : m < 4) (w : World) : Calls Try.prog 70 #[.pointer (some ⟨bB, 0, none⟩), .int .i64 (m : Int)] w fun e w' => e = .returned (.tuple #[.pointer (some ⟨bB, 3 + m * 69, none⟩), .int .u8 0]) ∧ w' = w := by
  have d1 : decide ((m : Int) < 0) = false := decide_eq_false (by omega)
  have d2 : decide ((m : Int) ≥ 4) = false := decide_eq_false (by omega)
  have d3 : decide ((4 : Int) ≤ (m : Int)) = false := decide_eq_false (by omega)
  have i1 : (m : Int) < 4 := by omega
  clear hm
  go_enter Try.func70, Try.ntmps70
  go_wp2
  exact bodyPost_ret (v := .tuple #[.pointer (some ⟨bB, 3 + m * 69, none⟩), .int .u8 0]) (by simp [results, Try.results70, go_sem]) rfl ⟨rfl, rfl⟩
set_option maxRecDepth 1000000 in
theorem mutator_bad (bB : Nat) {x : Int} (hx : x < 0 ∨ 4 ≤ x) (w : World) : Calls Try.prog 70 #[.pointer (some ⟨bB, 0, none⟩), .int .i64 x] w fun e w' => e = .returned (.tuple #[.pointer none, .int .u8 1]) ∧ w' = w := by
  by_cases h0 : x < 0
  · have d1 : decide (x < 0) = true := decide_eq_true h0
    go_enter Try.func70, Try.ntmps70
    go_wp2
    exact bodyPost_ret (v := .tuple #[.pointer none, .int .u8 1]) (by simp [results, Try.results70, go_sem]) rfl ⟨rfl, rfl⟩
  · have d1 : decide (x < 0) = false := decide_eq_false h0
    have d2 : decide (x ≥ 4) = true := decide_eq_true (by omega)
    have d3 : decide ((4 : Int) ≤ x) = true := decide_eq_true (by omega)
    go_enter Try.func70, Try.ntmps70
    go_wp2
    exact bodyPost_ret (v := .tuple #[.pointer none, .int .u8 1]) (by simp [results, Try.results70, go_sem]) rfl ⟨rfl, rfl⟩
/-- What push answers. -/
def PuP (w : World) (ρ : Rl) (L : GL) (T : BL) (G : GS) (B : BS) (m x : Nat) (e : Ending) (w' : World) : Prop :=
  if (B.roots m).length = 64 then e = .returned (.int .u8 8) ∧ w' = w
  else e = .returned (.int .u8 0) ∧ BM w' ρ L T G { B with roots := fup B.roots m (B.roots m ++ [x]) } ∧ Fr bX ρ w ρ w'
set_option maxRecDepth 1000000 in
set_option maxHeartbeats 2000000 in
theorem push_walk (h : BM w ρ L T G B) {m : Nat} (hm : m < 4) (x : Nat) : Calls Try.prog 84 #[.pointer (some ⟨T.bB, 3 + m * 69 + 3, none⟩), .int .u64 (x : Int)] w fun e w' => PuP w ρ L T G B m x e w' := by
  have HH := hid h
  have Hm := hid hm
  have c1 := h.depth hm
  obtain ⟨o, ho⟩ : ∃ o, 3 + m * 69 + 3 = o := ⟨_, rfl⟩
  have Ho := hid ho
  rw [show 3 + m * 69 + 67 = o + 64 by omega] at c1
  rw [ho]
  obtain ⟨n, hn⟩ : ∃ n, (B.roots m).length = n := ⟨_, rfl⟩
  have Hn := hid hn
  have hn64 : n ≤ 64 := by rw [← hn]; exact h.rl m
  rw [hn] at c1
  by_cases h64 : n = 64
  · subst h64
    clear h hm ho hn
    go_enter Try.func84, Try.ntmps84
    go_wp2
    go_ret
    unfold PuP
    rw [if_pos Hn.out]
    exact ⟨rfl, rfl⟩
  · have d64 : ((n : Int) == 64) = false := by simp; omega
    have i1 : (n : Int) < 64 := by omega
    clear h hm ho hn
    obtain ⟨X, W, HTT, H0, hne, HC⟩ := class_below w
    have d1 : ∀ y, (W y).cell? ⟨T.bB, o + 64, none⟩ = some (.int .i64 (n : Int)) := fun y => by
      have := (HH.out.below (HTT.out y)).depth Hm.out
      rw [show 3 + m * 69 + 67 = o + 64 by have := Ho.out; omega, Hn.out] at this
      exact this
    go_enter Try.func84, Try.ntmps84
    go_upto_region 3 with fail
    refine wp_region_class_lastT W rfl (by kernel_rfl) (by kernel_rfl) (by kernel_rfl) H0.out ?_
    dsimp only [List.dropLast]
    repeat (go_big_quiet_step (fail))
    refine wpQuiet_nil ?_
    intro z
    have HZ := hid (HTT.out z)
    generalize W z = wz at HZ ⊢
    clear d1 H0 HTT HC hne c1
    have HMz := hid (HH.out.below HZ.out)
    have c2 := HMz.out.slot Hm.out (k := n) (by omega)
    rw [show 3 + m * 69 + (3 + n) = o + n by have := Ho.out; omega] at c2
    have f2 := HMz.out.bb.frozen (o + n)
    have c3 := HMz.out.depth Hm.out
    rw [show 3 + m * 69 + 67 = o + 64 by have := Ho.out; omega, Hn.out] at c3
    have f3 := HMz.out.bb.frozen (o + 64)
    have HR : Hid (BM ((wz.setCell ⟨T.bB, o + n, none⟩ (.int .u64 (x : Int))).setCell ⟨T.bB, o + 64, none⟩ (.int .i64 ((n : Int) + 1))) ρ L T G { B with roots := fup B.roots m (B.roots m ++ [x]) } ∧ Fr bX ρ wz ρ ((wz.setCell ⟨T.bB, o + n, none⟩ (.int .u64 (x : Int))).setCell ⟨T.bB, o + 64, none⟩ (.int .i64 ((n : Int) + 1)))) := hid (by
      have e1 : o + n = 3 + m * 69 + (3 + n) := by have := Ho.out; omega
      have e2 : o + 64 = 3 + m * 69 + 67 := by have := Ho.out; omega
      rw [e1, e2]
      refine HMz.out.root Hm.out (k := n) (n := n + 1) (x := x) (by omega) (by simp; exact Hn.out) (by omega) ?_ (fun j hj hne => ?_) (upd2 _ _ _ _ _ _) ((HMz.out.bb.set _ _).set _ _)
      · have := Hn.out
        simp [List.getD, List.getElem?_append_right, this]
      · have h1 := Hn.out
        rcases Nat.lt_or_ge j n with h2 | h2
        · simp [List.getD, List.getElem?_append_left (show j < (B.roots m).length by omega)]
        · have h3 : (B.roots m)[j]? = none := List.getElem?_eq_none (by omega)
          have h4 : (B.roots m ++ [x])[j]? = none := List.getElem?_eq_none (by simp; omega)
          simp [List.getD, h3, h4])
    have HFz : Hid (Fr bX ρ w ρ wz) := hid (Fr.below HZ.out)
    clear HMz HZ
    go_wp2
    go_ret
    unfold PuP
    rw [if_neg (by rw [Hn.out]; exact h64)]
    exact ⟨rfl, HR.out.1, HFz.out.trans HR.out.2⟩
end
end Go.Proofs.Qxb6500888a
