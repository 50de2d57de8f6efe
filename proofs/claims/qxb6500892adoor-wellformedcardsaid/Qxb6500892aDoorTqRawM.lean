/- Raw: its memory. -/
import Derived.Test.Qxb6500892aDoorTqView
namespace Go.Proofs.Qxb6500892aDoor
open Go.RowKit
set_option linter.unusedSimpArgs false
set_option linter.unusedVariables false

def cv (x : Int) : Int := wrap64 x
theorem cv_of {x : Int} (h1 : -1 ≤ x) (h2 : x ≤ 1000000) : cv x = x := by unfold cv wrap64; omega
def rT : Nat → TypeId
  | 3 => 61
  | 4 => 29
  | 6 => 4
  | _ => 3
theorem rT_cases (j : Nat) : rT j = 3 ∨ rT j = 61 ∨ rT j = 29 ∨ rT j = 4 := by
  unfold rT
  split <;> simp
theorem rT_ne (j : Nat) : rT j ≠ 84 ∧ rT j ≠ 86 ∧ rT j ≠ 21 ∧ rT j ≠ 56 := by
  rcases rT_cases j with h | h | h | h <;> rw [h] <;> decide
def one (v : Value) : List Value := [v]
def rwV (s : ES) (qd : Nat) (V : Nat → Value) (c : Nat) : Value :=
  if c = 0 then .int .i64 (s.slots : Int) else if c = 1 then .int .i64 (s.kin : Int) else if c = 2 then .int .i64 (s.kout : Int) else if c = 3 then .int .i64 (s.kneg : Int)
  else if c < 9 then .int .i64 (if c - 4 < qd then cv (s.hd (c - 4)) else 0)
  else if c < 14 then .int .i64 (if c - 9 < qd then cv (s.tl (c - 9)) else 0)
  else if c < 19 then .int .i64 (if c - 14 < qd then s.sz (c - 14) else 0)
  else if c < 27 then V (c - 19)
  else if c = 27 then .int .i64 s.negs else .int .i64 s.pinned
def rwC (s : ES) (qd : Nat) (V : Nat → Value) : List Value := fnL 29 (rwV s qd V)
theorem rwC_get (s : ES) (qd : Nat) (V : Nat → Value) {c : Nat} (h : c < 29) : (rwC s qd V)[c]? = some (rwV s qd V c) := fnL_get _ h
theorem rwC_row (s : ES) (qd : Nat) (V : Nat → Value) {j : Nat} (h : j < 8) : (rwC s qd V)[19 + j]? = some (V j) := by
  rw [rwC_get s qd V (by omega)]
  unfold rwV
  rw [if_neg (by omega), if_neg (by omega), if_neg (by omega), if_neg (by omega), if_neg (by omega), if_neg (by omega), if_neg (by omega), if_pos (by omega), show 19 + j - 19 = j by omega]
theorem rwC_setRow (s : ES) (qd : Nat) (V : Nat → Value) {j : Nat} (h : j < 8) (v : Value) : (rwC s qd V).set (19 + j) v = rwC s qd (upd V j v) := by
  unfold rwC
  rw [fnL_set _ (by omega)]
  refine fnL_ext fun c hc => ?_
  unfold rwV
  by_cases e : c = 19 + j
  · rw [if_pos e, if_neg (by omega), if_neg (by omega), if_neg (by omega), if_neg (by omega), if_neg (by omega), if_neg (by omega), if_neg (by omega), if_pos (by omega), show c - 19 = j by omega, upd_same]
  · rw [if_neg e]
    by_cases e2 : 19 ≤ c ∧ c < 27
    · rw [if_neg (by omega), if_neg (by omega), if_neg (by omega), if_neg (by omega), if_neg (by omega), if_neg (by omega), if_neg (by omega), if_pos (by omega)]
      rw [if_neg (by omega), if_neg (by omega), if_neg (by omega), if_neg (by omega), if_neg (by omega), if_neg (by omega), if_neg (by omega), if_pos (by omega), upd_ne _ _ (by omega)]
    · by_cases e3 : c < 19
      · repeat (first | rfl | (split; rfl))
      · rw [if_neg (show ¬ c = 0 by omega), if_neg (show ¬ c = 1 by omega), if_neg (show ¬ c = 2 by omega), if_neg (show ¬ c = 3 by omega), if_neg (show ¬ c < 9 by omega), if_neg (show ¬ c < 14 by omega), if_neg e3, if_neg (show ¬ c < 27 by omega)]
        rw [if_neg (show ¬ c = 0 by omega), if_neg (show ¬ c = 1 by omega), if_neg (show ¬ c = 2 by omega), if_neg (show ¬ c = 3 by omega), if_neg (show ¬ c < 9 by omega), if_neg (show ¬ c < 14 by omega), if_neg e3, if_neg (show ¬ c < 27 by omega)]
/-- Raw under way. -/
structure RwM (e gn gb : Nat) (s : ES) (w0 : World) (p2 p3 qd : Nat) (V : Nat → Value) (X : Nat → List Value) (w : World) : Prop where
  em : EM e gn gb s w
  bel : Below w0.heap.size w0 w
  b2 : ∃ zs, zs.length = 29 ∧ Blk w p2 56 zs
  b3 : Blk w p3 56 (rwC s qd V)
  ow : ∀ j, j < 8 → OR w w0.heap.size (rT j) 1 one (V j) (X j)
  sp : ∀ i j, i < 8 → j < 8 → i ≠ j → ∀ g, (V i).ownBlock = some g → (V j).ownBlock ≠ some g
  g2 : w0.heap.size ≤ p2
  g3 : w0.heap.size ≤ p3
  ne : p2 ≠ p3
section
variable {e gn gb : Nat} {s : ES} {w0 : World} {p2 p3 qd : Nat} {V : Nat → Value} {X : Nat → List Value} {w w' : World}
theorem RwM.below (h : RwM e gn gb s w0 p2 p3 qd V X w) (hb : Below w.heap.size w w') : RwM e gn gb s w0 p2 p3 qd V X w' := by
  obtain ⟨zs, hz, hzb⟩ := h.b2
  exact ⟨h.em.below hb, h.bel.trans (hb.mono h.bel.size), ⟨zs, hz, hzb.below hb⟩, h.b3.below hb, fun j hj => (h.ow j hj).below hb, h.sp, h.g2, h.g3, h.ne⟩
theorem RwM.app (h : RwM e gn gb s w0 p2 p3 qd V X w) {j : Nat} (hj : j < 8) {u v' : Value} (ha : App w0.heap.size (rT j) 1 one (V j) (X j ++ [u]) w v' w') : RwM e gn gb s w0 p2 p3 qd (upd V j v') (upd X j (X j ++ [u])) (w'.setCell ⟨p3, 19 + j, none⟩ v') := by
  obtain ⟨r1, r2, r3, r4⟩ := rT_ne j
  have kt : ∀ k t cs, Blk w k t cs → t ≠ rT j → Blk w' k t cs := fun k t cs hb ht => hb.same (ha.keep k hb.lt fun g hg e => by subst e; obtain ⟨_, c2, b2⟩ := (h.ow j hj).blk hg; exact hb.tne b2 ht rfl)
  obtain ⟨zs, hz, hzb⟩ := h.b2
  have k2 := kt _ _ _ hzb (Ne.symm r4)
  have k3 := kt _ _ _ h.b3 (Ne.symm r4)
  have e1 := kt _ _ _ h.em.eb (Ne.symm r1)
  have e2 := kt _ _ _ h.em.nb (Ne.symm r2)
  have e3 := kt _ _ _ h.em.bb (Ne.symm r3)
  have hu : Upd p3 w' (w'.setCell ⟨p3, 19 + j, none⟩ v') := (Upd.refl p3 w').setCell rfl _
  have k3' := k3.set (19 + j) v'
  rw [rwC_setRow s qd V hj] at k3'
  refine ⟨⟨e1.upd hu (e1.tne k3 (by decide)), e2.upd hu (e2.tne k3 (by decide)), e3.upd hu (e3.tne k3 (by decide))⟩, (h.bel.trans ha.bel).trans (hu.below h.g3 (Nat.le_trans h.bel.size ha.bel.size)), ⟨zs, hz, k2.upd hu h.ne⟩, k3', fun i hi => ?_, fun i i' hi hi' hne g hg => ?_, h.g2, h.g3, h.ne⟩
  · by_cases e : i = j
    · subst e
      rw [upd_same, upd_same]
      exact ha.ow.keep fun g hg => hu.block g (ha.ow.lt hg) (fun e => by obtain ⟨_, cs, hb⟩ := ha.ow.blk hg; exact hb.tne k3 (rT_ne i).2.2.2 e)
    · rw [upd_ne _ _ e, upd_ne _ _ e]
      have o1 : OR w' w0.heap.size (rT i) 1 one (V i) (X i) := (h.ow i hi).keep fun g hg => ha.keep g ((h.ow i hi).lt hg) (fun g' hg' e2 => by subst e2; exact h.sp i j hi hj e g hg hg')
      exact o1.keep fun g hg => hu.block g (o1.lt hg) (fun e => by obtain ⟨_, cs, hb⟩ := o1.blk hg; exact hb.tne k3 (rT_ne i).2.2.2 e)
  · by_cases e : i = j
    · subst e
      rw [upd_same] at hg
      rw [upd_ne _ _ (Ne.symm hne)]
      intro hg'
      rcases ha.blk g hg with h3 | h3
      · exact h.sp i i' hi hi' hne g h3 hg'
      · have := (h.ow i' hi').lt hg'
        omega
    · rw [upd_ne _ _ e] at hg
      by_cases e' : i' = j
      · subst e'
        rw [upd_same]
        intro hg'
        rcases ha.blk g hg' with h3 | h3
        · exact h.sp i i' hi hi' hne g hg h3
        · have := (h.ow i hi).lt hg
          omega
      · rw [upd_ne _ _ e']
        exact h.sp i i' hi hi' hne g hg
theorem rwC_q (s : ES) (V : Nat → Value) {q : Nat} (hq : q < 5) : (((rwC s q V).set (4 + q) (.int .i64 (cv (s.hd q)))).set (9 + q) (.int .i64 (cv (s.tl q)))).set (14 + q) (.int .i64 (s.sz q)) = rwC s (q + 1) V := by
  unfold rwC
  rw [fnL_set _ (by omega), fnL_set _ (by omega), fnL_set _ (by omega)]
  refine fnL_ext fun c hc => ?_
  unfold rwV
  by_cases e1 : c = 14 + q
  · rw [if_pos e1, if_neg (by omega), if_neg (by omega), if_neg (by omega), if_neg (by omega), if_neg (by omega), if_neg (by omega), if_pos (by omega), if_pos (by omega), show c - 14 = q by omega]
  · rw [if_neg e1]
    by_cases e2 : c = 9 + q
    · rw [if_pos e2, if_neg (by omega), if_neg (by omega), if_neg (by omega), if_neg (by omega), if_neg (by omega), if_pos (by omega), if_pos (by omega), show c - 9 = q by omega]
    · rw [if_neg e2]
      by_cases e3 : c = 4 + q
      · rw [if_pos e3, if_neg (by omega), if_neg (by omega), if_neg (by omega), if_neg (by omega), if_pos (by omega), if_pos (by omega), show c - 4 = q by omega]
      · rw [if_neg e3]
        have h1 : ¬ c - 4 = q ∨ c < 4 := by omega
        have h2 : ¬ c - 9 = q ∨ c < 9 := by omega
        have h3 : ¬ c - 14 = q ∨ c < 14 := by omega
        by_cases d0 : c = 0
        · rw [if_pos d0, if_pos d0]
        · rw [if_neg d0, if_neg d0]
          by_cases d1 : c = 1
          · rw [if_pos d1, if_pos d1]
          · rw [if_neg d1, if_neg d1]
            by_cases d2 : c = 2
            · rw [if_pos d2, if_pos d2]
            · rw [if_neg d2, if_neg d2]
              by_cases d3 : c = 3
              · rw [if_pos d3, if_pos d3]
              · rw [if_neg d3, if_neg d3]
                by_cases d4 : c < 9
                · rw [if_pos d4, if_pos d4]
                  by_cases k : c - 4 < q
                  · rw [if_pos k, if_pos (by omega)]
                  · rw [if_neg k, if_neg (by omega)]
                · rw [if_neg d4, if_neg d4]
                  by_cases d5 : c < 14
                  · rw [if_pos d5, if_pos d5]
                    by_cases k : c - 9 < q
                    · rw [if_pos k, if_pos (by omega)]
                    · rw [if_neg k, if_neg (by omega)]
                  · rw [if_neg d5, if_neg d5]
                    by_cases d6 : c < 19
                    · rw [if_pos d6, if_pos d6]
                      by_cases k : c - 14 < q
                      · rw [if_pos k, if_pos (by omega)]
                      · rw [if_neg k, if_neg (by omega)]
                    · rw [if_neg d6, if_neg d6]
theorem RwM.queue {q : Nat} (h : RwM e gn gb s w0 p2 p3 q V X w) (hq : q < 5) : RwM e gn gb s w0 p2 p3 (q + 1) V X (((w.setCell ⟨p3, 4 + q, none⟩ (.int .i64 (cv (s.hd q)))).setCell ⟨p3, 9 + q, none⟩ (.int .i64 (cv (s.tl q)))).setCell ⟨p3, 14 + q, none⟩ (.int .i64 (s.sz q))) := by
  have hu : Upd p3 w (((w.setCell ⟨p3, 4 + q, none⟩ (.int .i64 (cv (s.hd q)))).setCell ⟨p3, 9 + q, none⟩ (.int .i64 (cv (s.tl q)))).setCell ⟨p3, 14 + q, none⟩ (.int .i64 (s.sz q))) := (((Upd.refl p3 w).setCell rfl _).setCell rfl _).setCell rfl _
  have k := ((h.b3.set (4 + q) (.int .i64 (cv (s.hd q)))).set (9 + q) (.int .i64 (cv (s.tl q)))).set (14 + q) (.int .i64 (s.sz q))
  rw [rwC_q s V hq] at k
  obtain ⟨zs, hz, hzb⟩ := h.b2
  exact ⟨⟨h.em.eb.upd hu (h.em.eb.tne h.b3 (by decide)), h.em.nb.upd hu (h.em.nb.tne h.b3 (by decide)), h.em.bb.upd hu (h.em.bb.tne h.b3 (by decide))⟩, h.bel.trans (hu.below h.g3 h.bel.size), ⟨zs, hz, hzb.upd hu h.ne⟩, k, fun j hj => (h.ow j hj).keep fun g hg => hu.block g ((h.ow j hj).lt hg) (fun e => by obtain ⟨_, cs, hb⟩ := (h.ow j hj).blk hg; exact hb.tne h.b3 (rT_ne j).2.2.2 e), h.sp, h.g2, h.g3, h.ne⟩
end
/-- The rows when n nodes are copied. -/
def XN (s : ES) (n : Nat) : Nat → List Value
  | 0 => fnL n fun c => .int .i64 (cv (s.prv c))
  | 1 => fnL n fun c => .int .i64 (cv (s.nxt c))
  | 2 => fnL n fun c => .int .i64 (cv (s.chn c))
  | 3 => fnL n fun c => .int .u8 (s.whr c : Int)
  | 4 => fnL n fun c => .int .u64 (s.key c : Int)
  | 5 => fnL n fun c => .int .i64 (cv (s.pin c))
  | 6 => fnL n fun c => .bool (s.neg c)
  | _ => []
theorem fnL_snoc (n : Nat) (f : Nat → Value) : fnL n f ++ [f n] = fnL (n + 1) f := by
  unfold fnL
  rw [List.range_succ, List.map_append]
  rfl
theorem XN_len (s : ES) (n : Nat) {j : Nat} (hj : j < 7) : (XN s n j).length = n := by
  rcases (by omega : j = 0 ∨ j = 1 ∨ j = 2 ∨ j = 3 ∨ j = 4 ∨ j = 5 ∨ j = 6) with rfl | rfl | rfl | rfl | rfl | rfl | rfl <;> exact fnL_len _ _
theorem XN_zero (s : ES) : XN s 0 = fun _ => [] := by
  funext j
  unfold XN
  split <;> first | rfl | exact List.eq_nil_of_length_eq_zero (fnL_len 0 _)
theorem info_intz : ∃ i, Tryd.prog.info? 3 = some i ∧ i.zero = some (.int .i64 0) ∧ i.size = 1 ∧ i.bytes = 8 := by
  have h : (Tryd.prog.info? 3).map (fun i => (i.zero, i.size, i.bytes)) = some (some (.int .i64 0), 1, 8) := by kernel_rfl
  obtain ⟨i, hi, he⟩ := Option.map_eq_some_iff.1 h
  simp only [Prod.mk.injEq] at he
  exact ⟨i, hi, he.1, he.2.1, he.2.2⟩
theorem info_quez : ∃ i, Tryd.prog.info? 61 = some i ∧ i.zero = some (.int .u8 0) ∧ i.size = 1 ∧ i.bytes = 1 := by
  have h : (Tryd.prog.info? 61).map (fun i => (i.zero, i.size, i.bytes)) = some (some (.int .u8 0), 1, 1) := by kernel_rfl
  obtain ⟨i, hi, he⟩ := Option.map_eq_some_iff.1 h
  simp only [Prod.mk.injEq] at he
  exact ⟨i, hi, he.1, he.2.1, he.2.2⟩
theorem info_boolz : ∃ i, Tryd.prog.info? 4 = some i ∧ i.zero = some (.bool false) ∧ i.size = 1 ∧ i.bytes = 1 := by
  have h : (Tryd.prog.info? 4).map (fun i => (i.zero, i.size, i.bytes)) = some (some (.bool false), 1, 1) := by kernel_rfl
  obtain ⟨i, hi, he⟩ := Option.map_eq_some_iff.1 h
  simp only [Prod.mk.injEq] at he
  exact ⟨i, hi, he.1, he.2.1, he.2.2⟩
theorem XN_succ (s : ES) (i : Nat) {X0 X1 X2 X3 X4 X5 X6 X7 : Nat → List Value} {y0 y1 y2 y3 y4 y5 : Int} {y6 : Bool} (hy : s.prv i = y0 ∧ s.nxt i = y1 ∧ s.chn i = y2 ∧ s.pin i = y3 ∧ (s.key i : Int) = y4 ∧ (s.whr i : Int) = y5 ∧ s.neg i = y6)
    (h0 : XN s i = X0) (h1 : upd X0 0 (X0 0 ++ [.int .i64 (wrap64 y0)]) = X1) (h2 : upd X1 1 (X1 1 ++ [.int .i64 (wrap64 y1)]) = X2) (h3 : upd X2 2 (X2 2 ++ [.int .i64 (wrap64 y2)]) = X3) (h4 : upd X3 3 (X3 3 ++ [.int .u8 y5]) = X4) (h5 : upd X4 4 (X4 4 ++ [.int .u64 y4]) = X5) (h6 : upd X5 5 (X5 5 ++ [.int .i64 (wrap64 y3)]) = X6) (h7 : upd X6 6 (X6 6 ++ [.bool y6]) = X7) : X7 = XN s (i + 1) := by
  obtain ⟨k0, k1, k2, k3, k4, k5, k6⟩ := hy
  subst h0 h1 h2 h3 h4 h5 h6 h7 k0 k1 k2 k3 k4 k5 k6
  funext m
  rcases m with _ | _ | _ | _ | _ | _ | _ | m
  · simp only [upd]
    exact fnL_snoc i fun c => .int .i64 (cv (s.prv c))
  · simp only [upd]
    exact fnL_snoc i fun c => .int .i64 (cv (s.nxt c))
  · simp only [upd]
    exact fnL_snoc i fun c => .int .i64 (cv (s.chn c))
  · simp only [upd]
    exact fnL_snoc i fun c => .int .u8 (s.whr c : Int)
  · simp only [upd]
    exact fnL_snoc i fun c => .int .u64 (s.key c : Int)
  · simp only [upd]
    exact fnL_snoc i fun c => .int .i64 (cv (s.pin c))
  · simp only [upd]
    exact fnL_snoc i fun c => .bool (s.neg c)
  · rw [upd_ne _ _ (by omega), upd_ne _ _ (by omega), upd_ne _ _ (by omega), upd_ne _ _ (by omega), upd_ne _ _ (by omega), upd_ne _ _ (by omega), upd_ne _ _ (by omega)]
    rfl
def XB (s : ES) (n b : Nat) : Nat → List Value := upd (XN s n) 7 (fnL b fun c => .int .i64 (cv (s.bk c)))
theorem XB_zero (s : ES) (n : Nat) : XB s n 0 = XN s n := by
  unfold XB
  exact upd_self' _ _ _ (by symm; exact List.eq_nil_of_length_eq_zero (fnL_len 0 _))
theorem XB_succ (s : ES) (n b : Nat) {y : Int} (hy : s.bk b = y) : upd (XB s n b) 7 (XB s n b 7 ++ [.int .i64 (wrap64 y)]) = XB s n (b + 1) := by
  subst hy
  unfold XB
  rw [upd_upd, upd_same]
  congr 1
  exact fnL_snoc b fun c => .int .i64 (cv (s.bk c))
/-- What Raw gives. -/
def RawP (s : ES) (w : World) (y : Ending) (w' : World) : Prop := ∃ V, y = .returned (.agg (rwC s 5 V).toArray) ∧ Hid (Below w.heap.size w w' ∧ ∀ j, j < 8 → OR w' w.heap.size (rT j) 1 one (V j) (XB s s.n s.m j))
theorem rwC_one {e gn gb : Nat} {s : ES} {w0 : World} {p2 p3 qd : Nat} {V : Nat → Value} {X : Nat → List Value} {w : World} (h : RwM e gn gb s w0 p2 p3 qd V X w) : ∀ v ∈ rwC s qd V, v.oneCell' = true := fun v hv => by
  obtain ⟨c, hc, e1⟩ := List.mem_iff_getElem.1 hv
  have hl : (rwC s qd V).length = 29 := fnL_len _ _
  have h1 := rwC_get s qd V (c := c) (by omega)
  rw [List.getElem?_eq_getElem hc, e1] at h1
  have h2 := Option.some.inj h1
  rw [h2]
  unfold rwV
  by_cases hr : 19 ≤ c ∧ c < 27
  · rw [if_neg (by omega), if_neg (by omega), if_neg (by omega), if_neg (by omega), if_neg (by omega), if_neg (by omega), if_neg (by omega), if_pos (by omega)]
    obtain ⟨a, n, k, h3⟩ := (h.ow (c - 19) (by omega)).shape
    rw [h3]
    rfl
  · repeat' split
    all_goals first | rfl | omega
end Go.Proofs.Qxb6500892aDoor
