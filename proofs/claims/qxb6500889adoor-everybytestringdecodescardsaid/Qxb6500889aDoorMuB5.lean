/- Bad handles: the rows of tries and of probes. -/
import Derived.Test.Qxb6500889aDoorMuB4
import Derived.Test.Qxb6500889aDoorMuA1
import Derived.Great.BuildSlice
namespace Go.Proofs.Qxb6500889aDoor
open Go.RowKit
set_option linter.unusedSimpArgs false
set_option linter.unusedVariables false
theorem wpList_bs7 {ops : Array Oper} {rest : List Oper} {o : Oper} {a : Act} {w : World} {Q : Exit → Act → World → Prop} (hg : o.guard = none) (x0 x1 x2 x3 x4 x5 x6 : Operand) (ho : o.op = .buildSlice 40 7 #[(0, x0), (1, x1), (2, x2), (3, x3), (4, x4), (5, x5), (6, x6)])
    (v0 v1 v2 v3 v4 v5 v6 : Nat) (h0 : a.eval x0 = .int .u64 (v0 : Int)) (h1 : a.eval x1 = .int .u64 (v1 : Int)) (h2 : a.eval x2 = .int .u64 (v2 : Int)) (h3 : a.eval x3 = .int .u64 (v3 : Int)) (h4 : a.eval x4 = .int .u64 (v4 : Int)) (h5 : a.eval x5 = .int .u64 (v5 : Int)) (h6 : a.eval x6 = .int .u64 (v6 : Int))
    (h : ∀ g w', w.heap.size = g → w.alloc (.cells (aK .u64 [v0, v1, v2, v3, v4, v5, v6]).toArray 39) = w' → wpList Tryd.prog ops Q rest (a.put o.dst (.slice (some ⟨g, 0, none⟩) 7 7)) w') : wpList Tryd.prog ops Q (o :: rest) a w := by
  obtain ⟨i, hi, he⟩ := Option.map_eq_some_iff.1 info_hand
  simp only [Prod.mk.injEq] at he
  obtain ⟨e1, e2, e3⟩ := he
  refine wpList_buildSlice hg 40 39 7 _ ho (aK .u64 [v0, v1, v2, v3, v4, v5, v6]).toArray i (.int .u64 0) Tryd.underlying40 hi e1 (by rw [e2]; decide) (by rw [e2]; decide) ?_ (h _ _ rfl rfl)
  rw [e2]
  simp only [List.map_toArray, List.map_cons, List.map_nil, h0, h1, h2, h3, h4, h5, h6]
  kernel_rfl
theorem own_belowS {w w' : World} {base : Nat} {t : TypeId} {sz : Nat} {v : Value} {n : Nat} {xs : List Value} (h : w.ownsRow base t sz v n xs) (hb : Below w.heap.size w w') : w'.ownsRow base t sz v n xs := by
  refine ⟨h.1, ?_⟩
  rcases h.2 with h0 | ⟨g, cap, cur, e1, e2, hg, r⟩
  · exact .inl h0
  · exact .inr ⟨g, cap, cur, e1, e2, by rw [hb.block g (Array.getElem?_eq_some_iff.1 hg).1]; exact hg, r⟩
theorem own_blkS {w : World} {base : Nat} {t : TypeId} {v : Value} {n sz : Nat} {cs : List Value} (h : w.ownsRow base t sz v n cs) (hn : 0 < n) : ∃ g cap cs', v = .slice (some ⟨g, 0, none⟩) n cap ∧ base ≤ g ∧ Blk w g t cs' ∧ cs'.take (n * sz) = cs := by
  rcases h.2 with ⟨_, h0⟩ | ⟨g, cap, cur, h1, h2, hg, h3, h4, h5, h6⟩
  · omega
  · refine ⟨g, cap, cur.toList, h1, h2, ?_, h6⟩
    unfold Blk
    rw [hg]
theorem info_opz : ∃ i, Tryd.prog.info? 31 = some i ∧ i.zero = some (.agg #[.int .u8 0, .int .u8 0, .int .u64 0, .int .u64 0, .int .u64 0]) ∧ i.size = 5 ∧ i.bytes = 32 := by
  have h : (Tryd.prog.info? 31).map (fun i => (i.zero, i.size, i.bytes)) = some (some (.agg #[.int .u8 0, .int .u8 0, .int .u64 0, .int .u64 0, .int .u64 0]), 5, 32) := by kernel_rfl
  obtain ⟨i, hi, he⟩ := Option.map_eq_some_iff.1 h
  simp only [Prod.mk.injEq] at he
  exact ⟨i, hi, he.1, he.2.1, he.2.2⟩
def prZ : Array Value := madeCells #[.int .u8 0, .int .u8 0, .int .u64 0, .int .u64 0, .int .u64 0] 30
theorem make_pr (w : World) : (Instr.makeSlice 22 (.int .i64 0) (.int .i64 6)).run Tryd.prog w = .ok (.slice (some ⟨w.heap.size, 0, none⟩) 0 6) (w.alloc (.cells prZ 31)) := by
  obtain ⟨i0, hi, hz0, hz1, hz2⟩ := info_opz
  have := run_make (P := Tryd.prog) w 22 31 i0 _ Tryd.underlying22 hi hz0 .i64 .i64 0 6 (by omega) (by omega) (by rw [hz2]; omega) (by omega)
  rw [hz1] at this
  exact this
/-- The probes so far, in memory made since wz. -/
structure PR (wz wr : World) (v : Value) (P : List OpP) : Prop where
  bel : Below wz.heap.size wz wr
  own : wr.ownsRow wz.heap.size 31 5 v P.length (P.flatMap opC)
section
variable {w0 wz wr w' w : World} {wB1 mB1 wB2 mB2 k lim : Nat} {S S1 S2 : WSt} {M1 M2 : MS} {xs : List XBk} {o p : OpP} {v : Value} {P : List OpP}
theorem PR.below (h : PR wz wr v P) (hb : Below wr.heap.size wr w') : PR wz w' v P := ⟨h.bel.trans (hb.mono h.bel.size), own_belowS h.own hb⟩
theorem PR.new (wz : World) : PR wz (wz.alloc (.cells prZ 31)) (.slice (some ⟨wz.heap.size, 0, none⟩) 0 6) [] := by
  refine ⟨nbel _ _, rfl, .inr ⟨wz.heap.size, 6, prZ, rfl, Nat.le_refl _, ?_, Nat.zero_le _, by unfold maxLen; omega, by simp [prZ, madeCells], rfl⟩⟩
  have := Blk.new wz prZ.toList 31
  exact this
/-- One more probe. -/
theorem wpList_app_pr {ops : Array Oper} {rest : List Oper} {ow : Oper} {a : Act} {Q : Exit → Act → World → Prop} (hgd : ow.guard = none) (s x : Operand)
    (ho : ow.op = .call { callee := .builtin .append, args := #[s, x], argTypes := #[22, 22] }) (hs : a.eval s = v) (hp : PR wz wr v P) (p : OpP) (hl : P.length ≤ 10) (g : Nat) (hx : a.eval x = .slice (some ⟨g, 0, none⟩) 1 1) (hg : Blk wr g 31 (opC p))
    (h : ∀ v' w', PR wz w' v' (P ++ [p]) → wpList Tryd.prog ops Q rest (a.put ow.dst v') w') : wpList Tryd.prog ops Q (ow :: rest) a wr := by
  obtain ⟨i0, hi, hz0, hz1, hz2⟩ := info_opz
  refine wpList_append_row wr hgd s x 22 ho wz.heap.size 31 i0 _ 5 32 Tryd.underlying22 hi hz0 hz1 hz2 rfl (by decide) v P.length (P.flatMap opC) hs hp.own (some ⟨g, 0, none⟩) 1 1 (opC p) hx rfl (fun h => by cases h) (fun ad had j u hu => ?_) (op_one p) (by omega) (by decide) hp.bel.size (fun v' w' h1 h2 h3 h4 => ?_)
  · obtain rfl := Option.some.inj had
    have e : (⟨g, 0, none⟩ : Addr).add j = ⟨g, j, none⟩ := by unfold Addr.add; split <;> simp_all
    rw [e, hg.cell j]
    exact hu
  · refine h v' w' ⟨hp.bel.trans h2, ?_⟩
    rw [List.flatMap_append, List.length_append]
    simpa using h1
/-- The probes as a block beside the worlds. -/
theorem PR.lay (hp : PR wz wr v P) (h : B2 w0 wB1 mB1 wB2 mB2 S S2 M2 xs lim wz) (hn : 0 < P.length) : ∃ g cap cs, v = .slice (some ⟨g, 0, none⟩) P.length cap ∧ B2 w0 wB1 mB1 wB2 mB2 S S2 M2 ((g, 31, cs) :: xs) lim wr ∧ cs.take (P.length * 5) = P.flatMap opC := by
  obtain ⟨g, cap, cs, h1, h2, h3, h4⟩ := own_blkS hp.own hn
  obtain ⟨S1, M1, k, k1, k2⟩ := h.ex
  exact ⟨g, cap, cs, h1, ⟨S1, M1, k, k1.own hp.bel h3 h2, k2⟩, h4⟩
theorem pr_cells {g : Nat} {cs : List Value} (hb : Blk w g 31 cs) (hc : cs.take (P.length * 5) = P.flatMap opC) {q : Nat} (hq : P[q]? = some p) : w.cell? ⟨g, q * 5, none⟩ = some (.int .u8 (p.ac : Int)) ∧ w.cell? ⟨g, q * 5 + 1, none⟩ = some (.int .u8 (p.k : Int)) ∧ w.cell? ⟨g, q * 5 + 2, none⟩ = some (.int .u64 (p.a : Int)) ∧ w.cell? ⟨g, q * 5 + 3, none⟩ = some (.int .u64 (p.b : Int)) ∧ w.cell? ⟨g, q * 5 + 4, none⟩ = some (.int .u64 (p.c : Int)) := by
  have hlt : q < P.length := (List.getElem?_eq_some_iff.1 hq).1
  have key : ∀ j, j < 5 → w.cell? ⟨g, q * 5 + j, none⟩ = (opC p)[j]? := fun j hj => by
    rw [hb.cell (q * 5 + j)]
    have e1 : (P.flatMap opC)[q * 5 + j]? = (opC p)[j]? := by
      rw [getElem?_flatMap_const (f := opC) (sz := 5) (by decide) P (fun x _ => (rfl : (opC x).length = 5))]
      rw [show (q * 5 + j) / 5 = q by omega, show (q * 5 + j) % 5 = j by omega, hq]; rfl
    rw [← e1, ← hc, List.getElem?_take, if_pos (by omega)]
  exact ⟨key 0 (by decide), key 1 (by decide), key 2 (by decide), key 3 (by decide), key 4 (by decide)⟩
/-- A probe that every state with these tables refuses. -/
structure PrB (S : WSt) (p : OpP) : Prop where
  ok : OpB p
  ac : p.ac < 4
  bad : (1 ≤ p.k ∧ p.k ≤ 5 ∧ 255 < p.a ∧ p.a ∉ lvK S.X p.ac) ∨ (p.k = 2 ∧ p.b = 0 ∧ 255 < p.c ∧ p.c ∉ lvK S.X p.ac ∧ Good S.H S.X p.ac p.a)
theorem lvK_tb {X X' : XS} (h : X.tb = X'.tb) (m : Nat) : lvK X m = lvK X' m := by unfold lvK; rw [h]
theorem lookX_tb {X X' : XS} (h : X.tb = X'.tb) (m v : Nat) : lookX X m v = lookX X' m v := by unfold lookX; rw [h]
theorem Good.tb {H H' : HS} {X X' : XS} {m h : Nat} (hg : Good H X m h) (hH : H' = H) (ht : X'.tb = X.tb) : Good H' X' m h := by
  obtain ⟨g1, a, x, g2, g3, g4, g5⟩ := hg
  exact ⟨by rw [lvK_tb ht]; exact g1, a, x, by rw [lookX_tb ht]; exact g2, by rw [ht]; exact g3, by rw [hH]; exact g4, g5⟩
theorem PrB.badM (h : PrB S p) (ha : Apt S1 M1 S2 M2 k) (ht : S1.X.tb = S.X.tb) (hH : S1.H = S.H) (hi : HI S1.H S1.X) : BadM M1 p := by
  obtain ⟨ac, kd, a, b, c⟩ := p
  rcases h.bad with ⟨k1, k2, k3, k4⟩ | ⟨k1, k2, k3, k4, k5⟩
  · exact ha.probe h.ac k3 (by rw [lvK_tb ht]; exact k4) kd b c ⟨k1, k2⟩
  · dsimp only at k1 k2
    subst k1 k2
    exact ha.probe2 h.ac k3 (by rw [lvK_tb ht]; exact k4) hi (k5.tb hH ht)
/-- A probe is played on the real side, the model has not met it yet. -/
structure B2h (w0 : World) (wB1 mB1 wB2 mB2 : Nat) (S : WSt) (S2 : WSt) (M2 : MS) (xs : List XBk) (lim : Nat) (p : OpP) (wr : World) : Prop where
  ex : ∃ S1 M1 k n, W4 w0 wB1 mB1 wB2 mB2 S1 M1 S2 M2 xs wr ∧ Apt S1 (mCnt M1 (rzR 3)) S2 M2 k ∧ S1.k ≤ lim + 1 ∧ S1.X.tb = S.X.tb ∧ S1.H = S.H ∧ BadM M1 p ∧ MBd M1 n ∧ n < 100000000000 ∧ MIds M1
theorem B2h.below (h : B2h w0 wB1 mB1 wB2 mB2 S S2 M2 xs lim p wr) (hb : Below wr.heap.size wr w') : B2h w0 wB1 mB1 wB2 mB2 S S2 M2 xs lim p w' := by
  obtain ⟨S1, M1, k, n, h1, h2⟩ := h.ex
  exact ⟨S1, M1, k, n, h1.below hb, h2⟩
theorem B2h.bl (h : B2h w0 wB1 mB1 wB2 mB2 S S2 M2 xs lim p wr) : ∀ x ∈ xs, Blk wr x.1 x.2.1 x.2.2 := by
  obtain ⟨S1, M1, k, n, h1, h2⟩ := h.ex
  exact fun x hx => (h1.bl x hx).1
theorem B2.bl (h : B2 w0 wB1 mB1 wB2 mB2 S S2 M2 xs lim wr) : ∀ x ∈ xs, Blk wr x.1 x.2.1 x.2.2 := by
  obtain ⟨S1, M1, k, h1, h2⟩ := h.ex
  exact fun x hx => (h1.bl x hx).1
theorem B2.own (h : B2 w0 wB1 mB1 wB2 mB2 S S2 M2 xs lim wr) (hb : Below wr.heap.size wr w') {g : Nat} {t : TypeId} {cs : List Value} (hk : Blk w' g t cs) (hg : wr.heap.size ≤ g) : B2 w0 wB1 mB1 wB2 mB2 S S2 M2 ((g, t, cs) :: xs) lim w' := by
  obtain ⟨S1, M1, k, h1, h2⟩ := h.ex
  exact ⟨S1, M1, k, h1.own hb hk hg, h2⟩
theorem B2.tail {x : XBk} (h : B2 w0 wB1 mB1 wB2 mB2 S S2 M2 (x :: xs) lim wr) : B2 w0 wB1 mB1 wB2 mB2 S S2 M2 xs lim wr := by
  obtain ⟨S1, M1, k, h1, h2⟩ := h.ex
  exact ⟨S1, M1, k, h1.tail, h2⟩
theorem B2.alloc (h : B2 w0 wB1 mB1 wB2 mB2 S S2 M2 xs lim wr) (cs : List Value) (t : TypeId) : B2 w0 wB1 mB1 wB2 mB2 S S2 M2 ((wr.heap.size, t, cs) :: xs) lim (wr.alloc (.cells cs.toArray t)) :=
  h.own (nbel wr _) (Blk.new wr cs t) (Nat.le_refl _)
theorem B2.play (h : B2 w0 wB1 mB1 wB2 mB2 S S2 M2 xs lim wr) (hl : lim < 100000000000) (hp : PrB S p) :
    Calls Tryd.prog 8 #[.pointer (some ⟨wB1, 0, none⟩), .agg (opC p).toArray] wr fun e w' => e = .returned (.agg (rzC (rzR 3)).toArray) ∧ B2h w0 wB1 mB1 wB2 mB2 S S2 M2 xs lim p w' := by
  obtain ⟨S1, M1, k, h1, h2, h3, h4, h5⟩ := h.ex
  refine (h1.play1 (by omega) p hp.ok).mono ?_
  rintro e w' ⟨z, S', k1, k2, k3⟩
  have hb := hp.badM h2 h4 h5 h1.lw1.hi
  obtain ⟨q1, q2⟩ := h2.bad h1.lw1 (by omega) hp.ok hb k2
  obtain ⟨φ, r1⟩ := h2.r1
  rw [q1] at k1
  refine ⟨k1, ⟨S', M1, k + 1, S1.k, k3, q2, by rw [k2.k]; omega, ?_, ?_, hb, r1.mbd h1.lw1 (by omega), by omega, r1.ids h1.lw1.hi⟩⟩
  · rw [← h4, q2.x, h2.x]; rfl
  · rw [← h5, q2.h, h2.h]
theorem B2h.step (h : B2h w0 wB1 mB1 wB2 mB2 S S2 M2 xs lim p wr) (hp : PrB S p) :
    Calls Tryd.prog 9 #[.pointer (some ⟨mB1, 0, none⟩), .agg (opC p).toArray, .bool true] wr fun e w' => e = .returned (.agg (rzC (rzR 3)).toArray) ∧ B2 w0 wB1 mB1 wB2 mB2 S S2 M2 xs (lim + 1) w' := by
  obtain ⟨S1, M1, k, n, h1, h2, h3, h4, h5, h6, h7, h8, h9⟩ := h.ex
  refine (h1.step1 h7 h8 h9 p hp.ok true).mono ?_
  rintro e w' ⟨k1, k2⟩
  rw [h6.refuse] at k1 k2
  exact ⟨k1, ⟨S1, _, k, k2, h2, h3, h4, h5⟩⟩
/-- Is the handle live? -/
theorem B2.live (h : B2 w0 wB1 mB1 wB2 mB2 S S2 M2 xs lim wr) {m : Nat} (hm : m < 4) (v : Nat) : ∃ lm, wr.cell? ⟨wB1, 2 + m, none⟩ = some (.map (some lm)) ∧ (Instr.lookup 43 (.map (some lm)) (.int .u64 (v : Int)) false).run Tryd.prog wr = .ok (.bool (decide (v ∈ lvK S.X m))) wr := by
  obtain ⟨S1, M1, k, h1, h2, h3, h4, h5⟩ := h.ex
  have hL := h1.lw1
  refine ⟨S1.V.lm m, by have := hL.wm.lcell hm; rw [hL.hv] at this; exact this, ?_⟩
  obtain ⟨E, hpn, hev, hek⟩ : LvM wr (S1.V.lm m) (lvK S1.X m) := hL.wm.lv m hm
  rw [lvK_tb h4] at hek
  by_cases hv : v ∈ lvK S.X m
  · rw [decide_eq_true hv]
    rw [← hek] at hv
    obtain ⟨e, he, rfl⟩ := List.mem_map.1 hv
    have := hpn.look (P := Tryd.prog) Tryd.underlying43 Tryd.underlying39 he
    rw [hev e he] at this
    exact this
  · rw [decide_eq_false hv]
    exact hpn.lookZ (P := Tryd.prog) Tryd.underlying43 Tryd.underlying39 (fun e he hk => hv (by rw [← hek, ← hk]; exact List.mem_map_of_mem he)) zero_bool'
theorem B2.holder (h : B2 w0 wB1 mB1 wB2 mB2 S S2 M2 xs lim wr) (hl : lim ≤ 100000000000) {m : Nat} (hm : m < 4) : Calls Tryd.prog 10 #[.pointer (some ⟨wB1, 0, none⟩), .int .i64 (m : Int)] wr fun e w' => ∃ (best : Nat) (b : Bool), e = .returned (.tuple #[.int .u64 (best : Int), .bool b]) ∧ Below wr.heap.size wr w' ∧ (b = true → Good S.H S.X m best ∧ best < 18446744073709551616) := by
  obtain ⟨S1, M1, k, h1, h2, h3, h4, h5⟩ := h.ex
  refine (holder_walk h1.lw1 (by omega) hm).mono ?_
  rintro e w' ⟨best, b, k1, k2, k3⟩
  refine ⟨best, b, k1, k2, fun hb => ⟨(k3 hb).tb h5.symm h4.symm, ?_⟩⟩
  obtain ⟨_, _, _, _, hlt⟩ := look_of h1.lw1.xn (by omega) hm (k3 hb).1
  exact hlt
theorem B2.address (h : B2 w0 wB1 mB1 wB2 mB2 S S2 M2 xs lim wr) (hl : lim ≤ 100000000000) : ∃ xB : Nat, wr.cell? ⟨wB1, 1, none⟩ = some (.pointer (some ⟨xB, 0, none⟩)) ∧ ∀ {m v : Nat}, m < 4 → 255 < v → v < 18446744073709551616 → v ∉ lvK S.X m → Calls Tryd.prog 11 #[.pointer (some ⟨xB, 0, none⟩), .int .i64 (m : Int), .int .u64 (v : Int)] wr fun e w'' => e = .returned (.tuple #[Value.int .u64 0, Value.int .u8 3]) ∧ w'' = wr := by
  obtain ⟨S1, M1, k, h1, h2, h3, h4, h5⟩ := h.ex
  have hL := h1.lw1
  refine ⟨S1.T.xB, ?_, fun {m v} hm hv hv2 hn => ?_⟩
  · have cw := hL.wm.cells
    rw [hL.hv] at cw
    exact cw.2.1
  · have c1 := address_walk hL.wm.mm hm (hL.xn.xb (by omega)) v hv2
    have hn' : lookX S1.X m v = none := look_not (by rw [lvK_tb h4]; exact hn)
    have e : tgtX S1.X m v = (0, 3) := by
      rcases tgt_of S1.X m v with ⟨e, _⟩ | ⟨_, _, e⟩ | ⟨a, _, e, _⟩
      · omega
      · exact e
      · rw [hn'] at e; cases e
    rw [e] at c1
    exact c1
theorem B2.tables (h : B2 w0 wB1 mB1 wB2 mB2 S S2 M2 xs lim wr) (hl : lim ≤ 100000000000) (hk2 : S2.k ≤ 100000000000) : Calls Tryd.prog 12 #[.pointer (some ⟨wB1, 0, none⟩), .pointer (some ⟨wB2, 0, none⟩)] wr fun e w' => e = .returned (.bool true) ∧ Below wr.heap.size wr w' := by
  obtain ⟨S1, M1, k, h1, h2, h3, h4, h5⟩ := h.ex
  exact h1.tables h2 (by omega) hk2
theorem B2.round {i : Nat} (h : B2 w0 wB1 mB1 wB2 mB2 S S2 M2 xs lim wr) (h2 : S2.k = i) (hl : lim ≤ 300 * i) : B1 w0 wB1 mB1 wB2 mB2 i wr := by
  obtain ⟨S1, M1, k, h1, h3, h4, h5⟩ := h.ex
  exact ⟨S1, M1, S2, M2, k, h1.drop, h3, h2, by omega⟩
/-- The tries as a block beside the worlds. -/
theorem tr_lay {tl : List Nat} {wa : World} (h : B2 w0 wB1 mB1 wB2 mB2 S S2 M2 xs lim wa) (hb : Below wa.heap.size wa wr) (ho : wr.ownsRow wa.heap.size 39 1 v tl.length (aK .u64 tl)) (hn : 0 < tl.length) : ∃ (g cap : Nat) (cs : List Value), v = .slice (some ⟨g, 0, none⟩) tl.length cap ∧ B2 w0 wB1 mB1 wB2 mB2 S S2 M2 ((g, 39, cs) :: xs) lim wr ∧ ∀ (j x : Nat), tl[j]? = some x → cs[j]? = some (Value.int .u64 (x : Int)) := by
  obtain ⟨g, cap, cs, h1, h2, h3, h4, h5, h6⟩ := own_blk ho hn
  refine ⟨g, cap, cs, h1, h.own hb h3 h2, fun j x hx => ?_⟩
  have hlt : j < tl.length := (List.getElem?_eq_some_iff.1 hx).1
  have : (aK .u64 tl)[j]? = some (.int .u64 (x : Int)) := by unfold aK; rw [List.getElem?_map, hx]; rfl
  rw [← h4, List.getElem?_take, if_pos hlt] at this
  exact this
theorem B2.bel (h : B2 w0 wB1 mB1 wB2 mB2 S S2 M2 xs lim wr) : Below w0.heap.size w0 wr := by
  obtain ⟨S1, M1, k, h1, h2⟩ := h.ex
  exact h1.bel
/-- The probes so far, and the worlds as they stood before the first of them. -/
structure PB (w0 : World) (wB1 mB1 wB2 mB2 : Nat) (S : WSt) (S2 : WSt) (M2 : MS) (xs : List XBk) (lim : Nat) (v : Value) (P : List OpP) (wr : World) : Prop where
  ex : ∃ wz, B2 w0 wB1 mB1 wB2 mB2 S S2 M2 xs lim wz ∧ PR wz wr v P
  all : ∀ p ∈ P, PrB S p
theorem PB.b2 (h : PB w0 wB1 mB1 wB2 mB2 S S2 M2 xs lim v P wr) : B2 w0 wB1 mB1 wB2 mB2 S S2 M2 xs lim wr := by
  obtain ⟨wz, h1, h2⟩ := h.ex
  exact h1.below h2.bel
theorem PB.below (h : PB w0 wB1 mB1 wB2 mB2 S S2 M2 xs lim v P wr) (hb : Below wr.heap.size wr w') : PB w0 wB1 mB1 wB2 mB2 S S2 M2 xs lim v P w' := by
  obtain ⟨wz, h1, h2⟩ := h.ex
  exact ⟨⟨wz, h1, h2.below hb⟩, h.all⟩
theorem PB.new (h : B2 w0 wB1 mB1 wB2 mB2 S S2 M2 xs lim wr) : PB w0 wB1 mB1 wB2 mB2 S S2 M2 xs lim (.slice (some ⟨wr.heap.size, 0, none⟩) 0 6) [] (wr.alloc (.cells prZ 31)) := ⟨⟨wr, h, PR.new wr⟩, fun p hp => (by cases hp)⟩
theorem PB.lay (h : PB w0 wB1 mB1 wB2 mB2 S S2 M2 xs lim v P wr) (hn : 0 < P.length) : ∃ g cap cs, v = .slice (some ⟨g, 0, none⟩) P.length cap ∧ B2 w0 wB1 mB1 wB2 mB2 S S2 M2 ((g, 31, cs) :: xs) lim wr ∧ cs.take (P.length * 5) = P.flatMap opC := by
  obtain ⟨wz, h1, h2⟩ := h.ex
  exact h2.lay h1 hn
theorem wpList_app_pb {ops : Array Oper} {rest : List Oper} {ow : Oper} {a : Act} {Q : Exit → Act → World → Prop} (hgd : ow.guard = none) (s x : Operand)
    (ho : ow.op = .call { callee := .builtin .append, args := #[s, x], argTypes := #[22, 22] }) (hs : a.eval s = v) (hp : PB w0 wB1 mB1 wB2 mB2 S S2 M2 xs lim v P wr) (p : OpP) (hl : P.length ≤ 10) (g : Nat) (hx : a.eval x = .slice (some ⟨g, 0, none⟩) 1 1) (hg : Blk wr g 31 (opC p)) (hb : PrB S p)
    (h : ∀ v' w', PB w0 wB1 mB1 wB2 mB2 S S2 M2 xs lim v' (P ++ [p]) w' → wpList Tryd.prog ops Q rest (a.put ow.dst v') w') : wpList Tryd.prog ops Q (ow :: rest) a wr := by
  obtain ⟨wz, h1, h2⟩ := hp.ex
  refine wpList_app_pr hgd s x ho hs h2 p hl g hx hg (fun v' w' h3 => h v' w' ⟨⟨wz, h1, h3⟩, fun q hq => ?_⟩)
  rcases List.mem_append.1 hq with hq | hq
  · exact hp.all q hq
  · rw [List.mem_singleton.1 hq]; exact hb
theorem B2.set (h : B2 w0 wB1 mB1 wB2 mB2 S S2 M2 xs lim wr) {i g : Nat} {t : TypeId} {cs cs' : List Value} (hi : xs[i]? = some (g, t, cs)) (hb : Blk w' g t cs') (hu : Upd g wr w') : B2 w0 wB1 mB1 wB2 mB2 S S2 M2 (xs.set i (g, t, cs')) lim w' := by
  obtain ⟨S1, M1, k, h1, h2⟩ := h.ex
  exact ⟨S1, M1, k, h1.set hi hb hu, h2⟩
/-- More tries. -/
theorem wpList_app_tr {ops : Array Oper} {rest : List Oper} {ow : Oper} {a : Act} {Q : Exit → Act → World → Prop} {wa : World} {tl : List Nat} (hgd : ow.guard = none) (s x : Operand)
    (ho : ow.op = .call { callee := .builtin .append, args := #[s, x], argTypes := #[40, 40] }) (hs : a.eval s = v) (hb : Below wa.heap.size wa wr) (hown : wr.ownsRow wa.heap.size 39 1 v tl.length (aK .u64 tl)) (ys : List Nat) (hl : tl.length + ys.length ≤ 20) (g n : Nat) (hn : ys.length = n) (hx : a.eval x = .slice (some ⟨g, 0, none⟩) n n) (hg : Blk wr g 39 (aK .u64 ys))
    (h : ∀ v' w', Below wa.heap.size wa w' → w'.ownsRow wa.heap.size 39 1 v' (tl ++ ys).length (aK .u64 (tl ++ ys)) → wpList Tryd.prog ops Q rest (a.put ow.dst v') w') : wpList Tryd.prog ops Q (ow :: rest) a wr := by
  obtain ⟨i, hi, he⟩ := Option.map_eq_some_iff.1 info_hand
  simp only [Prod.mk.injEq] at he
  subst hn
  refine wpList_append_row wr hgd s x 40 ho wa.heap.size 39 i (.int .u64 0) 1 8 Tryd.underlying40 hi he.1 he.2.1 he.2.2 rfl (by decide) v tl.length (aK .u64 tl) hs hown (some ⟨g, 0, none⟩) ys.length ys.length (aK .u64 ys) hx (by simp [aK]) (fun h => by cases h) (fun ad had j u hu => ?_) (aK_one .u64 ys) (by omega) (by decide) hb.size (fun v' w' h1 h2 h3 h4 => ?_)
  · obtain rfl := Option.some.inj had
    have e : (⟨g, 0, none⟩ : Addr).add j = ⟨g, j, none⟩ := by unfold Addr.add; split <;> simp_all
    rw [e, hg.cell j]
    exact hu
  · refine h v' w' (hb.trans h2) ?_
    have e : aK .u64 (tl ++ ys) = aK .u64 tl ++ aK .u64 ys := by unfold aK; rw [List.map_append]
    rw [e, List.length_append]
    exact h1
theorem PB.snoc {q : Nat} (hl : P.length = q) (h : PB w0 wB1 mB1 wB2 mB2 S S2 M2 xs lim v (P ++ [p]) wr) : ∃ P : List OpP, P.length = q + 1 ∧ PB w0 wB1 mB1 wB2 mB2 S S2 M2 xs lim v P wr := ⟨_, by rw [List.length_append, hl]; rfl, h⟩
theorem PB.snoc6 (hl : P.length = 5) (h : PB w0 wB1 mB1 wB2 mB2 S S2 M2 xs lim v (P ++ [p]) wr) : ∃ P : List OpP, 0 < P.length ∧ P.length ≤ 6 ∧ PB w0 wB1 mB1 wB2 mB2 S S2 M2 xs lim v P wr := ⟨_, by rw [List.length_append, hl]; exact Nat.succ_pos _, by rw [List.length_append, hl]; exact Nat.le_refl _, h⟩
end
end Go.Proofs.Qxb6500889aDoor
