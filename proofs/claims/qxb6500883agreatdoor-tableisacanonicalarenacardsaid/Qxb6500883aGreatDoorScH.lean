/- Tokens; spoiled, word. -/
import Derived.Test.Qxb6500883aGreatDoorScG
import Derived.Deep.QuietTactic
import Derived.BigQuiet
namespace Go.Proofs.Qxb6500883aGreatDoor
open Go.RowKit
set_option linter.unusedSimpArgs false
set_option linter.unusedVariables false
/-- A token. -/
structure Tk where
  kind : Nat
  pos : Nat
  en : Nat
  bad : Nat
  val : Nat
def tkC (t : Tk) : List Value := [.int .u8 (t.kind : Int), .int .i64 (t.pos : Int), .int .i64 (t.en : Int), .int .i64 (t.bad : Int), .int .u64 (t.val : Int)]
theorem tkC_one (t : Tk) : ∀ u ∈ tkC t, u.oneCell' = true := by
  intro u hu
  simp only [tkC, List.mem_cons, List.not_mem_nil, or_false] at hu
  rcases hu with rfl | rfl | rfl | rfl | rfl <;> rfl
theorem agg_tk : AggOf Tryz.prog 112 5 := AggOf.struct Tryz.underlying112 (by kernel_rfl)
theorem info_tk : (Tryz.prog.info? 112).map (·.size) = some 5 := by kernel_rfl
/-- The lexer's cells, moved on. -/
def lxS (cs : List Value) (i k : Nat) : List Value := (cs.set 1 (.int .i64 (i : Int))).set 2 (.int .i64 (k : Int))
theorem lxS_lxS (cs : List Value) (i k i' k' : Nat) : lxS (lxS cs i k) i' k' = lxS cs i' k' := by
  unfold lxS
  rw [List.set_comm _ _ (by omega : (2 : Nat) ≠ 1), List.set_set, List.set_set]
theorem set_id {cs : List Value} {j : Nat} {v : Value} (h : cs[j]? = some v) : cs.set j v = cs := by
  apply List.ext_getElem?
  intro q
  by_cases hq : q = j
  · subst hq
    rw [List.getElem?_set_self (List.getElem?_eq_some_iff.1 h).1, h]
  · rw [List.getElem?_set_ne (fun e => hq e.symm)]
section
variable {w w' w1 w9 : World} {g p : Nat} {t : TypeId} {cs : List Value} {a : Option Addr} {n c : Nat} {bs : List UInt8} {i k : Nat}
theorem LxM.self (h : LxM w g t cs a n c bs i k) : lxS cs i k = cs := by
  unfold lxS
  rw [set_id h.c1, set_id h.c2]
/-- The lexer has moved on; new blocks may have been made. -/
structure LxP (w : World) (g : Nat) (t : TypeId) (cs : List Value) (a : Option Addr) (n c : Nat) (bs : List UInt8) (i k : Nat) (w' : World) : Prop where
  lx : LxM w' g t (lxS cs i k) a n c bs i k
  u : Upd g w w'
/-- Inside a function of the lexer: its result lies in block p. -/
structure TkU (w : World) (p g : Nat) (t : TypeId) (cs : List Value) (a : Option Addr) (n c : Nat) (bs : List UInt8) (i k : Nat) (w1 : World) : Prop where
  lx : LxM w1 g t (lxS cs i k) a n c bs i k
  u : Upd g w w1
  b : ∃ ds : List Value, ds.length = 5 ∧ Blk w1 p 112 ds
  lo : w.heap.size ≤ p
  hg : g < w.heap.size
  hs : ∀ ad, a = some ad → ad.block < w.heap.size
theorem TkU.start (h : LxM w g t cs a n c bs i k) (ds : List Value) (hd : ds.length = 5) : TkU w w.heap.size g t cs a n c bs i k (w.alloc (.cells ds.toArray 112)) := by
  have hb := nbel w (.cells ds.toArray 112)
  refine ⟨by rw [h.self]; exact h.below hb, (Upd.refl g w).ofBelow hb, ⟨ds, hd, Blk.new w ds _⟩, Nat.le_refl _, h.blk.lt, h.src.lt⟩
theorem TkU.ne (h : TkU w p g t cs a n c bs i k w1) : p ≠ g := by have := h.lo; have := h.hg; omega
theorem TkU.pos (h : TkU w p g t cs a n c bs i k w1) {j : Nat} (hj : j ≤ n) : TkU w p g t cs a n c bs j k (w1.setCell ⟨g, 1, none⟩ (.int .i64 (j : Int))) := by
  obtain ⟨ds, h1, h2⟩ := h.b
  have hl := h.lx.pos hj
  have e : (lxS cs i k).set 1 (.int .i64 (j : Int)) = lxS cs j k := by
    unfold lxS
    rw [List.set_comm _ _ (by omega : (2 : Nat) ≠ 1), List.set_set]
  rw [e] at hl
  exact ⟨hl, h.u.setCell rfl _, ⟨ds, h1, h2.setOther (fun e => h.ne e.symm) _⟩, h.lo, h.hg, h.hs⟩
theorem TkU.cnt (h : TkU w p g t cs a n c bs i k w1) (j : Nat) : TkU w p g t cs a n c bs i j (w1.setCell ⟨g, 2, none⟩ (.int .i64 (j : Int))) := by
  obtain ⟨ds, h1, h2⟩ := h.b
  have hl := h.lx.cnt j
  have e : (lxS cs i k).set 2 (.int .i64 (j : Int)) = lxS cs i j := by
    unfold lxS
    rw [List.set_set]
  rw [e] at hl
  exact ⟨hl, h.u.setCell rfl _, ⟨ds, h1, h2.setOther (fun e => h.ne e.symm) _⟩, h.lo, h.hg, h.hs⟩
theorem TkU.below (h : TkU w p g t cs a n c bs i k w1) (hb : Below w1.heap.size w1 w9) : TkU w p g t cs a n c bs i k w9 := by
  obtain ⟨ds, h1, h2⟩ := h.b
  exact ⟨h.lx.below hb, h.u.ofBelow hb, ⟨ds, h1, h2.below hb⟩, h.lo, h.hg, h.hs⟩
theorem TkU.call {i' k' : Nat} (h : TkU w p g t cs a n c bs i k w1) (hp : LxP w1 g t (lxS cs i k) a n c bs i' k' w9) : TkU w p g t cs a n c bs i' k' w9 := by
  obtain ⟨ds, h1, h2⟩ := h.b
  have hl := hp.lx
  rw [lxS_lxS] at hl
  exact ⟨hl, h.u.trans hp.u, ⟨ds, h1, h2.upd hp.u h.ne⟩, h.lo, h.hg, h.hs⟩
theorem TkU.done (h : TkU w p g t cs a n c bs i k w1) (hu : Upd p w1 w9) : LxP w g t cs a n c bs i k w9 := by
  have hlo := h.lo
  refine ⟨⟨h.lx.blk.upd hu (fun e => h.ne e.symm), h.lx.src.upd hu (fun ad ha => by have := h.hs ad ha; omega), h.lx.c0, h.lx.c1, h.lx.c2, h.lx.ne, h.lx.hi⟩, ?_⟩
  have hu0 := h.u
  exact ⟨hu.os.trans hu0.os, hu.tape.trans hu0.tape, hu.output.trans hu0.output, Nat.le_trans hu0.size hu.size, fun q hq hne => (hu.block q (Nat.lt_of_lt_of_le hq hu0.size) (by omega)).trans (hu0.block q hq hne)⟩
def spE (n b : Nat) : Nat := if b < n then b + 1 else b
theorem spE_le {n b : Nat} (h : b ≤ n) : spE n b ≤ n := by unfold spE; split <;> omega
def spoT (n st b : Nat) : Tk := ⟨3, st, spE n b, b, 0⟩
set_option maxRecDepth 100000 in
set_option maxHeartbeats 1000000 in
theorem spoiledW (h : LxM w g t cs a n c bs i k) (st bd : Nat) (hs : st ≤ n) (hb : bd ≤ n) : Calls Tryz.prog 129 #[.pointer (some ⟨g, 0, none⟩), .int .i64 (st : Int), .int .i64 (bd : Int)] w fun e w' => e = .returned (.agg (tkC (spoT n st bd)).toArray) ∧ Hid (LxP w g t cs a n c bs (spE n bd) k w') := by
  have I0 := hid info_tk
  have hn := h.src.cap.2.1
  have hg := h.blk.lt
  obtain ⟨p, hp⟩ : ∃ p, w.heap.size = p := ⟨_, rfl⟩
  have H1 := hid (TkU.start h [.int .u8 0, .int .i64 0, .int .i64 0, .int .i64 0, .int .u64 0] rfl)
  rw [hp] at H1
  have Hu : Hid (tkC (spoT n st bd) = [.int .u8 3, .int .i64 (st : Int), .int .i64 (spE n bd : Int), .int .i64 (bd : Int), .int .u64 0]) := hid rfl
  have hsp := hid (spE_le hb)
  have HD : Hid (spE n bd = if bd < n then bd + 1 else bd) := hid rfl
  obtain ⟨T, hT⟩ : ∃ T, tkC (spoT n st bd) = T := ⟨_, rfl⟩
  have HO := hid (tkC_one (spoT n st bd))
  rw [hT] at Hu HO ⊢
  clear hT
  generalize spE n bd = e at Hu hsp HD ⊢
  clear h
  go_enter Tryz.func129, Tryz.ntmps129
  go_upto_region 1 with fail
  (try simp only [hp])
  generalize hw1 : w.alloc _ = w1 at H1 ⊢
  clear hw1 hp
  obtain ⟨c0, _, _⟩ := H1.out.lx.cells
  have f1 := H1.out.lx.fz 1
  by_cases hl : bd < n
  · as_aux_lemma =>
    have d1 : decide ((bd : Int) < (n : Int)) = true := decide_eq_true (by omega)
    obtain rfl : e = bd + 1 := by rw [HD.out, if_pos hl]
    obtain rfl := Hu.out
    have H2 := hid (H1.out.pos (j := bd + 1) (by omega))
    have ec : ((bd + 1 : Nat) : Int) = (bd : Int) + 1 := by omega
    rw [ec] at H2
    go_upto_region 5 with fail
    generalize hw2 : w1.setCell _ _ = w2 at H2 ⊢
    clear hw2
    obtain ⟨ds, hd1, hd2⟩ := H2.out.b
    go_wp2_with (refine wpList_store_blk rfl 112 _ _ rfl p rfl [.int .u8 3, .int .i64 (st : Int), .int .i64 ((bd : Int) + 1), .int .i64 (bd : Int), .int .u64 0] rfl hd2 hd1 I0.out HO.out ?_; intro w9 HB9 HU9)
    refine bodyPost_ret (results_blk (cs := [.int .u8 3, .int .i64 (st : Int), .int .i64 ((bd : Int) + 1), .int .i64 (bd : Int), .int .u64 0]) Tryz.results129 rfl agg_tk HB9.out) rfl ?_
    exact ⟨rfl, hid (H2.out.done HU9.out)⟩
  · as_aux_lemma =>
    have d1 : decide ((bd : Int) < (n : Int)) = false := decide_eq_false (by omega)
    obtain rfl : e = bd := by rw [HD.out, if_neg hl]
    obtain rfl := Hu.out
    have H2 := hid (H1.out.pos (j := e) hb)
    go_upto_region 5 with fail
    generalize hw2 : w1.setCell _ _ = w2 at H2 ⊢
    clear hw2
    obtain ⟨ds, hd1, hd2⟩ := H2.out.b
    go_wp2_with (refine wpList_store_blk rfl 112 _ _ rfl p rfl [.int .u8 3, .int .i64 (st : Int), .int .i64 (e : Int), .int .i64 (e : Int), .int .u64 0] rfl hd2 hd1 I0.out HO.out ?_; intro w9 HB9 HU9)
    refine bodyPost_ret (results_blk (cs := [.int .u8 3, .int .i64 (st : Int), .int .i64 (e : Int), .int .i64 (e : Int), .int .u64 0]) Tryz.results129 rfl agg_tk HB9.out) rfl ?_
    exact ⟨rfl, hid (H2.out.done HU9.out)⟩
end
end Go.Proofs.Qxb6500883aGreatDoor
