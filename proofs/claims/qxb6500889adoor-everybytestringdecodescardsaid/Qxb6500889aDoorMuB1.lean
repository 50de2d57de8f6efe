/- Bad handles: the plain side; two worlds and two models. -/
import Derived.Test.Qxb6500889aDoorMuR2
import Derived.Test.Qxb6500889aDoorMuP8
import Derived.Test.Qxb6500889aDoorMuS2
namespace Go.Proofs.Qxb6500889aDoor
open Go.RowKit
set_option linter.unusedSimpArgs false
set_option linter.unusedVariables false
def rfM (M : MS) (s : Nat) : MS := { M with rf := s }
def addM (M : MS) (k : Nat) : MS := { M with st := M.st + k, rf := M.rf + k }
section
variable {M : MS} {s : Nat}
theorem mAlloc_rf (m size refs : Nat) (r : Bool) : mAlloc (rfM M s) m size refs r = (rfM (mAlloc M m size refs r).1 s, (mAlloc M m size refs r).2) := by
  unfold mAlloc
  rw [show mFull (rfM M s) m = mFull M m from rfl]
  split
  · rfl
  split
  · rfl
  split
  · rfl
  split <;> rfl
theorem mPop_rf (m : Nat) : mPop (rfM M s) m = (rfM (mPop M m).1 s, (mPop M m).2) := by
  unfold mPop
  rw [show (rfM M s).roots = M.roots from rfl, show mFull (rfM M s) m = mFull M m from rfl]
  cases (M.roots m).getLast? with
  | none => rfl
  | some id => dsimp only; split <;> rfl
theorem mSetR_rf (id i v : Nat) : mSetR (rfM M s) id i v = rfM (mSetR M id i v) s := by
  unfold mSetR
  rw [show (rfM M s).objs = M.objs from rfl]
  cases M.objs[id - 1]? <;> rfl
theorem mSetD_rf (id i v : Nat) : mSetD (rfM M s) id i v = rfM (mSetD M id i v) s := by
  unfold mSetD
  rw [show (rfM M s).objs = M.objs from rfl]
  cases M.objs[id - 1]? <;> rfl
theorem mObj_rf (m : Nat) (o : OpP) (id : Nat) (q : MO) : mObj (rfM M s) m o id q = (rfM (mObj M m o id q).1 s, (mObj M m o id q).2) := by
  unfold mObj
  rw [show (rfM M s).roots = M.roots from rfl, show mFull (rfM M s) m = mFull M m from rfl, show mOp (rfM M s) o.c = mOp M o.c from rfl, show mLook (rfM M s) m (mOp M o.c) = mLook M m (mOp M o.c) from rfl]
  split
  · split <;> rfl
  split
  · split <;> rfl
  split
  · split
    · rfl
    · rw [mSetD_rf]
  split
  · split
    · rfl
    split
    · rfl
    split <;> rfl
  · split
    · rfl
    split
    · rw [mSetR_rf]
    cases mLook M m (mOp M o.c) with
    | none => rfl
    | some v => dsimp only; rw [mSetR_rf]
theorem mDo_rf (o : OpP) (r : Bool) : (mDo (rfM M s) o r).1 = rfM (mDo M o r).1 s ∧ (mDo (rfM M s) o r).2.c = (mDo M o r).2.c := by
  unfold mDo
  rw [show mOp (rfM M s) o.a = mOp M o.a from rfl, show mLook (rfM M s) o.ac (mOp M o.a) = mLook M o.ac (mOp M o.a) from rfl, show (rfM M s).objs = M.objs from rfl]
  split
  · exact ⟨rfl, rfl⟩
  split
  · exact ⟨rfl, rfl⟩
  split
  · rw [mAlloc_rf]; exact ⟨rfl, rfl⟩
  split
  · rw [mPop_rf]; exact ⟨rfl, rfl⟩
  split
  · exact ⟨rfl, rfl⟩
  split
  · exact ⟨rfl, rfl⟩
  split
  · exact ⟨rfl, rfl⟩
  split
  · exact ⟨rfl, rfl⟩
  cases mLook M o.ac (mOp M o.a) with
  | none => exact ⟨rfl, rfl⟩
  | some id =>
    dsimp only
    cases M.objs[id - 1]? with
    | none => exact ⟨rfl, rfl⟩
    | some q => dsimp only; rw [mObj_rf]; exact ⟨rfl, rfl⟩
theorem mDo_add (o : OpP) (r : Bool) (k : Nat) : (mDo (addM M k) o r).1 = addM (mDo M o r).1 k ∧ (mDo (addM M k) o r).2.c = (mDo M o r).2.c := by
  have e : addM M k = rfM (stM M (M.st + k)) (M.rf + k) := rfl
  have h1 := mDo_rf (M := stM M (M.st + k)) (s := M.rf + k) o r
  have h2 := mDo_st (M := M) (s := M.st + k) o r
  have h3 := mDo_ct M o r
  rw [e, h1.1, h1.2, h2.1, h2.2.2]
  refine ⟨?_, rfl⟩
  unfold addM rfM stM
  rw [h3.1, h3.2]
theorem mCnt_add (z z' : Rz) (k : Nat) (h : z'.c = z.c) : mCnt (addM M k) z' = addM (mCnt M z) k := by
  unfold mCnt addM
  rw [h]
  simp only [MS.mk.injEq, and_true, true_and]
  refine ⟨by omega, ?_⟩
  split <;> omega
end
/-- A step that names a bad handle, as target or as value. -/
def BadM (M : MS) (o : OpP) : Prop := o.ac < 4 ∧ mOp M o.a ≠ 0 ∧ ((1 ≤ o.k ∧ o.k ≤ 5 ∧ mLook M o.ac (mOp M o.a) = none) ∨ (o.k = 2 ∧ ∃ id q, mLook M o.ac (mOp M o.a) = some id ∧ M.objs[id - 1]? = some q ∧ o.b < q.refs.length ∧ mOp M o.c ≠ 0 ∧ mLook M o.ac (mOp M o.c) = none))
section
variable {M : MS} {o : OpP} {X : XS} {m h : Nat}
theorem BadM.refuse (hb : BadM M o) (r : Bool) : mDo M o r = (M, rzR 3) := by
  obtain ⟨h1, h2, h3⟩ := hb
  rcases h3 with ⟨k1, k2, k3⟩ | ⟨k1, id, q, k2, k3, k4, k5, k6⟩
  · rw [mDo_obj h1 ⟨k1, k2⟩, if_neg h2, k3]
  · rw [mDo_obj h1 (by omega), if_neg h2, k2]
    dsimp only
    rw [k3]
    dsimp only
    unfold mObj
    rw [if_neg (by omega), if_neg (by omega), if_neg (by omega), if_neg (by omega), if_neg (by omega), if_neg k5, k6]
theorem BadM.cnt (hb : BadM M o) (z : Rz) : BadM (mCnt M z) o := hb
theorem mOp_big (hh : 255 < h) : mOp M h = h := by unfold mOp; rw [if_neg (by omega)]
theorem look_not (hn : h ∉ lvK X m) : lookX X m h = none := by
  unfold lookX
  split
  · rename_i hc
    rw [List.getElem?_eq_none_iff]
    apply Nat.le_of_not_lt
    intro hlt
    refine hn (List.mem_map.2 ⟨h % 256, List.mem_range.2 hlt, ?_⟩)
    obtain ⟨c1, c2, c3⟩ := hc
    unfold hN
    rw [← c3]
    omega
  · rfl
end
/-- A world and a model, with one map of roles for both. -/
structure WQ (w0 : World) (wB mB : Nat) (S : WSt) (M : MS) (τ : Rl) (wr : World) : Prop where
  ex : ∃ σ N, MN wr σ N M ∧ N.mB = mB ∧ (∀ g, S.ρ g ≠ 0 → σ g = 0) ∧ (∀ g, g < w0.heap.size → σ g = 0) ∧ ∀ g, τ g = 0 ↔ S.ρ g = 0 ∧ σ g = 0
  lw : LWs w0 wB S wr
section
variable {w0 wr w' : World} {wB mB : Nat} {S S' : WSt} {M M' : MS} {τ τ' : Rl} {o : OpP} {z : Rz}
theorem WQ.new0 (h : WQ w0 wB mB S M τ wr) {g : Nat} (hg : wr.heap.size ≤ g) : τ g = 0 := by
  obtain ⟨σ, N, h1, h2, h3, h4, h5⟩ := h.ex
  exact (h5 g).2 ⟨h.lw.wm.new0 hg, h1.new0 hg⟩
theorem WQ.keep (h : WQ w0 wB mB S M τ wr) (hs : wr.heap.size ≤ w'.heap.size) (hb : ∀ g, g < wr.heap.size → τ g ≠ 0 → w'.heap[g]? = wr.heap[g]?) (hbel : Below w0.heap.size w0 w') : WQ w0 wB mB S M τ w' := by
  obtain ⟨σ, N, h1, h2, h3, h4, h5⟩ := h.ex
  have hw := h.lw
  exact ⟨⟨σ, N, h1.keep hs (fun g hg hz => hb g hg (fun e => hz ((h5 g).1 e).2)), h2, h3, h4, h5⟩, ⟨hw.wm.keep hs (fun g hg hz => hb g hg (fun e => hz ((h5 g).1 e).1)), hw.hv, hw.hi, hw.xn, hw.gv, hw.gl, hbel, hw.low⟩⟩
theorem WQ.play (h : WQ w0 wB mB S M τ wr) (hk : S.k < 100000000000) (o : OpP) (hob : OpB o) :
    Calls Tryd.prog 8 #[.pointer (some ⟨wB, 0, none⟩), .agg (opC o).toArray] wr fun e w' => ∃ z S' τ', e = .returned (.agg (rzC z).toArray) ∧ Pld S o z S' ∧ WQ w0 wB mB S' M τ' w' ∧ Fm τ wr τ' w' := by
  refine (h.lw.play hk o hob).mono ?_
  rintro e w' ⟨H', X', z, ρ', L', T', V', k1, k2, k3, k4⟩
  obtain ⟨σ, N, h1, h2, h3, h4, h5⟩ := h.ex
  have h0 : ∀ g, σ g ≠ 0 → S.ρ g = 0 := dj_flip h3
  refine ⟨z, ⟨S.k + 1, ρ', L', T', V', H', doX X' z, S.G ++ gvL o z⟩, fun g => if g < wr.heap.size then τ g else ρ' g, k1, ⟨rfl, ⟨X', k2, rfl⟩, rfl⟩, ⟨⟨σ, N, h1.keep k4.size (fun g hg hz => k4.blk g hg (by rw [h0 g hz]; omega)), h2, fun g hg => ?_, h4, fun g => ?_⟩, k3⟩, ⟨k4.os, k4.tape, k4.output, k4.size, fun g hg => if_pos hg, fun g hg hz => k4.blk g hg (by rw [((h5 g).1 hz).1]; omega)⟩⟩
  · by_cases hlt : g < wr.heap.size
    · have hg' : S.ρ g ≠ 0 := by rw [← k4.old g hlt]; exact hg
      exact h3 g hg'
    · exact h1.new0 (by omega)
  · show (if g < wr.heap.size then τ g else ρ' g) = 0 ↔ ρ' g = 0 ∧ σ g = 0
    by_cases hlt : g < wr.heap.size
    · rw [if_pos hlt, k4.old g hlt]; exact h5 g
    · rw [if_neg hlt]; exact ⟨fun e => ⟨e, h1.new0 (by omega)⟩, fun e => e.1⟩
theorem WQ.step {n : Nat} (h : WQ w0 wB mB S M τ wr) (hb : MBd M n) (hn : n < 100000000000) (hids : MIds M) (o : OpP) (hob : OpB o) (room : Bool) :
    Calls Tryd.prog 9 #[.pointer (some ⟨mB, 0, none⟩), .agg (opC o).toArray, .bool room] wr fun e w' => ∃ τ', e = .returned (.agg (rzC (mDo M o room).2).toArray) ∧ WQ w0 wB mB S (mCnt (mDo M o room).1 (mDo M o room).2) τ' w' ∧ Fm τ wr τ' w' := by
  obtain ⟨σ, N, h1, h2, h3, h4, h5⟩ := h.ex
  have := mStep_walk h1 hb hn hids o hob room
  rw [h2] at this
  refine this.mono ?_
  rintro e w' ⟨k1, σ', N', m1, m2, m3⟩
  have h0 : ∀ g, σ g ≠ 0 → S.ρ g = 0 := dj_flip h3
  have hw := h.lw
  refine ⟨fun g => if g < wr.heap.size then τ g else σ' g, k1, ⟨⟨σ', N', m1, m2.trans h2, fun g hg => ?_, fun g hg => ?_, fun g => ?_⟩, ⟨hw.wm.keep m3.size (fun g hg hz => m3.blk g hg (h3 g hz)), hw.hv, hw.hi, hw.xn, hw.gv, hw.gl, hw.bel.trans (m3.toBelow hw.bel.size h4), hw.low⟩⟩, ⟨m3.os, m3.tape, m3.output, m3.size, fun g hg => if_pos hg, fun g hg hz => m3.blk g hg ((h5 g).1 hz).2⟩⟩
  · have hlt := hw.wm.dom g hg
    rw [m3.old g hlt]
    exact h3 g hg
  · rw [m3.old g (Nat.lt_of_lt_of_le hg hw.bel.size)]
    exact h4 g hg
  · show (if g < wr.heap.size then τ g else σ' g) = 0 ↔ S.ρ g = 0 ∧ σ' g = 0
    by_cases hlt : g < wr.heap.size
    · rw [if_pos hlt, m3.old g hlt]; exact h5 g
    · rw [if_neg hlt]; exact ⟨fun e => ⟨hw.wm.new0 (by omega), e⟩, fun e => e.2⟩
theorem WQ.start {w1 w2 : World} {ρ : Rl} {L : HL} {T : XL} {V : WL} (h1 : WM w1 ρ L T V H0 X0 []) (l1 : ∀ g, g < w0.heap.size → ρ g = 0) (b1 : Below w0.heap.size w0 w1) {r : Nat} (hr : w1.heap.size = r) (h2 : MN w2 (fup (fun _ => 0) r 1) (N0 r) M0) (b2 : Below w1.heap.size w1 w2) : WQ w0 V.wB r ⟨0, ρ, L, T, V, H0, X0, []⟩ M0 (fun g => if g = r then 1 else ρ g) w2 := by
  have hW := WP.start h1 l1 b1 hr h2 b2
  have b := b1.trans (b2.mono b1.size)
  refine ⟨⟨_, _, h2, rfl, fun g hg => ?_, fun g hg => ?_, fun g => ?_⟩, hW.lw⟩
  · have := h1.dom g hg
    exact fup_ne _ _ (by omega)
  · have := b1.size
    exact fup_ne _ _ (by omega)
  · show (if g = r then 1 else ρ g) = 0 ↔ ρ g = 0 ∧ fup (fun _ => 0) r 1 g = 0
    by_cases e : g = r
    · rw [if_pos e, e, fup_self]; simp
    · rw [if_neg e, fup_ne _ _ e]; simp
end
/-- Two worlds with their models, and blocks beside them. -/
structure W4 (w0 : World) (wB1 mB1 wB2 mB2 : Nat) (S1 : WSt) (M1 : MS) (S2 : WSt) (M2 : MS) (xs : List XBk) (wr : World) : Prop where
  ex : ∃ τ1 τ2, WQ w0 wB1 mB1 S1 M1 τ1 wr ∧ WQ w0 wB2 mB2 S2 M2 τ2 wr ∧ (∀ g, τ1 g ≠ 0 → τ2 g = 0) ∧ ∀ x ∈ xs, τ1 x.1 = 0 ∧ τ2 x.1 = 0
  bl : ∀ x ∈ xs, Blk wr x.1 x.2.1 x.2.2 ∧ w0.heap.size ≤ x.1
  nd : (xs.map (·.1)).Nodup
section
variable {w0 wr w' : World} {wB1 mB1 wB2 mB2 : Nat} {S1 S2 S' : WSt} {M1 M2 M' : MS} {xs : List XBk} {o : OpP} {z : Rz}
theorem W4.flip (h : W4 w0 wB1 mB1 wB2 mB2 S1 M1 S2 M2 xs wr) : W4 w0 wB2 mB2 wB1 mB1 S2 M2 S1 M1 xs wr := by
  obtain ⟨τ1, τ2, h1, h2, h3, h4⟩ := h.ex
  exact ⟨⟨τ2, τ1, h2, h1, dj_flip h3, fun x hx => ⟨(h4 x hx).2, (h4 x hx).1⟩⟩, h.bl, h.nd⟩
theorem W4.bel (h : W4 w0 wB1 mB1 wB2 mB2 S1 M1 S2 M2 xs wr) : Below w0.heap.size w0 wr := by
  obtain ⟨τ1, τ2, h1, _⟩ := h.ex
  exact h1.lw.bel
theorem W4.lw1 (h : W4 w0 wB1 mB1 wB2 mB2 S1 M1 S2 M2 xs wr) : LWs w0 wB1 S1 wr := by
  obtain ⟨τ1, τ2, h1, _⟩ := h.ex
  exact h1.lw
theorem W4.lw2 (h : W4 w0 wB1 mB1 wB2 mB2 S1 M1 S2 M2 xs wr) : LWs w0 wB2 S2 wr := h.flip.lw1
theorem W4.below (h : W4 w0 wB1 mB1 wB2 mB2 S1 M1 S2 M2 xs wr) (hb : Below wr.heap.size wr w') : W4 w0 wB1 mB1 wB2 mB2 S1 M1 S2 M2 xs w' := by
  obtain ⟨τ1, τ2, h1, h2, h3, h4⟩ := h.ex
  have hbel := h1.lw.bel.trans (hb.mono h1.lw.bel.size)
  exact ⟨⟨τ1, τ2, h1.keep hb.size (fun g hg _ => hb.block g hg) hbel, h2.keep hb.size (fun g hg _ => hb.block g hg) hbel, h3, h4⟩, fun x hx => ⟨(h.bl x hx).1.below hb, (h.bl x hx).2⟩, h.nd⟩
/-- New memory beside the worlds. -/
theorem W4.own (h : W4 w0 wB1 mB1 wB2 mB2 S1 M1 S2 M2 xs wr) (hb : Below wr.heap.size wr w') {g : Nat} {t : TypeId} {cs : List Value} (hk : Blk w' g t cs) (hg : wr.heap.size ≤ g) : W4 w0 wB1 mB1 wB2 mB2 S1 M1 S2 M2 ((g, t, cs) :: xs) w' := by
  have h' := h.below hb
  obtain ⟨τ1, τ2, h1, h2, h3, h4⟩ := h.ex
  obtain ⟨σ1, σ2, k1, k2, k3, k4⟩ := h'.ex
  have hbel := h1.lw.bel.trans (hb.mono h1.lw.bel.size)
  refine ⟨⟨τ1, τ2, h1.keep hb.size (fun g hg _ => hb.block g hg) hbel, h2.keep hb.size (fun g hg _ => hb.block g hg) hbel, h3, fun x hx => ?_⟩, fun x hx => ?_, ?_⟩
  · rcases List.mem_cons.1 hx with rfl | hx
    · exact ⟨h1.new0 hg, h2.new0 hg⟩
    · exact h4 x hx
  · rcases List.mem_cons.1 hx with rfl | hx
    · exact ⟨hk, Nat.le_trans h1.lw.bel.size hg⟩
    · exact h'.bl x hx
  · rw [List.map_cons, List.nodup_cons]
    refine ⟨fun hm => ?_, h.nd⟩
    obtain ⟨x, hx, he⟩ := List.mem_map.1 hm
    have := (h.bl x hx).1.lt
    omega
theorem W4.alloc (h : W4 w0 wB1 mB1 wB2 mB2 S1 M1 S2 M2 xs wr) (cs : List Value) (t : TypeId) : W4 w0 wB1 mB1 wB2 mB2 S1 M1 S2 M2 ((wr.heap.size, t, cs) :: xs) (wr.alloc (.cells cs.toArray t)) :=
  h.own (nbel wr _) (Blk.new wr cs t) (Nat.le_refl _)
theorem W4.set (h : W4 w0 wB1 mB1 wB2 mB2 S1 M1 S2 M2 xs wr) {i g : Nat} {t : TypeId} {cs cs' : List Value} (hi : xs[i]? = some (g, t, cs)) (hb : Blk w' g t cs') (hu : Upd g wr w') : W4 w0 wB1 mB1 wB2 mB2 S1 M1 S2 M2 (xs.set i (g, t, cs')) w' := by
  obtain ⟨hm1, hm2⟩ := set_spec h.nd (cs' := cs') hi
  have hmem := List.mem_of_getElem? hi
  obtain ⟨b1, b2⟩ := h.bl _ hmem
  obtain ⟨τ1, τ2, h1, h2, h3, h4⟩ := h.ex
  obtain ⟨z1, z2⟩ := h4 _ hmem
  have hbel := h1.lw.bel.trans (hu.below b2 h1.lw.bel.size)
  refine ⟨⟨τ1, τ2, h1.keep hu.size (fun k hk hz => hu.block k hk (fun e => hz (by rw [e]; exact z1))) hbel, h2.keep hu.size (fun k hk hz => hu.block k hk (fun e => hz (by rw [e]; exact z2))) hbel, h3, fun x hx => ?_⟩, fun x hx => ?_, by rw [hm2]; exact h.nd⟩
  · rcases hm1 x hx with rfl | ⟨hx, hne⟩
    · exact ⟨z1, z2⟩
    · exact h4 x hx
  · rcases hm1 x hx with rfl | ⟨hx, hne⟩
    · exact ⟨hb, b2⟩
    · exact ⟨(h.bl x hx).1.upd hu hne, (h.bl x hx).2⟩
theorem W4.tail {x : XBk} (h : W4 w0 wB1 mB1 wB2 mB2 S1 M1 S2 M2 (x :: xs) wr) : W4 w0 wB1 mB1 wB2 mB2 S1 M1 S2 M2 xs wr := by
  obtain ⟨τ1, τ2, h1, h2, h3, h4⟩ := h.ex
  refine ⟨⟨τ1, τ2, h1, h2, h3, fun y hy => h4 y (List.mem_cons_of_mem _ hy)⟩, fun y hy => h.bl y (List.mem_cons_of_mem _ hy), ?_⟩
  have := h.nd
  rw [List.map_cons, List.nodup_cons] at this
  exact this.2
theorem W4.drop (h : W4 w0 wB1 mB1 wB2 mB2 S1 M1 S2 M2 xs wr) : W4 w0 wB1 mB1 wB2 mB2 S1 M1 S2 M2 [] wr := by
  obtain ⟨τ1, τ2, h1, h2, h3, h4⟩ := h.ex
  exact ⟨⟨τ1, τ2, h1, h2, h3, fun x hx => (by cases hx)⟩, fun x hx => (by cases hx), List.nodup_nil⟩
/-- The first pair has worked. -/
theorem W4.work {τ τ1' τ2 : Rl} (h : W4 w0 wB1 mB1 wB2 mB2 S1 M1 S2 M2 xs wr) (h1 : WQ w0 wB1 mB1 S1 M1 τ wr) (h2 : WQ w0 wB2 mB2 S2 M2 τ2 wr) (h3 : ∀ g, τ g ≠ 0 → τ2 g = 0) (h4 : ∀ x ∈ xs, τ x.1 = 0 ∧ τ2 x.1 = 0) (k1 : WQ w0 wB1 mB1 S' M' τ1' w') (k2 : Fm τ wr τ1' w') : W4 w0 wB1 mB1 wB2 mB2 S' M' S2 M2 xs w' := by
  have hd : ∀ g, τ2 g ≠ 0 → τ g = 0 := dj_flip h3
  refine ⟨⟨τ1', τ2, k1, h2.keep k2.size (fun g hg hz => k2.blk g hg (hd g hz)) k1.lw.bel, fun g hg => ?_, fun x hx => ⟨by rw [k2.old _ (h.bl x hx).1.lt]; exact (h4 x hx).1, (h4 x hx).2⟩⟩, fun x hx => ⟨(h.bl x hx).1.of (k2.blk _ (h.bl x hx).1.lt (h4 x hx).1), (h.bl x hx).2⟩, h.nd⟩
  by_cases hlt : g < wr.heap.size
  · rw [k2.old g hlt] at hg; exact h3 g hg
  · exact h2.new0 (by omega)
theorem W4.play1 (h : W4 w0 wB1 mB1 wB2 mB2 S1 M1 S2 M2 xs wr) (hk : S1.k < 100000000000) (o : OpP) (hob : OpB o) :
    Calls Tryd.prog 8 #[.pointer (some ⟨wB1, 0, none⟩), .agg (opC o).toArray] wr fun e w' => ∃ z S', e = .returned (.agg (rzC z).toArray) ∧ Pld S1 o z S' ∧ W4 w0 wB1 mB1 wB2 mB2 S' M1 S2 M2 xs w' := by
  obtain ⟨τ1, τ2, h1, h2, h3, h4⟩ := h.ex
  refine (h1.play hk o hob).mono ?_
  rintro e w' ⟨z, S', τ', k1, k2, k3, k4⟩
  exact ⟨z, S', k1, k2, h.work h1 h2 h3 h4 k3 k4⟩
theorem W4.step1 {n : Nat} (h : W4 w0 wB1 mB1 wB2 mB2 S1 M1 S2 M2 xs wr) (hb : MBd M1 n) (hn : n < 100000000000) (hids : MIds M1) (o : OpP) (hob : OpB o) (room : Bool) :
    Calls Tryd.prog 9 #[.pointer (some ⟨mB1, 0, none⟩), .agg (opC o).toArray, .bool room] wr fun e w' => e = .returned (.agg (rzC (mDo M1 o room).2).toArray) ∧ W4 w0 wB1 mB1 wB2 mB2 S1 (mCnt (mDo M1 o room).1 (mDo M1 o room).2) S2 M2 xs w' := by
  obtain ⟨τ1, τ2, h1, h2, h3, h4⟩ := h.ex
  refine (h1.step hb hn hids o hob room).mono ?_
  rintro e w' ⟨τ', k1, k2, k3⟩
  exact ⟨k1, h.work h1 h2 h3 h4 k2 k3⟩
theorem W4.play2 (h : W4 w0 wB1 mB1 wB2 mB2 S1 M1 S2 M2 xs wr) (hk : S2.k < 100000000000) (o : OpP) (hob : OpB o) :
    Calls Tryd.prog 8 #[.pointer (some ⟨wB2, 0, none⟩), .agg (opC o).toArray] wr fun e w' => ∃ z S', e = .returned (.agg (rzC z).toArray) ∧ Pld S2 o z S' ∧ W4 w0 wB1 mB1 wB2 mB2 S1 M1 S' M2 xs w' := by
  refine (h.flip.play1 hk o hob).mono ?_
  rintro e w' ⟨z, S', k1, k2, k3⟩
  exact ⟨z, S', k1, k2, k3.flip⟩
theorem W4.step2 {n : Nat} (h : W4 w0 wB1 mB1 wB2 mB2 S1 M1 S2 M2 xs wr) (hb : MBd M2 n) (hn : n < 100000000000) (hids : MIds M2) (o : OpP) (hob : OpB o) (room : Bool) :
    Calls Tryd.prog 9 #[.pointer (some ⟨mB2, 0, none⟩), .agg (opC o).toArray, .bool room] wr fun e w' => e = .returned (.agg (rzC (mDo M2 o room).2).toArray) ∧ W4 w0 wB1 mB1 wB2 mB2 S1 M1 S2 (mCnt (mDo M2 o room).1 (mDo M2 o room).2) xs w' :=
  (h.flip.step1 hb hn hids o hob room).mono (fun e w' ⟨k1, k2⟩ => ⟨k1, k2.flip⟩)
end
/-- How far the two pairs are apart: k refused steps. -/
structure Apt (S1 : WSt) (M1 : MS) (S2 : WSt) (M2 : MS) (k : Nat) : Prop where
  h : S1.H = S2.H
  x : S1.X = addS S2.X k
  g : S1.G = S2.G
  m : M1 = addM M2 k
  r1 : ∃ φ, Rel S1 M1 φ
  r2 : ∃ φ, Rel S2 M2 φ
section
variable {w0 wr w' : World} {wB1 mB1 wB2 mB2 k : Nat} {S1 S2 S1' S2' : WSt} {M1 M2 M' : MS} {xs : List XBk} {o : OpP} {z z1 z2 : Rz}
/-- Both play the step. -/
theorem Apt.both {wA wB : World} (h : Apt S1 M1 S2 M2 k) (h1 : LWs w0 wB1 S1 wA) (h2 : LWs w0 wB2 S2 wB) (hk1 : S1.k ≤ 100000000000) (hk2 : S2.k ≤ 100000000000) (hob : OpB o) (p1 : Pld S1 o z1 S1') (p2 : Pld S2 o z2 S2') :
    (mDo M1 o (decide (z1.c ≠ 8))).2 = z1 ∧ (mDo M2 o (decide (z2.c ≠ 8))).2 = z2 ∧ Apt S1' (mCnt (mDo M1 o (decide (z1.c ≠ 8))).1 z1) S2' (mCnt (mDo M2 o (decide (z2.c ≠ 8))).1 z2) k := by
  obtain ⟨φ1, r1⟩ := h.r1
  obtain ⟨φ2, r2⟩ := h.r2
  obtain ⟨e1, _, φ1', r1'⟩ := r1.step h1 hk1 hob p1
  obtain ⟨e2, _, φ2', r2'⟩ := r2.step h2 hk2 hob p2
  obtain ⟨q1, q2, q3⟩ := both_played h.h h.x h.g p1 p2
  have hc : z1.c = z2.c := by
    obtain ⟨_, ⟨X1, d1, _⟩, _⟩ := p1
    obtain ⟨_, ⟨X2, d2, _⟩, _⟩ := p2
    rw [h.h, h.x] at d1
    obtain ⟨_, _, t3⟩ := d1.det (d2.add (k := k))
    rw [t3]
    exact (addZ_cv (o := o) (z := z2) (k := k)).1
  refine ⟨e1, e2, q1, q2, q3, ?_, ⟨φ1', r1'⟩, ⟨φ2', r2'⟩⟩
  rw [h.m, (mDo_add o _ k).1, hc]
  exact mCnt_add z2 z1 k hc
/-- A bad handle, spared by the other pair. -/
theorem Apt.bad {wA : World} (h : Apt S1 M1 S2 M2 k) (h1 : LWs w0 wB1 S1 wA) (hk1 : S1.k ≤ 100000000000) (hob : OpB o) (hb : BadM M1 o) (p1 : Pld S1 o z S1') :
    z = rzR 3 ∧ Apt S1' (mCnt M1 (rzR 3)) S2 M2 (k + 1) := by
  obtain ⟨φ1, r1⟩ := h.r1
  obtain ⟨e1, _, φ1', r1'⟩ := r1.step h1 hk1 hob p1
  rw [hb.refuse] at e1 r1'
  have hz : z = rzR 3 := e1.symm
  subst hz
  obtain ⟨q1, q2, q3⟩ := one_refused h.h h.x h.g p1 (by show (3 : Nat) ≠ 0; decide) (by show (3 : Nat) ≠ 8; decide)
  refine ⟨rfl, q1, q2, q3, ?_, ⟨φ1', r1'⟩, h.r2⟩
  rw [h.m]
  rfl
end
end Go.Proofs.Qxb6500889aDoor
