/- Bad handles: what the law asks of two worlds and two models. -/
import Derived.Test.Qxb6500889aDoorMuB3
import Derived.Test.Qxb6500889aDoorMuOp
namespace Go.Proofs.Qxb6500889aDoor
open Go.RowKit
set_option linter.unusedSimpArgs false
set_option linter.unusedVariables false
theorem wrapN (x : Int) : ∃ t : Nat, IntKind.u64.wrap x = (t : Int) ∧ t < 18446744073709551616 := by
  refine ⟨(x % 18446744073709551616).toNat, ?_, by omega⟩
  unfold IntKind.wrap
  simp [IntKind.signed, IntKind.bits]
  omega
theorem bitsN (op : BinOp) (x y : Int) : ∃ t : Nat, bits op .u64 x y = (t : Int) ∧ t < 18446744073709551616 := by
  unfold bits
  exact wrapN _
/-- A new row. -/
theorem own_new (w : World) (cs : List Value) (t : TypeId) (hl : cs.length ≤ maxLen) {g : Nat} (hg : w.heap.size = g) : (w.alloc (.cells cs.toArray t)).ownsRow w.heap.size t 1 (.slice (some ⟨g, 0, none⟩) cs.length cs.length) cs.length cs := by
  subst hg
  have hb := Blk.new w cs t
  refine ⟨by simp, .inr ⟨w.heap.size, cs.length, cs.toArray, rfl, Nat.le_refl _, hb, Nat.le_refl _, hl, by simp, by simp⟩⟩
/-- A row's block. -/
theorem own_blk {w : World} {base : Nat} {t : TypeId} {v : Value} {n : Nat} {cs : List Value} (h : w.ownsRow base t 1 v n cs) (hn : 0 < n) : ∃ g cap cs', v = .slice (some ⟨g, 0, none⟩) n cap ∧ base ≤ g ∧ Blk w g t cs' ∧ cs'.take n = cs ∧ n ≤ cap ∧ cap ≤ maxLen := by
  rcases h.2 with ⟨_, h0⟩ | ⟨g, cap, cur, h1, h2, hg, h3, h4, h5, h6⟩
  · omega
  · refine ⟨g, cap, cur.toList, h1, h2, ?_, by rw [← h6]; simp, h3, h4⟩
    unfold Blk
    rw [hg]
/-- The listed variable handleKinds reads as it is laid. -/
structure HKi (w : World) (gb go gc : Nat) : Prop where
  l0 : 0 < w.heap.size
  lb : gb < w.heap.size
  c : w.cell? ⟨0, 0, none⟩ = some (.slice (some ⟨gb, go, none⟩) 5 gc)
  e : ∀ i, i < 5 → w.cell? ⟨gb, go + i, none⟩ = some (.int .u8 ((i + 1 : Nat) : Int))
theorem HKi.below {w w' : World} {gb go gc : Nat} (h : HKi w gb go gc) (hb : Below w.heap.size w w') : HKi w' gb go gc :=
  ⟨Nat.lt_of_lt_of_le h.l0 hb.size, Nat.lt_of_lt_of_le h.lb hb.size, by rw [World.cell?_of_block (hb.block 0 h.l0)]; exact h.c, fun i hi => by rw [World.cell?_of_block (hb.block gb h.lb)]; exact h.e i hi⟩
section
variable {w0 wr w' : World} {wB1 mB1 wB2 mB2 k : Nat} {S1 S2 : WSt} {M1 M2 : MS} {xs : List XBk} {o : OpP}
theorem W4.start {τ : Rl} {w2 w3 w4 : World} {ρ : Rl} {L : HL} {T : XL} {V : WL} (h1 : WQ w0 wB1 mB1 S1 M1 τ w2) (h3 : WM w3 ρ L T V H0 X0 []) (l3 : ∀ g, g < w2.heap.size → ρ g = 0) (b3 : Below w2.heap.size w2 w3) {r : Nat} (hr : w3.heap.size = r) (h4 : MN w4 (fup (fun _ => 0) r 1) (N0 r) M0) (b4 : Below w3.heap.size w3 w4) : W4 w0 wB1 mB1 V.wB r S1 M1 ⟨0, ρ, L, T, V, H0, X0, []⟩ M0 [] w4 := by
  have hw := h1.lw.bel
  have b03 := hw.trans (b3.mono hw.size)
  have h2 : WQ w0 V.wB r ⟨0, ρ, L, T, V, H0, X0, []⟩ M0 (fun g => if g = r then 1 else ρ g) w4 := WQ.start h3 (fun g hg => l3 g (Nat.lt_of_lt_of_le hg hw.size)) b03 hr h4 b4
  have b24 := b3.trans (b4.mono b3.size)
  have hbel := hw.trans (b24.mono hw.size)
  refine ⟨⟨τ, _, h1.keep b24.size (fun g hg _ => b24.block g hg) hbel, h2, fun g hg => ?_, fun x hx => (by cases hx)⟩, fun x hx => (by cases hx), List.nodup_nil⟩
  have hlt : g < w2.heap.size := by
    rcases Nat.lt_or_ge g w2.heap.size with h | h
    · exact h
    · exact absurd (h1.new0 h) hg
  have := b3.size
  show (if g = r then 1 else ρ g) = 0
  rw [if_neg (by omega)]
  exact l3 g hlt
theorem W4.tables (h : W4 w0 wB1 mB1 wB2 mB2 S1 M1 S2 M2 xs wr) (ha : Apt S1 M1 S2 M2 k) (hk1 : S1.k ≤ 100000000000) (hk2 : S2.k ≤ 100000000000) : Calls Tryd.prog 12 #[.pointer (some ⟨wB1, 0, none⟩), .pointer (some ⟨wB2, 0, none⟩)] wr fun e w' => e = .returned (.bool true) ∧ Below wr.heap.size wr w' := by
  have hb : WK wr S2.ρ S2.L S2.T S2.V S2.H S2.X (lvK S2.X) S1.G := by rw [ha.g]; exact h.lw2.wm
  have := sameTables_walk h.lw1.wm hb (h.lw1.xn.xb hk1) (h.lw2.xn.xb hk2) h.lw1.hi.rl h.lw2.hi.rl (SmT.add ha.h ha.x) (fun x hx => by
    obtain ⟨m, g, s, rfl, h2, h3, h4⟩ := h.lw1.gv.old x hx
    have := h.lw1.xn.gen m
    exact hN_lt2 (by omega) h2 h3) (by have := h.lw1.gl; omega)
  rw [h.lw1.hv, h.lw2.hv] at this
  exact this
theorem W4.heaps (h : W4 w0 wB1 mB1 wB2 mB2 S1 M1 S2 M2 xs wr) (ha : Apt S1 M1 S2 M2 k) : Calls Tryd.prog 13 #[.pointer (some ⟨S1.L.hB, 0, none⟩), .pointer (some ⟨S2.L.hB, 0, none⟩)] wr fun e w' => e = .returned (.bool true) ∧ Below wr.heap.size wr w' := by
  have hB : HM wr S2.ρ S2.L S1.H := by rw [ha.h]; exact h.lw2.wm.mm.hm
  exact sameHeap_walk h.lw1.wm.mm.hm hB h.lw1.hi.rl h.lw1.hi.wf
theorem W4.models (h : W4 w0 wB1 mB1 wB2 mB2 S1 M1 S2 M2 xs wr) (ha : Apt S1 M1 S2 M2 k) (hk2 : S2.k ≤ 100000000000) : Calls Tryd.prog 14 #[.pointer (some ⟨mB1, 0, none⟩), .pointer (some ⟨mB2, 0, none⟩)] wr fun e w' => e = .returned (.bool true) ∧ Below wr.heap.size wr w' := by
  obtain ⟨τ1, τ2, h1, h2, h3, h4⟩ := h.ex
  obtain ⟨σ1, N1, a1, a2, _⟩ := h1.ex
  obtain ⟨σ2, N2, b1, b2, _⟩ := h2.ex
  obtain ⟨φ, hr⟩ := ha.r2
  have := sameModel_walk a1 b1 (by rw [ha.m]; exact ⟨rfl, rfl, rfl, rfl, rfl, rfl, rfl⟩) (hr.mbd h2.lw hk2) hk2
  rw [a2, b2] at this
  exact this
theorem Apt.zero {ρ1 ρ2 : Rl} {L1 L2 : HL} {T1 T2 : XL} {V1 V2 : WL} : Apt ⟨0, ρ1, L1, T1, V1, H0, X0, []⟩ M0 ⟨0, ρ2, L2, T2, V2, H0, X0, []⟩ M0 0 := ⟨rfl, rfl, rfl, rfl, ⟨id, Rel.zero⟩, ⟨id, Rel.zero⟩⟩
/-- A handle that is not live: every probe with it is a bad step. -/
theorem Apt.probe (ha : Apt S1 M1 S2 M2 k) {mu h : Nat} (hm : mu < 4) (hh : 255 < h) (hn : h ∉ lvK S1.X mu) (kd b c : Nat) (hkd : 1 ≤ kd ∧ kd ≤ 5) : BadM M1 ⟨mu, kd, h, b, c⟩ := by
  obtain ⟨φ, hr⟩ := ha.r1
  refine ⟨hm, ?_, .inl ⟨hkd.1, hkd.2, ?_⟩⟩
  · show mOp M1 h ≠ 0
    rw [mOp_big hh]; omega
  · show mLook M1 mu (mOp M1 h) = none
    rw [mOp_big hh, hr.rm.look hm, look_not hn]
    rfl
theorem Apt.probe2 (ha : Apt S1 M1 S2 M2 k) {mu h good : Nat} (hm : mu < 4) (hh : 255 < h) (hn : h ∉ lvK S1.X mu) (hi : HI S1.H S1.X) (hg : Good S1.H S1.X mu good) : BadM M1 ⟨mu, 2, good, 0, h⟩ := by
  obtain ⟨φ, hr⟩ := ha.r1
  obtain ⟨g1, a, x, g2, g3, g4, g5⟩ := hg
  have hgb : 255 < good := by
    obtain ⟨s, _, rfl⟩ := List.mem_map.1 g1
    exact hN_big _ _ _
  obtain ⟨x', q, e1, e2, e3, e4, e5⟩ := hr.rm.mt.ob a (.hand mu a hm g3 (fun e => hi.nz mu hm (by rw [← e]; exact g3)))
  rw [g4] at e1
  cases e1
  refine ⟨hm, ?_, .inr ⟨rfl, φ a, q, ?_, e3, ?_, ?_, ?_⟩⟩
  · show mOp M1 good ≠ 0
    rw [mOp_big hgb]; omega
  · show mLook M1 mu (mOp M1 good) = some (φ a)
    rw [mOp_big hgb, hr.rm.look hm, g2]
    rfl
  · show 0 < q.refs.length
    rw [e4, List.length_map]; exact g5
  · show mOp M1 h ≠ 0
    rw [mOp_big hh]; omega
  · show mLook M1 mu (mOp M1 h) = none
    rw [mOp_big hh, hr.rm.look hm, look_not hn]
    rfl
/-- What stands between the rounds. -/
structure B1 (w0 : World) (wB1 mB1 wB2 mB2 i : Nat) (wr : World) : Prop where
  ex : ∃ S1 M1 S2 M2 k, W4 w0 wB1 mB1 wB2 mB2 S1 M1 S2 M2 [] wr ∧ Apt S1 M1 S2 M2 k ∧ S2.k = i ∧ S1.k ≤ 300 * i
/-- The first world's state while bad handles are tried on it: the second's stands. -/
structure B2 (w0 : World) (wB1 mB1 wB2 mB2 : Nat) (S : WSt) (S2 : WSt) (M2 : MS) (xs : List XBk) (lim : Nat) (wr : World) : Prop where
  ex : ∃ S1 M1 k, W4 w0 wB1 mB1 wB2 mB2 S1 M1 S2 M2 xs wr ∧ Apt S1 M1 S2 M2 k ∧ S1.k ≤ lim ∧ S1.X.tb = S.X.tb ∧ S1.H = S.H
theorem B2.below {S : WSt} {lim : Nat} (h : B2 w0 wB1 mB1 wB2 mB2 S S2 M2 xs lim wr) (hb : Below wr.heap.size wr w') : B2 w0 wB1 mB1 wB2 mB2 S S2 M2 xs lim w' := by
  obtain ⟨S1, M1, k, h1, h2⟩ := h.ex
  exact ⟨S1, M1, k, h1.below hb, h2⟩
theorem B2.mono {S : WSt} {lim lim' : Nat} (h : B2 w0 wB1 mB1 wB2 mB2 S S2 M2 xs lim wr) (hl : lim ≤ lim') : B2 w0 wB1 mB1 wB2 mB2 S S2 M2 xs lim' wr := by
  obtain ⟨S1, M1, k, h1, h2, h3, h4⟩ := h.ex
  exact ⟨S1, M1, k, h1, h2, Nat.le_trans h3 hl, h4⟩
end
end Go.Proofs.Qxb6500889aDoor
