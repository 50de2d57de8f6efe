/- A world, the model and some blocks beside them. -/
import Derived.Test.Qxb6500889aDoorMuR1
import Derived.Test.Qxb6500889aDoorMuP7
namespace Go.Proofs.Qxb6500889aDoor
open Go.RowKit
set_option linter.unusedSimpArgs false
set_option linter.unusedVariables false
structure WP (w0 : World) (wB mB : Nat) (S : WSt) (M : MS) (xs : List XBk) (wr : World) : Prop where
  ex : ∃ σ N, MN wr σ N M ∧ N.mB = mB ∧ (∀ g, S.ρ g ≠ 0 → σ g = 0) ∧ (∀ g, g < w0.heap.size → σ g = 0) ∧ ∀ x ∈ xs, σ x.1 = 0
  lw : LWs w0 wB S wr
  bl : ∀ x ∈ xs, Blk wr x.1 x.2.1 x.2.2 ∧ S.ρ x.1 = 0 ∧ w0.heap.size ≤ x.1
  nd : (xs.map (·.1)).Nodup
/-- The world refines the model. -/
structure Rel (S : WSt) (M : MS) (φ : Nat → Nat) : Prop where
  rm : RM S.H S.X S.G M φ
  al : AlB S.H M
  lt : M.alt ≤ S.k * 8194
section
variable {w0 wr w' : World} {wB mB : Nat} {S S' : WSt} {M M' : MS} {xs : List XBk} {φ : Nat → Nat} {o : OpP} {z : Rz}
theorem WP.below (h : WP w0 wB mB S M xs wr) (hb : Below wr.heap.size wr w') : WP w0 wB mB S M xs w' := by
  obtain ⟨σ, N, h1, h2⟩ := h.ex
  exact ⟨⟨σ, N, h1.below hb, h2⟩, h.lw.below hb, fun x hx => ⟨(h.bl x hx).1.below hb, (h.bl x hx).2⟩, h.nd⟩
theorem WP.alloc (h : WP w0 wB mB S M xs wr) (cs : List Value) (t : TypeId) : WP w0 wB mB S M ((wr.heap.size, t, cs) :: xs) (wr.alloc (.cells cs.toArray t)) := by
  have hb := nbel wr (.cells cs.toArray t)
  obtain ⟨σ, N, h1, h2, h3, h4, h5⟩ := h.ex
  refine ⟨⟨σ, N, h1.below hb, h2, h3, h4, fun x hx => ?_⟩, h.lw.below hb, fun x hx => ?_, ?_⟩
  · rcases List.mem_cons.1 hx with rfl | hx
    · exact h1.new0 (Nat.le_refl _)
    · exact h5 x hx
  · rcases List.mem_cons.1 hx with rfl | hx
    · exact ⟨Blk.new wr cs t, h.lw.wm.new0 (Nat.le_refl _), h.lw.bel.size⟩
    · exact ⟨(h.bl x hx).1.below hb, (h.bl x hx).2⟩
  · rw [List.map_cons, List.nodup_cons]
    refine ⟨fun hm => ?_, h.nd⟩
    obtain ⟨x, hx, he⟩ := List.mem_map.1 hm
    have := (h.bl x hx).1.lt
    omega
theorem WP.set (h : WP w0 wB mB S M xs wr) {i g : Nat} {t : TypeId} {cs cs' : List Value} (hi : xs[i]? = some (g, t, cs)) (hb : Blk w' g t cs') (hu : Upd g wr w') : WP w0 wB mB S M (xs.set i (g, t, cs')) w' := by
  obtain ⟨hm1, hm2⟩ := set_spec h.nd (cs' := cs') hi
  have hmem := List.mem_of_getElem? hi
  obtain ⟨b1, b2, b3⟩ := h.bl _ hmem
  obtain ⟨σ, N, h1, h2, h3, h4, h5⟩ := h.ex
  refine ⟨⟨σ, N, h1.other hu (h5 _ hmem), h2, h3, h4, fun x hx => ?_⟩, h.lw.other hu b2 b3, fun x hx => ?_, by rw [hm2]; exact h.nd⟩
  · rcases hm1 x hx with rfl | ⟨hx, hne⟩
    · exact h5 (g, t, cs) hmem
    · exact h5 x hx
  · rcases hm1 x hx with rfl | ⟨hx, hne⟩
    · exact ⟨hb, b2, b3⟩
    · exact ⟨(h.bl x hx).1.upd hu hne, (h.bl x hx).2⟩
theorem WP.drop (h : WP w0 wB mB S M xs wr) : WP w0 wB mB S M [] wr := by
  obtain ⟨σ, N, h1, h2, h3, h4, h5⟩ := h.ex
  exact ⟨⟨σ, N, h1, h2, h3, h4, fun x hx => (by cases hx)⟩, h.lw, fun x hx => (by cases hx), List.nodup_nil⟩
theorem WP.tail {x : XBk} (h : WP w0 wB mB S M (x :: xs) wr) : WP w0 wB mB S M xs wr := by
  obtain ⟨σ, N, h1, h2, h3, h4, h5⟩ := h.ex
  refine ⟨⟨σ, N, h1, h2, h3, h4, fun y hy => h5 y (List.mem_cons_of_mem _ hy)⟩, h.lw, fun y hy => h.bl y (List.mem_cons_of_mem _ hy), ?_⟩
  have := h.nd
  rw [List.map_cons, List.nodup_cons] at this
  exact this.2
theorem WP.play (h : WP w0 wB mB S M xs wr) (hk : S.k < 100000000000) (o : OpP) (hob : OpB o) :
    Calls Tryd.prog 8 #[.pointer (some ⟨wB, 0, none⟩), .agg (opC o).toArray] wr fun e w' => ∃ z S', e = .returned (.agg (rzC z).toArray) ∧ Pld S o z S' ∧ WP w0 wB mB S' M xs w' := by
  refine (h.lw.play hk o hob).mono ?_
  rintro e w' ⟨H', X', z, ρ', L', T', V', k1, k2, k3, k4⟩
  obtain ⟨σ, N, h1, h2, h3, h4, h5⟩ := h.ex
  have h0 : ∀ g, σ g ≠ 0 → S.ρ g = 0 := dj_flip h3
  refine ⟨z, ⟨S.k + 1, ρ', L', T', V', H', doX X' z, S.G ++ gvL o z⟩, k1, ⟨rfl, ⟨X', k2, rfl⟩, rfl⟩, ⟨σ, N, h1.keep k4.size (fun g hg hz => k4.blk g hg (by rw [h0 g hz]; omega)), h2, fun g hg => ?_, h4, h5⟩, k3, fun x hx => ?_, h.nd⟩
  · by_cases hlt : g < wr.heap.size
    · have hg' : S.ρ g ≠ 0 := by rw [← k4.old g hlt]; exact hg
      exact h3 g hg'
    · exact h1.new0 (by omega)
  · obtain ⟨b1, b2, b3⟩ := h.bl x hx
    exact ⟨b1.of (k4.blk _ b1.lt (by rw [b2]; omega)), by show ρ' x.1 = 0; rw [k4.old _ b1.lt]; exact b2, b3⟩
theorem Fm.toBelow {σ σ' : Rl} {w w' : World} {B : Nat} (h : Fm σ w σ' w') (hB : B ≤ w.heap.size) (h0 : ∀ g, g < B → σ g = 0) : Below B w w' := ⟨h.os, h.tape, h.output, h.size, fun g hg => h.blk g (by omega) (h0 g hg)⟩
/-- The model works on. -/
theorem WP.model (h : WP w0 wB mB S M xs wr) {f : FuncId} {args : Nat → Array Value} {e0 : Ending} (hc : ∀ σ N, MN wr σ N M → Calls Tryd.prog f (args N.mB) wr fun e w' => e = e0 ∧ MOut wr σ N M' w') :
    Calls Tryd.prog f (args mB) wr fun e w' => e = e0 ∧ WP w0 wB mB S M' xs w' := by
  obtain ⟨σ, N, h1, h2, h3, h4, h5⟩ := h.ex
  have := hc σ N h1
  rw [h2] at this
  refine this.mono ?_
  rintro e w' ⟨k1, σ', N', m1, m2, m3⟩
  have h0 : ∀ g, σ g ≠ 0 → S.ρ g = 0 := dj_flip h3
  refine ⟨k1, ⟨σ', N', m1, m2.trans h2, fun g hg => ?_, fun g hg => ?_, fun x hx => ?_⟩, ?_, fun x hx => ?_, h.nd⟩
  · have hlt := h.lw.wm.dom g hg
    rw [m3.old g hlt]
    exact h3 g hg
  · rw [m3.old g (Nat.lt_of_lt_of_le hg h.lw.bel.size)]
    exact h4 g hg
  · rw [m3.old _ (h.bl x hx).1.lt]
    exact h5 x hx
  · have hw := h.lw
    exact ⟨hw.wm.keep m3.size (fun g hg hz => m3.blk g hg (h3 g hz)), hw.hv, hw.hi, hw.xn, hw.gv, hw.gl, hw.bel.trans (m3.toBelow hw.bel.size h4), hw.low⟩
  · obtain ⟨b1, b2, b3⟩ := h.bl x hx
    exact ⟨b1.of (m3.blk _ b1.lt (h5 x hx)), b2, b3⟩
theorem Rel.ids (hr : Rel S M φ) (hi : HI S.H S.X) : MIds M := fun m hm id hid => by
  rw [hr.rm.held m hm] at hid
  obtain ⟨a, ha, rfl⟩ := List.mem_map.1 hid
  obtain ⟨x, q, _, k1, k2, _⟩ := hr.rm.mt.ob a (.hand m a hm ha (fun e => hi.nz m hm (by rw [← e]; exact ha)))
  exact ⟨q, k1, k2⟩
theorem hN_lt2 {g m s : Nat} (hg : g ≤ 100000000000) (hm : m < 4) (hs : s < 128) : hN g m s < 18446744073709551616 := hN_lt (by omega) hm (by omega)
theorem Rel.mbd (hr : Rel S M φ) (hl : LWs w0 wB S wr) (hk : S.k ≤ 100000000000) : MBd M S.k := by
  have hx := hl.xn
  refine ⟨by rw [hr.rm.al]; exact hx.al, by rw [hr.rm.iss]; exact hl.gl, fun m hm => by rw [hr.rm.gen m hm]; exact hx.gen m, fun m hm => by rw [hr.rm.held m hm, List.length_map]; exact hx.len m, fun m hm => by rw [hr.rm.roots m hm, List.length_map]; exact hl.hi.rl m hm, by rw [hr.rm.st]; exact hx.st, by rw [hr.rm.rf]; exact hx.rf, by rw [hr.rm.sf]; exact hx.sf, hr.lt, fun h hh => ?_⟩
  rw [hr.rm.iss] at hh
  obtain ⟨m, g, s, rfl, h2, h3, h4⟩ := hl.gv.old h hh
  have := hx.gen m
  exact hN_lt2 (by omega) h2 h3
theorem mDo_altle (r : Bool) : (mDo M o r).1.alt ≤ M.alt + 8194 := by
  by_cases h : o.ac < 4 ∧ o.k = 0
  · unfold mDo
    rw [if_neg (by omega), if_neg (by omega), if_pos h.2]
    unfold mAlloc
    by_cases c1 : o.a < 1 ∨ 8192 < o.a
    · rw [if_pos c1]; exact Nat.le_add_right _ _
    rw [if_neg c1]
    repeat' split
    all_goals first
      | exact Nat.le_add_right _ _
      | (show M.alt + wrdM o.a ≤ M.alt + 8194; unfold wrdM; omega)
  · rw [mDo_alt r h]; omega
/-- One step of both. -/
theorem Rel.step (hr : Rel S M φ) (hl : LWs w0 wB S wr) (hk : S.k ≤ 100000000000) (hob : OpB o) (hp : Pld S o z S') :
    (mDo M o (decide (z.c ≠ 8))).2 = z ∧ (z.c = 8 → 1 ≤ o.a ∧ o.a ≤ 8192 ∧ 32768 < M.alt + wrdM o.a) ∧ ∃ φ', Rel S' (mCnt (mDo M o (decide (z.c ≠ 8))).1 z) φ' := by
  obtain ⟨X', hd, hx⟩ := hp.ds
  obtain ⟨φ', h1, h2⟩ := hr.rm.refd hl.hi hl.xn hk hob hl.szs hd
  obtain ⟨a1, a2⟩ := hr.al.step hob hd h2
  refine ⟨h2, a2, φ', ?_, ⟨a1.tk, a1.ev⟩, ?_⟩
  · rw [hx, hp.G]
    exact h1.cnt z
  · have h3 : (mDo M o (decide (z.c ≠ 8))).1.alt ≤ M.alt + 8194 := mDo_altle _
    have h4 := hr.lt
    rw [hp.k]
    show (mDo M o (decide (z.c ≠ 8))).1.alt ≤ (S.k + 1) * 8194
    omega
/-- alike of what refines. -/
theorem WP.alike (h : WP w0 wB mB S M xs wr) (hr : Rel S M φ) (hk : S.k ≤ 100000000000) : Calls Tryd.prog 48 #[.pointer (some ⟨wB, 0, none⟩), .pointer (some ⟨mB, 0, none⟩)] wr fun e w' => e = .returned (.bool true) ∧ WP w0 wB mB S M xs w' ∧ Below wr.heap.size wr w' := by
  obtain ⟨σ, N, h1, h2, h3, h4, h5⟩ := h.ex
  have := alike_walk h.lw hk h1 (hr.mbd h.lw hk) hk hr.rm
  rw [h2] at this
  exact this.mono (fun e w' ⟨k1, k2⟩ => ⟨k1, h.below k2, k2⟩)
theorem WP.step {n : Nat} (h : WP w0 wB mB S M xs wr) (hb : MBd M n) (hn : n < 100000000000) (hids : MIds M) (o : OpP) (hob : OpB o) (room : Bool) :
    Calls Tryd.prog 9 #[.pointer (some ⟨mB, 0, none⟩), .agg (opC o).toArray, .bool room] wr fun e w' => e = .returned (.agg (rzC (mDo M o room).2).toArray) ∧ WP w0 wB mB S (mCnt (mDo M o room).1 (mDo M o room).2) xs w' :=
  h.model (args := fun x => #[.pointer (some ⟨x, 0, none⟩), .agg (opC o).toArray, .bool room]) (fun σ N hM => mStep_walk hM hb hn hids o hob room)
/-- A new world and a new model. -/
theorem WP.start {w1 w2 : World} {ρ : Rl} {L : HL} {T : XL} {V : WL} (h1 : WM w1 ρ L T V H0 X0 []) (l1 : ∀ g, g < w0.heap.size → ρ g = 0) (b1 : Below w0.heap.size w0 w1) {r : Nat} (hr : w1.heap.size = r) (h2 : MN w2 (fup (fun _ => 0) r 1) (N0 r) M0) (b2 : Below w1.heap.size w1 w2) : WP w0 V.wB r ⟨0, ρ, L, T, V, H0, X0, []⟩ M0 [] w2 := by
  have b := b1.trans (b2.mono b1.size)
  refine ⟨⟨_, _, h2, rfl, fun g hg => ?_, fun g hg => ?_, fun x hx => (by cases hx)⟩, ⟨h1.below b2, rfl, HI.zero, XN.zero, GvI.zero, Nat.le_refl _, b, l1⟩, fun x hx => (by cases hx), List.nodup_nil⟩
  · have := h1.dom g hg
    exact fup_ne _ _ (by omega)
  · have := b1.size
    exact fup_ne _ _ (by omega)
theorem Rel.zero {ρ : Rl} {L : HL} {T : XL} {V : WL} : Rel ⟨0, ρ, L, T, V, H0, X0, []⟩ M0 id := ⟨RM.zero, AlB.zero, Nat.zero_le _⟩
end
end Go.Proofs.Qxb6500889aDoor
