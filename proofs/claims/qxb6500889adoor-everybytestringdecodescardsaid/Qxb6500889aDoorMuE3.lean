/- Scripts as bytes: Decode. -/
import Derived.Test.Qxb6500889aDoorMuE2
import Derived.Test.Qxb6500889aDoorMuB5
namespace Go.Proofs.Qxb6500889aDoor
open Go.RowKit
set_option linter.unusedSimpArgs false
set_option linter.unusedVariables false
/-- The listed variable arity reads as it is laid. -/
structure ArG (w : World) : Prop where
  lt : 1 < w.heap.size
  c : ∀ k, k < 9 → w.cell? ⟨1, k, none⟩ = some (.int .i64 (ari k : Int))
theorem ArG.below {w w' : World} (h : ArG w) (hb : Below w.heap.size w w') : ArG w' := ⟨Nat.lt_of_lt_of_le h.lt hb.size, fun k hk => by rw [World.cell?_of_block (hb.block 1 h.lt)]; exact h.c k hk⟩
/-- Decode under way: the reader, the steps so far, blocks beside. -/
structure DR (w0 w : World) (rB : Nat) (a : Option Addr) (n c : Nat) (l : List Nat) (base : Nat) (v : Value) (done : List OpP) (k : Nat) (xs : List XBk) : Prop where
  rb : RB w0 w rB a n c l k
  own : w.ownsRow base 31 5 v done.length (done.flatMap opC)
  lo : rB < base
  hb : base ≤ w.heap.size
  bl : ∀ x ∈ xs, Blk w x.1 x.2.1 x.2.2 ∧ x.1 ≠ rB ∧ v.ownBlock ≠ some x.1 ∧ w0.heap.size ≤ x.1
  nd : (xs.map (·.1)).Nodup
section
variable {w0 w w' : World} {rB : Nat} {a : Option Addr} {n c : Nat} {l r : List Nat} {base k : Nat} {v : Value} {done : List OpP} {xs : List XBk}
theorem own_lt {base : Nat} {t : TypeId} {sz : Nat} {v : Value} {n : Nat} {cs : List Value} (h : w.ownsRow base t sz v n cs) {g : Nat} (hg : v.ownBlock = some g) : base ≤ g ∧ g < w.heap.size := by
  rcases h.2 with ⟨e, _⟩ | ⟨g', cap, cur, e, e2, hg', _⟩
  · subst e; cases hg
  · subst e
    have : g' = g := Option.some.inj hg
    subst this
    exact ⟨e2, (Array.getElem?_eq_some_iff.1 hg').1⟩
theorem own_updS {base : Nat} {t : TypeId} {sz : Nat} {v : Value} {n : Nat} {cs : List Value} (h : w.ownsRow base t sz v n cs) {g : Nat} (hu : Upd g w w') (hg : v.ownBlock ≠ some g) : w'.ownsRow base t sz v n cs := by
  refine ⟨h.1, ?_⟩
  rcases h.2 with h0 | ⟨g', cap, cur, e1, e2, hg', r⟩
  · exact .inl h0
  · refine .inr ⟨g', cap, cur, e1, e2, ?_, r⟩
    rw [hu.block g' (Array.getElem?_eq_some_iff.1 hg').1 (fun e => hg (by rw [e1, ← e]; rfl))]
    exact hg'
/-- New memory. -/
theorem DR.own' (h : DR w0 w rB a n c l base v done k xs) (hb : Below w.heap.size w w') {g : Nat} {t : TypeId} {cs : List Value} (hk : Blk w' g t cs) (hg : w.heap.size ≤ g) : DR w0 w' rB a n c l base v done k ((g, t, cs) :: xs) := by
  have hbel := h.rb.bel
  have hr := h.rb.blk.lt
  refine ⟨⟨h.rb.rd, hbel.trans (hb.mono hbel.size), h.rb.lo, h.rb.blk.below hb, h.rb.hk⟩, own_belowS h.own hb, h.lo, Nat.le_trans h.hb hb.size, fun x hx => ?_, ?_⟩
  · rcases List.mem_cons.1 hx with rfl | hx
    · refine ⟨hk, by dsimp only; omega, fun e => ?_, Nat.le_trans hbel.size hg⟩
      have := (own_lt h.own e).2
      dsimp only at this
      omega
    · obtain ⟨b1, b2, b3, b4⟩ := h.bl x hx
      exact ⟨b1.below hb, b2, b3, b4⟩
  · rw [List.map_cons, List.nodup_cons]
    refine ⟨fun hm => ?_, h.nd⟩
    obtain ⟨x, hx, he⟩ := List.mem_map.1 hm
    have := (h.bl x hx).1.lt
    omega
theorem DR.alloc (h : DR w0 w rB a n c l base v done k xs) (cs : List Value) (t : TypeId) : DR w0 (w.alloc (.cells cs.toArray t)) rB a n c l base v done k ((w.heap.size, t, cs) :: xs) :=
  h.own' (nbel w _) (Blk.new w cs t) (Nat.le_refl _)
/-- The reader reads on. -/
theorem DR.read (h : DR w0 w rB a n c l base v done k xs) (hr : RN w0 w w' rB a n c l r) : ∃ k', DR w0 w' rB a n c l base v done k' xs ∧ l.drop k' = r := by
  obtain ⟨k', h1, h2, h3⟩ := hr
  refine ⟨k', ⟨h1, own_updS h.own h2 (fun e => ?_), h.lo, Nat.le_trans h.hb h2.size, fun x hx => ?_, h.nd⟩, h3⟩
  · have := (own_lt h.own e).1; have := h.lo; omega
  · obtain ⟨b1, b2, b3, b4⟩ := h.bl x hx
    exact ⟨b1.upd h2 b2, b2, b3, b4⟩
theorem DR.drew (h : DR w0 w rB a n c l base v done k xs) (hd : Drew w w') : DR w0 w' rB a n c l base v done k xs :=
  ⟨h.rb.drew hd, own_belowS h.own (hd.below _), h.lo, Nat.le_trans h.hb (hd.below 0).size, fun x hx => ⟨(h.bl x hx).1.drew hd, (h.bl x hx).2⟩, h.nd⟩
/-- A block beside is written. -/
theorem DR.set (h : DR w0 w rB a n c l base v done k xs) {i g : Nat} {t : TypeId} {cs cs' : List Value} (hi : xs[i]? = some (g, t, cs)) (hb : Blk w' g t cs') (hu : Upd g w w') : DR w0 w' rB a n c l base v done k (xs.set i (g, t, cs')) := by
  obtain ⟨hm1, hm2⟩ := set_spec h.nd (cs' := cs') hi
  have hmem := List.mem_of_getElem? hi
  obtain ⟨b1, b2, b3, b4⟩ := h.bl _ hmem
  have hbel := h.rb.bel
  refine ⟨⟨h.rb.rd, hbel.trans (hu.below b4 hbel.size), h.rb.lo, h.rb.blk.upd hu (fun e => b2 e.symm), h.rb.hk⟩, own_updS h.own hu b3, h.lo, Nat.le_trans h.hb hu.size, fun x hx => ?_, by rw [hm2]; exact h.nd⟩
  rcases hm1 x hx with rfl | ⟨hx, hne⟩
  · exact ⟨hb, b2, b3, b4⟩
  · obtain ⟨d1, d2, d3, d4⟩ := h.bl x hx
    exact ⟨d1.upd hu hne, d2, d3, d4⟩
theorem DR.drop (h : DR w0 w rB a n c l base v done k xs) : DR w0 w rB a n c l base v done k [] := ⟨h.rb, h.own, h.lo, h.hb, fun x hx => (by cases hx), List.nodup_nil⟩
/-- One more step. -/
theorem wpList_app_dr {ops : Array Oper} {rest : List Oper} {ow : Oper} {ac : Act} {Q : Exit → Act → World → Prop} (hgd : ow.guard = none) (s x : Operand)
    (ho : ow.op = .call { callee := .builtin .append, args := #[s, x], argTypes := #[22, 22] }) (hs : ac.eval s = v) (hp : DR w0 w rB a n c l base v done k xs) (p : OpP) (hl : done.length ≤ 1000000000000) (g : Nat) (hx : ac.eval x = .slice (some ⟨g, 0, none⟩) 1 1) (hg : Blk w g 31 (opC p))
    (h : ∀ v' w', DR w0 w' rB a n c l base v' (done ++ [p]) k [] → wpList Tryd.prog ops Q rest (ac.put ow.dst v') w') : wpList Tryd.prog ops Q (ow :: rest) ac w := by
  obtain ⟨i0, hi, hz0, hz1, hz2⟩ := info_opz
  refine wpList_append_row w hgd s x 22 ho base 31 i0 _ 5 32 Tryd.underlying22 hi hz0 hz1 hz2 rfl (by decide) v done.length (done.flatMap opC) hs hp.own (some ⟨g, 0, none⟩) 1 1 (opC p) hx rfl (fun h => by cases h) (fun ad had j u hu => ?_) (op_one p) (by omega) (by decide) hp.hb (fun v' w' h1 h2 h3 h4 => ?_)
  · obtain rfl := Option.some.inj had
    have e : (⟨g, 0, none⟩ : Addr).add j = ⟨g, j, none⟩ := by unfold Addr.add; split <;> simp_all
    rw [e, hg.cell j]
    exact hu
  · have hbel := hp.rb.bel
    have hlo : w0.heap.size ≤ base := Nat.le_trans hp.rb.lo (Nat.le_of_lt hp.lo)
    refine h v' w' ⟨⟨hp.rb.rd, hbel.trans (h2.mono hlo), hp.rb.lo, ?_, hp.rb.hk⟩, ?_, hp.lo, Nat.le_trans hp.hb h2.size, fun x hx => (by cases hx), List.nodup_nil⟩
    · exact hp.rb.blk.of (h2.block rB hp.lo)
    · rw [List.flatMap_append, List.length_append]
      simpa using h1
end
end Go.Proofs.Qxb6500889aDoor
