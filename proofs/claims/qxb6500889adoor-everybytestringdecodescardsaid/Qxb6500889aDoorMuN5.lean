/- The model and blocks beside it; its row of objects grows. -/
import Derived.Test.Qxb6500889aDoorMuN4
import Derived.Test.Qxb6500889aDoorMuP7
namespace Go.Proofs.Qxb6500889aDoor
open Go.RowKit
set_option linter.unusedSimpArgs false
set_option linter.unusedVariables false
theorem made_aK (k : IntKind) (n : Nat) : madeCells #[Value.int k 0] n = (aK k (List.replicate n 0)).toArray := by
  apply Array.ext'
  apply List.ext_getElem
  · have := size_madeCells #[Value.int k 0] n
    simp [aK]
    simpa using this
  · intro i h1 h2
    simp [madeCells, aK, Nat.mod_one]
theorem make_refs (n : Nat) (hn : n ≤ 100000) (w : World) : (Instr.makeSlice 65 (.int .u64 (n : Int)) (.int .u64 (n : Int))).run Tryd.prog w = .ok (.slice (some ⟨w.heap.size, 0, none⟩) n n) (w.alloc (.cells (aK .i64 (List.replicate n 0)).toArray 3)) := by
  rw [← made_aK]
  exact run_make_row' (P := Tryd.prog) 65 3 (.int .i64 0) 8 Tryd.underlying65 (by kernel_rfl) rfl .u64 .u64 n (by omega) (by omega) w
theorem make_words (n : Nat) (hn : n ≤ 100000) (w : World) : (Instr.makeSlice 88 (.int .u64 (n : Int)) (.int .u64 (n : Int))).run Tryd.prog w = .ok (.slice (some ⟨w.heap.size, 0, none⟩) n n) (w.alloc (.cells (aK .u64 (List.replicate n 0)).toArray 29)) := by
  rw [← made_aK]
  exact run_make_row' (P := Tryd.prog) 88 29 (.int .u64 0) 8 Tryd.underlying88 (by kernel_rfl) rfl .u64 .u64 n (by omega) (by omega) w
/-- The model and some blocks beside it. -/
structure EM (w : World) (σ : Rl) (N : ML) (M : MS) (xs : List XBk) (wz : World) : Prop where
  ex : ∃ σ' N', MN wz σ' N' M ∧ N'.mB = N.mB ∧ Fm σ w σ' wz ∧ ∀ x ∈ xs, σ' x.1 = 0
  bl : ∀ x ∈ xs, Blk wz x.1 x.2.1 x.2.2 ∧ w.heap.size ≤ x.1
  nd : (xs.map (·.1)).Nodup
section
variable {w w' w'' wz : World} {σ σ' σ'' : Rl} {N N' : ML} {M M' : MS} {n m : Nat} {xs : List XBk}
theorem EM.start (h : MN w σ N M) : EM w σ N M [] w := ⟨⟨σ, N, h, rfl, Fm.refl _ _, fun x hx => (by cases hx)⟩, fun x hx => (by cases hx), List.nodup_nil⟩
theorem EM.below (h : EM w σ N M xs wz) (hb : Below wz.heap.size wz w'') : EM w σ N M xs w'' := by
  obtain ⟨⟨σ', N', h1, h2, h5, h6⟩, h7, h8⟩ := h
  exact ⟨⟨σ', N', h1.below hb, h2, h5.trans (Fm.below hb), h6⟩, fun x hx => ⟨(h7 x hx).1.below hb, (h7 x hx).2⟩, h8⟩
theorem EM.alloc (h : EM w σ N M xs wz) (cs : List Value) (t : TypeId) : EM w σ N M ((wz.heap.size, t, cs) :: xs) (wz.alloc (.cells cs.toArray t)) := by
  have hb := nbel wz (.cells cs.toArray t)
  obtain ⟨⟨σ', N', h1, h2, h5, h6⟩, h7, h8⟩ := h
  refine ⟨⟨σ', N', h1.below hb, h2, h5.trans (Fm.below hb), fun x hx => ?_⟩, fun x hx => ?_, ?_⟩
  · rcases List.mem_cons.1 hx with rfl | hx
    · exact h1.new0 (Nat.le_refl _)
    · exact h6 x hx
  · rcases List.mem_cons.1 hx with rfl | hx
    · exact ⟨Blk.new wz cs t, h5.size⟩
    · exact ⟨(h7 x hx).1.below hb, (h7 x hx).2⟩
  · rw [List.map_cons, List.nodup_cons]
    refine ⟨fun hm => ?_, h8⟩
    obtain ⟨x, hx, he⟩ := List.mem_map.1 hm
    have := (h7 x hx).1.lt
    omega
theorem EM.set (h : EM w σ N M xs wz) {i g : Nat} {t : TypeId} {cs cs' : List Value} (hi : xs[i]? = some (g, t, cs)) (hb : Blk w'' g t cs') (hu : Upd g wz w'') : EM w σ N M (xs.set i (g, t, cs')) w'' := by
  obtain ⟨⟨σ', N', h1, h2, h5, h6⟩, h7, h8⟩ := h
  obtain ⟨hm1, hm2⟩ := set_spec h8 (cs' := cs') hi
  have hmem := List.mem_of_getElem? hi
  refine ⟨⟨σ', N', h1.other hu (h6 _ hmem), h2, h5.fresh hu (h7 _ hmem).2, fun x hx => ?_⟩, fun x hx => ?_, by rw [hm2]; exact h8⟩
  · rcases hm1 x hx with rfl | ⟨hx, _⟩
    · exact h6 (g, t, cs) hmem
    · exact h6 x hx
  · rcases hm1 x hx with rfl | ⟨hx, hne⟩
    · exact ⟨hb, (h7 _ hmem).2⟩
    · exact ⟨(h7 x hx).1.upd hu hne, (h7 x hx).2⟩
/-- The model has worked. -/
theorem EM.run1 (h : EM w σ N M xs wz) (hW : MN wz σ' N' M) (hE : N'.mB = N.mB ∧ Fm σ w σ' wz ∧ ∀ x ∈ xs, σ' x.1 = 0) (k : MOut wz σ' N' M' w'') : EM w σ N M' xs w'' := by
  obtain ⟨σ2, N2, k1, k2, k5⟩ := k
  obtain ⟨h2, h5, h6⟩ := hE
  exact ⟨⟨σ2, N2, k1, k2.trans h2, h5.trans k5, fun x hx => by rw [k5.old _ (h.bl x hx).1.lt]; exact h6 x hx⟩, fun x hx => ⟨(h.bl x hx).1.of (k5.blk _ (h.bl x hx).1.lt (h6 x hx)), (h.bl x hx).2⟩, h.nd⟩
/-- A call that works on the model. -/
theorem EM.call (h : EM w σ N M xs wz) {f : FuncId} {args : Nat → Array Value} {R : Ending → MS → Prop} (hc : ∀ σ' N', MN wz σ' N' M → Calls Tryd.prog f (args N'.mB) wz fun e w' => ∃ M', R e M' ∧ MOut wz σ' N' M' w') :
    Calls Tryd.prog f (args N.mB) wz fun e w' => ∃ M', R e M' ∧ EM w σ N M' xs w' := by
  obtain ⟨σ', N', h1, h2, h3, h4⟩ := h.ex
  have := hc σ' N' h1
  rw [h2] at this
  refine this.mono ?_
  rintro e w' ⟨M', hr, hm⟩
  exact ⟨M', hr, h.run1 h1 ⟨h2, h3, h4⟩ hm⟩
/-- A call that only makes new memory. -/
theorem EM.pure (h : EM w σ N M xs wz) {f : FuncId} {args : Nat → Array Value} {e0 : Ending} (hc : ∀ σ' N', MN wz σ' N' M → Calls Tryd.prog f (args N'.mB) wz fun e w' => e = e0 ∧ Below wz.heap.size wz w') :
    Calls Tryd.prog f (args N.mB) wz fun e w' => e = e0 ∧ EM w σ N M xs w' := by
  obtain ⟨σ', N', h1, h2, h3, h4⟩ := h.ex
  have := hc σ' N' h1
  rw [h2] at this
  exact this.mono (fun e w' ⟨k1, k2⟩ => ⟨k1, h.below k2⟩)
theorem EM.out (h : EM w σ N M xs wz) : MOut w σ N M wz := by
  obtain ⟨σ', N', h1, h2, h3, h4⟩ := h.ex
  exact ⟨σ', N', h1, h2, h3⟩
theorem info_obj : (Tryd.prog.info? 93).map (fun i => (i.zero, i.size, i.bytes)) = some (some (.agg #[.slice none 0 0, .slice none 0 0]), 2, 48) := by kernel_rfl
/-- One object appended to the row of objects. -/
theorem wpList_app_obj {ops : Array Oper} {rest : List Oper} {o : Oper} {a : Act} {Q : Exit → Act → World → Prop} (hgd : o.guard = none) (s x : Operand)
    (ho : o.op = .call { callee := .builtin .append, args := #[s, x], argTypes := #[64, 64] })
    (w : World) (σ : Rl) (v : Value) (n : Nat) (cs : List Value) (hs : a.eval s = v) (how : w.ownsRow 0 93 2 v n cs) (hro : ∀ g, v.ownBlock = some g → σ g = 2) (hd : ∀ g, σ g ≠ 0 → g < w.heap.size) (g0 : Nat) (hx : a.eval x = .slice (some ⟨g0, 0, none⟩) 1 1) (v1 v2 : Value) (h1 : v1.oneCell' = true) (h2 : v2.oneCell' = true)
    (hnews : ∀ ad, some (⟨g0, 0, none⟩ : Addr) = some ad → ∀ j u, [v1, v2][j]? = some u → w.cell? (ad.add j) = some u) (hb : (n + 1) * 48 ≤ 140737488355328)
    (h : ∀ (v' : Value) (w' : World) (σ' : Rl), w'.ownsRow 0 93 2 v' (n + 1) (cs ++ [v1, v2]) → (∀ g, v'.ownBlock = some g → σ' g = 2) → (∀ g, g < w.heap.size → σ' g = σ g) → (∀ g, g < w.heap.size → σ g ≠ 2 → w'.heap[g]? = w.heap[g]?) → (∀ g, σ' g ≠ 0 → g < w'.heap.size) → Below 0 w w' → wpList Tryd.prog ops Q rest (a.put o.dst v') w') : wpList Tryd.prog ops Q (o :: rest) a w := by
  obtain ⟨i, hi, he⟩ := Option.map_eq_some_iff.1 info_obj
  simp only [Prod.mk.injEq] at he
  refine wpList_append_row w hgd s x 64 ho 0 93 i (.agg #[.slice none 0 0, .slice none 0 0]) 2 48 Tryd.underlying64 hi he.1 he.2.1 he.2.2 rfl (by decide) v n cs hs how (some ⟨g0, 0, none⟩) 1 1 [v1, v2] hx rfl (fun h => by cases h) hnews (fun u hu => ?_) hb (by decide) (Nat.zero_le _) ?_
  · simp at hu
    rcases hu with rfl | rfl
    · exact h1
    · exact h2
  intro v' w' k1 k2 k3 k4
  refine h v' w' (fun g => if v'.ownBlock = some g then 2 else σ g) k1 (fun g hg => by rw [if_pos hg]) (fun g hg => ?_) (fun g hg hne => k3 g hg (fun g' hg' e => hne (by rw [e]; exact hro g' hg'))) (fun g hg => ?_) k2
  · try dsimp only
    by_cases hb : v'.ownBlock = some g
    · rw [if_pos hb]
      rcases k4 g hb with h1 | h1
      · exact (hro g h1).symm
      · omega
    · rw [if_neg hb]
  · try dsimp only at hg
    by_cases hb : v'.ownBlock = some g
    · exact (k1.lt g hb).2
    · rw [if_neg hb] at hg
      exact Nat.lt_of_lt_of_le (hd g hg) k2.size
/-- The parts behind a new object. -/
theorem Pt.objd (h : Pt w σ N M) {rB dB : Nat} {q : MO} {v : Value} (hk : ∀ g, g < w.heap.size → σ g ≠ 2 → w'.heap[g]? = w.heap[g]?) (ho : ∀ g, g < w.heap.size → σ' g = σ g) (how : w'.ownsRow 0 93 2 v (M.objs.length + 1) (oC N.rb N.db 0 M.objs ++ obC (fup N.rb M.objs.length rB) (fup N.db M.objs.length dB) M.objs.length q)) (hro : ∀ g, v.ownBlock = some g → σ' g = 2)
    (hq : MoM w' σ' (fup N.rb M.objs.length rB) (fup N.db M.objs.length dB) M.objs.length q) : Pt w' σ' { N with ov := v, rb := fup N.rb M.objs.length rB, db := fup N.db M.objs.length dB } { M with objs := M.objs ++ [q] } := by
  have e1 : oC N.rb N.db 0 M.objs = oC (fup N.rb M.objs.length rB) (fup N.db M.objs.length dB) 0 M.objs := oC_same _ _ _ _ _ _ _ rfl (fun j a b ha hb => by rw [ha] at hb; cases hb; exact ⟨rfl, rfl⟩) (fun j k1 k2 => by rw [fup_ne _ _ (by omega), fup_ne _ _ (by omega)]; exact ⟨rfl, rfl⟩)
  refine ⟨?_, hro, fun i p hp => ?_, fun i hi => (h.rt i hi).of (fun g hg hr => ⟨hk g hg (by omega), ho g hg⟩), fun i hi => (h.hd i hi).of (fun g hg hr => ⟨hk g hg (by omega), ho g hg⟩), h.is.of (fun g hg hr => ⟨hk g hg (by omega), ho g hg⟩)⟩
  · show w'.ownsRow 0 _ 2 v (M.objs ++ [q]).length (oC (fup N.rb M.objs.length rB) (fup N.db M.objs.length dB) 0 (M.objs ++ [q]))
    rw [oC_app, List.length_append, List.length_singleton, ← e1, Nat.zero_add]
    exact how
  · have hp' : (M.objs ++ [q])[i]? = some p := hp
    show MoM w' σ' (fup N.rb M.objs.length rB) (fup N.db M.objs.length dB) i p
    by_cases e : i < M.objs.length
    · rw [List.getElem?_append_left e] at hp'
      have := (h.o i p hp').of (w' := w') (σ' := σ') (fun g hg hr => ⟨hk g hg (by omega), ho g hg⟩)
      exact ⟨by rw [fup_ne _ _ (by omega)]; exact this.r, by rw [fup_ne _ _ (by omega)]; exact this.d, by rw [fup_ne _ _ (by omega)]; exact this.rr, by rw [fup_ne _ _ (by omega)]; exact this.rd, this.sz⟩
    · have hi : i = M.objs.length := by
        have := (List.getElem?_eq_some_iff.1 hp').1
        simp at this
        omega
      subst hi
      simp at hp'
      subst hp'
      exact hq
end
end Go.Proofs.Qxb6500889aDoor
