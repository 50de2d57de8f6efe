/- The law's world in memory: rows of numbers, live maps, all the handles. -/
import Derived.Test.Qxb6500889aDoorMuD5
namespace Go.Proofs.Qxb6500889aDoor
open Go.RowKit
set_option linter.unusedSimpArgs false
set_option linter.unusedVariables false

def aK (k : IntKind) (l : List Nat) : List Value := l.map fun (x : Nat) => .int k (x : Int)
theorem aK_one (k : IntKind) (l : List Nat) : ∀ u ∈ aK k l, u.oneCell' = true := by
  intro u hu
  unfold aK at hu
  obtain ⟨x, _, rfl⟩ := List.mem_map.1 hu
  rfl
theorem aK_len (k : IntKind) (l : List Nat) : (aK k l).length = l.length := by simp [aK]
theorem aK_get (k : IntKind) {l : List Nat} {i x : Nat} (h : l[i]? = some x) : (aK k l)[i]? = some (.int k (x : Int)) := by
  unfold aK
  rw [List.getElem?_map, h]
  rfl
/-- A row of numbers that the world owns, in a block of role c. -/
structure RowK (w : World) (ρ : Rl) (t : TypeId) (k : IntKind) (c : Nat) (v : Value) (xs : List Nat) : Prop where
  own : w.ownsRow 0 t 1 v xs.length (aK k xs)
  role : ∀ g, v.ownBlock = some g → ρ g = c
section
variable {w w' : World} {ρ ρ' : Rl} {t : TypeId} {k : IntKind} {c : Nat} {v v' : Value} {xs ys : List Nat}
theorem RowK.of (h : RowK w ρ t k c v xs) (hb : ∀ g, g < w.heap.size → ρ g = c → w'.heap[g]? = w.heap[g]? ∧ ρ' g = ρ g) : RowK w' ρ' t k c v xs := by
  obtain ⟨h1, h2⟩ := h
  obtain ⟨h3, h4⟩ := h1
  rcases h4 with ⟨rfl, h5⟩ | ⟨g, cap, cur, rfl, h5, h6, h7⟩
  · exact ⟨⟨h3, .inl ⟨rfl, h5⟩⟩, fun g hg => by cases hg⟩
  · have hr := h2 g rfl
    have hlt := (Array.getElem?_eq_some_iff.1 h6).1
    obtain ⟨e1, e2⟩ := hb g hlt hr
    exact ⟨⟨h3, .inr ⟨g, cap, cur, rfl, h5, by rw [e1]; exact h6, h7⟩⟩, fun g' hg' => by cases hg'; rw [e2]; exact hr⟩
theorem RowK.nil (w : World) (ρ : Rl) (t : TypeId) (k : IntKind) (c : Nat) : RowK w ρ t k c (.slice none 0 0) [] := ⟨World.ownsRow_nil _ _ _ _, fun g hg => by cases hg⟩
theorem RowK.shape (h : RowK w ρ t k c v xs) : ∃ a q, v = .slice a xs.length q := by
  rcases h.own.2 with ⟨rfl, h0⟩ | ⟨g, cap, cur, rfl, _⟩
  · rw [h0]; exact ⟨none, 0, rfl⟩
  · exact ⟨_, _, rfl⟩
theorem RowK.get (h : RowK w ρ t k c v xs) {i x : Nat} (hx : xs[i]? = some x) : ∃ g q, v = .slice (some ⟨g, 0, none⟩) xs.length q ∧ w.cell? ⟨g, i, none⟩ = some (.int k (x : Int)) := by
  have hi := (List.getElem?_eq_some_iff.1 hx).1
  rcases h.own.2 with ⟨rfl, h0⟩ | ⟨g, cap, cur, rfl, _, hg, hn, hc, hs, ht⟩
  · omega
  · refine ⟨g, cap, rfl, ?_⟩
    have e := aK_get k hx
    rw [← ht, List.getElem?_take, if_pos (by omega)] at e
    simp [World.cell?, hg]
    simpa using e
/-- All the cells of a row, at its very address. -/
theorem RowK.src {ax : Option Addr} {n q : Nat} (h : RowK w ρ t k c (.slice ax n q) xs) : (∀ ad, ax = some ad → ∀ j u, (aK k xs)[j]? = some u → w.cell? (ad.add j) = some u) ∧ (ax = none → n = 0 ∧ q = 0) ∧ xs.length = n := by
  rcases h.own.2 with ⟨h0, h1⟩ | ⟨g, cap, cur, he, _, hg, hn, hc, hs, ht⟩
  · injection h0 with e1 e2 e3
    subst e1 e2 e3
    exact ⟨fun ad had => (by cases had), fun _ => ⟨rfl, rfl⟩, h1⟩
  · injection he with e1 e2 e3
    subst e1 e2 e3
    refine ⟨fun ad had j u hu => ?_, fun h => (by cases h), rfl⟩
    cases had
    exact h.own.cells rfl j u hu
theorem RowK.cap {ax : Option Addr} {n q : Nat} (h : RowK w ρ t k c (.slice ax n q) xs) : q ≤ maxLen ∧ n ≤ q := by
  rcases h.own.2 with ⟨h0, h1⟩ | ⟨g, cap, cur, he, h5, hg, hn, hc, hs, ht⟩
  · injection h0 with e1 e2 e3
    subst e2 e3
    exact ⟨Nat.zero_le _, Nat.le_refl _⟩
  · injection he with e1 e2 e3
    subst e2 e3
    exact ⟨by omega, by omega⟩
/-- A beginning of the row. -/
theorem RowK.cut {g n q : Nat} (h : RowK w ρ t k c (.slice (some ⟨g, 0, none⟩) n q) xs) {j : Nat} (hj : j ≤ xs.length) : RowK w ρ t k c (.slice (some ⟨g, 0, none⟩) j q) (xs.take j) := by
  rcases h.own.2 with ⟨h0, _⟩ | ⟨g', cap, cur, he, h5, hg, hn, hc, hs, ht⟩
  · cases h0
  · injection he with h1 h2 h3
    cases h1
    subst h3
    have hl : (xs.take j).length = j := by rw [List.length_take]; omega
    refine ⟨⟨by simp [aK], .inr ⟨g, q, cur, by rw [hl], h5, hg, by omega, hc, hs, ?_⟩⟩, fun g' hg' => h.role g' hg'⟩
    rw [hl]
    have : aK k (xs.take j) = (aK k xs).take j := by simp [aK, List.map_take]
    rw [this, ← ht, List.take_take]
    congr 1
    omega
theorem RowK.grow (h : RowK w ρ t k c v xs) (hd : ∀ g, ρ g ≠ 0 → g < w.heap.size) (ho : w'.ownsRow 0 t 1 v' (xs.length + ys.length) (aK k xs ++ aK k ys))
    (hk : ∀ j, j < w.heap.size → (∀ g, v.ownBlock = some g → j ≠ g) → w'.heap[j]? = w.heap[j]?) (hg : ∀ g, v'.ownBlock = some g → v.ownBlock = some g ∨ g = w.heap.size) (hs : w.heap.size ≤ w'.heap.size) :
    ∃ ρ' : Rl, RowK w' ρ' t k c v' (xs ++ ys) ∧ (∀ g, g < w.heap.size → ρ' g = ρ g) ∧ (∀ g, g < w.heap.size → ρ g ≠ c → w'.heap[g]? = w.heap[g]?) ∧ (∀ g, ρ' g ≠ 0 → g < w'.heap.size) := by
  refine ⟨fun g => if v'.ownBlock = some g then c else ρ g, ⟨?_, fun g hg' => by rw [if_pos hg']⟩, fun g hg' => ?_, fun g hg' hne => hk g hg' (fun g' hg2 e => hne (by rw [e]; exact h.role g' hg2)), fun g hg' => ?_⟩
  · rw [List.length_append]
    have e : aK k (xs ++ ys) = aK k xs ++ aK k ys := by simp [aK]
    rw [e]
    exact ho
  · dsimp only
    by_cases hb : v'.ownBlock = some g
    · rw [if_pos hb]
      rcases hg g hb with h1 | h1
      · exact (h.role g h1).symm
      · omega
    · rw [if_neg hb]
  · dsimp only at hg'
    by_cases hb : v'.ownBlock = some g
    · exact (ho.lt g hb).2
    · rw [if_neg hb] at hg'
      exact Nat.lt_of_lt_of_le (hd g hg') hs
/-- Numbers appended to a row. -/
theorem wpList_app_rowK {ops : Array Oper} {rest : List Oper} {o : Oper} {a : Act} {Q : Exit → Act → World → Prop} (hgd : o.guard = none) (s x : Operand) (t S : TypeId) (k : IntKind)
    (ho : o.op = .call { callee := .builtin .append, args := #[s, x], argTypes := #[S, S] }) (hu : Tryd.prog.underlying S = some (.slice t)) (hI : (Tryd.prog.info? t).map (fun i => (i.zero, i.size, i.bytes)) = some (some (.int k 0), 1, 8))
    (w : World) (ρ : Rl) (c : Nat) (v : Value) (xs ys : List Nat) (hs : a.eval s = v) (hA : RowK w ρ t k c v xs) (hd : ∀ g, ρ g ≠ 0 → g < w.heap.size) (ax : Option Addr) (n q : Nat) (hx : a.eval x = .slice ax n q) (hm : ys.length = n) (hm0 : ax = none → n = 0 ∧ q = 0)
    (hnews : ∀ ad, ax = some ad → ∀ j u, (aK k ys)[j]? = some u → w.cell? (ad.add j) = some u) (hb : (xs.length + n) * 8 ≤ 140737488355328)
    (h : ∀ v' w' ρ', Hid (RowK w' ρ' t k c v' (xs ++ ys)) → (∀ g, g < w.heap.size → ρ' g = ρ g) → (∀ g, g < w.heap.size → ρ g ≠ c → w'.heap[g]? = w.heap[g]?) → (∀ g, ρ' g ≠ 0 → g < w'.heap.size) → Below 0 w w' → wpList Tryd.prog ops Q rest (a.put o.dst v') w') : wpList Tryd.prog ops Q (o :: rest) a w := by
  obtain ⟨i, hi, he⟩ := Option.map_eq_some_iff.1 hI
  simp only [Prod.mk.injEq] at he
  subst hm
  refine wpList_append_row w hgd s x S ho 0 t i (.int k 0) 1 8 hu hi he.1 he.2.1 he.2.2 rfl (by decide) v xs.length (aK k xs) hs hA.own ax ys.length q (aK k ys) hx (by simp [aK]) hm0 hnews (aK_one k ys) hb (by decide) (Nat.zero_le _) ?_
  intro v' w' h1 h2 h3 h4
  obtain ⟨ρ', r1, r2, r3, r4⟩ := hA.grow hd h1 h3 h4 h2.size
  exact h v' w' ρ' (hid r1) r2 r3 r4 h2
end
theorem info_hand : (Tryd.prog.info? 39).map (fun i => (i.zero, i.size, i.bytes)) = some (some (.int .u64 0), 1, 8) := by kernel_rfl
/-- The live handles of mutator m. -/
def lvK (X : XS) (m : Nat) : List Nat := (List.range (X.tb m).ad.length).map fun s => hN (X.tb m).gen m s
structure WL where
  wB : Nat
  lm : Nat → Nat
  av : Value
def wC (hB xB : Nat) (V : WL) : List Value := [.pointer (some ⟨hB, 0, none⟩), .pointer (some ⟨xB, 0, none⟩), .map (some (V.lm 0)), .map (some (V.lm 1)), .map (some (V.lm 2)), .map (some (V.lm 3)), V.av]
/-- A live map. -/
def LvM (w : World) (g : Nat) (ks : List Nat) : Prop := ∃ E, PN w g E ∧ (∀ e ∈ E, e.v = .bool true) ∧ E.map (·.k) = ks
theorem LvM.of {w w' : World} {g : Nat} {ks : List Nat} (h : LvM w g ks) (he : w'.heap[g]? = w.heap[g]?) : LvM w' g ks := by
  obtain ⟨E, h1, h2, h3⟩ := h
  exact ⟨E, h1.of he, h2, h3⟩
theorem LvM.lt {w : World} {g : Nat} {ks : List Nat} (h : LvM w g ks) : g < w.heap.size := by
  obtain ⟨E, h1, h2, h3⟩ := h
  exact h1.lt
/-- The law's world: its heap and machine, the live maps, all the handles. -/
structure WK (w : World) (ρ : Rl) (L : HL) (T : XL) (V : WL) (H : HS) (X : XS) (ks : Nat → List Nat) (G : List Nat) : Prop where
  mm : MM w ρ L T H X
  wb : Blk w V.wB 46 (wC L.hB T.xB V)
  rw : ρ V.wB = 6
  lv : ∀ m, m < 4 → LvM w (V.lm m) (ks m)
  rl : ∀ m, m < 4 → ρ (V.lm m) = 40 + m
  al : RowK w ρ 39 .u64 44 V.av G
abbrev WM (w : World) (ρ : Rl) (L : HL) (T : XL) (V : WL) (H : HS) (X : XS) (G : List Nat) : Prop := WK w ρ L T V H X (lvK X) G
/-- The world's own roles. -/
abbrev WR (c : Nat) : Prop := XR c ∨ c = 6 ∨ (40 ≤ c ∧ c < 45)
structure Fw (ρ : Rl) (w : World) (ρ' : Rl) (w' : World) : Prop where
  os : w'.os = w.os
  tape : w'.tape = w.tape
  output : w'.output = w.output
  size : w.heap.size ≤ w'.heap.size
  old : ∀ g, g < w.heap.size → ρ' g = ρ g
  blk : ∀ g, g < w.heap.size → ¬ WR (ρ g) → w'.heap[g]? = w.heap[g]?
section
variable {w w' w'' : World} {ρ ρ' ρ'' : Rl} {L L' : HL} {T T' : XL} {V : WL} {H H' : HS} {X X' : XS} {ks ks' : Nat → List Nat} {G G' : List Nat}
theorem Fw.refl (ρ : Rl) (w : World) : Fw ρ w ρ w := ⟨rfl, rfl, rfl, Nat.le_refl _, fun _ _ => rfl, fun _ _ _ => rfl⟩
theorem Fw.trans (h : Fw ρ w ρ' w') (k : Fw ρ' w' ρ'' w'') : Fw ρ w ρ'' w'' :=
  ⟨k.os.trans h.os, k.tape.trans h.tape, k.output.trans h.output, Nat.le_trans h.size k.size, fun g hg => (k.old g (Nat.lt_of_lt_of_le hg h.size)).trans (h.old g hg), fun g hg h0 => (k.blk g (Nat.lt_of_lt_of_le hg h.size) (by rw [h.old g hg]; exact h0)).trans (h.blk g hg h0)⟩
theorem Fx.fw (h : Fx ρ w ρ' w') : Fw ρ w ρ' w' := ⟨h.os, h.tape, h.output, h.size, h.old, fun g hg h0 => h.blk g hg (fun e => h0 (.inl e))⟩
theorem Fw.below (h : Below w.heap.size w w') : Fw ρ w ρ w' := (Fx.below h).fw
theorem Fw.upd {g : Nat} (h : Upd g w w') (hg : WR (ρ g)) : Fw ρ w ρ w' := ⟨h.os, h.tape, h.output, h.size, fun _ _ => rfl, fun k hk h0 => h.block k hk (fun e => h0 (by rw [e]; exact hg))⟩
theorem Fw.fresh (h : Fw ρ w ρ' w') {g : Nat} (hu : Upd g w' w'') (hg : w.heap.size ≤ g) : Fw ρ w ρ' w'' := ⟨hu.os.trans h.os, hu.tape.trans h.tape, hu.output.trans h.output, Nat.le_trans h.size hu.size, h.old, fun k hk h0 => (hu.block k (Nat.lt_of_lt_of_le hk h.size) (by omega)).trans (h.blk k hk h0)⟩
/-- What no role tells stays. -/
theorem Fw.toBelow {B : Nat} (h : Fw ρ w ρ' w') (hB : B ≤ w.heap.size) (h0 : ∀ g, g < B → ρ g = 0) : Below B w w' := ⟨h.os, h.tape, h.output, h.size, fun g hg => h.blk g (by omega) (by rw [h0 g hg]; omega)⟩
theorem WK.dom (h : WK w ρ L T V H X ks G) : ∀ g, ρ g ≠ 0 → g < w.heap.size := h.mm.hm.dom
theorem WK.new0 (h : WK w ρ L T V H X ks G) {g : Nat} (hg : w.heap.size ≤ g) : ρ g = 0 := by
  cases hz : ρ g with
  | zero => rfl
  | succ k => have := h.dom g (by omega); omega
theorem WK.below (h : WK w ρ L T V H X ks G) (hb : Below w.heap.size w w') : WK w' ρ L T V H X ks G :=
  ⟨h.mm.below hb, h.wb.below hb, h.rw, fun m hm => (h.lv m hm).of (hb.block _ (h.lv m hm).lt), h.rl, h.al.of (fun g hg _ => ⟨hb.block g hg, rfl⟩)⟩
/-- The machine has worked. -/
theorem WK.mach (h : WK w ρ L T V H X ks G) (hm : MM w' ρ' L' T' H' X') (h1 : L'.hB = L.hB) (h2 : T'.xB = T.xB) (hf : Fx ρ w ρ' w') : WK w' ρ' L' T' V H' X' ks G := by
  have e : ∀ g, g < w.heap.size → ¬ XR (ρ g) → w'.heap[g]? = w.heap[g]? := hf.blk
  refine ⟨hm, by rw [h1, h2]; exact h.wb.of (e _ h.wb.lt (by rw [h.rw]; omega)), by rw [hf.old _ h.wb.lt]; exact h.rw, fun m hm' => ?_, fun m hm' => by rw [hf.old _ (h.lv m hm').lt]; exact h.rl m hm', h.al.of (fun g hg hr => ⟨e g hg (by omega), hf.old g hg⟩)⟩
  exact (h.lv m hm').of (e _ (h.lv m hm').lt (by rw [h.rl m hm']; omega))
/-- A block of none of the world's roles is written. -/
theorem WK.other (h : WK w ρ L T V H X ks G) {g : Nat} (hu : Upd g w w') (hg : ρ g = 0 ∨ (7 ≤ ρ g ∧ ρ g < 16) ∨ (20 ≤ ρ g ∧ ρ g < 32) ∨ (36 ≤ ρ g ∧ ρ g < 40) ∨ (45 ≤ ρ g ∧ ρ g < 64)) : WK w' ρ L T V H X ks G := by
  have e : ∀ k, k < w.heap.size → ρ k ≠ ρ g → w'.heap[k]? = w.heap[k]? := fun k hk hne => hu.block k hk (fun e => hne (by rw [e]))
  exact ⟨h.mm.other hu (by omega), h.wb.of (e _ h.wb.lt (by rw [h.rw]; omega)), h.rw, fun m hm => (h.lv m hm).of (e _ (h.lv m hm).lt (by rw [h.rl m hm]; omega)), h.rl, h.al.of (fun g' hg' hr => ⟨e g' hg' (by omega), rfl⟩)⟩
/-- The world's machine and heap, seen through its block. -/
theorem WK.cells (h : WK w ρ L T V H X ks G) : w.cell? ⟨V.wB, 0, none⟩ = some (.pointer (some ⟨L.hB, 0, none⟩)) ∧ w.cell? ⟨V.wB, 1, none⟩ = some (.pointer (some ⟨T.xB, 0, none⟩)) ∧ w.cell? ⟨V.wB, 6, none⟩ = some V.av := ⟨h.wb.cell 0, h.wb.cell 1, h.wb.cell 6⟩
theorem WK.lcell (h : WK w ρ L T V H X ks G) {m : Nat} (hm : m < 4) : w.cell? ⟨V.wB, 2 + m, none⟩ = some (.map (some (V.lm m))) := by
  rw [h.wb.cell]
  rcases (by omega : m = 0 ∨ m = 1 ∨ m = 2 ∨ m = 3) with rfl | rfl | rfl | rfl <;> rfl
/-- Every block with a role stays. -/
theorem WK.keep (h : WK w ρ L T V H X ks G) (hs : w.heap.size ≤ w'.heap.size) (hb : ∀ g, g < w.heap.size → ρ g ≠ 0 → w'.heap[g]? = w.heap[g]?) : WK w' ρ L T V H X ks G := by
  refine ⟨⟨h.mm.hm.keep hs (fun g hg h0 => ⟨hb g hg h0, rfl⟩) (fun g hg => Nat.lt_of_lt_of_le (h.dom g hg) hs), h.mm.xb.of (hb _ h.mm.xb.lt (by rw [h.mm.rx]; omega)), h.mm.rx, fun m hm => (h.mm.tr m hm).of (fun g hg hr => ⟨hb g hg (by omega), rfl⟩)⟩, h.wb.of (hb _ h.wb.lt (by rw [h.rw]; omega)), h.rw, fun m hm => (h.lv m hm).of (hb _ (h.lv m hm).lt (by rw [h.rl m hm]; omega)), h.rl, h.al.of (fun g hg hr => ⟨hb g hg (by omega), rfl⟩)⟩
/-- What a world's work leaves. -/
def WO (w : World) (ρ : Rl) (L : HL) (T : XL) (V : WL) (H : HS) (X : XS) (ks : Nat → List Nat) (G : List Nat) (w' : World) : Prop := ∃ ρ' L' T' V', WK w' ρ' L' T' V' H X ks G ∧ V'.wB = V.wB ∧ L'.hB = L.hB ∧ T'.xB = T.xB ∧ Fw ρ w ρ' w'
abbrev XBk := Nat × TypeId × List Value
/-- A world and some blocks beside it. -/
structure EB (w : World) (ρ : Rl) (L : HL) (T : XL) (V : WL) (H : HS) (X : XS) (ks : Nat → List Nat) (G : List Nat) (xs : List XBk) (wz : World) : Prop where
  ex : ∃ ρ' L' T' V', WK wz ρ' L' T' V' H X ks G ∧ V'.wB = V.wB ∧ L'.hB = L.hB ∧ T'.xB = T.xB ∧ Fw ρ w ρ' wz ∧ ∀ x ∈ xs, ρ' x.1 = 0
  bl : ∀ x ∈ xs, Blk wz x.1 x.2.1 x.2.2 ∧ w.heap.size ≤ x.1
  nd : (xs.map (·.1)).Nodup
variable {xs : List XBk} {wz : World}
theorem EB.start (h : WK w ρ L T V H X ks G) : EB w ρ L T V H X ks G [] w := ⟨⟨ρ, L, T, V, h, rfl, rfl, rfl, Fw.refl _ _, fun x hx => (by cases hx)⟩, fun x hx => (by cases hx), List.nodup_nil⟩
theorem EB.below (h : EB w ρ L T V H X ks G xs wz) (hb : Below wz.heap.size wz w'') : EB w ρ L T V H X ks G xs w'' := by
  obtain ⟨⟨ρ', L', T', V', h1, h2, h3, h4, h5, h6⟩, h7, h8⟩ := h
  exact ⟨⟨ρ', L', T', V', h1.below hb, h2, h3, h4, h5.trans (Fw.below hb), h6⟩, fun x hx => ⟨(h7 x hx).1.below hb, (h7 x hx).2⟩, h8⟩
theorem EB.alloc (h : EB w ρ L T V H X ks G xs wz) (cs : List Value) (t : TypeId) : EB w ρ L T V H X ks G ((wz.heap.size, t, cs) :: xs) (wz.alloc (.cells cs.toArray t)) := by
  have hb := nbel wz (.cells cs.toArray t)
  obtain ⟨⟨ρ', L', T', V', h1, h2, h3, h4, h5, h6⟩, h7, h8⟩ := h
  refine ⟨⟨ρ', L', T', V', h1.below hb, h2, h3, h4, h5.trans (Fw.below hb), fun x hx => ?_⟩, fun x hx => ?_, ?_⟩
  · rcases List.mem_cons.1 hx with rfl | hx
    · exact h1.new0 (Nat.le_refl _)
    · exact h6 x hx
  · rcases List.mem_cons.1 hx with rfl | hx
    · exact ⟨Blk.new wz cs t, h5.size⟩
    · exact ⟨(h7 x hx).1.below hb, (h7 x hx).2⟩
  · rw [List.map_cons, List.nodup_cons]
    refine ⟨fun hm => ?_, h8⟩
    obtain ⟨x, hx, he⟩ := List.mem_map.1 hm
    have := (h7 x hx).1.lt
    omega
theorem EB.set (h : EB w ρ L T V H X ks G xs wz) {i g : Nat} {t : TypeId} {cs cs' : List Value} (hi : xs[i]? = some (g, t, cs)) (hb : Blk w'' g t cs') (hu : Upd g wz w'') : EB w ρ L T V H X ks G (xs.set i (g, t, cs')) w'' := by
  obtain ⟨⟨ρ', L', T', V', h1, h2, h3, h4, h5, h6⟩, h7, h8⟩ := h
  have hm := List.mem_of_getElem? hi
  have hlt := (List.getElem?_eq_some_iff.1 hi).1
  have hmem : ∀ x, x ∈ xs.set i (g, t, cs') → x = (g, t, cs') ∨ (x ∈ xs ∧ x.1 ≠ g) := by
    intro x hx
    obtain ⟨j, hj⟩ := List.mem_iff_getElem?.1 hx
    by_cases hij : j = i
    · subst hij
      rw [List.getElem?_set_self hlt] at hj
      exact .inl (Option.some.inj hj).symm
    · rw [List.getElem?_set_ne (fun e => hij e.symm)] at hj
      refine .inr ⟨List.mem_of_getElem? hj, fun e => hij ?_⟩
      have e1 : (xs.map (·.1))[j]? = some g := by rw [List.getElem?_map, hj]; simp [e]
      have e2 : (xs.map (·.1))[i]? = some g := by rw [List.getElem?_map, hi]; rfl
      obtain ⟨l1, l2⟩ := List.getElem?_eq_some_iff.1 e1
      obtain ⟨l3, l4⟩ := List.getElem?_eq_some_iff.1 e2
      exact (List.getElem_inj h8).1 (l2.trans l4.symm)
  refine ⟨⟨ρ', L', T', V', h1.other hu (.inl (h6 _ hm)), h2, h3, h4, h5.fresh hu (h7 _ hm).2, fun x hx => ?_⟩, fun x hx => ?_, ?_⟩
  · rcases hmem x hx with rfl | ⟨hx, _⟩
    · exact h6 (g, t, cs) hm
    · exact h6 x hx
  · rcases hmem x hx with rfl | ⟨hx, hne⟩
    · exact ⟨hb, (h7 _ hm).2⟩
    · exact ⟨(h7 x hx).1.upd hu hne, (h7 x hx).2⟩
  · have : (xs.set i (g, t, cs')).map (·.1) = xs.map (·.1) := by
      apply List.ext_getElem?
      intro j
      rw [List.getElem?_map, List.getElem?_map]
      by_cases hij : j = i
      · subst hij
        rw [List.getElem?_set_self hlt, hi]; rfl
      · rw [List.getElem?_set_ne (fun e => hij e.symm)]
    rw [this]
    exact h8
/-- The world has worked. -/
theorem EB.run (h : EB w ρ L T V H X ks G xs wz) (k : ∀ ρ' L' T' V', WK wz ρ' L' T' V' H X ks G → V'.wB = V.wB → L'.hB = L.hB → T'.xB = T.xB → WO wz ρ' L' T' V' H' X' ks' G' w'') : EB w ρ L T V H' X' ks' G' xs w'' := by
  obtain ⟨⟨ρ', L', T', V', h1, h2, h3, h4, h5, h6⟩, h7, h8⟩ := h
  obtain ⟨ρ2, L2, T2, V2, k1, k2, k3, k4, k5⟩ := k ρ' L' T' V' h1 h2 h3 h4
  exact ⟨⟨ρ2, L2, T2, V2, k1, k2.trans h2, k3.trans h3, k4.trans h4, h5.trans k5, fun x hx => by rw [k5.old _ (h7 x hx).1.lt]; exact h6 x hx⟩, fun x hx => ⟨(h7 x hx).1.of (k5.blk _ (h7 x hx).1.lt (by rw [h6 x hx]; omega)), (h7 x hx).2⟩, h8⟩
theorem EB.out (h : EB w ρ L T V H X ks G xs wz) : WO w ρ L T V H X ks G wz := by
  obtain ⟨ρ', L', T', V', h1, h2, h3, h4, h5, h6⟩ := h.ex
  exact ⟨ρ', L', T', V', h1, h2, h3, h4, h5⟩
theorem EB.cells (h : EB w ρ L T V H X ks G xs wz) : wz.cell? ⟨V.wB, 0, none⟩ = some (.pointer (some ⟨L.hB, 0, none⟩)) ∧ wz.cell? ⟨V.wB, 1, none⟩ = some (.pointer (some ⟨T.xB, 0, none⟩)) := by
  obtain ⟨ρ', L', T', V', h1, h2, h3, h4, h5, h6⟩ := h.ex
  have := h1.cells
  rw [h2, h3, h4] at this
  exact ⟨this.1, this.2.1⟩
end
end Go.Proofs.Qxb6500889aDoor
