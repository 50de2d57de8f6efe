/- Own rows of structs; a view under way in memory. -/
import Derived.Test.Qxb6500892aDoorTqPinM
namespace Go.Proofs.Qxb6500892aDoor
open Go.RowKit
set_option linter.unusedSimpArgs false
set_option linter.unusedVariables false

/-- A live entry, as a view shows it. -/
structure TEnt where
  slot : Int
  key : Int
  pins : Int
  neg : Bool
  deriving DecidableEq
instance : Inhabited TEnt := ⟨⟨0, 0, 0, false⟩⟩
def entC (t : TEnt) : List Value := [.int .i64 t.slot, .int .u64 t.key, .int .i64 t.pins, .bool t.neg]
def keyC (k : Nat) : List Value := [.int .u64 (k : Int)]
def entOf (s : ES) (i : Nat) : TEnt := ⟨i, s.key i, s.pin i, s.neg i⟩
theorem entC_one (t : TEnt) : ∀ u ∈ entC t, u.oneCell' = true := fun u hu => by
  simp only [entC, List.mem_cons, List.not_mem_nil, or_false] at hu
  rcases hu with rfl | rfl | rfl | rfl <;> rfl
theorem keyC_one (k : Nat) : ∀ u ∈ keyC k, u.oneCell' = true := fun u hu => by
  simp only [keyC, List.mem_cons, List.not_mem_nil, or_false] at hu
  rcases hu with rfl
  rfl
theorem entOf_cells (s : ES) (i : Nat) (h : s.whr i ≠ 0) : [enC s i 0, enC s i 1, enC s i 2, enC s i 3] = entC (entOf s i) := by
  have hl : lv s i = true := decide_eq_true h
  simp [enC, entC, entOf, hl]
theorem info_u64z : ∃ i, Tryd.prog.info? 29 = some i ∧ i.zero = some (.int .u64 0) ∧ i.size = 1 ∧ i.bytes = 8 := by
  have h : (Tryd.prog.info? 29).map (fun i => (i.zero, i.size, i.bytes)) = some (some (.int .u64 0), 1, 8) := by kernel_rfl
  obtain ⟨i, hi, he⟩ := Option.map_eq_some_iff.1 h
  simp only [Prod.mk.injEq] at he
  exact ⟨i, hi, he.1, he.2.1, he.2.2⟩
/-- A row that the call itself made. -/
def OR {α : Type} (w : World) (base : Nat) (e : TypeId) (sz : Nat) (f : α → List Value) (v : Value) (l : List α) : Prop := w.ownsRow base e sz v l.length (l.flatMap f)
section
variable {α : Type} {w w' : World} {base : Nat} {e : TypeId} {sz : Nat} {f : α → List Value} {v : Value} {l : List α}
theorem OR.nil (w : World) (base : Nat) (e : TypeId) (sz : Nat) (f : α → List Value) : OR w base e sz f (.slice none 0 0) [] := World.ownsRow_nil _ _ _ _
theorem OR.keep (h : OR w base e sz f v l) (hk : ∀ g, v.ownBlock = some g → w'.heap[g]? = w.heap[g]?) : OR w' base e sz f v l := by
  refine ⟨h.1, ?_⟩
  rcases h.2 with h2 | ⟨g, cap, cur, h2, h3, h4, h5⟩
  · exact .inl h2
  · exact .inr ⟨g, cap, cur, h2, h3, by rw [hk g (by rw [h2]; rfl)]; exact h4, h5⟩
theorem OR.blk (h : OR w base e sz f v l) {g : Nat} (hg : v.ownBlock = some g) : base ≤ g ∧ ∃ cs, Blk w g e cs := by
  rcases h.2 with ⟨h2, _⟩ | ⟨g', cap, cur, h2, h3, h4, h5⟩
  · rw [h2] at hg; cases hg
  · rw [h2] at hg
    obtain rfl : g' = g := by simpa [Value.ownBlock] using hg
    exact ⟨h3, cur.toList, h4⟩
theorem OR.shape (h : OR w base e sz f v l) : ∃ a n c, v = .slice a n c := by
  rcases h.2 with ⟨h2, _⟩ | ⟨g', cap, cur, h2, _⟩
  · exact ⟨_, _, _, h2⟩
  · exact ⟨_, _, _, h2⟩
theorem OR.lt (h : OR w base e sz f v l) {g : Nat} (hg : v.ownBlock = some g) : g < w.heap.size := by
  obtain ⟨_, cs, hb⟩ := h.blk hg
  exact hb.lt
theorem OR.below (h : OR w base e sz f v l) (hb : Below w.heap.size w w') : OR w' base e sz f v l := h.keep fun g hg => hb.block g (h.lt hg)
theorem OR.row (h : OR w base e sz f v l) (hsz : 0 < sz) (hf : ∀ x, (f x).length = sz) (hb : l.length ≤ 140737488351232) : ∃ a n c, v = .slice a n c ∧ RowOf w sz f a n c l := ownsRow_row hsz hf hb h
theorem flatMap_snoc (f : α → List Value) (l : List α) (x : α) : l.flatMap f ++ f x = (l ++ [x]).flatMap f := by simp
end
theorem Blk.same {w w' : World} {g : Nat} {t : TypeId} {cs : List Value} (h : Blk w g t cs) (hk : w'.heap[g]? = w.heap[g]?) : Blk w' g t cs := by
  unfold Blk at h ⊢
  rw [hk]
  exact h
theorem Upd.other {g : Nat} {w w' : World} (h : Upd g w w') {k : Nat} (hk : k < w.heap.size) (hne : k ≠ g) : w'.heap[k]? = w.heap[k]? := h.block k hk hne
/-- What an append to an own row leaves. -/
structure App {α : Type} (base : Nat) (e : TypeId) (sz : Nat) (f : α → List Value) (v : Value) (l : List α) (w : World) (v' : Value) (w' : World) : Prop where
  ow : OR w' base e sz f v' l
  bel : Below base w w'
  keep : ∀ k, k < w.heap.size → (∀ g, v.ownBlock = some g → k ≠ g) → w'.heap[k]? = w.heap[k]?
  blk : ∀ g, v'.ownBlock = some g → v.ownBlock = some g ∨ g = w.heap.size
abbrev nilS : Value := .slice none 0 0
/-- A view under way: its struct in p3, the result's in p2. -/
structure VM (e gn gb : Nat) (s : ES) (w0 : World) (p2 p3 : Nat) (v1 v2 v3 : Value) (l1 l2 : List TEnt) (l3 : List Nat) (w : World) : Prop where
  em : EM e gn gb s w
  bel : Below w0.heap.size w0 w
  b2 : Blk w p2 41 [.slice none 0 0, .slice none 0 0, .slice none 0 0]
  b3 : Blk w p3 41 [v1, v2, v3]
  o1 : OR w w0.heap.size 64 4 entC v1 l1
  o2 : OR w w0.heap.size 64 4 entC v2 l2
  o3 : OR w w0.heap.size 29 1 keyC v3 l3
  sp : ∀ g, v1.ownBlock = some g → v2.ownBlock ≠ some g
  g2 : w0.heap.size ≤ p2
  g3 : w0.heap.size ≤ p3
  ne : p2 ≠ p3
section
variable {e gn gb : Nat} {s : ES} {w0 : World} {p2 p3 : Nat} {v1 v2 v3 v' : Value} {l1 l2 : List TEnt} {l3 : List Nat} {w w' : World}
theorem VM.below (h : VM e gn gb s w0 p2 p3 v1 v2 v3 l1 l2 l3 w) (hb : Below w.heap.size w w') : VM e gn gb s w0 p2 p3 v1 v2 v3 l1 l2 l3 w' :=
  ⟨h.em.below hb, h.bel.trans (hb.mono h.bel.size), h.b2.below hb, h.b3.below hb, h.o1.below hb, h.o2.below hb, h.o3.below hb, h.sp, h.g2, h.g3, h.ne⟩
/-- A world that keeps all but the blocks of one element type. -/
theorem EM.keepT (h : EM e gn gb s w) {t : TypeId} {cs : Nat → List Value} {P : Nat → Prop} (hP : ∀ g, P g → Blk w g t (cs g)) (h1 : t ≠ 84) (h2 : t ≠ 86) (h3 : t ≠ 21) (hk : ∀ k, k < w.heap.size → ¬ P k → w'.heap[k]? = w.heap[k]?) : EM e gn gb s w' :=
  ⟨h.eb.same (hk _ h.eb.lt fun hp => (hP _ hp).tne h.eb h1 rfl), h.nb.same (hk _ h.nb.lt fun hp => (hP _ hp).tne h.nb h2 rfl), h.bb.same (hk _ h.bb.lt fun hp => (hP _ hp).tne h.bb h3 rfl)⟩
theorem App.bel2 {α : Type} {base : Nat} {e : TypeId} {sz : Nat} {f : α → List Value} {v : Value} {l : List α} {w : World} {v' : Value} {w' : World} (h : App base e sz f v l w v' w') : w.heap.size ≤ w'.heap.size := h.bel.size
theorem VM.app1 (h : VM e gn gb s w0 p2 p3 v1 v2 v3 l1 l2 l3 w) {x : TEnt} (ha : App w0.heap.size 64 4 entC v1 (l1 ++ [x]) w v' w') : VM e gn gb s w0 p2 p3 v' v2 v3 (l1 ++ [x]) l2 l3 (w'.setCell ⟨p3, 0, none⟩ v') := by
  have kt : ∀ k t cs, Blk w k t cs → t ≠ 64 → Blk w' k t cs := fun k t cs hb ht => hb.same (ha.keep k hb.lt fun g hg e => by subst e; obtain ⟨_, c2, b2⟩ := h.o1.blk hg; exact hb.tne b2 ht rfl)
  have k2 := kt _ _ _ h.b2 (by decide)
  have k3 := kt _ _ _ h.b3 (by decide)
  have e1 := kt _ _ _ h.em.eb (by decide)
  have e2 := kt _ _ _ h.em.nb (by decide)
  have e3 := kt _ _ _ h.em.bb (by decide)
  have hu : Upd p3 w' (w'.setCell ⟨p3, 0, none⟩ v') := (Upd.refl p3 w').setCell rfl _
  have hs := ha.bel.size
  exact ⟨⟨e1.upd hu (e1.tne k3 (by decide)), e2.upd hu (e2.tne k3 (by decide)), e3.upd hu (e3.tne k3 (by decide))⟩, (h.bel.trans ha.bel).trans (hu.below h.g3 (Nat.le_trans h.bel.size hs)), k2.upd hu h.ne, k3.set 0 v',
    ha.ow.keep (fun g hg => hu.block g (ha.ow.lt hg) (fun e => by obtain ⟨_, cs, hb⟩ := ha.ow.blk hg; exact hb.tne k3 (by decide) e)),
    (h.o2.keep (w' := w') (fun g hg => by rw [ha.keep g (h.o2.lt hg) (fun g' hg' e => by subst e; exact h.sp g hg' hg)])).keep (fun g hg => hu.block g (Nat.lt_of_lt_of_le (h.o2.lt hg) ha.bel2) (fun e => by obtain ⟨_, cs, hb⟩ := h.o2.blk hg; exact hb.tne h.b3 (by decide) e)),
    (h.o3.keep (w' := w') (fun g hg => by rw [ha.keep g (h.o3.lt hg) (fun g' hg' e => by subst e; obtain ⟨_, c1, b1⟩ := h.o3.blk hg; obtain ⟨_, c2, b2⟩ := h.o1.blk hg'; exact b1.tne b2 (by decide) rfl)])).keep (fun g hg => hu.block g (Nat.lt_of_lt_of_le (h.o3.lt hg) ha.bel2) (fun e => by obtain ⟨_, cs, hb⟩ := h.o3.blk hg; exact hb.tne h.b3 (by decide) e)),
    fun g hg h2 => by rcases ha.blk g hg with h3 | h3; exact h.sp g h3 h2; have := h.o2.lt h2; omega, h.g2, h.g3, h.ne⟩
theorem VM.app2 (h : VM e gn gb s w0 p2 p3 v1 v2 v3 l1 l2 l3 w) {x : TEnt} (ha : App w0.heap.size 64 4 entC v2 (l2 ++ [x]) w v' w') : VM e gn gb s w0 p2 p3 v1 v' v3 l1 (l2 ++ [x]) l3 (w'.setCell ⟨p3, 1, none⟩ v') := by
  have kt : ∀ k t cs, Blk w k t cs → t ≠ 64 → Blk w' k t cs := fun k t cs hb ht => hb.same (ha.keep k hb.lt fun g hg e => by subst e; obtain ⟨_, c2, b2⟩ := h.o2.blk hg; exact hb.tne b2 ht rfl)
  have k2 := kt _ _ _ h.b2 (by decide)
  have k3 := kt _ _ _ h.b3 (by decide)
  have e1 := kt _ _ _ h.em.eb (by decide)
  have e2 := kt _ _ _ h.em.nb (by decide)
  have e3 := kt _ _ _ h.em.bb (by decide)
  have hu : Upd p3 w' (w'.setCell ⟨p3, 1, none⟩ v') := (Upd.refl p3 w').setCell rfl _
  have hs := ha.bel.size
  exact ⟨⟨e1.upd hu (e1.tne k3 (by decide)), e2.upd hu (e2.tne k3 (by decide)), e3.upd hu (e3.tne k3 (by decide))⟩, (h.bel.trans ha.bel).trans (hu.below h.g3 (Nat.le_trans h.bel.size hs)), k2.upd hu h.ne, k3.set 1 v',
    (h.o1.keep (w' := w') (fun g hg => by rw [ha.keep g (h.o1.lt hg) (fun g' hg' e => by subst e; exact h.sp g hg hg')])).keep (fun g hg => hu.block g (Nat.lt_of_lt_of_le (h.o1.lt hg) ha.bel2) (fun e => by obtain ⟨_, cs, hb⟩ := h.o1.blk hg; exact hb.tne h.b3 (by decide) e)),
    ha.ow.keep (fun g hg => hu.block g (ha.ow.lt hg) (fun e => by obtain ⟨_, cs, hb⟩ := ha.ow.blk hg; exact hb.tne k3 (by decide) e)),
    (h.o3.keep (w' := w') (fun g hg => by rw [ha.keep g (h.o3.lt hg) (fun g' hg' e => by subst e; obtain ⟨_, c1, b1⟩ := h.o3.blk hg; obtain ⟨_, c2, b2⟩ := h.o2.blk hg'; exact b1.tne b2 (by decide) rfl)])).keep (fun g hg => hu.block g (Nat.lt_of_lt_of_le (h.o3.lt hg) ha.bel2) (fun e => by obtain ⟨_, cs, hb⟩ := h.o3.blk hg; exact hb.tne h.b3 (by decide) e)),
    fun g h2 hg => by rcases ha.blk g hg with h3 | h3; exact h.sp g h2 h3; have := h.o1.lt h2; omega, h.g2, h.g3, h.ne⟩
theorem VM.app3 (h : VM e gn gb s w0 p2 p3 v1 v2 v3 l1 l2 l3 w) {x : Nat} (ha : App w0.heap.size 29 1 keyC v3 (l3 ++ [x]) w v' w') : VM e gn gb s w0 p2 p3 v1 v2 v' l1 l2 (l3 ++ [x]) (w'.setCell ⟨p3, 2, none⟩ v') := by
  have kt : ∀ k t cs, Blk w k t cs → t ≠ 29 → Blk w' k t cs := fun k t cs hb ht => hb.same (ha.keep k hb.lt fun g hg e => by subst e; obtain ⟨_, c2, b2⟩ := h.o3.blk hg; exact hb.tne b2 ht rfl)
  have k2 := kt _ _ _ h.b2 (by decide)
  have k3 := kt _ _ _ h.b3 (by decide)
  have e1 := kt _ _ _ h.em.eb (by decide)
  have e2 := kt _ _ _ h.em.nb (by decide)
  have e3 := kt _ _ _ h.em.bb (by decide)
  have hu : Upd p3 w' (w'.setCell ⟨p3, 2, none⟩ v') := (Upd.refl p3 w').setCell rfl _
  have hs := ha.bel.size
  exact ⟨⟨e1.upd hu (e1.tne k3 (by decide)), e2.upd hu (e2.tne k3 (by decide)), e3.upd hu (e3.tne k3 (by decide))⟩, (h.bel.trans ha.bel).trans (hu.below h.g3 (Nat.le_trans h.bel.size hs)), k2.upd hu h.ne, k3.set 2 v',
    (h.o1.keep (w' := w') (fun g hg => by rw [ha.keep g (h.o1.lt hg) (fun g' hg' e => by subst e; obtain ⟨_, c1, b1⟩ := h.o1.blk hg; obtain ⟨_, c2, b2⟩ := h.o3.blk hg'; exact b1.tne b2 (by decide) rfl)])).keep (fun g hg => hu.block g (Nat.lt_of_lt_of_le (h.o1.lt hg) ha.bel2) (fun e => by obtain ⟨_, cs, hb⟩ := h.o1.blk hg; exact hb.tne h.b3 (by decide) e)),
    (h.o2.keep (w' := w') (fun g hg => by rw [ha.keep g (h.o2.lt hg) (fun g' hg' e => by subst e; obtain ⟨_, c1, b1⟩ := h.o2.blk hg; obtain ⟨_, c2, b2⟩ := h.o3.blk hg'; exact b1.tne b2 (by decide) rfl)])).keep (fun g hg => hu.block g (Nat.lt_of_lt_of_le (h.o2.lt hg) ha.bel2) (fun e => by obtain ⟨_, cs, hb⟩ := h.o2.blk hg; exact hb.tne h.b3 (by decide) e)),
    ha.ow.keep (fun g hg => hu.block g (ha.ow.lt hg) (fun e => by obtain ⟨_, cs, hb⟩ := ha.ow.blk hg; exact hb.tne k3 (by decide) e)),
    h.sp, h.g2, h.g3, h.ne⟩
end
end Go.Proofs.Qxb6500892aDoor
