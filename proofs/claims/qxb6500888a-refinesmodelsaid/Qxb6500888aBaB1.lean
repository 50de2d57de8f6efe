/- The barrier in memory. -/
import Derived.Test.Qxb6500888aBaG6
namespace Go.Proofs.Qxb6500888a
open Go.RowKit
set_option linter.unusedSimpArgs false
set_option linter.unusedVariables false

/-- The barrier's plain state. -/
structure BS where
  logs : Nat → List (Nat × Nat)
  roots : Nat → List Nat
  fresh : Nat → List Nat
  made : Nat
  last : List Nat
  tr : Nat
  ep : Nat
/-- Where it lies. -/
structure BL where
  bB : Nat
  sg : Nat → List Nat
  fs : List Nat
  fv : Nat → Value
  lv : Value
  sv : Value
def ptrO : Option Nat → Value
  | none => .pointer none
  | some g => .pointer (some ⟨g, 0, none⟩)
/-- A mutator's cells. -/
def mF (T : BL) (B : BS) (m j : Nat) : Value :=
  if j = 0 then ptrO (T.sg m).head? else if j = 1 then ptrO (T.sg m).getLast? else if j = 2 then .int .i64 ((B.logs m).length : Int)
  else if j < 67 then .int .u64 (((B.roots m).getD (j - 3) 0 : Nat) : Int) else if j = 67 then .int .i64 ((B.roots m).length : Int) else T.fv m
/-- The barrier's cells behind the mutators'. -/
def eF (T : BL) (B : BS) (i : Nat) : Value :=
  if i = 279 then ptrO T.fs.head? else if i = 280 then .int .i64 (B.made : Int) else if i = 281 then T.lv else if i = 282 then T.sv else if i = 283 then .int .u8 (B.tr : Int) else .int .u64 (B.ep : Int)
def bF (L : GL) (T : BL) (B : BS) (i : Nat) : Value :=
  if i = 0 then .pointer (some ⟨L.hB, 0, none⟩) else if i = 1 then .pointer (some ⟨L.sB, 0, none⟩) else if i = 2 then .pointer (some ⟨L.cB, 0, none⟩)
  else if i < 279 then mF T B ((i - 3) / 69) ((i - 3) % 69) else eF T B i
theorem bF_m (L : GL) (T : BL) (B : BS) {m j : Nat} (hm : m < 4) (hj : j < 69) : bF L T B (3 + m * 69 + j) = mF T B m j := by
  unfold bF
  rw [if_neg (by omega), if_neg (by omega), if_neg (by omega), if_pos (by omega)]
  congr 1
  · omega
  · omega
theorem bF_e (L : GL) (T : BL) (B : BS) {i : Nat} (hi : 279 ≤ i) : bF L T B i = eF T B i := by
  unfold bF
  rw [if_neg (by omega), if_neg (by omega), if_neg (by omega), if_neg (by omega)]
/-- A mutator's cell is written. -/
theorem bF_setM (L : GL) {T T' : BL} {B B' : BS} {m j : Nat} {v : Value} (hm : m < 4) (hj : j < 69) (h1 : mF T' B' m j = v) (h2 : ∀ m' j', m' < 4 → j' < 69 → (m' ≠ m ∨ j' ≠ j) → mF T' B' m' j' = mF T B m' j') (h3 : ∀ i, 279 ≤ i → eF T' B' i = eF T B i) :
    (fnC 285 (bF L T B)).set (3 + m * 69 + j) v = fnC 285 (bF L T' B') := by
  rw [fnC_set _ (by omega)]
  apply fnC_congr
  intro i hi
  by_cases e : i = 3 + m * 69 + j
  · subst e
    rw [fup_self, bF_m L T' B' hm hj, h1]
  · rw [fup_ne _ _ e]
    by_cases e2 : i < 279
    · by_cases e3 : i < 3
      · unfold bF
        rcases (by omega : i = 0 ∨ i = 1 ∨ i = 2) with rfl | rfl | rfl <;> rfl
      · obtain ⟨m', j', hm', hj', rfl⟩ : ∃ m' j', m' < 4 ∧ j' < 69 ∧ i = 3 + m' * 69 + j' := ⟨(i - 3) / 69, (i - 3) % 69, by omega, by omega, by omega⟩
        rw [bF_m L T B hm' hj', bF_m L T' B' hm' hj']
        refine (h2 m' j' hm' hj' ?_).symm
        by_cases e4 : m' = m
        · subst e4; exact .inr (fun e5 => e (by rw [e5]))
        · exact .inl e4
    · rw [bF_e L T B (by omega), bF_e L T' B' (by omega)]
      exact (h3 i (by omega)).symm
/-- Another cell is written. -/
theorem bF_setE (L : GL) {T T' : BL} {B B' : BS} {k : Nat} {v : Value} (hk : 279 ≤ k) (hk2 : k < 285) (h1 : eF T' B' k = v) (h2 : ∀ m j, m < 4 → j < 69 → mF T' B' m j = mF T B m j) (h3 : ∀ i, 279 ≤ i → i < 285 → i ≠ k → eF T' B' i = eF T B i) :
    (fnC 285 (bF L T B)).set k v = fnC 285 (bF L T' B') := by
  rw [fnC_set _ hk2]
  apply fnC_congr
  intro i hi
  by_cases e : i = k
  · subst e
    rw [fup_self, bF_e L T' B' hk, h1]
  · rw [fup_ne _ _ e]
    by_cases e2 : i < 279
    · by_cases e3 : i < 3
      · unfold bF
        rcases (by omega : i = 0 ∨ i = 1 ∨ i = 2) with rfl | rfl | rfl <;> rfl
      · obtain ⟨m', j', hm', hj', rfl⟩ : ∃ m' j', m' < 4 ∧ j' < 69 ∧ i = 3 + m' * 69 + j' := ⟨(i - 3) / 69, (i - 3) % 69, by omega, by omega, by omega⟩
        rw [bF_m L T B hm' hj', bF_m L T' B' hm' hj', h2 m' j' hm' hj']
    · rw [bF_e L T B (by omega), bF_e L T' B' (by omega)]
      exact (h3 i (by omega) hi e).symm
theorem bF_same {L L' : GL} (T : BL) (B : BS) (h : L.Same L') : bF L' T B = bF L T B := by
  funext i
  unfold bF
  rw [h.hB, h.sB, h.cB]
/-- A segment's cells: its entries, how many are used, the next segment. -/
def sgF (c : Nat → Nat) (u : Nat) (nx : Option Nat) : Nat → Value := fun i => if i < 32 then .int .u64 (c i : Int) else if i = 32 then .int .i64 (u : Int) else ptrO nx
/-- A chain of segments that holds a log. -/
structure Chn (w : World) (ids : List Nat) (lg : List (Nat × Nat)) : Prop where
  len : ids.length = (lg.length + 15) / 16
  sg : ∀ i s, ids[i]? = some s → ∃ c, Blk w s 152 (fnC 34 (sgF c (min 16 (lg.length - 16 * i)) ids[i + 1]?)) ∧ ∀ j p, j < 16 → lg[16 * i + j]? = some p → c (2 * j) = p.1 ∧ c (2 * j + 1) = p.2
/-- A chain of empty segments. -/
def Fre (w : World) (ids : List Nat) : Prop := ∀ i s, ids[i]? = some s → ∃ c, Blk w s 152 (fnC 34 (sgF c 0 ids[i + 1]?))
def allS (T : BL) : List Nat := T.sg 0 ++ (T.sg 1 ++ (T.sg 2 ++ (T.sg 3 ++ T.fs)))
theorem allS_m {T : BL} {m : Nat} (hm : m < 4) {s : Nat} (h : s ∈ T.sg m) : s ∈ allS T := by
  unfold allS
  rcases (by omega : m = 0 ∨ m = 1 ∨ m = 2 ∨ m = 3) with rfl | rfl | rfl | rfl <;> simp [h]
theorem allS_f {T : BL} {s : Nat} (h : s ∈ T.fs) : s ∈ allS T := by unfold allS; simp [h]
/-- The barrier in memory; x < 4: the log of mutator x may be open; x = 5: the spare list may be. -/
structure BMx (x : Nat) (w : World) (ρ : Rl) (L : GL) (T : BL) (G : GS) (B : BS) : Prop where
  gm : GM w ρ L G
  bb : Blk w T.bB 137 (fnC 285 (bF L T B))
  rb : ρ T.bB = 12
  fr : ∀ m, m < 4 → RowX rtA w ρ (16 + m) (T.fv m) (B.fresh m)
  lr : RowX rtA w ρ 13 T.lv B.last
  sp : x ≠ 5 → RowX rtA w ρ 13 T.sv []
  ls : x ≠ 5 → ∀ g, T.lv.ownBlock = some g → T.sv.ownBlock ≠ some g
  sg : ∀ m, m < 4 → m ≠ x → Chn w (T.sg m) (B.logs m)
  fs : Fre w T.fs
  nd : (allS T).Nodup
  rs : ∀ s ∈ allS T, ρ s = 14
  rl : ∀ m, (B.roots m).length ≤ 64
  md : 4 ≤ x → B.made = (allS T).length
abbrev BM := BMx 4
/-- The machine's roles. -/
def bX (c : Nat) : Bool := decide (1 ≤ c ∧ c ≤ 31)
theorem bX_g {c : Nat} (h : gX c = true) : bX c = true := by
  have := of_decide_eq_true h
  exact decide_eq_true (by omega)
theorem bX_of {r c : Nat} (hr : 1 ≤ r ∧ r ≤ 31) (h : (c == r) = true) : bX c = true := by
  have : c = r := by simpa using h
  subst this
  exact decide_eq_true hr
section
variable {x : Nat} {X : Nat → Bool} {w w' : World} {ρ ρ' : Rl} {L L' : GL} {T T' : BL} {G G' : GS} {B B' : BS}
theorem Chn.fr {ids : List Nat} {lg : List (Nat × Nat)} (h : Chn w ids lg) (hk : ∀ s ∈ ids, w'.heap[s]? = w.heap[s]?) : Chn w' ids lg := by
  refine ⟨h.len, fun i s hs => ?_⟩
  obtain ⟨c, h1, h2⟩ := h.sg i s hs
  exact ⟨c, h1.of (hk s (List.mem_of_getElem? hs)), h2⟩
theorem Fre.fr {ids : List Nat} (h : Fre w ids) (hk : ∀ s ∈ ids, w'.heap[s]? = w.heap[s]?) : Fre w' ids := by
  intro i s hs
  obtain ⟨c, h1⟩ := h i s hs
  exact ⟨c, h1.of (hk s (List.mem_of_getElem? hs))⟩
theorem BMx.lts (h : BMx x w ρ L T G B) {s : Nat} (hs : s ∈ allS T) : s < w.heap.size := h.gm.dom s (by rw [h.rs s hs]; decide)
/-- Nothing of the machine's is written, but perhaps of the ground's. -/
theorem BMx.ground (h : BMx x w ρ L T G B) (hg : GM w' ρ' L' G') (hL : L.Same L') (hf : Fr gX ρ w ρ' w') : BMx x w' ρ' L' T G' B := by
  have hk : ∀ s ∈ allS T, w'.heap[s]? = w.heap[s]? := fun s hs => hf.blk s (h.lts hs) (by rw [h.rs s hs]; rfl)
  refine ⟨hg, by rw [bF_same T B hL]; exact hf.keep h.bb h.rb rfl, by rw [hf.old _ h.bb.lt]; exact h.rb, fun m hm => (h.fr m hm).fr hf ?_, h.lr.fr hf rfl, fun e => (h.sp e).fr hf rfl, h.ls, fun m hm hx => (h.sg m hm hx).fr (fun s hs => hk s (allS_m hm hs)), h.fs.fr (fun s hs => hk s (allS_f hs)), h.nd, fun s hs => by rw [hf.old s (h.lts hs)]; exact h.rs s hs, h.rl, h.md⟩
  rcases (by omega : m = 0 ∨ m = 1 ∨ m = 2 ∨ m = 3) with rfl | rfl | rfl | rfl <;> rfl
theorem BMx.gp (h : BMx x w ρ L T G B) (hg : GP w ρ L G' w') : ∃ L' ρ', BMx x w' ρ' L' T G' B ∧ L.Same L' ∧ Fr gX ρ w ρ' w' := by
  obtain ⟨L', ρ', h1, h2, h3⟩ := hg
  exact ⟨L', ρ', h.ground h1 h2 h3, h2, h3⟩
/-- Nothing of the machine's is written. -/
theorem BMx.keep (h : BMx x w ρ L T G B) (hf : Fr X ρ w ρ' w') (hx : ∀ c, bX c = true → X c = false) : BMx x w' ρ' L T G B := by
  have hf' : Fr (fun c => !(bX c)) ρ w ρ' w' := hf.mono (fun c hc => by
    cases e : bX c with
    | false => rfl
    | true => rw [hx c e] at hc; cases hc)
  have hg : GM w' ρ' L G := (GMh.but h.gm hf).full (fun c hc => hx c (bX_g hc))
  have hk : ∀ s ∈ allS T, w'.heap[s]? = w.heap[s]? := fun s hs => hf.blk s (h.lts hs) (by rw [h.rs s hs]; exact hx _ rfl)
  refine ⟨hg, hf.keep h.bb h.rb (hx _ rfl), by rw [hf.old _ h.bb.lt]; exact h.rb, fun m hm => (h.fr m hm).fr hf (hx _ ?_), h.lr.fr hf (hx _ rfl), fun e => (h.sp e).fr hf (hx _ rfl), h.ls, fun m hm hx => (h.sg m hm hx).fr (fun s hs => hk s (allS_m hm hs)), h.fs.fr (fun s hs => hk s (allS_f hs)), h.nd, fun s hs => by rw [hf.old s (h.lts hs)]; exact h.rs s hs, h.rl, h.md⟩
  rcases (by omega : m = 0 ∨ m = 1 ∨ m = 2 ∨ m = 3) with rfl | rfl | rfl | rfl <;> rfl
theorem BMx.below (h : BMx x w ρ L T G B) (hb : Below w.heap.size w w') : BMx x w' ρ L T G B := h.keep (X := fun _ => false) (Fr.below hb) (fun _ _ => rfl)
/-- The barrier's own block is written, the rest of the machine's not. -/
theorem BMx.own (h : BMx x w ρ L T G B) (hu : Upd T.bB w w') (hb : Blk w' T.bB 137 (fnC 285 (bF L T B'))) (h1 : B'.logs = B.logs) (h2 : B'.fresh = B.fresh) (h3 : B'.last = B.last) (h4 : ∀ m, (B'.roots m).length ≤ 64) (h5 : B'.made = B.made) : BMx x w' ρ L T G B' ∧ Fr bX ρ w ρ w' := by
  have hf : Fr (fun c => c == 12) ρ w ρ w' := Fr.upd hu (by show (ρ T.bB == 12) = true; rw [h.rb]; rfl)
  have hg : GM w' ρ L G := (GMh.but h.gm hf).full (fun c hc => by
    have := of_decide_eq_true hc
    show (c == 12) = false
    simp
    omega)
  have hk : ∀ s ∈ allS T, w'.heap[s]? = w.heap[s]? := fun s hs => hf.blk s (h.lts hs) (by rw [h.rs s hs]; rfl)
  refine ⟨⟨hg, hb, h.rb, fun m hm => by rw [h2]; exact (h.fr m hm).fr hf (by show (16 + m == 12) = false; simp; omega), by rw [h3]; exact h.lr.fr hf rfl, fun e => (h.sp e).fr hf rfl, h.ls, fun m hm hx => by rw [h1]; exact (h.sg m hm hx).fr (fun s hs => hk s (allS_m hm hs)), h.fs.fr (fun s hs => hk s (allS_f hs)), h.nd, h.rs, h4, fun e => by rw [h5]; exact h.md e⟩, hf.mono (fun c => bX_of (by decide))⟩
theorem BMx.gcells (h : BMx x w ρ L T G B) : w.cell? ⟨T.bB, 0, none⟩ = some (.pointer (some ⟨L.hB, 0, none⟩)) ∧ w.cell? ⟨T.bB, 1, none⟩ = some (.pointer (some ⟨L.sB, 0, none⟩)) ∧ w.cell? ⟨T.bB, 2, none⟩ = some (.pointer (some ⟨L.cB, 0, none⟩)) := by
  refine ⟨?_, ?_, ?_⟩
  · rw [h.bb.cell, fnC_get _ (by decide)]; rfl
  · rw [h.bb.cell, fnC_get _ (by decide)]; rfl
  · rw [h.bb.cell, fnC_get _ (by decide)]; rfl
theorem BMx.mcell (h : BMx x w ρ L T G B) {m j : Nat} (hm : m < 4) (hj : j < 69) : w.cell? ⟨T.bB, 3 + m * 69 + j, none⟩ = some (mF T B m j) := by rw [h.bb.cell, fnC_get _ (by omega), bF_m L T B hm hj]
theorem BMx.ecell (h : BMx x w ρ L T G B) {i : Nat} (hi : 279 ≤ i) (h2 : i < 285) : w.cell? ⟨T.bB, i, none⟩ = some (eF T B i) := by rw [h.bb.cell, fnC_get _ h2, bF_e L T B hi]
theorem BMx.depth (h : BMx x w ρ L T G B) {m : Nat} (hm : m < 4) : w.cell? ⟨T.bB, 3 + m * 69 + 67, none⟩ = some (.int .i64 ((B.roots m).length : Int)) := by rw [h.mcell hm (by decide)]; rfl
theorem BMx.slot (h : BMx x w ρ L T G B) {m : Nat} (hm : m < 4) {k : Nat} (hk : k < 64) : w.cell? ⟨T.bB, 3 + m * 69 + (3 + k), none⟩ = some (.int .u64 (((B.roots m).getD k 0 : Nat) : Int)) := by
  rw [h.mcell hm (by omega)]
  unfold mF
  rw [if_neg (by omega), if_neg (by omega), if_neg (by omega), if_pos (by omega), show 3 + k - 3 = k by omega]
end
end Go.Proofs.Qxb6500888a
