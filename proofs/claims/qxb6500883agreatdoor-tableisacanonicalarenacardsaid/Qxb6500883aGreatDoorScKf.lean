/- measureOne (written by tools/mk_sckf.py). -/
import Derived.Test.Qxb6500883aGreatDoorScKe
import Derived.Deep.CutBlock
namespace Go.Proofs.Qxb6500883aGreatDoor
open Go.RowKit
set_option linter.unusedSimpArgs false
set_option linter.unusedVariables false
/-- The measures of a type, by its kind. -/
inductive MsOf (T : TS) (x : TR) (m : MS) : Prop
  | ser {e : Nat} {y : TR} : x.kind = 3 ∨ x.kind = 4 → x.elem = (e : Int) → T.types[e]? = some y → MsSer x.kind x.length y m → MsOf T x m
  | bit : x.kind = 5 ∨ x.kind = 6 → MsBit x.kind x.length m → MsOf T x m
  | con {ps : List TR} : x.kind = 7 → (flT T x).map (fun f => T.types[f.typ]?) = ps.map some → MsCon ps m → MsOf T x m
  | uni {ps : List TR} : x.kind = 8 → (opT T x).map (fun o => T.types[o]?) = ps.map some → MsUni ps m → MsOf T x m
/-- A type's structure is in order: its parts stand before it. -/
inductive StrOk (T : TS) (i : Nat) (x : TR) : Prop
  | ser {e : Nat} : x.kind = 3 ∨ x.kind = 4 → x.elem = (e : Int) → e < i → StrOk T i x
  | bit : x.kind = 5 ∨ x.kind = 6 → x.elem = -1 → StrOk T i x
  | con : x.kind = 7 → x.lo < x.hi → x.hi ≤ T.flds.length → (∀ f ∈ flT T x, f.typ < i) → StrOk T i x
  | uni : x.kind = 8 → x.lo < x.hi → x.hi ≤ T.opts.length → (∀ o ∈ opT T x, o < i) → StrOk T i x
def upM (x : TR) (m : MS) : TR := { x with fixed := m.fixed, mn := m.mn, mx := m.mx, size := if m.fixed then m.mx else x.size, chunks := m.chunks % 4294967296, depth := m.depth }
theorem map_some_inj {α : Type} {a b : List α} (h : a.map some = b.map some) : a = b := by
  induction a generalizing b with
  | nil => cases b with | nil => rfl | cons _ _ => simp at h
  | cons x l ih => cases b with | nil => simp at h | cons y r => simp at h; rw [h.1, ih (by simpa using h.2)]
theorem parts_ex {α : Type} {f : α → Option TR} : ∀ {l : List α}, (∀ a ∈ l, ∃ y, f a = some y) → ∃ ps : List TR, l.map f = ps.map some
  | [], _ => ⟨[], rfl⟩
  | a :: l, h => by
    obtain ⟨y, hy⟩ := h a (by simp)
    obtain ⟨ps, hp⟩ := parts_ex (f := f) (l := l) (fun b hb => h b (by simp [hb]))
    exact ⟨y :: ps, by simp [hy, hp]⟩
theorem parts_mem {α : Type} {f : α → Option TR} {l : List α} {ps : List TR} (h : l.map f = ps.map some) {y : TR} (hy : y ∈ ps) : ∃ a ∈ l, f a = some y := by
  have : some y ∈ ps.map some := List.mem_map_of_mem hy
  rw [← h] at this
  obtain ⟨a, h1, h2⟩ := List.mem_map.1 this
  exact ⟨a, h1, h2⟩
theorem foldMin_le : ∀ (l : List TR) (a : Nat), l.foldl (fun a y => min a y.mn) a ≤ a
  | [], a => Nat.le_refl _
  | x :: l, a => by have := foldMin_le l (min a x.mn); show l.foldl _ (min a x.mn) ≤ a; omega
theorem foldMax_le : ∀ (l : List TR) (a : Nat), a ≤ l.foldl (fun d x => max d x.mx) a
  | [], a => Nat.le_refl _
  | x :: l, a => by have := foldMax_le l (max a x.mx); show a ≤ l.foldl _ (max a x.mx); omega
theorem un_le {ps : List TR} (h : ∀ x ∈ ps, TRb x) : unMn ps ≤ unMx ps := by
  cases ps with
  | nil => exact Nat.le_refl _
  | cons x l =>
    have h1 := foldMin_le l x.mn
    have h2 := foldMax_le l (max 0 x.mx)
    have h3 := (h x (by simp)).le
    show l.foldl (fun a y => min a y.mn) x.mn ≤ l.foldl (fun d x => max d x.mx) (max 0 x.mx)
    omega
/-- Measures are in order. -/
structure MsOk (m : MS) : Prop where
  le : m.mn ≤ m.mx
  mx : m.mx ≤ 4294967295
  fx : m.fixed = true → m.mn = m.mx
  ck : m.chunks ≤ 2 ^ m.depth
theorem pow_le2 {a b : Nat} (h : a ≤ b) : 2 ^ a ≤ 2 ^ b := Nat.pow_le_pow_right (by decide) h
theorem MsOf.ok {T : TS} {x : TR} {m : MS} (h : MsOf T x m) (hb : ∀ y ∈ T.types, TRb y) (hf : ∀ y ∈ T.types, y.fixed = true → y.size = y.mn ∧ y.mn = y.mx) : MsOk m := by
  cases h with
  | @ser e y hk he hy hm =>
    have hby := hb y (List.mem_of_getElem? hy)
    obtain ⟨d, h1, h2⟩ := hm.dp
    have hs := slP_le hby
    refine ⟨?_, hm.le, fun hf1 => ?_, ?_⟩
    · rw [hm.mn, hm.mx]
      split
      · exact Nat.mul_le_mul_left _ hs.1
      · exact Nat.zero_le _
    · have hfx := hm.fx
      rw [hf1] at hfx
      simp at hfx
      rw [hm.mn, hm.mx, if_pos hfx.1]
      unfold slP
      rw [if_pos hfx.2]
    · exact Nat.le_trans h1.2.1 (pow_le2 (by rw [h2]; omega))
  | bit hk hm =>
    obtain ⟨d, h1, h2⟩ := hm.dp
    refine ⟨?_, hm.le, fun hf1 => ?_, Nat.le_trans h1.2.1 (pow_le2 (by rw [h2]; omega))⟩
    · rw [hm.mn]
      split
      · exact Nat.le_refl _
      · rename_i h5
        rw [hm.mx, if_neg h5]
        omega
    · have hfx := hm.fx
      rw [hf1] at hfx
      simp at hfx
      rw [hm.mn, if_pos hfx]
  | @con ps hk hp hm =>
    have hbp : ∀ y ∈ ps, TRb y := fun y hy => by
      obtain ⟨a, _, h2⟩ := parts_mem hp hy
      exact hb y (List.mem_of_getElem? h2)
    obtain ⟨d, h1, h2⟩ := hm.dp
    refine ⟨?_, hm.le, fun hf1 => ?_, Nat.le_trans h1.2.1 (pow_le2 (by rw [h2]; omega))⟩
    · rw [hm.mn, hm.mx]; exact (cn_bound hbp).1
    · have hfx := hm.fx
      rw [hf1] at hfx
      have hall : ∀ y ∈ ps, y.fixed = true := by
        unfold cnF at hfx
        simpa using hfx.symm
      rw [hm.mn, hm.mx]
      unfold cnMn cnMx
      congr 1
      apply List.map_congr_left
      intro y hy
      unfold slP
      rw [if_pos (hall y hy)]
  | @uni ps hk hp hm =>
    have hbp : ∀ y ∈ ps, TRb y := fun y hy => by
      obtain ⟨a, _, h2⟩ := parts_mem hp hy
      exact hb y (List.mem_of_getElem? h2)
    refine ⟨by rw [hm.mn, hm.mx]; have := un_le hbp; omega, hm.le, fun hf1 => ?_, ?_⟩
    · rw [hm.fx] at hf1; cases hf1
    · rw [hm.ck]; exact Nat.one_le_two_pow
theorem MS.ext' {a b : MS} (h1 : a.fixed = b.fixed) (h2 : a.mn = b.mn) (h3 : a.mx = b.mx) (h4 : a.chunks = b.chunks) (h5 : a.depth = b.depth) : a = b := by
  cases a; cases b
  simp only [MS.mk.injEq]
  exact ⟨h1, h2, h3, h4, h5⟩
theorem MsOf.uniq {T : TS} {x : TR} {m m' : MS} (h : MsOf T x m) (k : MsOf T x m') : m = m' := by
  cases h with
  | @ser e y g1 g2 g3 g4 =>
    cases k with
    | @ser e' y' k1 k2 k3 k4 =>
      have : e' = e := by omega
      subst this
      rw [g3] at k3
      cases k3
      have e3 : m.mx = m'.mx := by rw [g4.mx, k4.mx]
      have e4 : m.chunks = m'.chunks := by rw [g4.ck, k4.ck, e3]
      obtain ⟨d, d1, d2⟩ := g4.dp
      obtain ⟨d', d1', d2'⟩ := k4.dp
      rw [← e4] at d1'
      refine MS.ext' (by rw [g4.fx, k4.fx]) (by rw [g4.mn, k4.mn]) e3 e4 (by rw [d2, d2', d1.uniq d1'])
    | bit k1 k2 => omega
    | con k1 k2 k3 => omega
    | uni k1 k2 k3 => omega
  | bit g1 g2 =>
    cases k with
    | ser k1 k2 k3 k4 => omega
    | bit k1 k2 =>
      have e3 : m.mx = m'.mx := by rw [g2.mx, k2.mx]
      have e4 : m.chunks = m'.chunks := by rw [g2.ck, k2.ck]
      obtain ⟨d, d1, d2⟩ := g2.dp
      obtain ⟨d', d1', d2'⟩ := k2.dp
      rw [← e4] at d1'
      refine MS.ext' (by rw [g2.fx, k2.fx]) (by rw [g2.mn, k2.mn, e3]) e3 e4 (by rw [d2, d2', d1.uniq d1'])
    | con k1 k2 k3 => omega
    | uni k1 k2 k3 => omega
  | con g1 g2 g3 =>
    cases k with
    | ser k1 k2 k3 k4 => omega
    | bit k1 k2 => omega
    | con k1 k2 k3 =>
      rw [g2] at k2
      have := map_some_inj k2
      subst this
      have e4 : m.chunks = m'.chunks := by rw [g3.ck, k3.ck]
      obtain ⟨d, d1, d2⟩ := g3.dp
      obtain ⟨d', d1', d2'⟩ := k3.dp
      rw [← e4] at d1'
      refine MS.ext' (by rw [g3.fx, k3.fx]) (by rw [g3.mn, k3.mn]) (by rw [g3.mx, k3.mx]) e4 (by rw [d2, d2', d1.uniq d1'])
    | uni k1 k2 k3 => omega
  | uni g1 g2 g3 =>
    cases k with
    | ser k1 k2 k3 k4 => omega
    | bit k1 k2 => omega
    | con k1 k2 k3 => omega
    | uni k1 k2 k3 =>
      rw [g2] at k2
      have := map_some_inj k2
      subst this
      exact MS.ext' (by rw [g3.fx, k3.fx]) (by rw [g3.mn, k3.mn]) (by rw [g3.mx, k3.mx]) (by rw [g3.ck, k3.ck]) (by rw [g3.dp, k3.dp])
section
variable {τ τ' : Rl} {w w' w0 w1 w2 : World} {tB : Nat} {V V' : TV} {T T' : TS}
/-- A cell of a type's record is written. -/
theorem TbM.putT (h : TbM τ w tB V T) {gt q i j : Nat} (hv : V.t = .slice (some ⟨gt, 0, none⟩) T.types.length q) {x x' : TR} {u : Value} (hx : T.types[i]? = some x) (hj : j < 12) (he : trC x' = (trC x).set j u) : TbM τ (w.setCell ⟨gt, i * 12 + j, none⟩ u) tB V { T with types := T.types.set i x' } ∧ Fr (fun c => c == 51) τ w τ (w.setCell ⟨gt, i * 12 + j, none⟩ u) ∧ w.frozen? ⟨gt, i * 12 + j, none⟩ = false := by
  obtain ⟨h1, h2, h3⟩ := h.t.put (by decide) (fun _ => rfl) hv hx (x' := x') (u := u) (j := j) hj he
  have hf : Fr (fun c => c == 51) τ w τ (w.setCell ⟨gt, i * 12 + j, none⟩ u) := Fr.set _ (by show (τ gt == 51) = true; rw [h2]; rfl)
  exact ⟨⟨hf.keep h.b h.rb rfl, h.rb, h1, h.f.fr hf rfl, h.o.fr hf rfl, h.d.fr hf rfl⟩, hf, h3⟩
/-- The record under way, and the measures beside it. -/
structure MOs (w : World) (τ : Rl) (tB : Nat) (V : TV) (T : TS) (p : Nat) (m : MS) (i : Nat) (x : TR) (wz : World) : Prop where
  tb : TbM τ wz tB V { T with types := T.types.set i x }
  mb : Blk wz p 221 (msC m)
  fr : Fr (fun c => c == 51) τ w τ wz
theorem MOs.put {p i j gt q : Nat} {m : MS} {x x' : TR} {wz : World} {u : Value} (h : MOs w τ tB V T p m i x wz) (hp : τ p = 0) (hv : V.t = .slice (some ⟨gt, 0, none⟩) T.types.length q) (hi : i < T.types.length) (hj : j < 12) (he : trC x' = (trC x).set j u) : MOs w τ tB V T p m i x' (wz.setCell ⟨gt, i * 12 + j, none⟩ u) ∧ wz.frozen? ⟨gt, i * 12 + j, none⟩ = false := by
  obtain ⟨h1, h2, h3⟩ := h.tb.putT (gt := gt) (q := q) (by rw [hv, List.length_set]) (x := x) (List.getElem?_set_self hi) hj he
  refine ⟨⟨?_, h2.keep h.mb hp rfl, h.fr.trans h2⟩, h3⟩
  have e : (T.types.set i x).set i x' = T.types.set i x' := by rw [List.set_set]
  have h1 : TbM τ (wz.setCell ⟨gt, i * 12 + j, none⟩ u) tB V { T with types := (T.types.set i x).set i x' } := h1
  rw [e] at h1
  exact h1
theorem MOs.below {p i : Nat} {m : MS} {x : TR} {wz wy : World} (h : MOs w τ tB V T p m i x wz) (hb : Below wz.heap.size wz wy) : MOs w τ tB V T p m i x wy := ⟨h.tb.below hb, h.mb.below hb, h.fr.trans (Fr.below hb)⟩
theorem MOs.cell {p i j gt q : Nat} {m : MS} {x : TR} {wz : World} (h : MOs w τ tB V T p m i x wz) (hv : V.t = .slice (some ⟨gt, 0, none⟩) T.types.length q) (hi : i < T.types.length) (hj : j < 12) : wz.cell? ⟨gt, i * 12 + j, none⟩ = (trC x)[j]? := by
  obtain ⟨gt', q', hv', _, _, hc⟩ := h.tb.ty (i := i) (x := x) (List.getElem?_set_self hi)
  rw [hv] at hv'
  injection hv' with e1 e2 e3
  injection e1 with e1
  injection e1 with e1
  subst e1
  exact hc j hj
/-- What measureOne comes to. -/
def M1P (w : World) (τ : Rl) (tB : Nat) (V : TV) (T : TS) (i : Nat) (x : TR) (e : Ending) (w' : World) : Prop :=
  (∃ m, e = .returned (.int .u8 0) ∧ MsOf T x m ∧ m.depth ≤ 63 ∧ TbM τ w' tB V { T with types := T.types.set i (upM x m) } ∧ Fr (fun c => c == 51) τ w τ w') ∨
  (∃ v : Nat, (v = 1 ∨ v = 2) ∧ e = .returned (.int .u8 (v : Int)) ∧ (∀ m, MsOf T x m → 63 < m.depth) ∧ Below w.heap.size w w')
set_option maxRecDepth 100000 in
set_option maxHeartbeats 8000000 in
theorem measureOneW (h : TbM τ w tB V T) (hd : ∀ g, τ g ≠ 0 → g < w.heap.size) {i : Nat} {x : TR} (hx : T.types[i]? = some x) (hst : StrOk T i x) (hb : ∀ y ∈ T.types, TRb y) (hf : ∀ y ∈ T.types, y.fixed = true → y.size = y.mn ∧ y.mn = y.mx) (hl1 : T.flds.length ≤ 200000) (hl2 : T.opts.length ≤ 200000) : Calls Tryz.prog 102 #[.pointer (some ⟨tB, 0, none⟩), .int .i32 (i : Int)] w fun e w' => Hid (M1P w τ tB V T i x e w') := by
  obtain ⟨p, hp⟩ : ∃ p, w.heap.size = p := ⟨_, rfl⟩
  have H1 := hid (MLo.start hp)
  obtain ⟨gt, q, hv, hgl, hgr, hc⟩ := h.ty hx
  have hlt := (List.getElem?_eq_some_iff.1 hx).1
  have hbx := hb x (List.mem_of_getElem? hx)
  have hpz : τ p = 0 := by
    cases e : τ p with
    | zero => rfl
    | succ z => have := hd p (by rw [e]; exact Nat.succ_ne_zero z); omega
  obtain ⟨nt, hnt⟩ : ∃ n, T.types.length = n := ⟨_, rfl⟩
  have i1 : (i : Int) < (nt : Int) := by omega
  have c0 : w.cell? ⟨tB, 0, none⟩ = some (.slice (some ⟨gt, 0, none⟩) nt q) := by rw [← hnt, ← hv]; exact h.b.cell 0
  have hxk : x.kind < 256 := hbx.kind
  have HC : Hid (∀ wz, Below w.heap.size w wz → wz.cell? ⟨gt, i * 12, none⟩ = some (.int .u8 (x.kind : Int))) := hid (fun wz hz => by rw [keepCell _ (hz.block gt hgl)]; exact hc 0 (by decide))
  have HM : Hid (∀ wz, Below w.heap.size w wz →
      (x.kind = 3 ∨ x.kind = 4 → Calls Tryz.prog 123 #[.pointer (some ⟨tB, 0, none⟩), .pointer (some ⟨gt, i * 12, none⟩)] wz fun e w' => MsQ (MsOf T x) e ∧ Below wz.heap.size wz w') ∧
      (x.kind = 5 ∨ x.kind = 6 → Calls Tryz.prog 124 #[.pointer (some ⟨gt, i * 12, none⟩)] wz fun e w' => MsQ (MsOf T x) e ∧ Below wz.heap.size wz w') ∧
      (x.kind = 7 → Calls Tryz.prog 125 #[.pointer (some ⟨tB, 0, none⟩), .pointer (some ⟨gt, i * 12, none⟩)] wz fun e w' => MsQ (MsOf T x) e ∧ Below wz.heap.size wz w') ∧
      (x.kind = 8 → Calls Tryz.prog 126 #[.pointer (some ⟨tB, 0, none⟩), .pointer (some ⟨gt, i * 12, none⟩)] wz fun e w' => MsQ (MsOf T x) e ∧ Below wz.heap.size wz w')) := hid (fun wz hz => by
    have conv : ∀ {P : MS → Prop} {e : Ending}, MsQ P e → (∀ m, P m → MsOf T x m) → (∀ m, MsOf T x m → P m) → MsQ (MsOf T x) e := fun {P e} hq h1 h2 => by
      obtain ⟨m, ok, e1, e2, e3⟩ := hq
      exact ⟨m, ok, e1, fun hh => h1 m (e2 hh), fun hh m' hm' => e3 hh m' (h2 m' hm')⟩
    have hz' := h.below hz
    have hgz : gt < wz.heap.size := Nat.lt_of_lt_of_le hgl hz.size
    refine ⟨fun hk => ?_, fun hk => ?_, fun hk => ?_, fun hk => ?_⟩
    · cases hst with
      | @ser e h1 h2 h3 =>
        obtain ⟨y, hy⟩ : ∃ y, T.types[e]? = some y := ⟨_, List.getElem?_eq_getElem (by omega)⟩
        have hby := hb y (List.mem_of_getElem? hy)
        have c1 : ∀ m, MsSer x.kind x.length y m → MsOf T x m := fun m hm => .ser hk h2 hy hm
        have c2 : ∀ m, MsOf T x m → MsSer x.kind x.length y m := fun m hm => by
          cases hm with
          | @ser e' y' g1 g2 g3 g4 =>
            have : e' = e := by omega
            subst this
            rw [hy] at g3
            cases g3
            exact g4
          | bit g1 g2 => omega
          | con g1 g2 g3 => omega
          | uni g1 g2 g3 => omega
        rcases hk with hk | hk
        · rw [hk] at c1 c2
          exact (measureSeries3 hz' hx hk h2 hy hbx hby rfl hv).mono fun e w' hh => ⟨conv hh.1 c1 c2, hh.2⟩
        · rw [hk] at c1 c2
          exact (measureSeries4 hz' hx hk h2 hy hbx hby rfl hv).mono fun e w' hh => ⟨conv hh.1 c1 c2, hh.2⟩
      | bit g1 g2 => omega
      | con g1 g2 g3 g4 => omega
      | uni g1 g2 g3 g4 => omega
    · have c1 : ∀ m, MsBit x.kind x.length m → MsOf T x m := fun m hm => .bit hk hm
      have c2 : ∀ m, MsOf T x m → MsBit x.kind x.length m := fun m hm => by
        cases hm with
        | ser g1 g2 g3 g4 => omega
        | bit g1 g2 => exact g2
        | con g1 g2 g3 => omega
        | uni g1 g2 g3 => omega
      have k6 : wz.cell? ⟨gt, i * 12 + 6, none⟩ = some (.int .u64 (x.length : Int)) := by rw [keepCell _ (hz.block gt hgl)]; exact hc 6 (by decide)
      have k0 := HC.out wz hz
      rcases hk with hk | hk
      · rw [hk] at c1 c2 k0
        exact (measureBits5 k0 k6 hgz hbx.length).mono fun e w' hh => ⟨conv hh.1 c1 c2, hh.2⟩
      · rw [hk] at c1 c2 k0
        exact (measureBits6 k0 k6 hgz hbx.length).mono fun e w' hh => ⟨conv hh.1 c1 c2, hh.2⟩
    · cases hst with
      | ser g1 g2 g3 => omega
      | bit g1 g2 => omega
      | uni g1 g2 g3 g4 => omega
      | con g1 g2 g3 g4 =>
        obtain ⟨ps, hp⟩ := parts_ex (f := fun f : FD => T.types[f.typ]?) (l := flT T x) (fun f hf => ⟨_, List.getElem?_eq_getElem (by have := g4 f hf; omega)⟩)
        have c1 : ∀ m, MsCon ps m → MsOf T x m := fun m hm => .con hk hp hm
        have c2 : ∀ m, MsOf T x m → MsCon ps m := fun m hm => by
          cases hm with
          | ser g1 g2 g3 g4 => omega
          | bit g1 g2 => omega
          | con g1 g2 g3 => rw [hp] at g2; rw [map_some_inj g2]; exact g3
          | uni g1 g2 g3 => omega
        exact (measureContainerW hz' hx g2 g3 hl1 hp (fun y hy => by
          obtain ⟨a, _, h2⟩ := parts_mem hp hy
          exact hb y (List.mem_of_getElem? h2)) hv).mono fun e w' hh => ⟨conv hh.1 c1 c2, hh.2⟩
    · cases hst with
      | ser g1 g2 g3 => omega
      | bit g1 g2 => omega
      | con g1 g2 g3 g4 => omega
      | uni g1 g2 g3 g4 =>
        obtain ⟨ps, hp⟩ := parts_ex (f := fun o : Nat => T.types[o]?) (l := opT T x) (fun f hf => ⟨_, List.getElem?_eq_getElem (by have := g4 f hf; omega)⟩)
        have c1 : ∀ m, MsUni ps m → MsOf T x m := fun m hm => .uni hk hp hm
        have c2 : ∀ m, MsOf T x m → MsUni ps m := fun m hm => by
          cases hm with
          | ser g1 g2 g3 g4 => omega
          | bit g1 g2 => omega
          | con g1 g2 g3 => omega
          | uni g1 g2 g3 => rw [hp] at g2; rw [map_some_inj g2]; exact g3
        exact (measureUnionW hz' hx g2 g3 hl2 hp (fun y hy => by
          obtain ⟨a, _, h2⟩ := parts_mem hp hy
          exact hb y (List.mem_of_getElem? h2)) hv).mono fun e w' hh => ⟨conv hh.1 c1 c2, hh.2⟩)
  have hkk : x.kind = 3 ∨ x.kind = 4 ∨ x.kind = 5 ∨ x.kind = 6 ∨ x.kind = 7 ∨ x.kind = 8 := by
    cases hst with
    | ser g1 g2 g3 => omega
    | bit g1 g2 => omega
    | con g1 g2 g3 g4 => omega
    | uni g1 g2 g3 g4 => omega
  have HT := hid h
  have Hv := hid hv
  have HX := hid (And.intro hx (And.intro hlt (And.intro hb hf)))
  have Hpz := hid hpz
  clear h hd hx hst hb hf hv hc hlt hbx hpz hl1 hl2 hgr hgl
  obtain ⟨kd, hkd⟩ : ∃ a, x.kind = a := ⟨_, rfl⟩
  rw [hkd] at HC HM hkk hxk
  go_enter Tryz.func102, Tryz.ntmps102
  go_upto_region 3 with fail
  (try simp only [hp])
  generalize w.alloc _ = w1 at H1 ⊢
  clear hp c0
  have k0 := HC.out w1 H1.out.2.1
  go_upto_block 0 with fail
  go_cut [7] from 18 to 50 (fun v wc => ∃ (m : MS) (ok : Bool), v = .bool ok ∧ Hid (MLo w p (msC m) wc ∧ (ok = true → MsOf T x m) ∧ (ok = false → ∀ m', ¬ MsOf T x m')))
  case first =>
    rcases hkk with rfl | rfl | rfl | rfl | rfl | rfl
    · have HA := hid ((HM.out w1 H1.out.2.1).1 (.inl rfl))
      go_wp2_with fail
      refine HA.out.mono ?_
      rintro e w2 ⟨⟨m, ok, rfl, e2, e3⟩, hb2⟩
      clear HA
      have H2 := hid (H1.out.below hb2)
      have HQ := hid (And.intro e2 e3)
      clear hb2 e2 e3
      dsimp only [msC]
      have r0 : ∀ wz : World, (Instr.field 221 (.agg #[.bool m.fixed, .int .u64 (m.mn : Int), .int .u64 (m.mx : Int), .int .u64 (m.chunks : Int), .int .i64 (m.depth : Int)]) 0).run Tryz.prog wz = .ok (.bool m.fixed) wz := fun wz => by rfl
      clear r0
      have a0 : w2.cell? ⟨p, 0, none⟩ = some (.bool false) := H2.out.1.cell 0
      have z0 : w2.frozen? ⟨p, 0, none⟩ = false := H2.out.1.frozen 0
      have a1 : (w2.setCell ⟨p, 0, none⟩ (.bool m.fixed)).cell? ⟨p, 1, none⟩ = some (.int .u64 0) := (H2.out.set 0 (.bool m.fixed)).1.cell 1
      have z1 : (w2.setCell ⟨p, 0, none⟩ (.bool m.fixed)).frozen? ⟨p, 1, none⟩ = false := (H2.out.set 0 (.bool m.fixed)).1.frozen 1
      have a2 : ((w2.setCell ⟨p, 0, none⟩ (.bool m.fixed)).setCell ⟨p, 1, none⟩ (.int .u64 (m.mn : Int))).cell? ⟨p, 2, none⟩ = some (.int .u64 0) := ((H2.out.set 0 (.bool m.fixed)).set 1 (.int .u64 (m.mn : Int))).1.cell 2
      have z2 : ((w2.setCell ⟨p, 0, none⟩ (.bool m.fixed)).setCell ⟨p, 1, none⟩ (.int .u64 (m.mn : Int))).frozen? ⟨p, 2, none⟩ = false := ((H2.out.set 0 (.bool m.fixed)).set 1 (.int .u64 (m.mn : Int))).1.frozen 2
      have a3 : (((w2.setCell ⟨p, 0, none⟩ (.bool m.fixed)).setCell ⟨p, 1, none⟩ (.int .u64 (m.mn : Int))).setCell ⟨p, 2, none⟩ (.int .u64 (m.mx : Int))).cell? ⟨p, 3, none⟩ = some (.int .u64 0) := (((H2.out.set 0 (.bool m.fixed)).set 1 (.int .u64 (m.mn : Int))).set 2 (.int .u64 (m.mx : Int))).1.cell 3
      have z3 : (((w2.setCell ⟨p, 0, none⟩ (.bool m.fixed)).setCell ⟨p, 1, none⟩ (.int .u64 (m.mn : Int))).setCell ⟨p, 2, none⟩ (.int .u64 (m.mx : Int))).frozen? ⟨p, 3, none⟩ = false := (((H2.out.set 0 (.bool m.fixed)).set 1 (.int .u64 (m.mn : Int))).set 2 (.int .u64 (m.mx : Int))).1.frozen 3
      have a4 : ((((w2.setCell ⟨p, 0, none⟩ (.bool m.fixed)).setCell ⟨p, 1, none⟩ (.int .u64 (m.mn : Int))).setCell ⟨p, 2, none⟩ (.int .u64 (m.mx : Int))).setCell ⟨p, 3, none⟩ (.int .u64 (m.chunks : Int))).cell? ⟨p, 4, none⟩ = some (.int .i64 0) := ((((H2.out.set 0 (.bool m.fixed)).set 1 (.int .u64 (m.mn : Int))).set 2 (.int .u64 (m.mx : Int))).set 3 (.int .u64 (m.chunks : Int))).1.cell 4
      have z4 : ((((w2.setCell ⟨p, 0, none⟩ (.bool m.fixed)).setCell ⟨p, 1, none⟩ (.int .u64 (m.mn : Int))).setCell ⟨p, 2, none⟩ (.int .u64 (m.mx : Int))).setCell ⟨p, 3, none⟩ (.int .u64 (m.chunks : Int))).frozen? ⟨p, 4, none⟩ = false := ((((H2.out.set 0 (.bool m.fixed)).set 1 (.int .u64 (m.mn : Int))).set 2 (.int .u64 (m.mx : Int))).set 3 (.int .u64 (m.chunks : Int))).1.frozen 4
      have H9 : Hid (MLo w p (msC m) (((((w2.setCell ⟨p, 0, none⟩ (.bool m.fixed)).setCell ⟨p, 1, none⟩ (.int .u64 (m.mn : Int))).setCell ⟨p, 2, none⟩ (.int .u64 (m.mx : Int))).setCell ⟨p, 3, none⟩ (.int .u64 (m.chunks : Int))).setCell ⟨p, 4, none⟩ (.int .i64 (m.depth : Int)))) := hid (((((H2.out.set 0 (.bool m.fixed)).set 1 (.int .u64 (m.mn : Int))).set 2 (.int .u64 (m.mx : Int))).set 3 (.int .u64 (m.chunks : Int))).set 4 (.int .i64 (m.depth : Int)))
      go_wp2_with fail
      go_meet
      exact ⟨m, ok, rfl, hid ⟨H9.out, HQ.out⟩⟩
    · have HA := hid ((HM.out w1 H1.out.2.1).1 (.inr rfl))
      go_wp2_with fail
      refine HA.out.mono ?_
      rintro e w2 ⟨⟨m, ok, rfl, e2, e3⟩, hb2⟩
      clear HA
      have H2 := hid (H1.out.below hb2)
      have HQ := hid (And.intro e2 e3)
      clear hb2 e2 e3
      dsimp only [msC]
      have r0 : ∀ wz : World, (Instr.field 221 (.agg #[.bool m.fixed, .int .u64 (m.mn : Int), .int .u64 (m.mx : Int), .int .u64 (m.chunks : Int), .int .i64 (m.depth : Int)]) 0).run Tryz.prog wz = .ok (.bool m.fixed) wz := fun wz => by rfl
      clear r0
      have a0 : w2.cell? ⟨p, 0, none⟩ = some (.bool false) := H2.out.1.cell 0
      have z0 : w2.frozen? ⟨p, 0, none⟩ = false := H2.out.1.frozen 0
      have a1 : (w2.setCell ⟨p, 0, none⟩ (.bool m.fixed)).cell? ⟨p, 1, none⟩ = some (.int .u64 0) := (H2.out.set 0 (.bool m.fixed)).1.cell 1
      have z1 : (w2.setCell ⟨p, 0, none⟩ (.bool m.fixed)).frozen? ⟨p, 1, none⟩ = false := (H2.out.set 0 (.bool m.fixed)).1.frozen 1
      have a2 : ((w2.setCell ⟨p, 0, none⟩ (.bool m.fixed)).setCell ⟨p, 1, none⟩ (.int .u64 (m.mn : Int))).cell? ⟨p, 2, none⟩ = some (.int .u64 0) := ((H2.out.set 0 (.bool m.fixed)).set 1 (.int .u64 (m.mn : Int))).1.cell 2
      have z2 : ((w2.setCell ⟨p, 0, none⟩ (.bool m.fixed)).setCell ⟨p, 1, none⟩ (.int .u64 (m.mn : Int))).frozen? ⟨p, 2, none⟩ = false := ((H2.out.set 0 (.bool m.fixed)).set 1 (.int .u64 (m.mn : Int))).1.frozen 2
      have a3 : (((w2.setCell ⟨p, 0, none⟩ (.bool m.fixed)).setCell ⟨p, 1, none⟩ (.int .u64 (m.mn : Int))).setCell ⟨p, 2, none⟩ (.int .u64 (m.mx : Int))).cell? ⟨p, 3, none⟩ = some (.int .u64 0) := (((H2.out.set 0 (.bool m.fixed)).set 1 (.int .u64 (m.mn : Int))).set 2 (.int .u64 (m.mx : Int))).1.cell 3
      have z3 : (((w2.setCell ⟨p, 0, none⟩ (.bool m.fixed)).setCell ⟨p, 1, none⟩ (.int .u64 (m.mn : Int))).setCell ⟨p, 2, none⟩ (.int .u64 (m.mx : Int))).frozen? ⟨p, 3, none⟩ = false := (((H2.out.set 0 (.bool m.fixed)).set 1 (.int .u64 (m.mn : Int))).set 2 (.int .u64 (m.mx : Int))).1.frozen 3
      have a4 : ((((w2.setCell ⟨p, 0, none⟩ (.bool m.fixed)).setCell ⟨p, 1, none⟩ (.int .u64 (m.mn : Int))).setCell ⟨p, 2, none⟩ (.int .u64 (m.mx : Int))).setCell ⟨p, 3, none⟩ (.int .u64 (m.chunks : Int))).cell? ⟨p, 4, none⟩ = some (.int .i64 0) := ((((H2.out.set 0 (.bool m.fixed)).set 1 (.int .u64 (m.mn : Int))).set 2 (.int .u64 (m.mx : Int))).set 3 (.int .u64 (m.chunks : Int))).1.cell 4
      have z4 : ((((w2.setCell ⟨p, 0, none⟩ (.bool m.fixed)).setCell ⟨p, 1, none⟩ (.int .u64 (m.mn : Int))).setCell ⟨p, 2, none⟩ (.int .u64 (m.mx : Int))).setCell ⟨p, 3, none⟩ (.int .u64 (m.chunks : Int))).frozen? ⟨p, 4, none⟩ = false := ((((H2.out.set 0 (.bool m.fixed)).set 1 (.int .u64 (m.mn : Int))).set 2 (.int .u64 (m.mx : Int))).set 3 (.int .u64 (m.chunks : Int))).1.frozen 4
      have H9 : Hid (MLo w p (msC m) (((((w2.setCell ⟨p, 0, none⟩ (.bool m.fixed)).setCell ⟨p, 1, none⟩ (.int .u64 (m.mn : Int))).setCell ⟨p, 2, none⟩ (.int .u64 (m.mx : Int))).setCell ⟨p, 3, none⟩ (.int .u64 (m.chunks : Int))).setCell ⟨p, 4, none⟩ (.int .i64 (m.depth : Int)))) := hid (((((H2.out.set 0 (.bool m.fixed)).set 1 (.int .u64 (m.mn : Int))).set 2 (.int .u64 (m.mx : Int))).set 3 (.int .u64 (m.chunks : Int))).set 4 (.int .i64 (m.depth : Int)))
      go_wp2_with fail
      go_meet
      exact ⟨m, ok, rfl, hid ⟨H9.out, HQ.out⟩⟩
    · have HA := hid ((HM.out w1 H1.out.2.1).2.1 (.inl rfl))
      go_wp2_with fail
      refine HA.out.mono ?_
      rintro e w2 ⟨⟨m, ok, rfl, e2, e3⟩, hb2⟩
      clear HA
      have H2 := hid (H1.out.below hb2)
      have HQ := hid (And.intro e2 e3)
      clear hb2 e2 e3
      dsimp only [msC]
      have r0 : ∀ wz : World, (Instr.field 221 (.agg #[.bool m.fixed, .int .u64 (m.mn : Int), .int .u64 (m.mx : Int), .int .u64 (m.chunks : Int), .int .i64 (m.depth : Int)]) 0).run Tryz.prog wz = .ok (.bool m.fixed) wz := fun wz => by rfl
      clear r0
      have a0 : w2.cell? ⟨p, 0, none⟩ = some (.bool false) := H2.out.1.cell 0
      have z0 : w2.frozen? ⟨p, 0, none⟩ = false := H2.out.1.frozen 0
      have a1 : (w2.setCell ⟨p, 0, none⟩ (.bool m.fixed)).cell? ⟨p, 1, none⟩ = some (.int .u64 0) := (H2.out.set 0 (.bool m.fixed)).1.cell 1
      have z1 : (w2.setCell ⟨p, 0, none⟩ (.bool m.fixed)).frozen? ⟨p, 1, none⟩ = false := (H2.out.set 0 (.bool m.fixed)).1.frozen 1
      have a2 : ((w2.setCell ⟨p, 0, none⟩ (.bool m.fixed)).setCell ⟨p, 1, none⟩ (.int .u64 (m.mn : Int))).cell? ⟨p, 2, none⟩ = some (.int .u64 0) := ((H2.out.set 0 (.bool m.fixed)).set 1 (.int .u64 (m.mn : Int))).1.cell 2
      have z2 : ((w2.setCell ⟨p, 0, none⟩ (.bool m.fixed)).setCell ⟨p, 1, none⟩ (.int .u64 (m.mn : Int))).frozen? ⟨p, 2, none⟩ = false := ((H2.out.set 0 (.bool m.fixed)).set 1 (.int .u64 (m.mn : Int))).1.frozen 2
      have a3 : (((w2.setCell ⟨p, 0, none⟩ (.bool m.fixed)).setCell ⟨p, 1, none⟩ (.int .u64 (m.mn : Int))).setCell ⟨p, 2, none⟩ (.int .u64 (m.mx : Int))).cell? ⟨p, 3, none⟩ = some (.int .u64 0) := (((H2.out.set 0 (.bool m.fixed)).set 1 (.int .u64 (m.mn : Int))).set 2 (.int .u64 (m.mx : Int))).1.cell 3
      have z3 : (((w2.setCell ⟨p, 0, none⟩ (.bool m.fixed)).setCell ⟨p, 1, none⟩ (.int .u64 (m.mn : Int))).setCell ⟨p, 2, none⟩ (.int .u64 (m.mx : Int))).frozen? ⟨p, 3, none⟩ = false := (((H2.out.set 0 (.bool m.fixed)).set 1 (.int .u64 (m.mn : Int))).set 2 (.int .u64 (m.mx : Int))).1.frozen 3
      have a4 : ((((w2.setCell ⟨p, 0, none⟩ (.bool m.fixed)).setCell ⟨p, 1, none⟩ (.int .u64 (m.mn : Int))).setCell ⟨p, 2, none⟩ (.int .u64 (m.mx : Int))).setCell ⟨p, 3, none⟩ (.int .u64 (m.chunks : Int))).cell? ⟨p, 4, none⟩ = some (.int .i64 0) := ((((H2.out.set 0 (.bool m.fixed)).set 1 (.int .u64 (m.mn : Int))).set 2 (.int .u64 (m.mx : Int))).set 3 (.int .u64 (m.chunks : Int))).1.cell 4
      have z4 : ((((w2.setCell ⟨p, 0, none⟩ (.bool m.fixed)).setCell ⟨p, 1, none⟩ (.int .u64 (m.mn : Int))).setCell ⟨p, 2, none⟩ (.int .u64 (m.mx : Int))).setCell ⟨p, 3, none⟩ (.int .u64 (m.chunks : Int))).frozen? ⟨p, 4, none⟩ = false := ((((H2.out.set 0 (.bool m.fixed)).set 1 (.int .u64 (m.mn : Int))).set 2 (.int .u64 (m.mx : Int))).set 3 (.int .u64 (m.chunks : Int))).1.frozen 4
      have H9 : Hid (MLo w p (msC m) (((((w2.setCell ⟨p, 0, none⟩ (.bool m.fixed)).setCell ⟨p, 1, none⟩ (.int .u64 (m.mn : Int))).setCell ⟨p, 2, none⟩ (.int .u64 (m.mx : Int))).setCell ⟨p, 3, none⟩ (.int .u64 (m.chunks : Int))).setCell ⟨p, 4, none⟩ (.int .i64 (m.depth : Int)))) := hid (((((H2.out.set 0 (.bool m.fixed)).set 1 (.int .u64 (m.mn : Int))).set 2 (.int .u64 (m.mx : Int))).set 3 (.int .u64 (m.chunks : Int))).set 4 (.int .i64 (m.depth : Int)))
      go_wp2_with fail
      go_meet
      exact ⟨m, ok, rfl, hid ⟨H9.out, HQ.out⟩⟩
    · have HA := hid ((HM.out w1 H1.out.2.1).2.1 (.inr rfl))
      go_wp2_with fail
      refine HA.out.mono ?_
      rintro e w2 ⟨⟨m, ok, rfl, e2, e3⟩, hb2⟩
      clear HA
      have H2 := hid (H1.out.below hb2)
      have HQ := hid (And.intro e2 e3)
      clear hb2 e2 e3
      dsimp only [msC]
      have r0 : ∀ wz : World, (Instr.field 221 (.agg #[.bool m.fixed, .int .u64 (m.mn : Int), .int .u64 (m.mx : Int), .int .u64 (m.chunks : Int), .int .i64 (m.depth : Int)]) 0).run Tryz.prog wz = .ok (.bool m.fixed) wz := fun wz => by rfl
      clear r0
      have a0 : w2.cell? ⟨p, 0, none⟩ = some (.bool false) := H2.out.1.cell 0
      have z0 : w2.frozen? ⟨p, 0, none⟩ = false := H2.out.1.frozen 0
      have a1 : (w2.setCell ⟨p, 0, none⟩ (.bool m.fixed)).cell? ⟨p, 1, none⟩ = some (.int .u64 0) := (H2.out.set 0 (.bool m.fixed)).1.cell 1
      have z1 : (w2.setCell ⟨p, 0, none⟩ (.bool m.fixed)).frozen? ⟨p, 1, none⟩ = false := (H2.out.set 0 (.bool m.fixed)).1.frozen 1
      have a2 : ((w2.setCell ⟨p, 0, none⟩ (.bool m.fixed)).setCell ⟨p, 1, none⟩ (.int .u64 (m.mn : Int))).cell? ⟨p, 2, none⟩ = some (.int .u64 0) := ((H2.out.set 0 (.bool m.fixed)).set 1 (.int .u64 (m.mn : Int))).1.cell 2
      have z2 : ((w2.setCell ⟨p, 0, none⟩ (.bool m.fixed)).setCell ⟨p, 1, none⟩ (.int .u64 (m.mn : Int))).frozen? ⟨p, 2, none⟩ = false := ((H2.out.set 0 (.bool m.fixed)).set 1 (.int .u64 (m.mn : Int))).1.frozen 2
      have a3 : (((w2.setCell ⟨p, 0, none⟩ (.bool m.fixed)).setCell ⟨p, 1, none⟩ (.int .u64 (m.mn : Int))).setCell ⟨p, 2, none⟩ (.int .u64 (m.mx : Int))).cell? ⟨p, 3, none⟩ = some (.int .u64 0) := (((H2.out.set 0 (.bool m.fixed)).set 1 (.int .u64 (m.mn : Int))).set 2 (.int .u64 (m.mx : Int))).1.cell 3
      have z3 : (((w2.setCell ⟨p, 0, none⟩ (.bool m.fixed)).setCell ⟨p, 1, none⟩ (.int .u64 (m.mn : Int))).setCell ⟨p, 2, none⟩ (.int .u64 (m.mx : Int))).frozen? ⟨p, 3, none⟩ = false := (((H2.out.set 0 (.bool m.fixed)).set 1 (.int .u64 (m.mn : Int))).set 2 (.int .u64 (m.mx : Int))).1.frozen 3
      have a4 : ((((w2.setCell ⟨p, 0, none⟩ (.bool m.fixed)).setCell ⟨p, 1, none⟩ (.int .u64 (m.mn : Int))).setCell ⟨p, 2, none⟩ (.int .u64 (m.mx : Int))).setCell ⟨p, 3, none⟩ (.int .u64 (m.chunks : Int))).cell? ⟨p, 4, none⟩ = some (.int .i64 0) := ((((H2.out.set 0 (.bool m.fixed)).set 1 (.int .u64 (m.mn : Int))).set 2 (.int .u64 (m.mx : Int))).set 3 (.int .u64 (m.chunks : Int))).1.cell 4
      have z4 : ((((w2.setCell ⟨p, 0, none⟩ (.bool m.fixed)).setCell ⟨p, 1, none⟩ (.int .u64 (m.mn : Int))).setCell ⟨p, 2, none⟩ (.int .u64 (m.mx : Int))).setCell ⟨p, 3, none⟩ (.int .u64 (m.chunks : Int))).frozen? ⟨p, 4, none⟩ = false := ((((H2.out.set 0 (.bool m.fixed)).set 1 (.int .u64 (m.mn : Int))).set 2 (.int .u64 (m.mx : Int))).set 3 (.int .u64 (m.chunks : Int))).1.frozen 4
      have H9 : Hid (MLo w p (msC m) (((((w2.setCell ⟨p, 0, none⟩ (.bool m.fixed)).setCell ⟨p, 1, none⟩ (.int .u64 (m.mn : Int))).setCell ⟨p, 2, none⟩ (.int .u64 (m.mx : Int))).setCell ⟨p, 3, none⟩ (.int .u64 (m.chunks : Int))).setCell ⟨p, 4, none⟩ (.int .i64 (m.depth : Int)))) := hid (((((H2.out.set 0 (.bool m.fixed)).set 1 (.int .u64 (m.mn : Int))).set 2 (.int .u64 (m.mx : Int))).set 3 (.int .u64 (m.chunks : Int))).set 4 (.int .i64 (m.depth : Int)))
      go_wp2_with fail
      go_meet
      exact ⟨m, ok, rfl, hid ⟨H9.out, HQ.out⟩⟩
    · have HA := hid ((HM.out w1 H1.out.2.1).2.2.1 rfl)
      go_wp2_with fail
      refine HA.out.mono ?_
      rintro e w2 ⟨⟨m, ok, rfl, e2, e3⟩, hb2⟩
      clear HA
      have H2 := hid (H1.out.below hb2)
      have HQ := hid (And.intro e2 e3)
      clear hb2 e2 e3
      dsimp only [msC]
      have r0 : ∀ wz : World, (Instr.field 221 (.agg #[.bool m.fixed, .int .u64 (m.mn : Int), .int .u64 (m.mx : Int), .int .u64 (m.chunks : Int), .int .i64 (m.depth : Int)]) 0).run Tryz.prog wz = .ok (.bool m.fixed) wz := fun wz => by rfl
      clear r0
      have a0 : w2.cell? ⟨p, 0, none⟩ = some (.bool false) := H2.out.1.cell 0
      have z0 : w2.frozen? ⟨p, 0, none⟩ = false := H2.out.1.frozen 0
      have a1 : (w2.setCell ⟨p, 0, none⟩ (.bool m.fixed)).cell? ⟨p, 1, none⟩ = some (.int .u64 0) := (H2.out.set 0 (.bool m.fixed)).1.cell 1
      have z1 : (w2.setCell ⟨p, 0, none⟩ (.bool m.fixed)).frozen? ⟨p, 1, none⟩ = false := (H2.out.set 0 (.bool m.fixed)).1.frozen 1
      have a2 : ((w2.setCell ⟨p, 0, none⟩ (.bool m.fixed)).setCell ⟨p, 1, none⟩ (.int .u64 (m.mn : Int))).cell? ⟨p, 2, none⟩ = some (.int .u64 0) := ((H2.out.set 0 (.bool m.fixed)).set 1 (.int .u64 (m.mn : Int))).1.cell 2
      have z2 : ((w2.setCell ⟨p, 0, none⟩ (.bool m.fixed)).setCell ⟨p, 1, none⟩ (.int .u64 (m.mn : Int))).frozen? ⟨p, 2, none⟩ = false := ((H2.out.set 0 (.bool m.fixed)).set 1 (.int .u64 (m.mn : Int))).1.frozen 2
      have a3 : (((w2.setCell ⟨p, 0, none⟩ (.bool m.fixed)).setCell ⟨p, 1, none⟩ (.int .u64 (m.mn : Int))).setCell ⟨p, 2, none⟩ (.int .u64 (m.mx : Int))).cell? ⟨p, 3, none⟩ = some (.int .u64 0) := (((H2.out.set 0 (.bool m.fixed)).set 1 (.int .u64 (m.mn : Int))).set 2 (.int .u64 (m.mx : Int))).1.cell 3
      have z3 : (((w2.setCell ⟨p, 0, none⟩ (.bool m.fixed)).setCell ⟨p, 1, none⟩ (.int .u64 (m.mn : Int))).setCell ⟨p, 2, none⟩ (.int .u64 (m.mx : Int))).frozen? ⟨p, 3, none⟩ = false := (((H2.out.set 0 (.bool m.fixed)).set 1 (.int .u64 (m.mn : Int))).set 2 (.int .u64 (m.mx : Int))).1.frozen 3
      have a4 : ((((w2.setCell ⟨p, 0, none⟩ (.bool m.fixed)).setCell ⟨p, 1, none⟩ (.int .u64 (m.mn : Int))).setCell ⟨p, 2, none⟩ (.int .u64 (m.mx : Int))).setCell ⟨p, 3, none⟩ (.int .u64 (m.chunks : Int))).cell? ⟨p, 4, none⟩ = some (.int .i64 0) := ((((H2.out.set 0 (.bool m.fixed)).set 1 (.int .u64 (m.mn : Int))).set 2 (.int .u64 (m.mx : Int))).set 3 (.int .u64 (m.chunks : Int))).1.cell 4
      have z4 : ((((w2.setCell ⟨p, 0, none⟩ (.bool m.fixed)).setCell ⟨p, 1, none⟩ (.int .u64 (m.mn : Int))).setCell ⟨p, 2, none⟩ (.int .u64 (m.mx : Int))).setCell ⟨p, 3, none⟩ (.int .u64 (m.chunks : Int))).frozen? ⟨p, 4, none⟩ = false := ((((H2.out.set 0 (.bool m.fixed)).set 1 (.int .u64 (m.mn : Int))).set 2 (.int .u64 (m.mx : Int))).set 3 (.int .u64 (m.chunks : Int))).1.frozen 4
      have H9 : Hid (MLo w p (msC m) (((((w2.setCell ⟨p, 0, none⟩ (.bool m.fixed)).setCell ⟨p, 1, none⟩ (.int .u64 (m.mn : Int))).setCell ⟨p, 2, none⟩ (.int .u64 (m.mx : Int))).setCell ⟨p, 3, none⟩ (.int .u64 (m.chunks : Int))).setCell ⟨p, 4, none⟩ (.int .i64 (m.depth : Int)))) := hid (((((H2.out.set 0 (.bool m.fixed)).set 1 (.int .u64 (m.mn : Int))).set 2 (.int .u64 (m.mx : Int))).set 3 (.int .u64 (m.chunks : Int))).set 4 (.int .i64 (m.depth : Int)))
      go_wp2_with fail
      go_meet
      exact ⟨m, ok, rfl, hid ⟨H9.out, HQ.out⟩⟩
    · have HA := hid ((HM.out w1 H1.out.2.1).2.2.2 rfl)
      go_wp2_with fail
      refine HA.out.mono ?_
      rintro e w2 ⟨⟨m, ok, rfl, e2, e3⟩, hb2⟩
      clear HA
      have H2 := hid (H1.out.below hb2)
      have HQ := hid (And.intro e2 e3)
      clear hb2 e2 e3
      dsimp only [msC]
      have r0 : ∀ wz : World, (Instr.field 221 (.agg #[.bool m.fixed, .int .u64 (m.mn : Int), .int .u64 (m.mx : Int), .int .u64 (m.chunks : Int), .int .i64 (m.depth : Int)]) 0).run Tryz.prog wz = .ok (.bool m.fixed) wz := fun wz => by rfl
      clear r0
      have a0 : w2.cell? ⟨p, 0, none⟩ = some (.bool false) := H2.out.1.cell 0
      have z0 : w2.frozen? ⟨p, 0, none⟩ = false := H2.out.1.frozen 0
      have a1 : (w2.setCell ⟨p, 0, none⟩ (.bool m.fixed)).cell? ⟨p, 1, none⟩ = some (.int .u64 0) := (H2.out.set 0 (.bool m.fixed)).1.cell 1
      have z1 : (w2.setCell ⟨p, 0, none⟩ (.bool m.fixed)).frozen? ⟨p, 1, none⟩ = false := (H2.out.set 0 (.bool m.fixed)).1.frozen 1
      have a2 : ((w2.setCell ⟨p, 0, none⟩ (.bool m.fixed)).setCell ⟨p, 1, none⟩ (.int .u64 (m.mn : Int))).cell? ⟨p, 2, none⟩ = some (.int .u64 0) := ((H2.out.set 0 (.bool m.fixed)).set 1 (.int .u64 (m.mn : Int))).1.cell 2
      have z2 : ((w2.setCell ⟨p, 0, none⟩ (.bool m.fixed)).setCell ⟨p, 1, none⟩ (.int .u64 (m.mn : Int))).frozen? ⟨p, 2, none⟩ = false := ((H2.out.set 0 (.bool m.fixed)).set 1 (.int .u64 (m.mn : Int))).1.frozen 2
      have a3 : (((w2.setCell ⟨p, 0, none⟩ (.bool m.fixed)).setCell ⟨p, 1, none⟩ (.int .u64 (m.mn : Int))).setCell ⟨p, 2, none⟩ (.int .u64 (m.mx : Int))).cell? ⟨p, 3, none⟩ = some (.int .u64 0) := (((H2.out.set 0 (.bool m.fixed)).set 1 (.int .u64 (m.mn : Int))).set 2 (.int .u64 (m.mx : Int))).1.cell 3
      have z3 : (((w2.setCell ⟨p, 0, none⟩ (.bool m.fixed)).setCell ⟨p, 1, none⟩ (.int .u64 (m.mn : Int))).setCell ⟨p, 2, none⟩ (.int .u64 (m.mx : Int))).frozen? ⟨p, 3, none⟩ = false := (((H2.out.set 0 (.bool m.fixed)).set 1 (.int .u64 (m.mn : Int))).set 2 (.int .u64 (m.mx : Int))).1.frozen 3
      have a4 : ((((w2.setCell ⟨p, 0, none⟩ (.bool m.fixed)).setCell ⟨p, 1, none⟩ (.int .u64 (m.mn : Int))).setCell ⟨p, 2, none⟩ (.int .u64 (m.mx : Int))).setCell ⟨p, 3, none⟩ (.int .u64 (m.chunks : Int))).cell? ⟨p, 4, none⟩ = some (.int .i64 0) := ((((H2.out.set 0 (.bool m.fixed)).set 1 (.int .u64 (m.mn : Int))).set 2 (.int .u64 (m.mx : Int))).set 3 (.int .u64 (m.chunks : Int))).1.cell 4
      have z4 : ((((w2.setCell ⟨p, 0, none⟩ (.bool m.fixed)).setCell ⟨p, 1, none⟩ (.int .u64 (m.mn : Int))).setCell ⟨p, 2, none⟩ (.int .u64 (m.mx : Int))).setCell ⟨p, 3, none⟩ (.int .u64 (m.chunks : Int))).frozen? ⟨p, 4, none⟩ = false := ((((H2.out.set 0 (.bool m.fixed)).set 1 (.int .u64 (m.mn : Int))).set 2 (.int .u64 (m.mx : Int))).set 3 (.int .u64 (m.chunks : Int))).1.frozen 4
      have H9 : Hid (MLo w p (msC m) (((((w2.setCell ⟨p, 0, none⟩ (.bool m.fixed)).setCell ⟨p, 1, none⟩ (.int .u64 (m.mn : Int))).setCell ⟨p, 2, none⟩ (.int .u64 (m.mx : Int))).setCell ⟨p, 3, none⟩ (.int .u64 (m.chunks : Int))).setCell ⟨p, 4, none⟩ (.int .i64 (m.depth : Int)))) := hid (((((H2.out.set 0 (.bool m.fixed)).set 1 (.int .u64 (m.mn : Int))).set 2 (.int .u64 (m.mx : Int))).set 3 (.int .u64 (m.chunks : Int))).set 4 (.int .i64 (m.depth : Int)))
      go_wp2_with fail
      go_meet
      exact ⟨m, ok, rfl, hid ⟨H9.out, HQ.out⟩⟩
  case rest =>
  obtain ⟨m, ok, rfl, HM2⟩ := hcut
  clear HM H1 HC k0 hkk
  cases ok with
  | false =>
    go_wp2
    go_ret
    exact hid (.inr ⟨1, .inl rfl, rfl, fun m' hm => absurd hm (HM2.out.2.2 (by first | rfl | trivial) m'), HM2.out.1.2.1⟩)
  | true =>
  have hms := HM2.out.2.1 (by first | rfl | trivial)
  have hok := hms.ok HX.out.2.2.1 HX.out.2.2.2
  obtain ⟨fx, mn, mx, ck, dp⟩ := m
  have HML := hid HM2.out.1
  have Hms := hid hms
  obtain ⟨q1, q2, q3, q4⟩ := hok
  have q1 : mn ≤ mx := q1
  have q2 : mx ≤ 4294967295 := q2
  clear HM2 hms q3 q4
  dsimp only [msC] at HML
  have a0 : wc.cell? ⟨p, 0, none⟩ = some (.bool fx) := HML.out.1.cell 0
  have az0 : wc.frozen? ⟨p, 0, none⟩ = false := HML.out.1.frozen 0
  have a1 : wc.cell? ⟨p, 1, none⟩ = some (.int .u64 (mn : Int)) := HML.out.1.cell 1
  have az1 : wc.frozen? ⟨p, 1, none⟩ = false := HML.out.1.frozen 1
  have a2 : wc.cell? ⟨p, 2, none⟩ = some (.int .u64 (mx : Int)) := HML.out.1.cell 2
  have az2 : wc.frozen? ⟨p, 2, none⟩ = false := HML.out.1.frozen 2
  have a3 : wc.cell? ⟨p, 3, none⟩ = some (.int .u64 (ck : Int)) := HML.out.1.cell 3
  have az3 : wc.frozen? ⟨p, 3, none⟩ = false := HML.out.1.frozen 3
  have a4 : wc.cell? ⟨p, 4, none⟩ = some (.int .i64 (dp : Int)) := HML.out.1.cell 4
  have az4 : wc.frozen? ⟨p, 4, none⟩ = false := HML.out.1.frozen 4
  by_cases hdp : 63 < dp
  · have d1 : decide ((dp : Int) > 63) = true := decide_eq_true (by omega)
    have d1n : decide (dp > 63) = true := decide_eq_true hdp
    have d1m : decide (63 < dp) = true := decide_eq_true hdp
    go_wp2
    go_ret
    exact hid (.inr ⟨2, .inr rfl, rfl, fun m' hm => by rw [← Hms.out.uniq hm]; exact hdp, HML.out.2.1⟩)
  have d1 : decide ((dp : Int) > 63) = false := decide_eq_false (by omega)
  have d1n : decide (dp > 63) = false := decide_eq_false hdp
  have d1m : decide (63 < dp) = false := decide_eq_false hdp
  have e0 : T.types.set i x = T.types := by
    apply List.ext_getElem?
    intro j
    by_cases hj : j = i
    · subst hj; rw [List.getElem?_set_self HX.out.2.1, HX.out.1]
    · rw [List.getElem?_set_ne (Ne.symm hj)]
  have H0 : Hid (MOs w τ tB V T p ⟨fx, mn, mx, ck, dp⟩ i x wc) := hid ⟨by rw [e0]; exact HT.out.below HML.out.2.1, HML.out.1, Fr.below HML.out.2.1⟩
  clear e0
  have s1 : wc.cell? ⟨gt, i * 12 + 1, none⟩ = some (.bool x.fixed) := H0.out.cell Hv.out HX.out.2.1 (by decide)
  obtain ⟨H1p, z1⟩ := H0.out.put (j := 1) (x' := { x with fixed := fx }) (u := .bool fx) Hpz.out Hv.out HX.out.2.1 (by decide) rfl
  have H1 := hid H1p
  clear H1p
  go_upto_region 20 with fail
  generalize hw3 : wc.setCell _ _ = w2 at H1 ⊢
  clear hw3 s1 z1 H0 HML d1 d1n d1m
  clear a0 az0 a1 az1 a2 az2 a3 az3 a4 az4
  have em : IntKind.u32.wrap (mn : Int) = (mn : Int) := by rw [IntKind.wrap_u32]; omega
  have ex : IntKind.u32.wrap (mx : Int) = (mx : Int) := by rw [IntKind.wrap_u32]; omega
  have HBd : Hid (Below w2.heap.size w2 w2.drew) := hid (Drew.below ⟨1, rfl⟩ _)
  have H1d := hid (H1.out.below HBd.out)
  refine wp_region_heavy (fun wz => wz.cell? ⟨p, 1, none⟩ = some (.int .u64 (mn : Int)) ∧ wz.cell? ⟨p, 2, none⟩ = some (.int .u64 (mx : Int))) 11 [0, 1, 2, 3, 4, 5, 6, 7, 8, 9] [10] rfl (by kernel_rfl) (by kernel_rfl) (fun d _ _ _ _ h => by cases d <;> exact h) ⟨H1d.out.mb.cell 1, H1d.out.mb.cell 2⟩ ?_
  apply Exists.intro
  refine ⟨?_, ?_⟩
  · intro W hW
    have g1 : ∀ z, (W z).cell? ⟨p, 1, none⟩ = some (.int .u64 (mn : Int)) := fun z => (hW z).1
    have g2 : ∀ z, (W z).cell? ⟨p, 2, none⟩ = some (.int .u64 (mx : Int)) := fun z => (hW z).2
    clear hW
    simp only [List.take, opsAt, List.drop, List.cons_append, List.nil_append]
    repeat (go_big_quiet_step (fail))
    exact rfl
  simp only [List.take, List.drop, opsAt, List.cons_append, List.nil_append, wpHv]
  generalize w2.drew = wd at HBd H1d ⊢
  have s9 : wd.cell? ⟨gt, i * 12 + 9, none⟩ = some (.int .u32 (x.mn : Int)) := H1d.out.cell Hv.out HX.out.2.1 (by decide)
  obtain ⟨H2p, z9⟩ := H1d.out.put (j := 9) (x' := { x with fixed := fx, mn := mn }) (u := .int .u32 (mn : Int)) Hpz.out Hv.out HX.out.2.1 (by decide) rfl
  have H2 := hid H2p
  clear H2p H1 HBd
  go_wp2_with fail
  (try simp only [em])
  refine ⟨⟨H2.out.mb.cell 1, H2.out.mb.cell 2⟩, ?_⟩
  simp only [QN]
  generalize hw3 : wd.setCell _ _ = w3 at H2 ⊢
  clear hw3 s9 z9 H1d em
  have s10 : w3.cell? ⟨gt, i * 12 + 10, none⟩ = some (.int .u32 (x.mx : Int)) := H2.out.cell Hv.out HX.out.2.1 (by decide)
  obtain ⟨H3p, z10⟩ := H2.out.put (j := 10) (x' := { x with fixed := fx, mn := mn, mx := mx }) (u := .int .u32 (mx : Int)) Hpz.out Hv.out HX.out.2.1 (by decide) rfl
  have H3 := hid H3p
  clear H3p
  go_upto_region 21 with fail
  (try simp only [ex])
  generalize hw3 : w3.setCell _ _ = w4 at H3 ⊢
  clear hw3 s10 z10 H2
  have a0 : w4.cell? ⟨p, 0, none⟩ = some (.bool fx) := H3.out.mb.cell 0
  have a2 : w4.cell? ⟨p, 2, none⟩ = some (.int .u64 (mx : Int)) := H3.out.mb.cell 2
  have ec : IntKind.u32.wrap (ck : Int) = ((ck % 4294967296 : Nat) : Int) := by rw [IntKind.wrap_u32]; omega
  obtain ⟨cc, hcc⟩ : ∃ a, ck % 4294967296 = a := ⟨_, rfl⟩
  rw [hcc] at ec
  have Hcc := hid hcc
  clear hcc
  have ed : IntKind.u8.wrap (dp : Int) = (dp : Int) := by rw [IntKind.wrap_u8]; omega
  have key : ∀ (sz : Nat) (w5 : World), sz = (if fx = true then mx else x.size) → Hid (MOs w τ tB V T p ⟨fx, mn, mx, ck, dp⟩ i { x with fixed := fx, mn := mn, mx := mx, size := sz } w5) → Hid (w5.cell? ⟨gt, i * 12 + 11, none⟩ = some (.int .u32 (x.chunks : Int)) ∧ w5.frozen? ⟨gt, i * 12 + 11, none⟩ = false ∧ w5.cell? ⟨p, 3, none⟩ = some (.int .u64 (ck : Int)) ∧ (w5.setCell ⟨gt, i * 12 + 11, none⟩ (.int .u32 (cc : Int))).cell? ⟨gt, i * 12 + 2, none⟩ = some (.int .u8 (x.depth : Int)) ∧ (w5.setCell ⟨gt, i * 12 + 11, none⟩ (.int .u32 (cc : Int))).frozen? ⟨gt, i * 12 + 2, none⟩ = false ∧ (w5.setCell ⟨gt, i * 12 + 11, none⟩ (.int .u32 (cc : Int))).cell? ⟨p, 4, none⟩ = some (.int .i64 (dp : Int)) ∧ M1P w τ tB V T i x (.returned (.int .u8 0)) ((w5.setCell ⟨gt, i * 12 + 11, none⟩ (.int .u32 (cc : Int))).setCell ⟨gt, i * 12 + 2, none⟩ (.int .u8 (dp : Int)))) := fun sz w5 hsz H5 => hid (by
    obtain ⟨H6, z11⟩ := H5.out.put (j := 11) (x' := { x with fixed := fx, mn := mn, mx := mx, size := sz, chunks := cc }) (u := .int .u32 (cc : Int)) Hpz.out Hv.out HX.out.2.1 (by decide) rfl
    obtain ⟨H7, z2⟩ := H6.put (j := 2) (x' := { x with fixed := fx, mn := mn, mx := mx, size := sz, chunks := cc, depth := dp }) (u := .int .u8 (dp : Int)) Hpz.out Hv.out HX.out.2.1 (by decide) rfl
    refine ⟨H5.out.cell Hv.out HX.out.2.1 (by decide), z11, H5.out.mb.cell 3, H6.cell Hv.out HX.out.2.1 (by decide), z2, H6.mb.cell 4, .inl ⟨⟨fx, mn, mx, ck, dp⟩, rfl, Hms.out, by show dp ≤ 63; omega, ?_, H7.fr⟩⟩
    have e : upM x ⟨fx, mn, mx, ck, dp⟩ = { x with fixed := fx, mn := mn, mx := mx, size := sz, chunks := cc, depth := dp } := by
      unfold upM
      rw [hsz, ← Hcc.out]
    rw [e]
    exact H7.tb)
  have Hkey := hid key
  clear key
  cases fx with
  | true =>
    have s8 : w4.cell? ⟨gt, i * 12 + 8, none⟩ = some (.int .u32 (x.size : Int)) := H3.out.cell Hv.out HX.out.2.1 (by decide)
    obtain ⟨H4p, z8⟩ := H3.out.put (j := 8) (x' := { x with fixed := true, mn := mn, mx := mx, size := mx }) (u := .int .u32 (mx : Int)) Hpz.out Hv.out HX.out.2.1 (by decide) rfl
    have H4 := hid H4p
    clear H4p
    go_upto_region 23 with fail
    (try simp only [ex])
    generalize hw3 : w4.setCell _ _ = w5 at H4 ⊢
    clear hw3 s8 z8 H3 a0 a2
    obtain ⟨k1, k2, k3, k4, k5, k6, k7⟩ := (Hkey.out mx w5 rfl H4).out
    have HF := hid k7
    clear k7 Hkey H4 ex
    go_wp2
    go_ret
    exact HF
  | false =>
    go_upto_region 23 with fail
    obtain ⟨k1, k2, k3, k4, k5, k6, k7⟩ := (Hkey.out x.size w4 rfl H3).out
    have HF := hid k7
    clear k7 Hkey H3 ex a0 a2
    go_wp2
    go_ret
    exact HF
end
end Go.Proofs.Qxb6500883aGreatDoor
