/- The model in memory. -/
import Derived.Test.Qxb6500892aDoorTqMod
namespace Go.Proofs.Qxb6500892aDoor
open Go.RowKit
set_option linter.unusedSimpArgs false
set_option linter.unusedVariables false

theorem key_beqI (y x : Int) : (y == x) = decide (y = x) := by
  by_cases h : y = x
  · subst h; simp
  · rw [decide_eq_false h]
    exact beq_eq_false_iff_ne.2 h
theorem key_bneI (y x : Int) : (y != x) = decide (y ≠ x) := by
  unfold bne
  rw [key_beqI]
  by_cases h : y = x <;> simp [h]
theorem keys_oneM (l : List Nat) : ∀ u ∈ l.flatMap keyC, u.oneCell' = true := fun u hu => by
  obtain ⟨t, _, ht⟩ := List.mem_flatMap.1 hu
  exact keyC_one t u ht
theorem ents_oneM (V : List TEnt) : ∀ u ∈ V.flatMap entC, u.oneCell' = true := fun u hu => by
  obtain ⟨t, _, ht⟩ := List.mem_flatMap.1 hu
  exact entC_one t u ht
section
variable {α : Type} {w w' : World} {B B' : Nat} {e : TypeId} {sz : Nat} {f : α → List Value} {v v' : Value} {l l' : List α} {a : Option Addr} {n c : Nat}
theorem OR.mono (h : OR w B e sz f v l) (hb : B' ≤ B) : OR w B' e sz f v l := by
  refine ⟨h.1, ?_⟩
  rcases h.2 with h2 | ⟨g, cap, cur, h2, h3, h4⟩
  · exact .inl h2
  · exact .inr ⟨g, cap, cur, h2, by omega, h4⟩
theorem OR.lenS (h : OR w B e sz f (.slice a n c) l) : l.length = n := by
  rcases h.2 with ⟨h2, h3⟩ | ⟨g, cap, cur, h2, _⟩
  · cases h2; exact h3
  · cases h2; rfl
theorem OR.rowE {l : List TEnt} (h : OR w B 64 4 entC (.slice a n c) l) (hl : l.length ≤ 1000000) : RowOf w 4 entC a n c l := h.row' (by omega) (fun _ => rfl) (by omega)
theorem OR.rowU {l : List Nat} (h : OR w B 29 1 keyC (.slice a n c) l) (hl : l.length ≤ 1000000) : RowOf w 1 keyC a n c l := h.row' (by omega) (fun _ => rfl) (by omega)
/-- Rows made one behind the other lie apart. -/
theorem OR.apart (h : OR w B e sz f v l) {v' : Value} {l' : List α} (h' : OR w' B' e sz f v' l') (hB : w.heap.size ≤ B') : ∀ g, v.ownBlock = some g → v'.ownBlock ≠ some g := fun g h1 h2 => by
  have a1 := h.lt h1
  have a2 := (h'.blk h2).1
  omega
theorem OR.apart' (h : OR w B e sz f v l) {v' : Value} {l' : List α} (h' : OR w' B' e sz f v' l') (hB : w.heap.size ≤ B') : ∀ g, v'.ownBlock = some g → v.ownBlock ≠ some g := fun g h1 h2 => h.apart h' hB g h2 h1
theorem OR.updT {t : TypeId} {g : Nat} {ds : List Value} (h : OR w B e sz f v l) (hb : Blk w g t ds) (ht : e ≠ t) (hu : Upd g w w') : OR w' B e sz f v l :=
  h.keep fun k hk => hu.block k (h.lt hk) (fun q => by obtain ⟨_, cs, hc⟩ := h.blk hk; exact hc.tne hb ht q)
theorem OR.init' {l : List Nat} (h : OR w B 29 1 keyC (.slice a (n + 1) c) l) : OR w B 29 1 keyC (.slice a n c) l.dropLast ∧ ∃ g, a = some ⟨g, 0, none⟩ ∧ n + 1 ≤ c := by
  have hl := h.lenS
  rcases h.2 with ⟨h2, h3⟩ | ⟨g, cap, cur, h2, h3, h4, h5, h6, h7, h8⟩
  · cases h2
  · simp only [Value.slice.injEq] at h2
    obtain ⟨rfl, h2n, rfl⟩ := h2
    obtain ⟨A, z, rfl⟩ : ∃ A z, l = A ++ [z] := by
      cases hg : l.getLast? with
      | none => rw [List.getLast?_eq_none_iff] at hg; rw [hg] at hl; simp at hl
      | some z => exact ⟨_, z, (List.getLast?_eq_some_iff.1 hg).choose_spec⟩
    have hA : A.length = n := by simpa using hl
    rw [List.flatMap_append, List.length_append] at h8
    have hk : ∀ M : List Nat, (M.flatMap keyC).length = M.length := fun M => by rw [length_flatMap_const (f := keyC) (sz := 1) M (fun x _ => rfl)]; omega
    refine ⟨⟨by rw [List.dropLast_concat, hk]; omega, .inr ⟨g, c, cur, by rw [List.dropLast_concat, hA], h3, h4, by rw [List.dropLast_concat]; omega, h6, h7, ?_⟩⟩, g, rfl, by omega⟩
    rw [List.dropLast_concat]
    have := congrArg (List.take (A.length * 1)) h8
    rw [List.take_take, Nat.min_eq_left (by simp), List.take_left' (by rw [hk]; omega)] at this
    exact this
end
theorem entC_len (l : List TEnt) : (l.flatMap entC).length = l.length * 4 := length_flatMap_const (f := entC) (sz := 4) l (fun _ _ => rfl)
theorem ents_set {l : List TEnt} {i : Nat} {t : TEnt} (h : l[i]? = some t) (p : Int) : (l.flatMap entC).set (i * 4 + 2) (.int .i64 p) = (l.set i { t with pins := p }).flatMap entC := by
  have hi : i < l.length := (List.getElem?_eq_some_iff.1 h).1
  apply List.ext_getElem?
  intro j
  rw [List.getElem?_set, entC_len, getElem?_flatMap_const (sz := 4) (by omega) l (fun _ _ => rfl), getElem?_flatMap_const (sz := 4) (by omega) (l.set i _) (fun _ _ => rfl), List.getElem?_set]
  by_cases hj : j / 4 = i
  · rw [hj, if_pos rfl, if_pos hi, h]
    have hm := Nat.mod_lt j (show 0 < 4 by omega)
    have hd := Nat.div_add_mod j 4
    rw [hj] at hd
    rcases (by omega : j % 4 = 0 ∨ j % 4 = 1 ∨ j % 4 = 2 ∨ j % 4 = 3) with e | e | e | e <;> rw [e]
    · rw [if_neg (by omega)]; rfl
    · rw [if_neg (by omega)]; rfl
    · rw [if_pos (by omega), if_pos (by omega)]; rfl
    · rw [if_neg (by omega)]; rfl
  · rw [if_neg (fun e => hj (by omega)), if_neg (fun e => hj e.symm)]
/-- One entry's pins are written in place. -/
theorem OR.pins {w : World} {B : Nat} {g n c i : Nat} {l : List TEnt} {t : TEnt} (h : OR w B 64 4 entC (.slice (some ⟨g, 0, none⟩) n c) l) (hi : l[i]? = some t) (p : Int) : OR (w.setCell ⟨g, i * 4 + 2, none⟩ (.int .i64 p)) B 64 4 entC (.slice (some ⟨g, 0, none⟩) n c) (l.set i { t with pins := p }) ∧ (∃ cs, Blk w g 64 cs) ∧ B ≤ g := by
  rcases h.2 with ⟨h2, h3⟩ | ⟨g', cap, cur, h2, h3, h4, h5, h6, h7, h8⟩
  · cases h2
  · simp only [Value.slice.injEq, Option.some.injEq, Addr.mk.injEq, and_true] at h2
    obtain ⟨rfl, h2n, rfl⟩ := h2
    have hb : Blk w g 64 cur.toList := h4
    have hb2 := hb.set (i * 4 + 2) (.int .i64 p)
    refine ⟨⟨by rw [List.length_set, entC_len, List.length_set], .inr ⟨g, c, (cur.toList.set (i * 4 + 2) (.int .i64 p)).toArray, by rw [List.length_set, h2n], h3, hb2, by rw [List.length_set]; exact h5, h6, by simpa using h7, ?_⟩⟩, ⟨_, hb⟩, h3⟩
    rw [List.length_set, List.toList_toArray, List.take_set, h8, ents_set hi]
/-- The model in memory: its struct in the block pb, its three rows own ones. -/
structure MM (B pb : Nat) (a1 : Option Addr) (n1 c1 : Nat) (a2 : Option Addr) (n2 c2 : Nat) (a3 : Option Addr) (n3 c3 : Nat) (m : MS) (w : World) : Prop where
  bk : Blk w pb 88 [.int .i64 m.sl, .int .i64 m.kin, .int .i64 (m.kout : Int), .int .i64 m.kneg, .slice a1 n1 c1, .slice a2 n2 c2, .slice a3 n3 c3]
  o1 : OR w B 64 4 entC (.slice a1 n1 c1) m.I
  o2 : OR w B 64 4 entC (.slice a2 n2 c2) m.M
  o3 : OR w B 29 1 keyC (.slice a3 n3 c3) m.O
  sp : ∀ g, (Value.slice a1 n1 c1).ownBlock = some g → (Value.slice a2 n2 c2).ownBlock ≠ some g
  lb : B ≤ pb
def MX (B pb : Nat) (m : MS) (w : World) : Prop := ∃ a1 n1 c1 a2 n2 c2 a3 n3 c3, MM B pb a1 n1 c1 a2 n2 c2 a3 n3 c3 m w
/-- What a model must be for its walks. -/
structure MOk (m : MS) : Prop where
  l1 : m.I.length ≤ 131072
  l2 : m.M.length ≤ 131072
  l3 : m.O.length ≤ 131072
  lk : m.O.length ≤ m.kout
  ky : ∀ t ∈ m.I ++ m.M, 0 ≤ t.key
  pn : ∀ t ∈ m.I ++ m.M, 0 ≤ t.pins ∧ t.pins ≤ 1000000
  nd : ((m.I ++ m.M).map (·.slot)).Nodup
  rg : ∀ t ∈ m.I ++ m.M, 0 ≤ t.slot ∧ t.slot < m.sl
/-- Only the model and rows of entries from B on have changed. -/
structure UM (B : Nat) (w w' : World) : Prop where
  os : w'.os = w.os
  tape : w'.tape = w.tape
  output : w'.output = w.output
  size : w.heap.size ≤ w'.heap.size
  block : ∀ k, k < w.heap.size → (k < B ∨ ∀ cs, ¬ Blk w k 88 cs ∧ ¬ Blk w k 64 cs) → w'.heap[k]? = w.heap[k]?
section
variable {B pb : Nat} {a1 : Option Addr} {n1 c1 : Nat} {a2 : Option Addr} {n2 c2 : Nat} {a3 : Option Addr} {n3 c3 : Nat} {m : MS} {w w' w'' : World} {a : Option Addr} {n c : Nat}
theorem UM.refl (B : Nat) (w : World) : UM B w w := ⟨rfl, rfl, rfl, Nat.le_refl _, fun _ _ _ => rfl⟩
theorem UM.trans (h : UM B w w') (k : UM B w' w'') : UM B w w'' := ⟨k.os.trans h.os, k.tape.trans h.tape, k.output.trans h.output, Nat.le_trans h.size k.size, fun i hi hp => by
  have e := h.block i hi hp
  refine (k.block i (Nat.lt_of_lt_of_le hi h.size) ?_).trans e
  rcases hp with hp | hp
  · exact .inl hp
  · refine .inr fun cs => ?_
    unfold Blk
    rw [e]
    exact hp cs⟩
theorem UM.ofBelow (h : Below w.heap.size w w') : UM B w w' := ⟨h.os, h.tape, h.output, h.size, fun k hk _ => h.block k hk⟩
theorem UM.ofUpd {g : Nat} {t : TypeId} {cs : List Value} (h : Upd g w w') (hb : Blk w g t cs) (ht : t = 88 ∨ t = 64) (hB : B ≤ g) : UM B w w' := ⟨h.os, h.tape, h.output, h.size, fun k hk hp => h.block k hk fun e => by
  subst e
  rcases hp with hp | hp
  · omega
  · rcases ht with rfl | rfl
    · exact (hp cs).1 hb
    · exact (hp cs).2 hb⟩
theorem UM.blk {g : Nat} {t : TypeId} {cs : List Value} (h : UM B w w') (hb : Blk w g t cs) (h1 : t ≠ 88) (h2 : t ≠ 64) : Blk w' g t cs := hb.same (h.block g hb.lt (.inr fun ds => ⟨fun hc => hb.tne hc h1 rfl, fun hc => hb.tne hc h2 rfl⟩))
theorem UM.below (h : UM B w w') (hB : B ≤ w.heap.size) : Below B w w' := ⟨h.os, h.tape, h.output, h.size, fun k hk => h.block k (by omega) (.inl hk)⟩
theorem MM.below (h : MM B pb a1 n1 c1 a2 n2 c2 a3 n3 c3 m w) (hb : Below w.heap.size w w') : MM B pb a1 n1 c1 a2 n2 c2 a3 n3 c3 m w' := ⟨h.bk.below hb, h.o1.below hb, h.o2.below hb, h.o3.below hb, h.sp, h.lb⟩
theorem MM.um (h : MM B pb a1 n1 c1 a2 n2 c2 a3 n3 c3 m w) (hu : Upd pb w w') : UM B w w' := UM.ofUpd hu h.bk (.inl rfl) h.lb
theorem MM.b0 (h : MM B pb a1 n1 c1 a2 n2 c2 a3 n3 c3 m w) : B ≤ w.heap.size := by have := h.bk.lt; have := h.lb; omega
theorem OR.setM {α : Type} {e : TypeId} {sz : Nat} {f : α → List Value} {v : Value} {l : List α} {ds : List Value} {j : Nat} {u : Value} (h : OR w B e sz f v l) (hb : Blk w pb 88 ds) (ht : e ≠ 88) : OR (w.setCell ⟨pb, j, none⟩ u) B e sz f v l := h.updT hb ht ((Upd.refl pb w).setCell rfl u)
theorem MM.put1 (h : MM B pb a1 n1 c1 a2 n2 c2 a3 n3 c3 m w) {l : List TEnt} (ho : OR w B 64 4 entC (.slice a n c) l) (hs : ∀ g, (Value.slice a n c).ownBlock = some g → (Value.slice a2 n2 c2).ownBlock ≠ some g) : MM B pb a n c a2 n2 c2 a3 n3 c3 { m with I := l } (w.setCell ⟨pb, 4, none⟩ (.slice a n c)) :=
  ⟨h.bk.set 4 _, ho.setM h.bk (by decide), h.o2.setM h.bk (by decide), h.o3.setM h.bk (by decide), hs, h.lb⟩
theorem MM.put2 (h : MM B pb a1 n1 c1 a2 n2 c2 a3 n3 c3 m w) {l : List TEnt} (ho : OR w B 64 4 entC (.slice a n c) l) (hs : ∀ g, (Value.slice a1 n1 c1).ownBlock = some g → (Value.slice a n c).ownBlock ≠ some g) : MM B pb a1 n1 c1 a n c a3 n3 c3 { m with M := l } (w.setCell ⟨pb, 5, none⟩ (.slice a n c)) :=
  ⟨h.bk.set 5 _, h.o1.setM h.bk (by decide), ho.setM h.bk (by decide), h.o3.setM h.bk (by decide), hs, h.lb⟩
theorem MM.put3 (h : MM B pb a1 n1 c1 a2 n2 c2 a3 n3 c3 m w) {l : List Nat} (ho : OR w B 29 1 keyC (.slice a n c) l) : MM B pb a1 n1 c1 a2 n2 c2 a n c { m with O := l } (w.setCell ⟨pb, 6, none⟩ (.slice a n c)) :=
  ⟨h.bk.set 6 _, h.o1.setM h.bk (by decide), h.o2.setM h.bk (by decide), ho.setM h.bk (by decide), h.sp, h.lb⟩
theorem MM.put12 (h : MM B pb a1 n1 c1 a2 n2 c2 a3 n3 c3 m w) {l l' : List TEnt} {a' : Option Addr} {n' c' : Nat} (ho : OR w B 64 4 entC (.slice a n c) l) (ho' : OR w B 64 4 entC (.slice a' n' c') l') (hs : ∀ g, (Value.slice a n c).ownBlock = some g → (Value.slice a' n' c').ownBlock ≠ some g) : MM B pb a n c a' n' c' a3 n3 c3 { m with I := l, M := l' } ((w.setCell ⟨pb, 4, none⟩ (.slice a n c)).setCell ⟨pb, 5, none⟩ (.slice a' n' c')) :=
  ⟨(h.bk.set 4 _).set 5 _, (ho.setM h.bk (by decide)).setM (h.bk.set 4 _) (by decide), (ho'.setM h.bk (by decide)).setM (h.bk.set 4 _) (by decide), (h.o3.setM h.bk (by decide)).setM (h.bk.set 4 _) (by decide), hs, h.lb⟩
/-- An entry's place: the row's block, its index. -/
def Place (a1 a2 : Option Addr) (m : MS) (g i : Nat) (t : TEnt) : Prop := (a1 = some ⟨g, 0, none⟩ ∧ m.I[i]? = some t) ∨ (a2 = some ⟨g, 0, none⟩ ∧ m.M[i]? = some t)
theorem own_at {g n c : Nat} : (Value.slice (some ⟨g, 0, none⟩) n c).ownBlock = some g := rfl
theorem set_bump {l : List TEnt} {i : Nat} {t : TEnt} (d : Int) (h : l[i]? = some t) (hn : (l.map (·.slot)).Nodup) : l.set i { t with pins := t.pins + d } = l.map (bumpI t.slot d) := by
  apply List.ext_getElem?
  intro j
  rw [List.getElem?_set, List.getElem?_map]
  have hi : i < l.length := (List.getElem?_eq_some_iff.1 h).1
  by_cases hj : i = j
  · subst hj
    rw [if_pos rfl, if_pos hi, h]
    show _ = some (bumpI t.slot d t)
    unfold bumpI
    rw [if_pos rfl]
  · rw [if_neg hj]
    cases hq : l[j]? with
    | none => rfl
    | some u =>
      show _ = some (bumpI t.slot d u)
      unfold bumpI
      rw [if_neg]
      intro e
      apply hj
      have g1 : (l.map (·.slot))[i]? = some t.slot := by rw [List.getElem?_map, h]; rfl
      have g2 : (l.map (·.slot))[j]? = some t.slot := by rw [List.getElem?_map, hq]; exact congrArg some e
      exact (List.getElem?_inj (by rw [List.length_map]; exact hi) hn).1 (g1.trans g2.symm)
theorem map_bump_out {l : List TEnt} {x d : Int} (h : ∀ t ∈ l, t.slot ≠ x) : l.map (bumpI x d) = l := by
  conv => rhs; rw [← List.map_id l]
  exact List.map_congr_left fun t ht => if_neg (h t ht)
theorem MM.pins (h : MM B pb a1 n1 c1 a2 n2 c2 a3 n3 c3 m w) {g i : Nat} {t : TEnt} (hp : Place a1 a2 m g i t) (hn : ((m.I ++ m.M).map (·.slot)).Nodup) (d : Int) : MM B pb a1 n1 c1 a2 n2 c2 a3 n3 c3 { m with I := m.I.map (bumpI t.slot d), M := m.M.map (bumpI t.slot d) } (w.setCell ⟨g, i * 4 + 2, none⟩ (.int .i64 (t.pins + d))) ∧ UM B w (w.setCell ⟨g, i * 4 + 2, none⟩ (.int .i64 (t.pins + d))) := by
  rw [List.map_append, List.nodup_append] at hn
  obtain ⟨hn1, hn2, hn3⟩ := hn
  rcases hp with ⟨rfl, hi⟩ | ⟨rfl, hi⟩
  · obtain ⟨q, ⟨cs, hb⟩, hB⟩ := h.o1.pins hi (t.pins + d)
    have hu : Upd g w (w.setCell ⟨g, i * 4 + 2, none⟩ (.int .i64 (t.pins + d))) := (Upd.refl g w).setCell rfl _
    rw [set_bump d hi hn1] at q
    have hM : m.M.map (bumpI t.slot d) = m.M := map_bump_out fun u hu e => hn3 t.slot (List.mem_map.2 ⟨t, List.mem_of_getElem? hi, rfl⟩) u.slot (List.mem_map.2 ⟨u, hu, rfl⟩) e.symm
    refine ⟨⟨h.bk.upd hu (h.bk.tne hb (by decide)), q, ?_, h.o3.updT hb (by decide) hu, h.sp, h.lb⟩, UM.ofUpd hu hb (.inr rfl) hB⟩
    rw [hM]
    exact h.o2.keep fun k hk => hu.block k (h.o2.lt hk) (fun e => by subst e; exact h.sp k own_at hk)
  · obtain ⟨q, ⟨cs, hb⟩, hB⟩ := h.o2.pins hi (t.pins + d)
    have hu : Upd g w (w.setCell ⟨g, i * 4 + 2, none⟩ (.int .i64 (t.pins + d))) := (Upd.refl g w).setCell rfl _
    rw [set_bump d hi hn2] at q
    have hM : m.I.map (bumpI t.slot d) = m.I := map_bump_out fun u hu e => hn3 u.slot (List.mem_map.2 ⟨u, hu, rfl⟩) t.slot (List.mem_map.2 ⟨t, List.mem_of_getElem? hi, rfl⟩) e
    refine ⟨⟨h.bk.upd hu (h.bk.tne hb (by decide)), ?_, q, h.o3.updT hb (by decide) hu, h.sp, h.lb⟩, UM.ofUpd hu hb (.inr rfl) hB⟩
    rw [hM]
    exact h.o1.keep fun k hk => hu.block k (h.o1.lt hk) (fun e => by subst e; exact h.sp k hk own_at)
/-- An entry's cells. -/
theorem MM.at (h : MM B pb a1 n1 c1 a2 n2 c2 a3 n3 c3 m w) (hk : MOk m) {g i : Nat} {t : TEnt} (hp : Place a1 a2 m g i t) : w.cell? ⟨g, i * 4, none⟩ = some (.int .i64 t.slot) ∧ w.cell? ⟨g, i * 4 + 1, none⟩ = some (.int .u64 t.key) ∧ w.cell? ⟨g, i * 4 + 2, none⟩ = some (.int .i64 t.pins) ∧ w.cell? ⟨g, i * 4 + 3, none⟩ = some (.bool t.neg) ∧ w.frozen? ⟨g, i * 4 + 2, none⟩ = false := by
  have key : ∀ {a : Option Addr} {n c : Nat} {l : List TEnt}, OR w B 64 4 entC (.slice a n c) l → l.length ≤ 131072 → a = some ⟨g, 0, none⟩ → l[i]? = some t → w.cell? ⟨g, i * 4, none⟩ = some (.int .i64 t.slot) ∧ w.cell? ⟨g, i * 4 + 1, none⟩ = some (.int .u64 t.key) ∧ w.cell? ⟨g, i * 4 + 2, none⟩ = some (.int .i64 t.pins) ∧ w.cell? ⟨g, i * 4 + 3, none⟩ = some (.bool t.neg) ∧ w.frozen? ⟨g, i * 4 + 2, none⟩ = false := by
    intro a n c l ho hl ha hi
    subst ha
    have hi' : i < n := by rw [← ho.lenS]; exact (List.getElem?_eq_some_iff.1 hi).1
    obtain ⟨t', ht, b, off, e, hb, hc⟩ := (ho.rowE (by omega)).cell hi'
    cases e
    rw [hi] at ht
    cases ht
    obtain ⟨_, ⟨cs, hb2⟩, _⟩ := ho.pins hi 0
    refine ⟨by simpa [entC] using hc 0 (by omega), by simpa [entC] using hc 1 (by omega), by simpa [entC] using hc 2 (by omega), by simpa [entC] using hc 3 (by omega), hb2.frozen _⟩
  rcases hp with ⟨e, hi⟩ | ⟨e, hi⟩
  · exact key h.o1 hk.l1 e hi
  · exact key h.o2 hk.l2 e hi
end
end Go.Proofs.Qxb6500892aDoor
