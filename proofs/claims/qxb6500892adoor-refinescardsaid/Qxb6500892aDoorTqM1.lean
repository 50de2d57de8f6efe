/- The model's helpers: without, inFront, inAm, entry, Remembers. -/
import Derived.Test.Qxb6500892aDoorTqMM
namespace Go.Proofs.Qxb6500892aDoor
open Go.RowKit
set_option linter.unusedSimpArgs false
set_option linter.unusedVariables false

theorem rowE_at {w : World} {a : Option Addr} {n c : Nat} {V : List TEnt} (hr : RowOf w 4 entC a n c V) {j : Nat} (hj : j < n) :
    ∃ t b off, V[j]? = some t ∧ a = some ⟨b, off, none⟩ ∧ w.cell? ⟨b, off + j * 4, none⟩ = some (.int .i64 t.slot) ∧ w.cell? ⟨b, off + j * 4 + 1, none⟩ = some (.int .u64 t.key) ∧ w.cell? ⟨b, off + j * 4 + 2, none⟩ = some (.int .i64 t.pins) ∧ w.cell? ⟨b, off + j * 4 + 3, none⟩ = some (.bool t.neg) := by
  obtain ⟨t, ht, b, off, ha, hb, hc⟩ := hr.cell hj
  exact ⟨t, b, off, ht, ha, by simpa [entC] using hc 0 (by omega), by simpa [entC] using hc 1 (by omega), by simpa [entC] using hc 2 (by omega), by simpa [entC] using hc 3 (by omega)⟩
theorem woutI_take {l : List TEnt} {i : Nat} {t : TEnt} (h : l[i]? = some t) (x : Int) : woutI (l.take (i + 1)) x = woutI (l.take i) x ++ (if t.slot = x then [] else [t]) := by
  unfold woutI
  rw [List.take_add_one, h, List.filter_append]
  congr 1
  by_cases e : t.slot = x <;> simp [e]
section
variable {w : World} {a : Option Addr} {n c : Nat} {l : List TEnt}
set_option maxRecDepth 100000 in
set_option maxHeartbeats 1000000 in
theorem without_walk (hr : RowOf w 4 entC a n c l) (hn : n ≤ 1000000) (x : Int) : Calls Tryd.prog 69 #[.slice a n c, .int .i64 x] w fun y w' => ∃ a' n' c', y = .returned (.slice a' n' c') ∧ OR w' w.heap.size 64 4 entC (.slice a' n' c') (woutI l x) ∧ Below w.heap.size w w' := by
  have HR := hid hr
  have hl : l.length = n := hr.1
  have HL := hid hl
  clear hr hl
  obtain ⟨ie, hie, hze, hsz1, hby1⟩ := info_entz
  have IE := hid (And.intro hie (And.intro hze (And.intro hsz1 hby1)))
  clear hie hze hsz1 hby1
  go_enter Tryd.func69, Tryd.ntmps69
  go_upto_region 3 with fail
  go_loopw [5, 10] (fun v5 v wr => ∃ i : Nat, i ≤ n ∧ v = .int .i64 (i : Int) ∧ ∃ a5 n5 c5, v5 = .slice a5 n5 c5 ∧ Hid (OR wr w.heap.size 64 4 entC (.slice a5 n5 c5) (woutI (l.take i) x) ∧ Below w.heap.size w wr)) (fun _ v _ => n - (intOf v).toNat)
  case atStart => exact ⟨0, by omega, rfl, none, 0, 0, rfl, hid ⟨OR.nil _ _ _ _ _, Below.refl _ _⟩⟩
  case round =>
  obtain ⟨i, hi, rfl, a5, n5, c5, rfl, HX⟩ := hrel
  by_cases hin : i < n
  · as_aux_lemma =>
    have di : decide ((i : Int) < (n : Int)) = true := decide_eq_true (by omega)
    have hii : (i : Int) < (n : Int) := by omega
    obtain ⟨t, b, off, ht, rfl, q0, q1, q2, q3⟩ := rowE_at (HR.out.below HX.out.2) hin
    have HT := hid (woutI_take ht x)
    have Hlen : Hid ((woutI (l.take i) x).length ≤ 1000000) := hid (Nat.le_trans (List.length_filter_le _ _) (by rw [List.length_take]; omega))
    clear ht
    obtain ⟨p9, hp9⟩ : ∃ p, wr.heap.size = p := ⟨_, rfl⟩
    have HB9 : Hid ((OR (wr.alloc (.cells #[.int .i64 t.slot, .int .u64 t.key, .int .i64 t.pins, .bool t.neg] 64)) w.heap.size 64 4 entC (.slice a5 n5 c5) (woutI (l.take i) x) ∧ Below w.heap.size w (wr.alloc (.cells #[.int .i64 t.slot, .int .u64 t.key, .int .i64 t.pins, .bool t.neg] 64))) ∧ Blk (wr.alloc (.cells #[.int .i64 t.slot, .int .u64 t.key, .int .i64 t.pins, .bool t.neg] 64)) p9 64 [.int .i64 t.slot, .int .u64 t.key, .int .i64 t.pins, .bool t.neg]) := hid (by
      have k1 := Blk.new wr [.int .i64 t.slot, .int .u64 t.key, .int .i64 t.pins, .bool t.neg] 64
      rw [hp9] at k1
      exact ⟨⟨HX.out.1.below (nbel wr _), HX.out.2.trans ((nbel wr _).mono HX.out.2.size)⟩, k1⟩)
    go_upto_region 5 with fail
    generalize wr.alloc (.cells #[.int .i64 t.slot, .int .u64 t.key, .int .i64 t.pins, .bool t.neg] 64) = w9 at HB9 ⊢
    have m0 : w9.cell? ⟨p9, 0, none⟩ = some (.int .i64 t.slot) := HB9.out.2.cell 0
    have m1 : w9.cell? ⟨p9, 1, none⟩ = some (.int .u64 t.key) := HB9.out.2.cell 1
    have m2 : w9.cell? ⟨p9, 2, none⟩ = some (.int .i64 t.pins) := HB9.out.2.cell 2
    have m3 : w9.cell? ⟨p9, 3, none⟩ = some (.bool t.neg) := HB9.out.2.cell 3
    clear HX q0 q1 q2 q3 hp9
    by_cases he : t.slot = x
    · have de : (t.slot != x) = false := by rw [key_bneI]; exact decide_eq_false (by simpa using he)
      have HF : Hid (OR w9 w.heap.size 64 4 entC (.slice a5 n5 c5) (woutI (l.take (i + 1)) x) ∧ Below w.heap.size w w9) := hid ⟨by rw [HT.out, if_pos he, List.append_nil]; exact HB9.out.1.1, HB9.out.1.2⟩
      clear he HT Hlen HB9
      go_wp2
      exact ⟨⟨i + 1, by omega, by go_num, a5, n5, c5, rfl, HF⟩, by simp [intOf]; omega⟩
    · have de : (t.slot != x) = true := by rw [key_bneI]; exact decide_eq_true he
      have HE := hid he
      clear he
      go_upto_region 6 with fail
      obtain ⟨w6, hw6⟩ : ∃ w6, w9.alloc (.cells #[.int .i64 t.slot, .int .u64 t.key, .int .i64 t.pins, .bool t.neg] 64) = w6 := ⟨_, rfl⟩
      have HX6 : Hid (OR w6 w.heap.size 64 4 entC (.slice a5 n5 c5) (woutI (l.take i) x) ∧ Below w.heap.size w w6) := hid (by rw [← hw6]; exact ⟨HB9.out.1.1.below (nbel w9 _), HB9.out.1.2.trans ((nbel w9 _).mono HB9.out.1.2.size)⟩)
      have HNw := hid (newRow w9 (entC t) 64 w9.heap.size rfl)
      rw [show (w9.alloc (.cells (entC t).toArray 64)) = w6 from hw6] at HNw
      obtain ⟨p6, hp6⟩ : ∃ p, w9.heap.size = p := ⟨_, rfl⟩
      rw [hp6] at HNw
      go_wp2_with (at_builtin; refine stopHere ?_)
      intro _
      (try simp only [hw6])
      refine wpList_append_row _ rfl (.tmp 18) (.tmp 20) 38 rfl w.heap.size 64 ie (.agg #[.int .i64 0, .int .u64 0, .int .i64 0, .bool false]) 4 32 Tryd.underlying38 IE.out.1 IE.out.2.1 IE.out.2.2.1 IE.out.2.2.2 rfl (by decide) (.slice a5 n5 c5) _ _ (by simp [Act.eval, Act.put]; done) HX6.out.1 (some ⟨p6, 0, none⟩) 1 1 (entC t) (by simp [Act.eval, Act.put]; done) rfl (fun h => by cases h) HNw.out (entC_one t) (by have := Hlen.out; omega) (by decide) HX6.out.2.size ?_
      intro v7 w7 hown7 hb7 hk7 hg7
      have HF : Hid (OR w7 w.heap.size 64 4 entC v7 (woutI (l.take (i + 1)) x) ∧ Below w.heap.size w w7) := hid ⟨by
        rw [HT.out, if_neg HE.out]
        have := hown7
        rw [flatMap_snoc] at this
        unfold OR
        rw [List.length_append]
        exact this, HX6.out.2.trans hb7⟩
      clear hown7 hb7 hk7 hg7 HX6 HNw hw6 hp6 HT Hlen HE HB9 m0 m1 m2 m3
      obtain ⟨a7, n7, c7, h7⟩ := HF.out.1.shape
      subst h7
      go_wp2
      exact ⟨⟨i + 1, by omega, by go_num, a7, n7, c7, rfl, HF⟩, by simp [intOf]; omega⟩
  · as_aux_lemma =>
    have di : decide ((i : Int) < (n : Int)) = false := decide_eq_false (by omega)
    have HF : Hid (OR wr w.heap.size 64 4 entC (.slice a5 n5 c5) (woutI l x) ∧ Below w.heap.size w wr) := hid (by
      have := HX.out
      rw [List.take_of_length_le (by have := HL.out; omega)] at this
      exact this)
    clear HX
    go_wp2
    go_ret
    exact ⟨a5, n5, c5, rfl, HF.out.1, HF.out.2⟩
set_option maxRecDepth 100000 in
set_option maxHeartbeats 1000000 in
theorem inFront_walk (hr : RowOf w 4 entC a n c l) (hn : n ≤ 1000000) (t : TEnt) : Calls Tryd.prog 68 #[.agg #[.int .i64 t.slot, .int .u64 t.key, .int .i64 t.pins, .bool t.neg], .slice a n c] w fun y w' => ∃ a' n' c', y = .returned (.slice a' n' c') ∧ OR w' w.heap.size 64 4 entC (.slice a' n' c') (t :: l) ∧ Below w.heap.size w w' := by
  have HR := hid hr
  have hl : l.length = n := hr.1
  have HL := hid hl
  clear hr hl
  obtain ⟨ie, hie, hze, hsz1, hby1⟩ := info_entz
  have IE := hid (And.intro hie (And.intro hze (And.intro hsz1 hby1)))
  clear hie hze hsz1 hby1
  obtain ⟨p9, hp9⟩ : ∃ p, w.heap.size = p := ⟨_, rfl⟩
  go_enter Tryd.func68, Tryd.ntmps68
  go_upto_region 1 with fail
  obtain ⟨w9, hw9⟩ : ∃ w9, w.alloc (.cells #[.int .i64 t.slot, .int .u64 t.key, .int .i64 t.pins, .bool t.neg] 64) = w9 := ⟨_, rfl⟩
  have HB9 : Hid (Below w.heap.size w w9 ∧ Blk w9 p9 64 [.int .i64 t.slot, .int .u64 t.key, .int .i64 t.pins, .bool t.neg]) := hid (by
    have k1 := Blk.new w [.int .i64 t.slot, .int .u64 t.key, .int .i64 t.pins, .bool t.neg] 64
    rw [hp9] at k1
    rw [← hw9]
    exact ⟨nbel w _, k1⟩)
  (try simp only [hw9])
  clear hw9
  have m0 : w9.cell? ⟨p9, 0, none⟩ = some (.int .i64 t.slot) := HB9.out.2.cell 0
  have m1 : w9.cell? ⟨p9, 1, none⟩ = some (.int .u64 t.key) := HB9.out.2.cell 1
  have m2 : w9.cell? ⟨p9, 2, none⟩ = some (.int .i64 t.pins) := HB9.out.2.cell 2
  have m3 : w9.cell? ⟨p9, 3, none⟩ = some (.bool t.neg) := HB9.out.2.cell 3
  obtain ⟨p6, hp6⟩ : ∃ p, w9.heap.size = p := ⟨_, rfl⟩
  obtain ⟨w6, hw6⟩ : ∃ w6, w9.alloc (.cells #[.int .i64 t.slot, .int .u64 t.key, .int .i64 t.pins, .bool t.neg] 64) = w6 := ⟨_, rfl⟩
  have HB6 : Hid (Below w.heap.size w w6) := hid (by rw [← hw6]; exact HB9.out.1.trans ((nbel w9 _).mono HB9.out.1.size))
  have HO6 : Hid (OR w6 w.heap.size 64 4 entC (.slice (some ⟨p6, 0, none⟩) 1 1) [t]) := hid (by
    have k := Blk.new w9 (entC t) 64
    rw [hp6] at k
    rw [← hw6]
    refine ⟨rfl, .inr ⟨p6, 1, (entC t).toArray, rfl, by have := HB9.out.1.size; omega, k, Nat.le_refl _, by decide, rfl, ?_⟩⟩
    simp [entC])
  have HR6 := hid (HR.out.below HB6.out)
  go_wp2_with (at_builtin; refine stopHere ?_)
  intro _
  (try simp only [hw6])
  clear hw6 hp6
  refine wpList_append_row _ rfl (.tmp 6) (.tmp 7) 38 rfl w.heap.size 64 ie (.agg #[.int .i64 0, .int .u64 0, .int .i64 0, .bool false]) 4 32 Tryd.underlying38 IE.out.1 IE.out.2.1 IE.out.2.2.1 IE.out.2.2.2 rfl (by decide) (.slice (some ⟨p6, 0, none⟩) 1 1) _ _ (by simp [Act.eval, Act.put]; done) HO6.out a n c (l.flatMap entC) (by simp [Act.eval, Act.put]; done) (by rw [length_flatMap_const (f := entC) (sz := 4) l (fun x _ => rfl), HL.out]) (fun h => HR6.out.nil h) (HR6.out.cells (by omega) (fun _ => rfl)) (ents_oneM l) (by simp; omega) (by decide) HB6.out.size ?_
  intro v7 w7 hown7 hb7 hk7 hg7
  have HO7 : Hid (OR w7 w.heap.size 64 4 entC v7 (t :: l)) := hid (by
    unfold OR
    have := hown7
    rw [← List.flatMap_append, ← HL.out, ← List.length_append] at this
    exact this)
  have HB7 := hid (HB6.out.trans hb7)
  clear hown7 hb7 hk7 hg7 HO6 HR6 HB6 HB9 HR m0 m1 m2 m3
  obtain ⟨a7, n7, c7, h7⟩ := HO7.out.shape
  subst h7
  go_wp2
  go_ret
  exact ⟨a7, n7, c7, rfl, HO7.out, HB7.out⟩
end
section
variable {B pb : Nat} {a1 : Option Addr} {n1 c1 : Nat} {a2 : Option Addr} {n2 c2 : Nat} {a3 : Option Addr} {n3 c3 : Nat} {m : MS} {w : World}
set_option maxRecDepth 100000 in
set_option maxHeartbeats 1000000 in
theorem inAm_walk (h : MM B pb a1 n1 c1 a2 n2 c2 a3 n3 c3 m w) (hl2 : m.M.length ≤ 131072) (x : Int) : Calls Tryd.prog 67 #[.pointer (some ⟨pb, 0, none⟩), .int .i64 x] w fun y w' => y = .returned (.bool (inAm m x)) ∧ Below w.heap.size w w' := by
  have HR := hid (h.o2.rowE (by omega))
  have hl : m.M.length = n2 := h.o2.lenS
  have HL := hid hl
  have hn : n2 ≤ 131072 := by omega
  have z5 : w.cell? ⟨pb, 5, none⟩ = some (.slice a2 n2 c2) := h.bk.cell 5
  clear h hl hl2
  go_enter Tryd.func67, Tryd.ntmps67
  go_upto_region 2 with fail
  clear z5
  go_loopw [12] (fun v wr => ∃ i : Nat, i ≤ n2 ∧ v = .int .i64 (i : Int) ∧ Hid ((∀ t ∈ m.M.take i, t.slot ≠ x) ∧ Below w.heap.size w wr)) (fun v _ => n2 - (intOf v).toNat)
  case atStart => exact ⟨0, by omega, rfl, hid ⟨by simp, Below.refl _ _⟩⟩
  case round =>
  obtain ⟨i, hi, rfl, HX⟩ := hrel
  by_cases hin : i < n2
  · as_aux_lemma =>
    have di : decide ((i : Int) < (n2 : Int)) = true := decide_eq_true (by omega)
    have hii : (i : Int) < (n2 : Int) := by omega
    obtain ⟨t, b, off, ht, rfl, q0, q1, q2, q3⟩ := rowE_at (HR.out.below HX.out.2) hin
    have HT := hid ht
    clear ht
    obtain ⟨p9, hp9⟩ : ∃ p, wr.heap.size = p := ⟨_, rfl⟩
    have HB9 : Hid (Below w.heap.size w (wr.alloc (.cells #[.int .i64 t.slot, .int .u64 t.key, .int .i64 t.pins, .bool t.neg] 64)) ∧ Blk (wr.alloc (.cells #[.int .i64 t.slot, .int .u64 t.key, .int .i64 t.pins, .bool t.neg] 64)) p9 64 [.int .i64 t.slot, .int .u64 t.key, .int .i64 t.pins, .bool t.neg]) := hid (by
      have k1 := Blk.new wr [.int .i64 t.slot, .int .u64 t.key, .int .i64 t.pins, .bool t.neg] 64
      rw [hp9] at k1
      exact ⟨HX.out.2.trans ((nbel wr _).mono HX.out.2.size), k1⟩)
    go_upto_region 4 with fail
    generalize wr.alloc (.cells #[.int .i64 t.slot, .int .u64 t.key, .int .i64 t.pins, .bool t.neg] 64) = w9 at HB9 ⊢
    have m0 : w9.cell? ⟨p9, 0, none⟩ = some (.int .i64 t.slot) := HB9.out.2.cell 0
    by_cases he : t.slot = x
    · have de : (t.slot == x) = true := by rw [key_beqI]; exact decide_eq_true he
      have HF : Hid (inAm m x = true ∧ Below w.heap.size w w9) := hid ⟨List.any_eq_true.2 ⟨t, List.mem_of_getElem? HT.out, decide_eq_true he⟩, HB9.out.1⟩
      clear he HT HB9 HX
      go_wp2
      go_ret
      exact ⟨by rw [HF.out.1]; rfl, HF.out.2⟩
    · have de : (t.slot == x) = false := by rw [key_beqI]; exact decide_eq_false he
      have HF : Hid ((∀ t ∈ m.M.take (i + 1), t.slot ≠ x) ∧ Below w.heap.size w w9) := hid ⟨by
        rw [List.take_add_one, HT.out]
        intro u hu
        rcases List.mem_append.1 hu with h1 | h1
        · exact HX.out.1 u h1
        · simp at h1
          rw [h1]
          exact he, HB9.out.1⟩
      clear he HT HB9 HX
      go_wp2
      exact ⟨⟨i + 1, by omega, by go_num, HF⟩, by simp [intOf]; omega⟩
  · as_aux_lemma =>
    have di : decide ((i : Int) < (n2 : Int)) = false := decide_eq_false (by omega)
    have HF : Hid (inAm m x = false ∧ Below w.heap.size w wr) := hid ⟨by
      have h1 := HX.out.1
      rw [List.take_of_length_le (by have := HL.out; omega)] at h1
      exact List.any_eq_false.2 fun u hu e => h1 u hu (of_decide_eq_true e), HX.out.2⟩
    clear HX
    go_wp2
    go_ret
    exact ⟨by rw [HF.out.1]; rfl, HF.out.2⟩
set_option maxRecDepth 100000 in
set_option maxHeartbeats 1000000 in
theorem remembers_walk (h : MM B pb a1 n1 c1 a2 n2 c2 a3 n3 c3 m w) (hl3 : m.O.length ≤ 131080) (x : Nat) : Calls Tryd.prog 71 #[.pointer (some ⟨pb, 0, none⟩), .int .u64 (x : Int)] w fun y w' => y = .returned (.bool (decide (x ∈ m.O))) ∧ w' = w := by
  have HR := hid (h.o3.rowU (by omega))
  have hl : m.O.length = n3 := h.o3.lenS
  have HL := hid hl
  have hn : n3 ≤ 131080 := by omega
  have z6 : w.cell? ⟨pb, 6, none⟩ = some (.slice a3 n3 c3) := h.bk.cell 6
  clear h hl hl3
  generalize m.O = l at HR HL ⊢
  go_enter Tryd.func71, Tryd.ntmps71
  go_upto_region 2 with fail
  clear z6
  go_loopw [12] (fun v wr => wr = w ∧ ∃ i : Nat, i ≤ n3 ∧ v = .int .i64 (i : Int) ∧ Hid (x ∉ l.take i)) (fun v _ => n3 - (intOf v).toNat)
  case atStart => exact ⟨rfl, 0, by omega, rfl, hid (by simp)⟩
  case round =>
  obtain ⟨hwr, i, hi, rfl, HX⟩ := hrel
  have hwr' := hwr.symm
  clear hwr
  subst hwr'
  by_cases hin : i < n3
  · as_aux_lemma =>
    have di : decide ((i : Int) < (n3 : Int)) = true := decide_eq_true (by omega)
    have hii : (i : Int) < (n3 : Int) := by omega
    obtain ⟨y, hy, b, off, rfl, hb, hc⟩ := HR.out.cell hin
    have q0 : w.cell? ⟨b, off + i, none⟩ = some (.int .u64 (y : Int)) := by simpa [keyC] using hc 0 (by omega)
    have HY := hid hy
    clear hc hy hb
    by_cases he : y = x
    · have de : ((y : Int) == (x : Int)) = true := by rw [key_beqI]; exact decide_eq_true (by omega)
      have HM : Hid (decide (x ∈ l) = true) := hid (decide_eq_true (by rw [← he]; exact List.mem_of_getElem? HY.out))
      clear he HX
      go_wp2
      go_ret
      exact ⟨by rw [HM.out]; rfl, rfl⟩
    · have de : ((y : Int) == (x : Int)) = false := by rw [key_beqI]; exact decide_eq_false (by omega)
      have HX2 : Hid (x ∉ l.take (i + 1)) := hid (by
        rw [List.take_add_one, HY.out, List.mem_append]
        rintro (h | h)
        · exact HX.out h
        · simp at h
          exact he h.symm)
      clear he HX
      go_wp2
      exact ⟨⟨by trivial, i + 1, by omega, by go_num, HX2⟩, by simp [intOf]; omega⟩
  · as_aux_lemma =>
    have di : decide ((i : Int) < (n3 : Int)) = false := decide_eq_false (by omega)
    have HM : Hid (decide (x ∈ l) = false) := hid (decide_eq_false (by
      have := HX.out
      rw [List.take_of_length_le (by have := HL.out; omega)] at this
      exact this))
    clear HX
    go_wp2
    go_ret
    exact ⟨by rw [HM.out]; rfl, rfl⟩
end
end Go.Proofs.Qxb6500892aDoor
