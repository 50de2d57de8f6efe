/- Single, Complement. -/
import Derived.Test.Qxb6500884aClBld
namespace Go.Proofs.Qxb6500884a
open Go.RowKit
set_option linter.unusedSimpArgs false
set_option linter.unusedVariables false

/-- The complement of the first k intervals, up to nx. -/
structure CI (l : List (Int × Int)) (k : Nat) (nx : Int) (ol : List (Int × Int)) : Prop where
  nrm : Nrm ol
  n0 : 0 ≤ nx
  n1 : nx ≤ 196608
  end_ : ∀ p ∈ ol, p.2 + 1 < nx
  mem : ∀ x, 0 ≤ x → x < nx → memB ol x = !memB l x
  lo : ∀ (i : Nat) (p : Int × Int), i < k → l[i]? = some p → p.2 < nx
  len : ol.length ≤ k
  hi : ∀ (i : Nat) (p : Int × Int), 0 < k → k ≤ i → l[i]? = some p → nx < p.1
  z : k = 0 → nx = 0
theorem nrm_snoc {ol : List (Int × Int)} {p : Int × Int} (h : Nrm ol) (hp : 0 ≤ p.1 ∧ p.1 ≤ p.2 ∧ p.2 ≤ 196607) (hg : ∀ q ∈ ol, q.2 + 1 < p.1) : Nrm (ol ++ [p]) := by
  refine ⟨fun q hq => ?_, fun i q1 q2 h1 h2 => ?_⟩
  · rcases List.mem_append.1 hq with h1 | h1
    · exact h.rng q h1
    · simp at h1; subst h1; exact hp
  · have hlt := (List.getElem?_eq_some_iff.1 h2).1
    simp at hlt
    rw [List.getElem?_append_left (by omega)] at h1
    by_cases hi : i + 1 < ol.length
    · rw [List.getElem?_append_left hi] at h2
      exact h.gap i q1 q2 h1 h2
    · have : i + 1 = ol.length := by omega
      rw [this, List.getElem?_append_right (by omega)] at h2
      simp at h2
      subst h2
      exact hg q1 (List.mem_of_getElem? h1)
theorem mem_gap {l : List (Int × Int)} {k : Nat} {x : Int} (h1 : ∀ (i : Nat) (p : Int × Int), i < k → l[i]? = some p → p.2 < x) (h2 : ∀ (i : Nat) (p : Int × Int), k ≤ i → l[i]? = some p → x < p.1) : memB l x = false := by
  rw [Bool.eq_false_iff]
  intro hm
  obtain ⟨p, hp, ha, hb⟩ := memB_iff.1 hm
  obtain ⟨i, hi⟩ := List.mem_iff_getElem?.1 hp
  rcases Nat.lt_or_ge i k with h | h
  · have := h1 i p h hi; omega
  · have := h2 i p h hi; omega
theorem mem_below {ol : List (Int × Int)} {x : Int} (h : ∀ p ∈ ol, p.2 < x) : memB ol x = false := by
  rw [Bool.eq_false_iff]
  intro hm
  obtain ⟨p, hp, ha, hb⟩ := memB_iff.1 hm
  have := h p hp
  omega
theorem Nrm.later {l : List (Int × Int)} (h : Nrm l) {i j : Nat} {p q : Int × Int} (hij : i < j) (hp : l[i]? = some p) (hq : l[j]? = some q) : p.2 + 1 < q.1 :=
  h.far (j - i - 1) i p q hp (by rw [show i + 1 + (j - i - 1) = j by omega]; exact hq)
theorem CI.zero (l : List (Int × Int)) : CI l 0 0 [] := ⟨nrm_nil, by omega, by omega, fun p hp => (by cases hp), fun x h0 h1 => by omega, fun i p h => by omega, Nat.le_refl _, fun i p h => by omega, fun _ => rfl⟩
theorem CI.step {l ol : List (Int × Int)} {k : Nat} {nx : Int} {p : Int × Int} (h : CI l k nx ol) (hN : Nrm l) (hp : l[k]? = some p) : CI l (k + 1) (p.2 + 1) (ol ++ if nx < p.1 then [(nx, p.1 - 1)] else []) := by
  have hr := hN.rng p (List.mem_of_getElem? hp)
  have hlt := (List.getElem?_eq_some_iff.1 hp).1
  have hnx : nx ≤ p.1 := by
    rcases Nat.eq_zero_or_pos k with h0 | h0
    · have := h.z h0; omega
    · have := h.hi k p h0 (Nat.le_refl _) hp; omega
  have hn0 := h.n0
  have hge : ∀ (i : Nat) (q : Int × Int), k ≤ i → l[i]? = some q → p.1 ≤ q.1 := fun i q hi hq => by
    rcases Nat.lt_or_ge k i with h1 | h1
    · have := hN.later h1 hp hq; omega
    · have : i = k := by omega
      subst this
      rw [hp] at hq
      cases hq
      omega
  have hend : ∀ q ∈ ol ++ (if nx < p.1 then [(nx, p.1 - 1)] else []), q.2 + 1 ≤ p.1 := fun q hq => by
    rcases List.mem_append.1 hq with h1 | h1
    · have := h.end_ q h1; omega
    · split at h1
      · simp at h1; subst h1; show p.1 - 1 + 1 ≤ p.1; omega
      · cases h1
  refine ⟨?_, by omega, by omega, fun q hq => by have := hend q hq; omega, fun x h0 h1 => ?_, fun i q hi hq => ?_, ?_, fun i q _ hi hq => hN.later (by omega) hp hq, fun h => by omega⟩
  · split
    · exact nrm_snoc h.nrm ⟨hn0, by show nx ≤ p.1 - 1; omega, by show p.1 - 1 ≤ 196607; omega⟩ (fun q hq => h.end_ q hq)
    · rw [List.append_nil]; exact h.nrm
  · rcases Int.lt_or_le x nx with hx | hx
    · rw [memB_append, h.mem x h0 hx]
      have : memB (if nx < p.1 then [(nx, p.1 - 1)] else []) x = false := by
        split
        · rw [memB_one]; simp; omega
        · rfl
      rw [this, Bool.or_false]
    · rcases Int.lt_or_le x p.1 with hx2 | hx2
      · have h1 : memB l x = false := mem_gap (k := k) (fun i q hi hq => by have := h.lo i q hi hq; omega) (fun i q hi hq => by have := hge i q hi hq; omega)
        rw [h1, memB_append, if_pos (by omega), memB_one]
        have : (decide (nx ≤ x) && decide (x ≤ p.1 - 1)) = true := by simp; omega
        show (memB ol x || (decide (nx ≤ x) && decide (x ≤ p.1 - 1))) = _
        rw [this]
        simp
      · have h1 : memB l x = true := memB_iff.2 ⟨p, List.mem_of_getElem? hp, hx2, by omega⟩
        rw [h1, mem_below (fun q hq => by have := hend q hq; omega)]
        rfl
  · rcases Nat.lt_or_ge i k with h1 | h1
    · have := h.lo i q h1 hq; omega
    · have : i = k := by omega
      subst this
      rw [hp] at hq
      cases hq
      omega
  · have := h.len
    rw [List.length_append]
    split <;> simp <;> omega
/-- The last stretch. -/
theorem CI.fin {l ol : List (Int × Int)} {nx : Int} (h : CI l l.length nx ol) : Nrm (ol ++ if nx ≤ 196607 then [(nx, 196607)] else []) ∧ ∀ x, 0 ≤ x → x ≤ 196607 → memB (ol ++ if nx ≤ 196607 then [(nx, 196607)] else []) x = !memB l x := by
  have hn0 := h.n0
  constructor
  · split
    · rename_i hn
      exact nrm_snoc h.nrm ⟨hn0, hn, by show (196607 : Int) ≤ 196607; omega⟩ (fun q hq => h.end_ q hq)
    · rw [List.append_nil]; exact h.nrm
  · intro x h0 h1
    rcases Int.lt_or_le x nx with hx | hx
    · rw [memB_append, h.mem x h0 hx]
      have : memB (if nx ≤ 196607 then [(nx, 196607)] else []) x = false := by
        split
        · rw [memB_one]; simp; omega
        · rfl
      rw [this, Bool.or_false]
    · have h2 : memB l x = false := mem_gap (k := l.length) (fun i q hi hq => by have := h.lo i q hi hq; omega) (fun i q hi hq => by have := (List.getElem?_eq_some_iff.1 hq).1; omega)
      rw [h2, memB_append, if_pos (by omega), memB_one]
      have : (decide (nx ≤ x) && decide (x ≤ (196607 : Int))) = true := by simp; omega
      show (memB ol x || (decide (nx ≤ x) && decide (x ≤ (196607 : Int)))) = _
      rw [this]
      simp
theorem own_ne {w : World} {base : Nat} {e : TypeId} {sz : Nat} {v : Value} {n : Nat} {xs : List Value} {g : Nat} {t : TypeId} {ds : List Value} (h : w.ownsRow base e sz v n xs) (hb : Blk w g t ds) (hne : e ≠ t) : ∀ g', v.ownBlock = some g' → g ≠ g' := by
  intro g' hg' he
  subst he
  rcases h.2 with ⟨rfl, _⟩ | ⟨g2, cap, cur, rfl, _, hg, _⟩
  · cases hg'
  · cases hg'
    unfold Blk at hb
    rw [hb] at hg
    injection hg with hg
    injection hg with _ h2
    exact hne h2.symm
theorem own_lt {w : World} {base : Nat} {e : TypeId} {sz : Nat} {v : Value} {n : Nat} {xs : List Value} (h : w.ownsRow base e sz v n xs) : ∀ g', v.ownBlock = some g' → w.heap.size ≠ g' := by
  intro g' hg' he
  rcases h.2 with ⟨rfl, _⟩ | ⟨g2, cap, cur, rfl, _, hg, _⟩
  · cases hg'
  · cases hg'
    have := (Array.getElem?_eq_some_iff.1 hg).1
    show False
    have h2 : w.heap.size = g2 := he
    omega
theorem ownsRow_bel {w w' : World} {base : Nat} {e : TypeId} {sz : Nat} {v : Value} {n : Nat} {xs : List Value} (h : w.ownsRow base e sz v n xs) (hb : Below w.heap.size w w') : w'.ownsRow base e sz v n xs := by
  refine ⟨h.1, ?_⟩
  rcases h.2 with h2 | ⟨g, cap, cur, h1, h2, hg, h3⟩
  · exact .inl h2
  · refine .inr ⟨g, cap, cur, h1, h2, ?_, h3⟩
    rw [hb.block g (Array.getElem?_eq_some_iff.1 hg).1]
    exact hg
theorem ownsRow_upd {w w' : World} {base : Nat} {e t : TypeId} {sz : Nat} {v : Value} {n r : Nat} {xs ds : List Value} (h : w.ownsRow base e sz v n xs) (hb : Blk w r t ds) (hne : e ≠ t) (hu : Upd r w w') : w'.ownsRow base e sz v n xs := by
  have hn := own_ne h hb hne
  refine ⟨h.1, ?_⟩
  rcases h.2 with h2 | ⟨g, cap, cur, h1, h2, hg, h3⟩
  · exact .inl h2
  · refine .inr ⟨g, cap, cur, h1, h2, ?_, h3⟩
    rw [hu.block g (Array.getElem?_eq_some_iff.1 hg).1 (fun e => hn g (by rw [h1]; rfl) e.symm)]
    exact hg
theorem owns_shape {w : World} {base : Nat} {e : TypeId} {sz : Nat} {v : Value} {n : Nat} {xs : List Value} (h : w.ownsRow base e sz v n xs) : ∃ a c, v = .slice a n c := by
  rcases h.2 with ⟨rfl, h0⟩ | ⟨g, cap, cur, rfl, _⟩
  · subst h0
    exact ⟨none, 0, rfl⟩
  · exact ⟨_, _, rfl⟩
/-- A list being written; the blocks of classes that stay. -/
structure Ow (w0 : World) (K : List (Nat × List Value)) (v : Value) (ol : List (Int × Int)) (w : World) : Prop where
  bel : Below w0.heap.size w0 w
  own : w.ownsRow w0.heap.size 67 2 v ol.length (ol.flatMap ivC)
  keep : ∀ x ∈ K, Blk w x.1 30 x.2
theorem Ow.below {w0 w w' : World} {K : List (Nat × List Value)} {v : Value} {ol : List (Int × Int)} (h : Ow w0 K v ol w) (hb : Below w.heap.size w w') : Ow w0 K v ol w' := ⟨h.bel.trans (hb.mono h.bel.size), ownsRow_bel h.own hb, fun x hx => (h.keep x hx).below hb⟩
theorem Ow.app {w0 w w' : World} {K : List (Nat × List Value)} {v v' : Value} {ol : List (Int × Int)} {p : Int × Int} (h : Ow w0 K v ol w) (ho : w'.ownsRow w0.heap.size 67 2 v' (ol.length + 1) (ol.flatMap ivC ++ ivC p)) (hb : Below w0.heap.size w w')
    (hk : ∀ k, k < w.heap.size → (∀ g, v.ownBlock = some g → k ≠ g) → w'.heap[k]? = w.heap[k]?) : Ow w0 K v' (ol ++ [p]) w' :=
  ⟨h.bel.trans hb, by rw [List.length_append, List.flatMap_append]; simpa using ho, fun x hx => by
    have hx' := h.keep x hx
    unfold Blk
    rw [hk x.1 hx'.lt (own_ne h.own hx' (by decide))]
    exact hx'⟩
/-- The class made of the list. -/
theorem Ow.cls {w0 w w' : World} {K : List (Nat × List Value)} {v : Value} {ol : List (Int × Int)} {r : Nat} {ds : List Value} (h : Ow w0 K v ol w) (hr : (r, ds) ∈ K) (hw : w0.heap.size ≤ r) (hu : Upd r w w') (hN : Nrm ol) : ∃ a n c, v = .slice a n c ∧ IvRow w' a n c ol ∧ Below w0.heap.size w0 w' ∧ Ty67 w' a n := by
  have hs := hN.short
  have how := ownsRow_upd h.own (h.keep _ hr) (by decide) hu
  obtain ⟨a, n, c, hv, hrow⟩ := ownsRow_row (f := ivC) (l := ol) (sz := 2) (by decide) (fun _ => rfl) (by omega) how
  refine ⟨a, n, c, hv, ⟨hrow, fun p hp => ?_⟩, h.bel.trans (hu.below hw h.bel.size), fun _ b off e => ?_⟩
  · have := hN.rng p hp
    unfold Fit
    omega
  · rcases how.2 with ⟨h1, _⟩ | ⟨g, cap, cur, h1, _, hg, _⟩
    · rw [hv, e] at h1; cases h1
    · rw [hv, e] at h1; cases h1; exact ⟨_, _, hg⟩
theorem own_made (w0 w : World) (Z : List Value) (n : Nat) (hn : n ≤ 100000000000) (hZ : Z.length = n * 2) (hw : w0.heap.size ≤ w.heap.size) : (w.alloc (.cells Z.toArray 67)).ownsRow w0.heap.size 67 2 (.slice (some ⟨w.heap.size, 0, none⟩) 0 n) 0 [] := by
  have hb := Blk.new w Z 67
  exact ⟨rfl, .inr ⟨w.heap.size, n, Z.toArray, rfl, hw, hb, Nat.zero_le _, by unfold maxLen; omega, by simp [hZ], by simp⟩⟩
set_option maxRecDepth 100000 in
set_option maxHeartbeats 2000000 in
theorem compl_walk (a : Option Addr) (n c : Nat) (l : List (Int × Int)) (w : World) (hr : IvRow w a n c l) (hN : Nrm l) :
    Calls Try.prog 49 #[.agg #[.slice a n c]] w fun e w' => CP (fun x => !memB l x) w e w' := by
  have HR := hid hr
  have hl := hr.len
  have hsh := hN.short
  obtain ⟨i0, hi, hz0, hz1, hz2⟩ := info_ivz
  have HI := hid (And.intro hi (And.intro hz0 (And.intro hz1 hz2)))
  clear hi hz0 hz1 hz2 hr
  obtain ⟨q, hq⟩ : ∃ q, w.heap.size = q := ⟨_, rfl⟩
  have hmk0 := make_iv (n + 1) (by omega)
  obtain ⟨Z, hZ⟩ : ∃ Z : List Value, madeCells #[Value.int .i64 0, .int .i64 0] ((n + 1) * 2) = Z.toArray := ⟨(madeCells #[Value.int .i64 0, .int .i64 0] ((n + 1) * 2)).toList, by simp⟩
  have hZl : Z.length = (n + 1) * 2 := by have h := size_madeCells #[Value.int .i64 0, .int .i64 0] ((n + 1) * 2); rw [hZ] at h; simpa using h
  rw [hZ] at hmk0
  have hmk : ∀ w : World, (Instr.makeSlice 25 (.int .i64 0) (.int .i64 ((n : Int) + 1))).run Try.prog w = .ok (.slice (some ⟨w.heap.size, 0, none⟩) 0 (n + 1)) (w.alloc (.cells Z.toArray 67)) := fun w => by have := hmk0 w; simpa using this
  clear hmk0 hZ
  have HO0 : Hid (Ow w [(q, [.slice a n c]), (q + 1, [.slice none 0 0])] (.slice (some ⟨q + 1 + 1, 0, none⟩) 0 (n + 1)) [] (((w.alloc (.cells [Value.slice a n c].toArray 30)).alloc (.cells [Value.slice none 0 0].toArray 30)).alloc (.cells Z.toArray 67))) := hid (by
    have s1 : ∀ (x : World) (o : Obj), (x.alloc o).heap.size = x.heap.size + 1 := fun x o => by simp
    have b0 := Blk.new w [Value.slice a n c] 30
    have b1 := Blk.new (w.alloc (.cells [Value.slice a n c].toArray 30)) [Value.slice none 0 0] 30
    have ho := own_made w ((w.alloc (.cells [Value.slice a n c].toArray 30)).alloc (.cells [Value.slice none 0 0].toArray 30)) Z (n + 1) (by omega) hZl (by rw [s1, s1]; omega)
    rw [hq] at b0
    rw [s1, hq] at b1
    rw [s1, s1, hq] at ho
    refine ⟨((nbel w _).alloc (by rw [s1]; omega) _).alloc (by rw [s1, s1]; omega) _, by rw [hq]; exact ho, fun x hx => ?_⟩
    simp at hx
    rcases hx with rfl | rfl
    · exact (b0.alloc _).alloc _
    · exact b1.alloc _)
  obtain ⟨r, hr⟩ : ∃ r, q + 1 = r := ⟨_, rfl⟩
  rw [hr] at HO0
  have Hr := hid hr
  go_enter Try.func49, Try.ntmps49
  go_upto_region 1 with fail
  obtain ⟨w2, hw2⟩ : ∃ w2, (w.alloc (.cells #[Value.slice a n c] 30)).alloc (.cells #[Value.slice none 0 0] 30) = w2 := ⟨_, rfl⟩
  have HO1 : Hid (Ow w [(q, [.slice a n c]), (r, [.slice none 0 0])] (.slice (some ⟨r + 1, 0, none⟩) 0 (n + 1)) [] (((w.alloc (.cells #[Value.slice a n c] 30)).alloc (.cells #[Value.slice none 0 0] 30)).alloc (.cells Z.toArray 67))) := HO0
  rw [hw2] at HO1
  try simp only [hw2]
  have hs2 : w2.heap.size = r + 1 := by rw [← hw2, ← Hr.out, ← hq]; simp
  have c0 : w2.cell? ⟨q, 0, none⟩ = some (.slice a n c) := by
    have hb := Blk.new w [.slice a n c] 30
    rw [hq] at hb
    rw [← hw2]
    exact (hb.alloc _).cell 0
  clear HO0 hw2
  go_upto_region 2 with fail
  generalize w2.alloc (.cells Z.toArray 67) = w3 at HO1 ⊢
  clear c0 hmk hs2
  have hqr : q < r := by rw [← Hr.out]; omega
  have c1 : w3.cell? ⟨q, 0, none⟩ = some (.slice a n c) := (HO1.out.keep (q, [.slice a n c]) (by simp)).cell 0
  go_wp2_with fail
  go_loopw [3, 4, 15] (fun v x i wr => ∃ (k : Nat) (nx : Int) (ol : List (Int × Int)), k ≤ n ∧ x = .int .i64 nx ∧ i = .int .i64 k ∧ Hid (CI l k nx ol) ∧ Hid (Ow w [(q, [.slice a n c]), (r, [.slice none 0 0])] v ol wr)) (fun _ _ i _ => n - (intOf i).toNat)
  case atStart => exact ⟨0, 0, [], Nat.zero_le _, rfl, rfl, hid (CI.zero l), HO1⟩
  case round =>
    clear HO1 c1
    obtain ⟨k, nx, ol, hk, rfl, rfl, HC, HO⟩ := hrel
    have hn0 := HC.out.n0
    have hn1 := HC.out.n1
    have hol := HC.out.len
    have hbb : (ol.length + 1) * 16 ≤ 140737488355328 := by omega
    by_cases hlt : k < n
    · as_aux_lemma =>
      obtain ⟨p, hp, f1, f2, b, off, rfl, hb, e1, e2⟩ := (HR.out.below HO.out.bel).get hlt
      have HSt := hid (HC.out.step hN hp)
      obtain ⟨x, y⟩ := p
      have hrg := hN.rng _ (List.mem_of_getElem? hp)
      dsimp only at e1 e2 hrg
      have dk : decide ((k : Int) < (n : Int)) = true := decide_eq_true (by omega)
      have i1 : (k : Int) < (n : Int) := by omega
      have HO2 := hid (HO.out.below (nbel wr (.cells #[.int .i64 x, .int .i64 y] 67)))
      clear hp
      by_cases hx : nx < x
      · have dx : decide (nx < x) = true := decide_eq_true hx
        have HSt2 : Hid (CI l (k + 1) (y + 1) (ol ++ [(nx, x - 1)])) := hid (by have h := HSt.out; dsimp only at h; rw [if_pos hx] at h; exact h)
        obtain ⟨w4, hw4⟩ : ∃ w4, wr.alloc (.cells #[.int .i64 x, .int .i64 y] 67) = w4 := ⟨_, rfl⟩
        rw [hw4] at HO2
        have hbq := Blk.new wr [.int .i64 x, .int .i64 y] 67
        have hw4' : wr.alloc (.cells [Value.int .i64 x, .int .i64 y].toArray 67) = w4 := hw4
        rw [hw4'] at hbq
        obtain ⟨p0, hp0⟩ : ∃ p0, wr.heap.size = p0 := ⟨_, rfl⟩
        rw [hp0] at hbq
        have c2 : w4.cell? ⟨p0, 0, none⟩ = some (.int .i64 x) := hbq.cell 0
        have c3 : w4.cell? ⟨p0, 1, none⟩ = some (.int .i64 y) := hbq.cell 1
        have HBq := hid hbq
        go_upto_region 6 with fail
        try simp only [hw4]
        clear hw4 hw4' hbq HSt
        have HOn := hid (HO2.out.own.alloc (.cells #[.int .i64 nx, .int .i64 (x - 1)] 67))
        have HO3 := hid (HO2.out.below (nbel w4 (.cells #[.int .i64 nx, .int .i64 (x - 1)] 67)))
        have hsz : w.heap.size ≤ (w4.alloc (.cells #[.int .i64 nx, .int .i64 (x - 1)] 67)).heap.size := HO3.out.bel.size
        have Hne := hid (own_lt HO.out.own)
        have HBq3 := hid (HBq.out.alloc (.cells #[.int .i64 nx, .int .i64 (x - 1)] 67))
        go_wp2_with (at_builtin; refine wpList_append_row _ rfl (.tmp 23) (.tmp 29) 25 rfl w.heap.size 67 i0 (.agg #[.int .i64 0, .int .i64 0]) 2 16 Try.underlying25 HI.out.1 HI.out.2.1 HI.out.2.2.1 HI.out.2.2.2 rfl (by decide) _ _ _ rfl HOn.out (some ⟨w4.heap.size, 0, none⟩) 1 1 [.int .i64 nx, .int .i64 (x - 1)] rfl rfl (fun h => by cases h) (newRow _ [.int .i64 nx, .int .i64 (x - 1)] _ _ rfl) (fun u hu => by simp at hu; rcases hu with rfl | rfl <;> rfl) hbb (by decide) hsz ?_; intro v8 w8 hown8 hb8 hk8 hg8; have HOw8 := hid hown8; have HB8 := hid hb8; have HK8 := hid hk8; have c4 : w8.cell? ⟨p0, 1, none⟩ = some (.int .i64 y) := (keepCell 1 (hk8 p0 HBq3.out.lt (fun g' h => by have := Hne.out g' h; omega))).trans (HBq3.out.cell 1); clear hown8 hb8 hk8 hg8)
        have HOe := hid (HO3.out.app (p := (nx, x - 1)) HOw8.out HB8.out HK8.out)
        exact ⟨⟨k + 1, y + 1, ol ++ [(nx, x - 1)], by omega, rfl, by go_num, HSt2, HOe⟩, by simp [intOf]; omega⟩
      · have dx : decide (nx < x) = false := decide_eq_false hx
        have HSt2 : Hid (CI l (k + 1) (y + 1) ol) := hid (by have h := HSt.out; dsimp only at h; rw [if_neg hx, List.append_nil] at h; exact h)
        clear HSt
        go_wp2
        exact ⟨⟨k + 1, y + 1, ol, by omega, rfl, by go_num, HSt2, HO2⟩, by simp [intOf]; omega⟩
    · as_aux_lemma =>
      have hkn : k = l.length := by omega
      have HCf : Hid (CI l l.length nx ol) := hid (by rw [← hkn]; exact HC.out)
      have dk : decide ((k : Int) < (n : Int)) = false := decide_eq_false (by omega)
      have HF := hid HCf.out.fin
      clear hkn
      by_cases hx : nx ≤ 196607
      · have dx : decide (nx ≤ 196607) = true := decide_eq_true hx
        have HF2 : Hid (Nrm (ol ++ [(nx, 196607)]) ∧ ∀ x, 0 ≤ x → x ≤ 196607 → memB (ol ++ [(nx, 196607)]) x = !memB l x) := hid (by have h := HF.out; rw [if_pos hx] at h; exact h)
        clear HF HCf
        have HOn := hid (HO.out.own.alloc (.cells #[.int .i64 nx, .int .i64 196607] 67))
        have HO3 := hid (HO.out.below (nbel wr (.cells #[.int .i64 nx, .int .i64 196607] 67)))
        have hsz : w.heap.size ≤ (wr.alloc (.cells #[.int .i64 nx, .int .i64 196607] 67)).heap.size := HO3.out.bel.size
        go_upto_region 12 with (at_builtin; refine wpList_append_row _ rfl (.tmp 37) (.tmp 40) 25 rfl w.heap.size 67 i0 (.agg #[.int .i64 0, .int .i64 0]) 2 16 Try.underlying25 HI.out.1 HI.out.2.1 HI.out.2.2.1 HI.out.2.2.2 rfl (by decide) _ _ _ rfl HOn.out (some ⟨wr.heap.size, 0, none⟩) 1 1 [.int .i64 nx, .int .i64 196607] rfl rfl (fun h => by cases h) (newRow _ [.int .i64 nx, .int .i64 196607] _ _ rfl) (fun u hu => by simp at hu; rcases hu with rfl | rfl <;> rfl) hbb (by decide) hsz ?_; intro v8 w8 hown8 hb8 hk8 hg8; have HOw8 := hid hown8; have HB8 := hid hb8; have HK8 := hid hk8; clear hown8 hb8 hk8 hg8)
        have HOe := hid (HO3.out.app (p := (nx, 196607)) HOw8.out HB8.out HK8.out)
        obtain ⟨sa, sc, rfl⟩ := owns_shape HOw8.out
        have I0 : Hid ((Try.prog.info? 30).map (·.size) = some [Value.slice sa (ol.length + 1) sc].length) := hid info_reg
        go_wp2_with (refine wpList_store_blk rfl 30 _ _ rfl r rfl [.slice sa (ol.length + 1) sc] rfl (HOe.out.keep (r, [.slice none 0 0]) (by simp)) rfl I0.out (fun v hv => by simp at hv; subst hv; rfl) ?_; intro w9 HB9 HU9)
        obtain ⟨a9, n9, c9, he9, hrow, hbel, hty⟩ := HOe.out.cls (r := r) (ds := [.slice none 0 0]) (by simp) (by omega) HU9.out HF2.out.1
        cases he9
        exact bodyPost_ret (results_blk Try.results49 rfl (show AggOf Try.prog 30 (List.length [_]) from AggOf.struct Try.underlying30 info_reg) HB9.out) rfl ⟨⟨_, _, _, _, rfl, hrow, HF2.out.1, HF2.out.2, hty⟩, hbel⟩
      · have dx : decide (nx ≤ 196607) = false := decide_eq_false hx
        have HF2 : Hid (Nrm ol ∧ ∀ x, 0 ≤ x → x ≤ 196607 → memB ol x = !memB l x) := hid (by have h := HF.out; rw [if_neg hx, List.append_nil] at h; exact h)
        clear HF HCf
        obtain ⟨sa, sc, rfl⟩ := owns_shape HO.out.own
        have I0 : Hid ((Try.prog.info? 30).map (·.size) = some [Value.slice sa ol.length sc].length) := hid info_reg
        go_wp2_with (refine wpList_store_blk rfl 30 _ _ rfl r rfl [.slice sa ol.length sc] rfl (HO.out.keep (r, [.slice none 0 0]) (by simp)) rfl I0.out (fun v hv => by simp at hv; subst hv; rfl) ?_; intro w9 HB9 HU9)
        obtain ⟨a9, n9, c9, he9, hrow, hbel, hty⟩ := HO.out.cls (r := r) (ds := [.slice none 0 0]) (by simp) (by omega) HU9.out HF2.out.1
        cases he9
        exact bodyPost_ret (results_blk Try.results49 rfl (show AggOf Try.prog 30 (List.length [_]) from AggOf.struct Try.underlying30 info_reg) HB9.out) rfl ⟨⟨_, _, _, _, rfl, hrow, HF2.out.1, HF2.out.2, hty⟩, hbel⟩
end Go.Proofs.Qxb6500884a
