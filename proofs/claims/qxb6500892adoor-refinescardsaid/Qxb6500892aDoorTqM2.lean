/- The model's entry, Forget, add. -/
import Derived.Test.Qxb6500892aDoorTqM1
namespace Go.Proofs.Qxb6500892aDoor
open Go.RowKit
set_option linter.unusedSimpArgs false
set_option linter.unusedVariables false

theorem OR.off0 {α : Type} {w : World} {B : Nat} {e : TypeId} {sz : Nat} {f : α → List Value} {b off n c : Nat} {l : List α} (h : OR w B e sz f (.slice (some ⟨b, off, none⟩) n c) l) : off = 0 := by
  rcases h.2 with ⟨h2, h3⟩ | ⟨g, cap, cur, h2, _⟩
  · cases h2
  · simp only [Value.slice.injEq, Option.some.injEq, Addr.mk.injEq, and_true] at h2
    exact h2.1.2
section
variable {B pb : Nat} {a1 : Option Addr} {n1 c1 : Nat} {a2 : Option Addr} {n2 c2 : Nat} {a3 : Option Addr} {n3 c3 : Nat} {m : MS} {w : World}
theorem find_I {m : MS} {x : Int} {i : Nat} {t : TEnt} (h : m.I[i]? = some t) (ht : t.slot = x) (hb : ∀ u ∈ m.I.take i, u.slot ≠ x) : findE m x = some t := by
  unfold findE
  have hi := (List.getElem?_eq_some_iff.1 h).1
  refine find_first (i := i) (by rw [List.getElem?_append_left hi]; exact h) (decide_eq_true ht) ?_
  intro j hj u hu
  rw [List.getElem?_append_left (by omega)] at hu
  exact decide_eq_false (hb u (List.mem_of_getElem? (i := j) (by rw [List.getElem?_take, if_pos hj]; exact hu)))
theorem find_M {m : MS} {x : Int} {i : Nat} {t : TEnt} (h : m.M[i]? = some t) (ht : t.slot = x) (h0 : ∀ u ∈ m.I, u.slot ≠ x) (hb : ∀ u ∈ m.M.take i, u.slot ≠ x) : findE m x = some t := by
  unfold findE
  refine find_first (i := m.I.length + i) (by rw [List.getElem?_append_right (by omega), Nat.add_sub_cancel_left]; exact h) (decide_eq_true ht) ?_
  intro j hj u hu
  by_cases hjl : j < m.I.length
  · rw [List.getElem?_append_left hjl] at hu
    exact decide_eq_false (h0 u (List.mem_of_getElem? hu))
  · rw [List.getElem?_append_right (by omega)] at hu
    exact decide_eq_false (hb u (List.mem_of_getElem? (i := j - m.I.length) (by rw [List.getElem?_take, if_pos (by omega)]; exact hu)))
theorem find_no {m : MS} {x : Int} (h0 : ∀ u ∈ m.I, u.slot ≠ x) (hb : ∀ u ∈ m.M, u.slot ≠ x) : findE m x = none := by
  unfold findE
  rw [List.find?_eq_none]
  intro u hu e
  rcases List.mem_append.1 hu with h1 | h1
  · exact h0 u h1 (of_decide_eq_true e)
  · exact hb u h1 (of_decide_eq_true e)
def EntP (a1 a2 : Option Addr) (m : MS) (x : Int) (y : Ending) : Prop :=
  (errM m x ≠ 0 ∧ ∃ k : Nat, errM m x = k ∧ y = .returned (.tuple #[.pointer none, .int .u8 (k : Int)])) ∨ (errM m x = 0 ∧ ∃ g i t, y = .returned (.tuple #[.pointer (some ⟨g, i * 4, none⟩), .int .u8 0]) ∧ Hid (Place a1 a2 m g i t ∧ findE m x = some t ∧ t.slot = x))
theorem err_in {m : MS} {x : Int} (h1 : 0 ≤ x) (h2 : x < m.sl) : errM m x = if (findE m x).isSome then 0 else 1 := by unfold errM; rw [if_pos ⟨h1, h2⟩]
theorem err_out {m : MS} {x : Int} (h : ¬ (0 ≤ x ∧ x < m.sl)) : errM m x = 4 := by unfold errM; rw [if_neg h]
theorem take_ne {l : List TEnt} {i : Nat} {t : TEnt} {x : Int} (h : l[i]? = some t) (he : t.slot ≠ x) (hb : ∀ u ∈ l.take i, u.slot ≠ x) : ∀ u ∈ l.take (i + 1), u.slot ≠ x := by
  rw [List.take_add_one, h]
  intro u hu
  rcases List.mem_append.1 hu with h1 | h1
  · exact hb u h1
  · simp at h1
    rw [h1]
    exact he
set_option maxRecDepth 100000 in
set_option maxHeartbeats 1000000 in
theorem mentry_walk (h : MM B pb a1 n1 c1 a2 n2 c2 a3 n3 c3 m w) (hk : MOk m) (x : Int) : Calls Tryd.prog 64 #[.pointer (some ⟨pb, 0, none⟩), .int .i64 x] w fun y w' => EntP a1 a2 m x y ∧ w' = w := by
  have HM := hid h
  have hl1 := h.o1.lenS
  have hl2 := h.o2.lenS
  have HL := hid (And.intro hl1 hl2)
  have hn1 : n1 ≤ 131072 := by have := hk.l1; omega
  have hn2 : n2 ≤ 131072 := by have := hk.l2; omega
  have HR1 := hid (h.o1.rowE (by have := hk.l1; omega))
  have HR2 := hid (h.o2.rowE (by have := hk.l2; omega))
  obtain ⟨sl, hsl⟩ : ∃ sl, m.sl = sl := ⟨_, rfl⟩
  have z0 : w.cell? ⟨pb, 0, none⟩ = some (.int .i64 sl) := by rw [← hsl]; exact h.bk.cell 0
  have z4 : w.cell? ⟨pb, 4, none⟩ = some (.slice a1 n1 c1) := h.bk.cell 4
  have z5 : w.cell? ⟨pb, 5, none⟩ = some (.slice a2 n2 c2) := h.bk.cell 5
  clear h hl1 hl2 hk
  by_cases hx0 : x < 0
  · as_aux_lemma =>
    have HE := hid (err_out (m := m) (x := x) (by omega))
    have d0 : decide (x < 0) = true := decide_eq_true hx0
    go_enter Tryd.func64, Tryd.ntmps64
    go_wp2
    refine bodyPost_ret (results_tmp2 Tryd.results64 _ _ _) rfl ?_
    exact ⟨.inl ⟨by rw [HE.out]; omega, 4, HE.out, rfl⟩, rfl⟩
  have d0 : decide (x < 0) = false := decide_eq_false hx0
  by_cases hx1 : sl ≤ x
  · as_aux_lemma =>
    have HE := hid (err_out (m := m) (x := x) (by omega))
    have d1 : decide (x ≥ sl) = true := decide_eq_true hx1
    have d2 : decide (sl ≤ x) = true := decide_eq_true hx1
    go_enter Tryd.func64, Tryd.ntmps64
    go_wp2
    refine bodyPost_ret (results_tmp2 Tryd.results64 _ _ _) rfl ?_
    exact ⟨.inl ⟨by rw [HE.out]; omega, 4, HE.out, rfl⟩, rfl⟩
  have d1 : decide (x ≥ sl) = false := decide_eq_false (by omega)
  have d2 : decide (sl ≤ x) = false := decide_eq_false hx1
  have HE := hid (err_in (m := m) (x := x) (by omega) (by omega))
  clear hsl
  go_enter Tryd.func64, Tryd.ntmps64
  go_upto_region 4 with fail
  go_loopw [24] (fun v wr => wr = w ∧ ∃ i : Nat, i ≤ n1 ∧ v = .int .i64 (i : Int) ∧ Hid (∀ t ∈ m.I.take i, t.slot ≠ x)) (fun v _ => n1 - (intOf v).toNat)
  case atStart => exact ⟨rfl, 0, by omega, rfl, hid (by simp)⟩
  case round =>
  obtain ⟨hwr, i, hi, rfl, HX⟩ := hrel
  have hwr' := hwr.symm
  clear hwr
  subst hwr'
  by_cases hin : i < n1
  · as_aux_lemma =>
    have di : decide ((i : Int) < (n1 : Int)) = true := decide_eq_true (by omega)
    have hii : (i : Int) < (n1 : Int) := by omega
    obtain ⟨t, b, off, ht, rfl, q0, q1, q2, q3⟩ := rowE_at HR1.out hin
    have HT := hid ht
    clear ht q1 q2 q3
    by_cases he : t.slot = x
    · have de : (t.slot == x) = true := by rw [key_beqI]; exact decide_eq_true he
      have H0 := hid HM.out.o1.off0
      have HF : Hid (EntP (some ⟨b, off, none⟩) a2 m x (.returned (.tuple #[.pointer (some ⟨b, off + i * 4, none⟩), .int .u8 0]))) := hid (by
        have h0 := H0.out
        clear H0
        subst h0
        have hf := find_I HT.out he HX.out
        rw [Nat.zero_add]
        exact .inr ⟨by rw [HE.out, hf]; rfl, b, i, t, rfl, hid ⟨.inl ⟨rfl, HT.out⟩, hf, he⟩⟩)
      clear he HX HT
      go_wp2
      refine bodyPost_ret (results_tmp2 Tryd.results64 _ _ _) rfl ?_
      exact ⟨HF.out, rfl⟩
    · have de : (t.slot == x) = false := by rw [key_beqI]; exact decide_eq_false he
      have HX2 := hid (take_ne HT.out he HX.out)
      clear he HX
      go_wp2
      exact ⟨⟨by trivial, i + 1, by omega, by go_num, HX2⟩, by simp [intOf]; omega⟩
  as_aux_lemma =>
  have di : decide ((i : Int) < (n1 : Int)) = false := decide_eq_false (by omega)
  have HI : Hid (∀ t ∈ m.I, t.slot ≠ x) := hid (by
    have := HX.out
    rw [List.take_of_length_le (by have := HL.out; omega)] at this
    exact this)
  clear HX
  go_upto_region 10 with fail
  clear hin di hi
  go_loopw [49] (fun v wr => wr = w ∧ ∃ i : Nat, i ≤ n2 ∧ v = .int .i64 (i : Int) ∧ Hid (∀ t ∈ m.M.take i, t.slot ≠ x)) (fun v _ => n2 - (intOf v).toNat)
  case atStart => exact ⟨rfl, 0, by omega, rfl, hid (by simp)⟩
  case round =>
  obtain ⟨hwr, i, hi, rfl, HX⟩ := hrel
  have hwr' := hwr.symm
  clear hwr
  subst hwr'
  by_cases hin : i < n2
  · as_aux_lemma =>
    have di : decide ((i : Int) < (n2 : Int)) = true := decide_eq_true (by omega)
    have hii : (i : Int) < (n2 : Int) := by omega
    obtain ⟨t, b, off, ht, rfl, q0, q1, q2, q3⟩ := rowE_at HR2.out hin
    have HT := hid ht
    clear ht q1 q2 q3
    by_cases he : t.slot = x
    · have de : (t.slot == x) = true := by rw [key_beqI]; exact decide_eq_true he
      have H0 := hid HM.out.o2.off0
      have HF : Hid (EntP a1 (some ⟨b, off, none⟩) m x (.returned (.tuple #[.pointer (some ⟨b, off + i * 4, none⟩), .int .u8 0]))) := hid (by
        have h0 := H0.out
        clear H0
        subst h0
        have hf := find_M HT.out he HI.out HX.out
        rw [Nat.zero_add]
        exact .inr ⟨by rw [HE.out, hf]; rfl, b, i, t, rfl, hid ⟨.inr ⟨rfl, HT.out⟩, hf, he⟩⟩)
      clear he HX HT
      go_wp2
      refine bodyPost_ret (results_tmp2 Tryd.results64 _ _ _) rfl ?_
      exact ⟨HF.out, rfl⟩
    · have de : (t.slot == x) = false := by rw [key_beqI]; exact decide_eq_false he
      have HX2 := hid (take_ne HT.out he HX.out)
      clear he HX
      go_wp2
      exact ⟨⟨by trivial, i + 1, by omega, by go_num, HX2⟩, by simp [intOf]; omega⟩
  as_aux_lemma =>
  have di : decide ((i : Int) < (n2 : Int)) = false := decide_eq_false (by omega)
  have HF : Hid (errM m x = 1) := hid (by
    have := HX.out
    rw [List.take_of_length_le (by have := HL.out; omega)] at this
    rw [HE.out, find_no HI.out this]
    rfl)
  clear HX
  go_wp2
  refine bodyPost_ret (results_tmp2 Tryd.results64 _ _ _) rfl ?_
  exact ⟨.inl ⟨by rw [HF.out]; omega, 1, HF.out, rfl⟩, rfl⟩
set_option maxRecDepth 100000 in
set_option maxHeartbeats 1000000 in
theorem mforget_walk (h : MM B pb a1 n1 c1 a2 n2 c2 a3 n3 c3 m w) (hl3 : m.O.length ≤ 131080) (x : Nat) : Calls Tryd.prog 59 #[.pointer (some ⟨pb, 0, none⟩), .int .u64 (x : Int)] w fun y w' => y = .returned (.bool (decide (x ∈ m.O))) ∧ (∃ a3 n3 c3, MM B pb a1 n1 c1 a2 n2 c2 a3 n3 c3 { m with O := noK m.O x } w') ∧ Upd pb w w' := by
  have HM := hid h
  have HRm := hid (remembers_walk h hl3 x)
  have HR := hid (h.o3.rowU (by omega))
  have hl : m.O.length = n3 := h.o3.lenS
  have HL := hid hl
  have hn : n3 ≤ 131080 := by omega
  have z6 : w.cell? ⟨pb, 6, none⟩ = some (.slice a3 n3 c3) := h.bk.cell 6
  clear h hl hl3
  obtain ⟨l, hlO⟩ : ∃ l, m.O = l := ⟨_, rfl⟩
  rw [hlO] at HR HL HRm
  have HlO := hid hlO
  rw [hlO]
  clear hlO
  obtain ⟨iu, hiu, hzu, hsz2, hby2⟩ := info_u64z
  have IU := hid (And.intro hiu (And.intro hzu (And.intro hsz2 hby2)))
  clear hiu hzu hsz2 hby2
  go_enter Tryd.func59, Tryd.ntmps59
  go_wp2_with fail
  refine HRm.out.mono ?_
  rintro y w1 ⟨rfl, hw1⟩
  have hw1' := hw1.symm
  clear hw1
  subst hw1'
  clear HRm
  go_upto_region 4 with fail
  go_loopw [6, 17] (fun v5 v wr => ∃ i : Nat, i ≤ n3 ∧ v = .int .i64 (i : Int) ∧ ∃ a5 n5 c5, v5 = .slice a5 n5 c5 ∧ Hid (OR wr w.heap.size 29 1 keyC (.slice a5 n5 c5) (noK (l.take i) x) ∧ Below w.heap.size w wr)) (fun _ v _ => n3 - (intOf v).toNat)
  case atStart => exact ⟨0, by omega, rfl, none, 0, 0, rfl, hid ⟨OR.nil _ _ _ _ _, Below.refl _ _⟩⟩
  case round =>
  obtain ⟨i, hi, rfl, a5, n5, c5, rfl, HX⟩ := hrel
  by_cases hin : i < n3
  · as_aux_lemma =>
    have di : decide ((i : Int) < (n3 : Int)) = true := decide_eq_true (by omega)
    have hii : (i : Int) < (n3 : Int) := by omega
    obtain ⟨y, hy, b, off, rfl, hb, hc⟩ := (HR.out.below HX.out.2).cell hin
    have q0 : wr.cell? ⟨b, off + i, none⟩ = some (.int .u64 (y : Int)) := by simpa [keyC] using hc 0 (by omega)
    have HT : Hid (noK (l.take (i + 1)) x = noK (l.take i) x ++ (if y = x then [] else [y])) := hid (by
      unfold noK
      rw [List.take_add_one, hy, List.filter_append]
      congr 1
      by_cases h : y = x <;> simp [h])
    have Hlen : Hid ((noK (l.take i) x).length ≤ 1000000) := hid (Nat.le_trans (List.length_filter_le _ _) (by rw [List.length_take]; omega))
    clear hc hy hb z6
    by_cases he : y = x
    · have de : ((y : Int) != (x : Int)) = false := by rw [key_bneI]; exact decide_eq_false (by omega)
      have HF : Hid (OR wr w.heap.size 29 1 keyC (.slice a5 n5 c5) (noK (l.take (i + 1)) x) ∧ Below w.heap.size w wr) := hid ⟨by rw [HT.out, if_pos he, List.append_nil]; exact HX.out.1, HX.out.2⟩
      clear he HX HT Hlen
      go_wp2
      exact ⟨⟨i + 1, by omega, by go_num, a5, n5, c5, rfl, HF⟩, by simp [intOf]; omega⟩
    · have de : ((y : Int) != (x : Int)) = true := by rw [key_bneI]; exact decide_eq_true (by omega)
      obtain ⟨w6, hw6⟩ : ∃ w6, wr.alloc (.cells #[.int .u64 (y : Int)] 29) = w6 := ⟨_, rfl⟩
      have HX6 : Hid (OR w6 w.heap.size 29 1 keyC (.slice a5 n5 c5) (noK (l.take i) x) ∧ Below w.heap.size w w6) := hid (by rw [← hw6]; exact ⟨HX.out.1.below (nbel wr _), HX.out.2.trans ((nbel wr _).mono HX.out.2.size)⟩)
      have HNw := hid (newRow wr [.int .u64 (y : Int)] 29 wr.heap.size rfl)
      rw [show (wr.alloc (.cells [.int .u64 (y : Int)].toArray 29)) = w6 from hw6] at HNw
      obtain ⟨p6, hp6⟩ : ∃ p, wr.heap.size = p := ⟨_, rfl⟩
      rw [hp6] at HNw
      have HE := hid he
      clear he
      go_wp2_with (at_builtin; refine stopHere ?_)
      intro _
      (try simp only [hw6])
      refine wpList_append_row _ rfl (.tmp 24) (.tmp 26) 39 rfl w.heap.size 29 iu (.int .u64 0) 1 8 Tryd.underlying39 IU.out.1 IU.out.2.1 IU.out.2.2.1 IU.out.2.2.2 rfl (by decide) (.slice a5 n5 c5) _ _ (by simp [Act.eval, Act.put]; done) HX6.out.1 (some ⟨p6, 0, none⟩) 1 1 (keyC y) (by simp [Act.eval, Act.put]; done) rfl (fun h => by cases h) HNw.out (keyC_one y) (by have := Hlen.out; omega) (by decide) HX6.out.2.size ?_
      intro v7 w7 hown7 hb7 hk7 hg7
      have HF : Hid (OR w7 w.heap.size 29 1 keyC v7 (noK (l.take (i + 1)) x) ∧ Below w.heap.size w w7) := hid ⟨by
        rw [HT.out, if_neg HE.out]
        have := hown7
        rw [flatMap_snoc] at this
        unfold OR
        rw [List.length_append]
        exact this, HX6.out.2.trans hb7⟩
      clear hown7 hb7 hk7 hg7 HX6 HNw hw6 hp6 HX HT Hlen HE
      obtain ⟨a7, n7, c7, h7⟩ := HF.out.1.shape
      subst h7
      go_wp2
      exact ⟨⟨i + 1, by omega, by go_num, a7, n7, c7, rfl, HF⟩, by simp [intOf]; omega⟩
  · as_aux_lemma =>
    have di : decide ((i : Int) < (n3 : Int)) = false := decide_eq_false (by omega)
    have HF : Hid (OR wr B 29 1 keyC (.slice a5 n5 c5) (noK l x) ∧ Below w.heap.size w wr) := hid (by
      have := HX.out
      rw [List.take_of_length_le (by have := HL.out; omega)] at this
      exact ⟨this.1.mono HM.out.b0, this.2⟩)
    have HM1 := hid (HM.out.below HF.out.2)
    have zc : wr.cell? ⟨pb, 6, none⟩ = some (.slice a3 n3 c3) := HM1.out.bk.cell 6
    have zf : wr.frozen? ⟨pb, 6, none⟩ = false := HM1.out.bk.frozen 6
    have HG : Hid (MM B pb a1 n1 c1 a2 n2 c2 a5 n5 c5 { m with O := noK l x } (wr.setCell ⟨pb, 6, none⟩ (.slice a5 n5 c5)) ∧ Upd pb w (wr.setCell ⟨pb, 6, none⟩ (.slice a5 n5 c5))) := hid ⟨HM1.out.put3 HF.out.1, ((Upd.refl pb w).ofBelow HF.out.2).setCell rfl _⟩
    clear HX z6 HF HM1
    go_wp2
    go_ret
    exact ⟨rfl, ⟨a5, n5, c5, HG.out.1⟩, HG.out.2⟩
end
end Go.Proofs.Qxb6500892aDoor
