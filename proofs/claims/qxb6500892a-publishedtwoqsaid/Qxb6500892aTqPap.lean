/- The paper's algorithm in memory: has, drop, atHead. -/
import Derived.Test.Qxb6500892aTqView
import Derived.Test.Qxb6500892aTqPubP
namespace Go.Proofs.Qxb6500892a
open Go.RowKit
set_option linter.unusedSimpArgs false
set_option linter.unusedVariables false

theorem key_beq (y x : Nat) : ((y : Int) == (x : Int)) = decide (y = x) := by
  by_cases h : y = x
  · subst h; simp
  · rw [decide_eq_false h]
    exact beq_eq_false_iff_ne.2 (by omega)
theorem key_bne (y x : Nat) : ((y : Int) != (x : Int)) = decide (y ≠ x) := by
  unfold bne
  rw [key_beq]
  by_cases h : y = x <;> simp [h]
theorem keys_one (l : List Nat) : ∀ u ∈ l.flatMap keyC, u.oneCell' = true := fun u hu => by
  obtain ⟨t, _, ht⟩ := List.mem_flatMap.1 hu
  exact keyC_one t u ht
section
variable {w : World} {a : Option Addr} {n c : Nat} {l : List Nat}
set_option maxRecDepth 100000 in
set_option maxHeartbeats 1000000 in
theorem has_walk (hr : RowOf w 1 keyC a n c l) (hn : n ≤ 1000000) (x : Nat) : Calls Try.prog 15 #[.slice a n c, .int .u64 (x : Int)] w fun y w' => y = .returned (.bool (decide (x ∈ l))) ∧ w' = w := by
  have HR := hid hr
  have hl : l.length = n := hr.1
  have HL := hid hl
  clear hr hl
  go_enter Try.func15, Try.ntmps15
  go_upto_region 2 with fail
  go_loopw [9] (fun v wr => wr = w ∧ ∃ i : Nat, i ≤ n ∧ v = .int .i64 (i : Int) ∧ Hid (x ∉ l.take i)) (fun v _ => n - (intOf v).toNat)
  case atStart => exact ⟨rfl, 0, by omega, rfl, hid (by simp)⟩
  case round =>
  obtain ⟨hwr, i, hi, rfl, HX⟩ := hrel
  have hwr' := hwr.symm
  clear hwr
  subst hwr'
  by_cases hin : i < n
  · as_aux_lemma =>
    have di : decide ((i : Int) < (n : Int)) = true := decide_eq_true (by omega)
    have hii : (i : Int) < (n : Int) := by omega
    obtain ⟨y, hy, b, off, rfl, hb, hc⟩ := HR.out.cell hin
    have q0 : w.cell? ⟨b, off + i, none⟩ = some (.int .u64 (y : Int)) := by simpa [keyC] using hc 0 (by omega)
    have HY := hid hy
    clear hc hy hb
    by_cases he : y = x
    · have de : ((y : Int) == (x : Int)) = true := by rw [key_beq]; exact decide_eq_true he
      have HM : Hid (decide (x ∈ l) = true) := hid (decide_eq_true (by rw [← he]; exact List.mem_of_getElem? HY.out))
      clear he HX
      go_wp2
      go_ret
      exact ⟨by rw [HM.out]; rfl, rfl⟩
    · have de : ((y : Int) == (x : Int)) = false := by rw [key_beq]; exact decide_eq_false he
      have HX2 : Hid (x ∉ l.take (i + 1)) := hid (by
        rw [List.take_add_one, HY.out, List.mem_append]
        rintro (h | h)
        · exact HX.out h
        · simp at h
          exact he h.symm)
      clear he HX
      go_wp2
      exact ⟨⟨by trivial, i + 1, by omega, by go_num, HX2⟩, by simp [intOf]; omega⟩
  · as_aux_lemma =>
    have di : decide ((i : Int) < (n : Int)) = false := decide_eq_false (by omega)
    have HM : Hid (decide (x ∈ l) = false) := hid (decide_eq_false (by
      have := HX.out
      rw [List.take_of_length_le (by have := HL.out; omega)] at this
      exact this))
    clear HX
    go_wp2
    go_ret
    exact ⟨by rw [HM.out]; rfl, rfl⟩
set_option maxRecDepth 100000 in
set_option maxHeartbeats 1000000 in
theorem atHead_walk (hr : RowOf w 1 keyC a n c l) (hn : n ≤ 1000000) (x : Nat) : Calls Try.prog 16 #[.int .u64 (x : Int), .slice a n c] w fun y w' => ∃ a' n' c', y = .returned (.slice a' n' c') ∧ OR w' w.heap.size 27 1 keyC (.slice a' n' c') (x :: l) ∧ Below w.heap.size w w' := by
  have HR := hid hr
  have hl : l.length = n := hr.1
  have HL := hid hl
  clear hr hl
  obtain ⟨iu, hiu, hzu, hsz2, hby2⟩ := info_u64z
  have IU := hid (And.intro hiu (And.intro hzu (And.intro hsz2 hby2)))
  clear hiu hzu hsz2 hby2
  obtain ⟨p, hp⟩ : ∃ p, w.heap.size = p := ⟨_, rfl⟩
  obtain ⟨w1, hw1⟩ : ∃ w1, w.alloc (.cells #[.int .u64 (x : Int)] 27) = w1 := ⟨_, rfl⟩
  have HB1 : Hid (Below w.heap.size w w1) := hid (by rw [← hw1]; exact nbel w _)
  have HK1 : Hid (Blk w1 p 27 [.int .u64 (x : Int)]) := hid (by
    have k := Blk.new w [.int .u64 (x : Int)] 27
    rw [hp] at k
    rw [← hw1]
    exact k)
  have HO1 : Hid (w1.ownsRow w.heap.size 27 1 (.slice (some ⟨p, 0, none⟩) 1 1) 1 [.int .u64 (x : Int)]) := hid ⟨rfl, .inr ⟨p, 1, #[.int .u64 (x : Int)], rfl, by omega, HK1.out, Nat.le_refl _, by decide, rfl, rfl⟩⟩
  have HR1 := hid (HR.out.below HB1.out)
  have Hp := hid hp
  go_enter Try.func16, Try.ntmps16
  go_wp2_with (at_builtin; refine stopHere ?_)
  intro _
  (try simp only [hw1])
  clear hw1 hp
  refine wpList_append_row _ rfl (.tmp 6) (.tmp 7) 35 rfl w.heap.size 27 iu (.int .u64 0) 1 8 Try.underlying35 IU.out.1 IU.out.2.1 IU.out.2.2.1 IU.out.2.2.2 rfl (by decide) (.slice (some ⟨p, 0, none⟩) 1 1) _ _ (by simp [Act.eval, Act.put]; done) HO1.out a n c (l.flatMap keyC) (by simp [Act.eval, Act.put]; done) (by rw [length_flatMap_const (f := keyC) (sz := 1) l (fun x _ => rfl), HL.out]) (fun h => HR1.out.nil h) (HR1.out.cells (by omega) (fun _ => rfl)) (keys_one l) (by omega) (by decide) HB1.out.size ?_
  intro v7 w7 hown7 hb7 hk7 hg7
  have HO7 : Hid (OR w7 w.heap.size 27 1 keyC v7 (x :: l)) := hid (by
    unfold OR
    rw [List.length_cons, List.flatMap_cons, HL.out, Nat.add_comm]
    exact hown7)
  have HB7 := hid (HB1.out.trans hb7)
  clear hown7 hb7 hk7 hg7 HO1 HR1 HK1 HB1 HR
  obtain ⟨a7, n7, c7, h7⟩ := HO7.out.shape
  subst h7
  go_wp2
  go_ret
  exact ⟨a7, n7, c7, rfl, HO7.out, HB7.out⟩
set_option maxRecDepth 100000 in
set_option maxHeartbeats 1000000 in
theorem drop_walk (hr : RowOf w 1 keyC a n c l) (hn : n ≤ 1000000) (x : Nat) : Calls Try.prog 17 #[.slice a n c, .int .u64 (x : Int)] w fun y w' => ∃ a' n' c', y = .returned (.slice a' n' c') ∧ OR w' w.heap.size 27 1 keyC (.slice a' n' c') (noK l x) ∧ Below w.heap.size w w' := by
  have HR := hid hr
  have hl : l.length = n := hr.1
  have HL := hid hl
  clear hr hl
  obtain ⟨iu, hiu, hzu, hsz2, hby2⟩ := info_u64z
  have IU := hid (And.intro hiu (And.intro hzu (And.intro hsz2 hby2)))
  clear hiu hzu hsz2 hby2
  go_enter Try.func17, Try.ntmps17
  go_upto_region 3 with fail
  go_loopw [5, 10] (fun v5 v wr => ∃ i : Nat, i ≤ n ∧ v = .int .i64 (i : Int) ∧ ∃ a5 n5 c5, v5 = .slice a5 n5 c5 ∧ Hid (OR wr w.heap.size 27 1 keyC (.slice a5 n5 c5) (noK (l.take i) x) ∧ Below w.heap.size w wr)) (fun _ v _ => n - (intOf v).toNat)
  case atStart => exact ⟨0, by omega, rfl, none, 0, 0, rfl, hid ⟨OR.nil _ _ _ _ _, Below.refl _ _⟩⟩
  case round =>
  obtain ⟨i, hi, rfl, a5, n5, c5, rfl, HX⟩ := hrel
  by_cases hin : i < n
  · as_aux_lemma =>
    have di : decide ((i : Int) < (n : Int)) = true := decide_eq_true (by omega)
    have hii : (i : Int) < (n : Int) := by omega
    obtain ⟨y, hy, b, off, rfl, hb, hc⟩ := (HR.out.below HX.out.2).cell hin
    have q0 : wr.cell? ⟨b, off + i, none⟩ = some (.int .u64 (y : Int)) := by simpa [keyC] using hc 0 (by omega)
    have HT : Hid (noK (l.take (i + 1)) x = noK (l.take i) x ++ (if y = x then [] else [y])) := hid (by
      unfold noK
      rw [List.take_add_one, hy, List.filter_append]
      congr 1
      by_cases h : y = x <;> simp [h])
    have Hlen : Hid ((noK (l.take i) x).length ≤ 1000000) := hid (Nat.le_trans (List.length_filter_le _ _) (by rw [List.length_take]; omega))
    clear hc hy hb
    by_cases he : y = x
    · have de : ((y : Int) != (x : Int)) = false := by rw [key_bne]; exact decide_eq_false (by simpa using he)
      have HF : Hid (OR wr w.heap.size 27 1 keyC (.slice a5 n5 c5) (noK (l.take (i + 1)) x) ∧ Below w.heap.size w wr) := hid ⟨by rw [HT.out, if_pos he, List.append_nil]; exact HX.out.1, HX.out.2⟩
      clear he HX HT Hlen
      go_wp2
      exact ⟨⟨i + 1, by omega, by go_num, a5, n5, c5, rfl, HF⟩, by simp [intOf]; omega⟩
    · have de : ((y : Int) != (x : Int)) = true := by rw [key_bne]; exact decide_eq_true he
      obtain ⟨w6, hw6⟩ : ∃ w6, wr.alloc (.cells #[.int .u64 (y : Int)] 27) = w6 := ⟨_, rfl⟩
      have HX6 : Hid (OR w6 w.heap.size 27 1 keyC (.slice a5 n5 c5) (noK (l.take i) x) ∧ Below w.heap.size w w6) := hid (by rw [← hw6]; exact ⟨HX.out.1.below (nbel wr _), HX.out.2.trans ((nbel wr _).mono HX.out.2.size)⟩)
      have HNw := hid (newRow wr [.int .u64 (y : Int)] 27 wr.heap.size rfl)
      rw [show (wr.alloc (.cells [.int .u64 (y : Int)].toArray 27)) = w6 from hw6] at HNw
      obtain ⟨p6, hp6⟩ : ∃ p, wr.heap.size = p := ⟨_, rfl⟩
      rw [hp6] at HNw
      have HE := hid he
      clear he
      go_wp2_with (at_builtin; refine stopHere ?_)
      intro _
      (try simp only [hw6])
      refine wpList_append_row _ rfl (.tmp 17) (.tmp 19) 35 rfl w.heap.size 27 iu (.int .u64 0) 1 8 Try.underlying35 IU.out.1 IU.out.2.1 IU.out.2.2.1 IU.out.2.2.2 rfl (by decide) (.slice a5 n5 c5) _ _ (by simp [Act.eval, Act.put]; done) HX6.out.1 (some ⟨p6, 0, none⟩) 1 1 (keyC y) (by simp [Act.eval, Act.put]; done) rfl (fun h => by cases h) HNw.out (keyC_one y) (by have := Hlen.out; omega) (by decide) HX6.out.2.size ?_
      intro v7 w7 hown7 hb7 hk7 hg7
      have HF : Hid (OR w7 w.heap.size 27 1 keyC v7 (noK (l.take (i + 1)) x) ∧ Below w.heap.size w w7) := hid ⟨by
        rw [HT.out, if_neg HE.out]
        have := hown7
        rw [flatMap_snoc] at this
        unfold OR
        rw [List.length_append]
        exact this, HX6.out.2.trans hb7⟩
      clear hown7 hb7 hk7 hg7 HX6 HNw hw6 hp6 HX HT Hlen HE
      obtain ⟨a7, n7, c7, h7⟩ := HF.out.1.shape
      subst h7
      go_wp2
      exact ⟨⟨i + 1, by omega, by go_num, a7, n7, c7, rfl, HF⟩, by simp [intOf]; omega⟩
  · as_aux_lemma =>
    have di : decide ((i : Int) < (n : Int)) = false := decide_eq_false (by omega)
    have HF : Hid (OR wr w.heap.size 27 1 keyC (.slice a5 n5 c5) (noK l x) ∧ Below w.heap.size w wr) := hid (by
      have := HX.out
      rw [List.take_of_length_le (by have := HL.out; omega)] at this
      exact this)
    clear HX
    go_wp2
    go_ret
    exact ⟨a5, n5, c5, rfl, HF.out.1, HF.out.2⟩
end
end Go.Proofs.Qxb6500892a
