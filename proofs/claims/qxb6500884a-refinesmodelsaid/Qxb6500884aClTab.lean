/- The model's tables: None, FromIntervals; sameTable. -/
import Derived.Test.Qxb6500884aClCon
import Derived.Deep.OwnRows
namespace Go.Proofs.Qxb6500884a
open Go.RowKit
set_option linter.unusedSimpArgs false
set_option linter.unusedVariables false

/-- A table of the alphabet's 196608 truths. -/
def tabL (f : Nat → Bool) : List Value := (List.range 196608).map fun i => .bool (f i)
theorem tabL_len (f : Nat → Bool) : (tabL f).length = 196608 := by unfold tabL; rw [List.length_map, List.length_range]
theorem tabL_get (f : Nat → Bool) {i : Nat} (h : i < 196608) : (tabL f)[i]? = some (.bool (f i)) := by
  unfold tabL
  rw [List.getElem?_map, List.getElem?_range h]
  rfl
theorem tabL_ext {f g : Nat → Bool} (h : ∀ i, i < 196608 → f i = g i) : tabL f = tabL g := by
  unfold tabL
  apply List.map_congr_left
  intro i hi
  rw [h i (List.mem_range.1 hi)]
theorem tabL_set (f : Nat → Bool) {c : Nat} (h : c < 196608) (b : Bool) : (tabL f).set c (.bool b) = tabL (fun i => if i = c then b else f i) := by
  apply List.ext_getElem?
  intro i
  by_cases hi : i < 196608
  · rw [tabL_get _ hi]
    by_cases hc : i = c
    · subst hc
      rw [List.getElem?_set_self (by rw [tabL_len]; exact hi), if_pos rfl]
    · rw [List.getElem?_set_ne (fun e => hc e.symm), tabL_get _ hi, if_neg hc]
  · rw [List.getElem?_eq_none (by rw [List.length_set, tabL_len]; omega), List.getElem?_eq_none (by rw [tabL_len]; omega)]
theorem made_gen (n : Nat) : madeCells #[Value.bool false] n = ((List.range n).map fun _ => Value.bool false).toArray := by
  apply Array.ext
  · simp [madeCells]
  · intro i h1 h2
    simp [madeCells, Nat.mod_one]
theorem tab_made : madeCells #[Value.bool false] 196608 = (tabL fun _ => false).toArray := by
  rw [made_gen]
  unfold tabL
  rfl
theorem info_bool : (Try.prog.info? 4).map (fun i => (i.zero, i.size, i.bytes)) = some (some (.bool false), 1, 1) := by kernel_rfl
theorem make_set (w : World) : (Instr.makeSlice 35 (.int .i64 196608) (.int .i64 196608)).run Try.prog w = .ok (.slice (some ⟨w.heap.size, 0, none⟩) 196608 196608) (w.alloc (.cells (tabL fun _ => false).toArray 4)) := by
  rw [← tab_made]
  exact run_make_row' (P := Try.prog) 35 4 (.bool false) 1 (by kernel_rfl) info_bool rfl .i64 .i64 196608 (by omega) (by omega) w
theorem make_tab (w : World) : (Instr.makeSlice 34 (.int .i64 196608) (.int .i64 196608)).run Try.prog w = .ok (.slice (some ⟨w.heap.size, 0, none⟩) 196608 196608) (w.alloc (.cells (tabL fun _ => false).toArray 4)) := by
  rw [← tab_made]
  exact run_make_row' (P := Try.prog) 34 4 (.bool false) 1 (by kernel_rfl) info_bool rfl .i64 .i64 196608 (by omega) (by omega) w
attribute [irreducible] tabL
set_option maxRecDepth 100000 in
theorem none_walk (w : World) : Calls Try.prog 39 #[] w fun e w' => e = .returned (.slice (some ⟨w.heap.size, 0, none⟩) 196608 196608) ∧ w' = w.alloc (.cells (tabL fun _ => false).toArray 4) := by
  have hm := make_set
  go_enter Try.func39, Try.ntmps39
  go_wp2
  go_ret
  exact ⟨rfl, rfl⟩
/-- A table being filled. -/
structure Tb (w0 : World) (g : Nat) (f : Nat → Bool) (w : World) : Prop where
  bel : Below w0.heap.size w0 w
  blk : Blk w g 4 (tabL f)
theorem Tb.below {w0 w w' : World} {g : Nat} {f : Nat → Bool} (h : Tb w0 g f w) (hb : Below w.heap.size w w') : Tb w0 g f w' := ⟨h.bel.trans (hb.mono h.bel.size), h.blk.below hb⟩
theorem Tb.set {w0 w : World} {g : Nat} {f : Nat → Bool} (h : Tb w0 g f w) (hg : w0.heap.size ≤ g) {c : Nat} (hc : c < 196608) (b : Bool) : Tb w0 g (fun i => if i = c then b else f i) (w.setCell ⟨g, c, none⟩ (.bool b)) :=
  ⟨h.bel.trans (((Upd.refl g w).setCell rfl _).below hg h.bel.size), by rw [← tabL_set f hc]; exact h.blk.set c _⟩
theorem Tb.ext {w0 w : World} {g : Nat} {f f' : Nat → Bool} (h : Tb w0 g f w) (he : ∀ i, i < 196608 → f i = f' i) : Tb w0 g f' w := ⟨h.bel, by rw [← tabL_ext he]; exact h.blk⟩
theorem memB_take {l : List (Int × Int)} {k : Nat} {p : Int × Int} (h : l[k]? = some p) (x : Int) : memB (l.take (k + 1)) x = (memB (l.take k) x || (decide (p.1 ≤ x) && decide (x ≤ p.2))) := by
  unfold memB
  rw [List.take_add_one, h, List.any_append]
  simp
set_option maxRecDepth 100000 in
set_option maxHeartbeats 2000000 in
theorem mfrom_walk (a : Option Addr) (n c : Nat) (l : List (Int × Int)) (w : World) (hr : IvRow w a n c l) :
    Calls Try.prog 15 #[.slice a n c] w fun e w' => ∃ g, e = .returned (.slice (some ⟨g, 0, none⟩) 196608 196608) ∧ w.heap.size ≤ g ∧ Tb w g (fun i => memB l (i : Int)) w' := by
  have HR := hid hr
  have hl := hr.len
  have hn := hr.1.2.2.1.1
  obtain ⟨g, hg⟩ : ∃ g, w.heap.size = g := ⟨_, rfl⟩
  have HT0 : Hid (Tb w g (fun _ => false) (w.alloc (.cells (tabL fun _ => false).toArray 4))) := hid ⟨nbel w _, by have := Blk.new w (tabL fun _ => false) 4; rw [hg] at this; exact this⟩
  have hgw : w.heap.size ≤ g := by omega
  have HNn := hid (none_walk w)
  rw [hg] at HNn
  clear hr
  go_enter Try.func15, Try.ntmps15
  go_wp2_with fail
  refine (HNn.out).mono ?_
  rintro e w1 ⟨rfl, rfl⟩
  generalize w.alloc (.cells (tabL fun _ => false).toArray 4) = w1 at HT0 ⊢
  go_wp2_with fail
  go_loopw [10] (fun i wr => ∃ k : Nat, k ≤ 196608 ∧ i = .int .i64 k ∧ Hid (Tb w g (fun i => decide (i < k) && memB l (i : Int)) wr)) (fun i _ => 196608 - (intOf i).toNat)
  case atStart => exact ⟨0, by omega, rfl, hid (HT0.out.ext (fun i _ => by simp))⟩
  case round =>
    obtain ⟨k, hk, rfl, HT⟩ := hrel
    by_cases hlt : k < 196608
    rotate_left
    · have dk : decide ((k : Int) < 196608) = false := decide_eq_false (by omega)
      have HTe := hid (HT.out.ext (f' := fun i => memB l (i : Int)) (fun i hi => by rw [decide_eq_true (show i < k by omega), Bool.true_and]))
      go_wp2
      go_ret
      exact ⟨g, rfl, by omega, HTe.out⟩
    have dk : decide ((k : Int) < 196608) = true := decide_eq_true (by omega)
    go_wp2_with fail
    go_loopw [15] (fun i wr => ∃ j : Nat, j ≤ n ∧ i = .int .i64 j ∧ Hid (Tb w g (fun i => if i = k then memB (l.take j) (k : Int) else decide (i < k) && memB l (i : Int)) wr)) (fun i _ => n - (intOf i).toNat)
    case atStart => exact ⟨0, by omega, rfl, hid (HT.out.ext (fun i _ => by
      by_cases h : i = k
      · subst h; simp [memB]
      · rw [if_neg h]))⟩
    case round =>
      clear HT
      obtain ⟨j, hj, rfl, HT⟩ := hrel
      by_cases hjl : j < n
      rotate_left
      · have dj : decide ((j : Int) < (n : Int)) = false := decide_eq_false (by omega)
        have HTe : Hid (Tb w g (fun i => decide (i < k + 1) && memB l (i : Int)) wr) := hid (HT.out.ext (fun i hi => by
          by_cases h : i = k
          · subst h
            rw [if_pos rfl, List.take_of_length_le (by omega), decide_eq_true (by omega), Bool.true_and]
          · rw [if_neg h]
            have : decide (i < k) = decide (i < k + 1) := by rw [decide_eq_decide]; omega
            rw [this]))
        go_wp2
        exact ⟨⟨k + 1, by omega, by go_num, HTe⟩, by simp [intOf]; omega⟩
      obtain ⟨p, hp, f1, f2, b, off, rfl, hb, e1, e2⟩ := (HR.out.below HT.out.bel).get hjl
      have Hmt := hid (memB_take hp (k : Int))
      obtain ⟨x, y⟩ := p
      dsimp only at e1 e2
      have dj : decide ((j : Int) < (n : Int)) = true := decide_eq_true (by omega)
      have i1 : (j : Int) < (n : Int) := by omega
      have i2 : (k : Int) < 196608 := by omega
      have HT2 := hid (HT.out.below (nbel wr (.cells #[.int .i64 x, .int .i64 y] 67)))
      have cg : (wr.alloc (.cells #[.int .i64 x, .int .i64 y] 67)).cell? ⟨g, k, none⟩ = some (.bool (if k = k then memB (l.take j) (k : Int) else decide (k < k) && memB l (k : Int))) := by rw [HT2.out.blk.cell]; exact tabL_get _ hlt
      have fg := HT2.out.blk.frozen k
      have hgr : g < wr.heap.size := HT.out.blk.lt
      have hne : wr.heap.size ≠ g := by omega
      clear hp
      by_cases hxy : x ≤ (k : Int) ∧ (k : Int) ≤ y
      · have d1 : decide (x ≤ (k : Int)) = true := decide_eq_true hxy.1
        have d2 : decide ((k : Int) ≤ y) = true := decide_eq_true hxy.2
        have HT3 := hid (((HT.out.set hgw hlt true).below (nbel _ (.cells #[.int .i64 x, .int .i64 y] 67))).ext (f' := fun i => if i = k then memB (l.take (j + 1)) (k : Int) else decide (i < k) && memB l (i : Int)) (fun i hi => by
          by_cases h : i = k
          · rw [if_pos h, if_pos h, Hmt.out, d1, d2]; simp
          · rw [if_neg h, if_neg h, if_neg h]))
        go_wp2
        exact ⟨⟨j + 1, by omega, by go_num, HT3⟩, by simp [intOf]; omega⟩
      · have HT3 := hid (HT2.out.ext (f' := fun i => if i = k then memB (l.take (j + 1)) (k : Int) else decide (i < k) && memB l (i : Int)) (fun i hi => by
          by_cases h : i = k
          · rw [if_pos h, if_pos h, Hmt.out]
            have : (decide (x ≤ (k : Int)) && decide ((k : Int) ≤ y)) = false := by rw [← Bool.decide_and]; exact decide_eq_false hxy
            rw [this, Bool.or_false]
          · rw [if_neg h, if_neg h]))
        by_cases hx : x ≤ (k : Int)
        · have d1 : decide (x ≤ (k : Int)) = true := decide_eq_true hx
          have d2 : decide ((k : Int) ≤ y) = false := decide_eq_false (fun h => hxy ⟨hx, h⟩)
          clear hxy
          go_wp2
          exact ⟨⟨j + 1, by omega, by go_num, HT3⟩, by simp [intOf]; omega⟩
        · have d1 : decide (x ≤ (k : Int)) = false := decide_eq_false hx
          clear hxy
          go_wp2
          exact ⟨⟨j + 1, by omega, by go_num, HT3⟩, by simp [intOf]; omega⟩
set_option maxRecDepth 100000 in
set_option maxHeartbeats 2000000 in
theorem sameTable_walk (w0 w1 : World) (g h : Nat) (f : Nat → Bool) (w : World) (h1 : Tb w0 g f w) (h2 : Tb w1 h f w) :
    Calls Try.prog 16 #[.slice (some ⟨g, 0, none⟩) 196608 196608, .slice (some ⟨h, 0, none⟩) 196608 196608] w fun e w' => e = .returned (.bool true) ∧ Below w.heap.size w w' := by
  have HG := hid h1.blk
  have HH := hid h2.blk
  clear h1 h2
  go_enter Try.func16, Try.ntmps16
  go_wp2_with fail
  go_loopw [13] (fun i wr => ∃ k : Nat, k ≤ 196608 ∧ i = .int .i64 k ∧ Hid (Below w.heap.size w wr)) (fun i _ => 196608 - (intOf i).toNat)
  case atStart => exact ⟨0, by omega, rfl, hid (Below.refl _ _)⟩
  case round =>
    obtain ⟨k, hk, rfl, HB⟩ := hrel
    by_cases hlt : k < 196608
    rotate_left
    · have dk : decide ((k : Int) < 196608) = false := decide_eq_false (by omega)
      go_wp2
      go_ret
      exact ⟨rfl, HB.out⟩
    have dk : decide ((k : Int) < 196608) = true := decide_eq_true (by omega)
    have i2 : (k : Int) < 196608 := by omega
    obtain ⟨B, hB⟩ : ∃ B, f k = B := ⟨_, rfl⟩
    have c1 : ∀ nn, (wr.drewN nn).cell? ⟨g, k, none⟩ = some (.bool B) := fun nn => by rw [← hB, ((HG.out.below HB.out).drewN nn).cell]; exact tabL_get _ hlt
    have c2 : ∀ nn, (wr.drewN nn).cell? ⟨h, k, none⟩ = some (.bool B) := fun nn => by rw [← hB, ((HH.out.below HB.out).drewN nn).cell]; exact tabL_get _ hlt
    clear hB
    go_upto_region 6 with fail
    go_quiet (fail)
    go_wp2
    exact ⟨⟨k + 1, by omega, by go_num, hid (HB.out.trans (Drew.below ⟨nq, rfl⟩ _))⟩, by simp [intOf]; omega⟩
end Go.Proofs.Qxb6500884a
