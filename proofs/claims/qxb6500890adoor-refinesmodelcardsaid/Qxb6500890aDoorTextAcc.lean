/- The walks of textm.Shape, InRange, Value. -/
import Derived.Test.Qxb6500890aDoorTextAccPlain
import Derived.Test.Qxb6500890aDoorTextParse
import Derived.Test.Qxb6500890aDoorDrew
import Derived.Test.Qxb6500890aDoorMem
import Derived.WalkLawsBesides
namespace Go.Proofs.Qxb6500890aDoor
open Go.RowKit
set_option linter.unusedSimpArgs false
set_option linter.unusedVariables false

/-- '[]byte(s)': a new row that holds the bytes. -/
theorem bytes_conv (w : World) (s : ByteArray) : ∃ c w', (convert 9 82 (.string s)).run Tryd.prog w = .ok (.slice (some ⟨w.heap.size, 0, none⟩) s.size c) w' ∧ Below w.heap.size w w' ∧ w.heap.size < w'.heap.size ∧
    ∀ k (h : k < s.size), w'.cell? ⟨w.heap.size, k, none⟩ = some (.int .u8 (s[k].toNat : Int)) := by
  refine ⟨_, _, run_bytes_of_string w 9 82 5 s Tryd.underlying9 Tryd.underlying82 Tryd.underlying5, ?_, ?_, fun k h => ?_⟩
  · exact ((Below.refl _ _).drew).alloc (Nat.le_refl _) _
  · simp
  · have := World.cell?_alloc_mark w.drew (bytesRow s (grownCap w s.size 0 5)) 5 ((bytesRow s (grownCap w s.size 0 5)).size, (bytesRow s (grownCap w s.size 0 5)).size + 1) k
    refine Eq.trans this ?_
    exact bytesRow_at s _ k h

theorem digsOf_neg (s : ByteArray) (h : 0 < s.size) (h1 : s[0].toNat = 45) : isNeg s.data.toList = true ∧ digsOf s.data.toList = (s.extract 1 s.size).data.toList := by
  have e := isNeg_cons s h
  rw [h1] at e
  have e1 : isNeg s.data.toList = true := by rw [e]; rfl
  refine ⟨e1, ?_⟩
  have e2 : (s.extract 1 s.size).data.toList = s.data.toList.tail := by
    simp
    rw [List.take_of_length_le (by simp)]
  rw [digsOf, e1, e2]
  rfl
theorem digsOf_pos (s : ByteArray) (h : 0 < s.size) (h1 : ¬ s[0].toNat = 45) : isNeg s.data.toList = false ∧ digsOf s.data.toList = s.data.toList := by
  have e := isNeg_cons s h
  simp [h1] at e
  exact ⟨e, by rw [digsOf, e]; rfl⟩

theorem empty_toList (s : ByteArray) : s.toList.isEmpty = decide (s.size = 0) := by
  rw [ByteArray.toList_eq, Bool.eq_iff_iff, List.isEmpty_iff, decide_eq_true_eq, ← List.length_eq_zero_iff, Array.length_toList]
  rfl

theorem ret_b {a b : Bool} (h : a = b) : Ending.returned (.bool a) = .returned (.bool b) := by rw [h]

theorem bad_at (d : ByteArray) (k : Nat) (h : k < d.size) (h2 : isDig d[k] = false) : d.data.toList.all isDig = false := by
  rw [Bool.eq_false_iff]
  intro hall
  rw [List.all_eq_true] at hall
  rw [hall _ (mem_at d k h)] at h2
  exact absurd h2 (by decide)
theorem shape_no {l d : List UInt8} (h : digsOf l = d) (hb : d.all isDig = false) : shapeB l = false := by
  rw [shapeB, h, hb, Bool.and_false]
theorem shape_yes {l d : List UInt8} (h : digsOf l = d) (h0 : ¬ d = []) (ha : ∀ c ∈ d, isDig c = true) : shapeB l = true := by
  rw [shapeB, h, List.all_eq_true.2 ha]
  simp [h0]
theorem shape_nil {l d : List UInt8} (h : digsOf l = d) (h0 : d = []) : shapeB l = false := by
  rw [shapeB, h, h0]; rfl
theorem not_empty {s : ByteArray} (h : 0 < s.size) : s.toList.isEmpty = false := by
  rw [empty_toList]; exact decide_eq_false (by omega)
theorem yes_empty {s : ByteArray} (h : s.size = 0) : s.toList.isEmpty = true := by
  rw [empty_toList]; exact decide_eq_true h
theorem is_empty {s : ByteArray} (h : s.size = 0) : s = ByteArray.empty := by
  cases s with
  | mk d =>
    have : d = #[] := Array.eq_empty_of_size_eq_zero h
    rw [this]; rfl

set_option maxHeartbeats 400000 in
set_option maxRecDepth 100000 in
theorem shape_walk (s : ByteArray) (hs : s.size ≤ 140737488351232) (w : World) :
    Calls Tryd.prog 71 #[.string s] w fun e w' => e = .returned (.bool (shapeB s.data.toList)) ∧ Below w.heap.size w w' := by
  by_cases h0 : 0 < s.size
  · have hne := not_empty h0
    by_cases h1 : s[0].toNat = 45
    · obtain ⟨d, hd⟩ : ∃ d, s.extract 1 s.size = d := ⟨_, rfl⟩
      have hds : d.size = s.size - 1 := by rw [← hd]; simp
      have hdd := (digsOf_neg s h0 h1).2
      rw [hd] at hdd
      have HD := hid hdd
      clear hdd
      by_cases h2 : d.size = 0
      · have HE := hid (shape_nil HD.out (by rw [← List.length_eq_zero_iff, Array.length_toList]; exact h2))
        have he2 := yes_empty h2
        clear h2 hds HD
        go_enter Tryd.func71, Tryd.ntmps71
        go_wp2
        go_ret
        exact ⟨ret_b HE.out.symm, Below.refl _ _⟩
      have hne2 := not_empty (show 0 < d.size by omega)
      obtain ⟨c, w1, hcv, hb1, hz1, hc1⟩ := bytes_conv w d
      have HC := hid hc1
      have HB := hid hb1
      have hdm : d.size ≤ 140737488351232 := by omega
      have hdp : 0 < d.size := by omega
      clear hds hb1 hc1 h2
      go_enter Tryd.func71, Tryd.ntmps71
      go_wp2
      go_loop [19] (fun i => ∃ k : Nat, k ≤ d.size ∧ i = .int .i64 k ∧ ∀ c ∈ d.data.toList.take k, isDig c = true) (fun i => d.size - (intOf i).toNat)
      case atStart => exact ⟨0, Nat.zero_le _, rfl, by simp⟩
      case round =>
        obtain ⟨k, hk, rfl, hdig⟩ := hrel
        have HG := hid hdig
        clear hdig
        by_cases hlt : k < d.size
        · have k0 := HC.out k hlt
          have hcd := d[k].toNat_lt
          by_cases l1 : d[k].toNat < 48
          · have HE := hid (shape_no HD.out (bad_at d k hlt (by unfold isDig; simp; omega)))
            go_wp2
            go_ret
            exact ⟨ret_b HE.out.symm, HB.out⟩
          by_cases l2 : 57 < d[k].toNat
          · have HE := hid (shape_no HD.out (bad_at d k hlt (by unfold isDig; simp; omega)))
            go_wp2
            go_ret
            exact ⟨ret_b HE.out.symm, HB.out⟩
          · have HE := hid (all_snoc d k hlt HG.out (by unfold isDig; simp; omega))
            go_wp2
            exact ⟨⟨k + 1, by omega, by go_num, HE.out⟩, by simp [intOf]; omega⟩
        · have HE := hid (shape_yes HD.out (by rw [← List.length_eq_zero_iff, Array.length_toList]; show ¬ d.size = 0; omega) (all_of d k (by omega) HG.out))
          go_wp2
          go_ret
          exact ⟨ret_b HE.out.symm, HB.out⟩
    · have HD := hid (digsOf_pos s h0 h1).2
      have hn45 : ((s[0].toNat : Int) == 45) = false := beq_eq_false_iff_ne.2 (by omega)
      obtain ⟨c, w1, hcv, hb1, hz1, hc1⟩ := bytes_conv w s
      have HC := hid hc1
      have HB := hid hb1
      clear hb1 hc1 h1
      go_enter Tryd.func71, Tryd.ntmps71
      go_wp2
      go_loop [19] (fun i => ∃ k : Nat, k ≤ s.size ∧ i = .int .i64 k ∧ ∀ c ∈ s.data.toList.take k, isDig c = true) (fun i => s.size - (intOf i).toNat)
      case atStart => exact ⟨0, Nat.zero_le _, rfl, by simp⟩
      case round =>
        obtain ⟨k, hk, rfl, hdig⟩ := hrel
        have HG := hid hdig
        clear hdig
        by_cases hlt : k < s.size
        · have k0 := HC.out k hlt
          have hcd := s[k].toNat_lt
          by_cases l1 : s[k].toNat < 48
          · have HE := hid (shape_no HD.out (bad_at s k hlt (by unfold isDig; simp; omega)))
            go_wp2
            go_ret
            exact ⟨ret_b HE.out.symm, HB.out⟩
          by_cases l2 : 57 < s[k].toNat
          · have HE := hid (shape_no HD.out (bad_at s k hlt (by unfold isDig; simp; omega)))
            go_wp2
            go_ret
            exact ⟨ret_b HE.out.symm, HB.out⟩
          · have HE := hid (all_snoc s k hlt HG.out (by unfold isDig; simp; omega))
            go_wp2
            exact ⟨⟨k + 1, by omega, by go_num, HE.out⟩, by simp [intOf]; omega⟩
        · have HE := hid (shape_yes HD.out (by rw [← List.length_eq_zero_iff, Array.length_toList]; show ¬ s.size = 0; omega) (all_of s k (by omega) HG.out))
          go_wp2
          go_ret
          exact ⟨ret_b HE.out.symm, HB.out⟩
  · have he := is_empty (show s.size = 0 by omega)
    have HE : Hid (shapeB s.data.toList = false) := by rw [he]; rfl
    have he2 := yes_empty (show s.size = 0 by omega)
    clear he
    go_enter Tryd.func71, Tryd.ntmps71
    go_wp2
    go_ret
    exact ⟨ret_b HE.out.symm, Below.refl _ _⟩

theorem natAcc_append : ∀ (a b : List UInt8) (u : Nat), natAcc (a ++ b) u = natAcc b (natAcc a u)
  | [], b, u => rfl
  | c :: a, b, u => natAcc_append a b _
theorem natOf_snoc (d : ByteArray) (k : Nat) (h : k < d.size) : natOf (d.data.toList.take (k + 1)) = natOf (d.data.toList.take k) * 10 + (d[k].toNat - 48) := by
  rw [List.take_succ_eq_append_getElem (by simpa using h), natOf, natAcc_append]
  rfl
theorem natOf_take_le (l : List UInt8) (k : Nat) : natOf (l.take k) ≤ natOf l := by
  conv => rhs; rw [← List.take_append_drop k l, natOf, natAcc_append]
  exact natAcc_ge _ _
theorem natOf_all (d : ByteArray) (k : Nat) (h : d.size ≤ k) : natOf (d.data.toList.take k) = natOf d.data.toList := by
  rw [List.take_of_length_le (by simpa using h)]

set_option maxHeartbeats 400000 in
theorem value_neg (s : ByteArray) (hs : s.size ≤ 140737488351232) (h0 : 0 < s.size) (h1 : s[0].toNat = 45) (hall : ∀ c ∈ digsOf s.data.toList, isDig c = true) (hr : natOf (digsOf s.data.toList) ≤ 9223372036854775808) (w : World) :
    Calls Tryd.prog 73 #[.string s] w fun e w' => e = .returned (.int .i64 (valueOf s.data.toList)) ∧ Below w.heap.size w w' := by
  obtain ⟨d, hd⟩ : ∃ d, s.extract 1 s.size = d := ⟨_, rfl⟩
  have hds : d.size = s.size - 1 := by rw [← hd]; simp
  have hdd := digsOf_neg s h0 h1
  rw [hd] at hdd
  rw [valueOf, hdd.1, if_pos rfl]
  rw [hdd.2] at hall hr ⊢
  have HA := hid hall
  have hdm : d.size ≤ 140737488351232 := by omega
  obtain ⟨c, w1, hcv, hb1, hz1, hc1⟩ := bytes_conv w d
  have HC := hid hc1
  have HB := hid hb1
  have HR := hid hr
  clear hds hdd hb1 hc1 hall hr
  · · go_enter Tryd.func73, Tryd.ntmps73
      go_wp2
      go_loop [4, 16] (fun v i => ∃ k : Nat, k ≤ d.size ∧ i = .int .i64 k ∧ v = .int .i64 (-(natOf (d.data.toList.take k) : Int))) (fun _ i => d.size - (intOf i).toNat)
      case atStart => exact ⟨0, Nat.zero_le _, rfl, rfl⟩
      case round =>
        obtain ⟨k, hk, rfl, rfl⟩ := hrel
        by_cases hlt : k < d.size
        · have k0 := HC.out k hlt
          have hcd := dig_at d k hlt HA.out
          have hn1 : natOf (d.data.toList.take (k + 1)) ≤ 9223372036854775808 := Nat.le_trans (natOf_take_le d.data.toList (k + 1)) HR.out
          have HN := hid (natOf_snoc d k hlt)
          have hn2 : natOf (d.data.toList.take k) * 10 + (d[k].toNat - 48) ≤ 9223372036854775808 := by rw [← HN.out]; exact hn1
          clear hn1
          generalize hX : natOf (d.data.toList.take k) = X at *
          clear hX
          go_wp2
          exact ⟨⟨k + 1, by omega, by go_num, by rw [HN.out]; go_num⟩, by simp [intOf]; omega⟩
        · have HE := hid (natOf_all d k (by omega))
          have hlim := HR.out
          go_wp2
          go_ret
          exact ⟨ret_i (by rw [HE.out]), HB.out⟩

set_option maxHeartbeats 400000 in
theorem value_pos (s : ByteArray) (hs : s.size ≤ 140737488351232) (h0 : 0 < s.size) (h1 : ¬ s[0].toNat = 45) (hall : ∀ c ∈ digsOf s.data.toList, isDig c = true) (hr : natOf (digsOf s.data.toList) ≤ 9223372036854775807) (w : World) :
    Calls Tryd.prog 73 #[.string s] w fun e w' => e = .returned (.int .i64 (valueOf s.data.toList)) ∧ Below w.heap.size w w' := by
  have hdd := digsOf_pos s h0 h1
  rw [valueOf, hdd.1, if_neg (by decide)]
  rw [hdd.2] at hall hr ⊢
  have HA := hid hall
  have hn45 : ((s[0].toNat : Int) == 45) = false := beq_eq_false_iff_ne.2 (by omega)
  obtain ⟨c, w1, hcv, hb1, hz1, hc1⟩ := bytes_conv w s
  have HC := hid hc1
  have HB := hid hb1
  have HR := hid hr
  clear hdd hb1 hc1 hall hr h1
  · · go_enter Tryd.func73, Tryd.ntmps73
      go_wp2
      go_loop [4, 16] (fun v i => ∃ k : Nat, k ≤ s.size ∧ i = .int .i64 k ∧ v = .int .i64 (-(natOf (s.data.toList.take k) : Int))) (fun _ i => s.size - (intOf i).toNat)
      case atStart => exact ⟨0, Nat.zero_le _, rfl, rfl⟩
      case round =>
        obtain ⟨k, hk, rfl, rfl⟩ := hrel
        by_cases hlt : k < s.size
        · have k0 := HC.out k hlt
          have hcd := dig_at s k hlt HA.out
          have hn1 : natOf (s.data.toList.take (k + 1)) ≤ 9223372036854775808 := Nat.le_trans (natOf_take_le s.data.toList (k + 1)) (Nat.le_trans HR.out (by decide))
          have HN := hid (natOf_snoc s k hlt)
          have hn2 : natOf (s.data.toList.take k) * 10 + (s[k].toNat - 48) ≤ 9223372036854775808 := by rw [← HN.out]; exact hn1
          clear hn1
          generalize hX : natOf (s.data.toList.take k) = X at *
          clear hX
          go_wp2
          exact ⟨⟨k + 1, by omega, by go_num, by rw [HN.out]; go_num⟩, by simp [intOf]; omega⟩
        · have HE := hid (natOf_all s k (by omega))
          have hlim := HR.out
          go_wp2
          go_ret
          exact ⟨ret_i (by rw [HE.out]; exact IntWalk.wrap64_in _ ⟨by omega, by omega⟩), HB.out⟩

theorem strip_step (d : ByteArray) (h : 1 < d.size) (h0 : d[0].toNat = 48) : stripZ (d.extract 1 d.size).data.toList = stripZ d.data.toList := by
  have e2 : (d.extract 1 d.size).data.toList = d.data.toList.drop 1 := by
    simp
    rw [List.take_of_length_le (by simp)]
  rw [e2]
  have e3 : d.data.toList = d[0] :: d[1] :: d.data.toList.drop 2 := by
    conv => lhs; rw [← List.drop_zero (l := d.data.toList)]
    rw [List.drop_eq_getElem_cons (by simp; omega), List.drop_eq_getElem_cons (i := 0 + 1) (by simp; omega)]
    rfl
  rw [e3, List.drop_succ_cons, List.drop_zero]
  conv => rhs; rw [stripZ]
  rw [if_pos h0]
theorem strip_end (d : ByteArray) (h : ¬ (1 < d.size ∧ ∃ h : 0 < d.size, d[0].toNat = 48)) : stripZ d.data.toList = d.data.toList := by
  match hl : d.data.toList with
  | [] => rfl
  | [c] => rfl
  | c :: e :: r =>
    rw [stripZ, if_neg]
    intro hc
    have hs : d.size = r.length + 2 := by
      have := congrArg List.length hl
      simpa using this
    have h0 : 0 < d.size := by omega
    refine h ⟨by omega, h0, ?_⟩
    have : d.data.toList[0]? = some c := by rw [hl]; rfl
    rw [List.getElem?_eq_getElem (by simpa using h0)] at this
    have e0 : d[0] = c := Option.some.inj this
    rw [e0]; exact hc

theorem cmp_len {d : ByteArray} {b : List UInt8} (h : ¬ d.size = b.length) : cmpB d.data.toList b = decide (d.size < b.length) := by
  rw [cmpB, if_neg (by rw [Array.length_toList]; exact h), Array.length_toList]
  rfl
theorem cmp_same {d : ByteArray} {b : List UInt8} (h : d.size = b.length) : cmpB d.data.toList b = (Op.bytesLess d.toList b || d.toList == b) := by
  rw [cmpB, if_pos (by rw [Array.length_toList]; exact h), ByteArray.toList_eq]

def strLen : Value → Nat | .string x => x.size | _ => 0

set_option maxHeartbeats 1000000 in
theorem inRange_neg (s : ByteArray) (hs : s.size ≤ 140737488351232) (h0 : 0 < s.size) (h1 : s[0].toNat = 45) (hne : digsOf s.data.toList ≠ []) (w : World) :
    Calls Tryd.prog 72 #[.string s] w fun e w' => e = .returned (.bool (inRangeB s.data.toList)) ∧ w' = w := by
  have hdd := digsOf_neg s h0 h1
  rw [inRangeB, hdd.1, hdd.2]
  rw [hdd.2] at hne
  obtain ⟨d, hd⟩ : ∃ d, s.extract 1 s.size = d := ⟨_, rfl⟩
  rw [hd] at hne ⊢
  have hds : d.size = s.size - 1 := by rw [← hd]; simp
  have hd0 : 0 < d.size := by
    rcases Nat.eq_zero_or_pos d.size with h | h
    · exact absurd (by rw [← List.length_eq_zero_iff, Array.length_toList]; exact h) hne
    · exact h
  have hdm : d.size ≤ 140737488351232 := by omega
  clear hdd hne hds
  go_enter Tryd.func72, Tryd.ntmps72
  go_wp2
  go_loop [0] (fun t => ∃ x : ByteArray, t = .string x ∧ 0 < x.size ∧ x.size ≤ 140737488351232 ∧ stripZ x.data.toList = stripZ d.data.toList) (fun t => strLen t)
  case atStart => exact ⟨d, rfl, hd0, hdm, rfl⟩
  case round =>
    obtain ⟨x, rfl, x1, x2, x3⟩ := hrel
    have HX := hid x3
    clear x3
    by_cases g1 : 1 < x.size
    · by_cases g2 : x[0].toNat = 48
      · have HS := hid (strip_step x g1 g2)
        go_wp2
        refine ⟨⟨_, rfl, ?_, ?_, HS.out.trans HX.out⟩, ?_⟩
        · simp; omega
        · simp; omega
        · simp [strLen]; omega
      have b0 : ((x[0].toNat : Int) == 48) = false := beq_eq_false_iff_ne.2 (by omega)
      have HE := hid (strip_end x (fun h => g2 h.2.2))
      have HY : Hid (stripZ d.data.toList = x.data.toList) := HX.out.symm.trans HE.out
      by_cases g3 : x.size = 19
      · have b1 : ((x.size : Int) != 19) = false := by simp [g3]
        have HF := hid (cmp_same (b := boundOf true) g3)
        clear g3
        go_wp2
        go_ret
        exact ⟨ret_b (by rw [HY.out, HF.out]; rfl), rfl⟩
      · have b1 : ((x.size : Int) != 19) = true := by rw [bne_iff_ne]; omega
        have HF := hid (cmp_len (d := x) (b := boundOf true) (show ¬ x.size = (boundOf true).length from g3))
        clear g3
        go_wp2
        go_ret
        exact ⟨ret_b (by rw [HY.out, HF.out, decide_eq_decide]; show (x.size : Int) < 19 ↔ x.size < 19; omega), rfl⟩
    · have b0 : decide ((1 : Int) < (x.size : Int)) = false := decide_eq_false (by omega)
      have HE := hid (strip_end x (fun h => g1 h.1))
      have HY : Hid (stripZ d.data.toList = x.data.toList) := HX.out.symm.trans HE.out
      by_cases g3 : x.size = 19
      · have b1 : ((x.size : Int) != 19) = false := by simp [g3]
        have HF := hid (cmp_same (b := boundOf true) g3)
        clear g3
        go_wp2
        go_ret
        exact ⟨ret_b (by rw [HY.out, HF.out]; rfl), rfl⟩
      · have b1 : ((x.size : Int) != 19) = true := by rw [bne_iff_ne]; omega
        have HF := hid (cmp_len (d := x) (b := boundOf true) (show ¬ x.size = (boundOf true).length from g3))
        clear g3
        go_wp2
        go_ret
        exact ⟨ret_b (by rw [HY.out, HF.out, decide_eq_decide]; show (x.size : Int) < 19 ↔ x.size < 19; omega), rfl⟩

set_option maxHeartbeats 1000000 in
theorem inRange_pos (s : ByteArray) (hdm : s.size ≤ 140737488351232) (hd0 : 0 < s.size) (h1 : ¬ s[0].toNat = 45) (w : World) :
    Calls Tryd.prog 72 #[.string s] w fun e w' => e = .returned (.bool (inRangeB s.data.toList)) ∧ w' = w := by
  have hdd := digsOf_pos s hd0 h1
  rw [inRangeB, hdd.1, hdd.2]
  have hn45 : ((s[0].toNat : Int) == 45) = false := beq_eq_false_iff_ne.2 (by omega)
  clear hdd h1
  go_enter Tryd.func72, Tryd.ntmps72
  go_wp2
  go_loop [0] (fun t => ∃ x : ByteArray, t = .string x ∧ 0 < x.size ∧ x.size ≤ 140737488351232 ∧ stripZ x.data.toList = stripZ s.data.toList) (fun t => strLen t)
  case atStart => exact ⟨s, rfl, hd0, hdm, rfl⟩
  case round =>
    obtain ⟨x, rfl, x1, x2, x3⟩ := hrel
    have HX := hid x3
    clear x3
    by_cases g1 : 1 < x.size
    · by_cases g2 : x[0].toNat = 48
      · have HS := hid (strip_step x g1 g2)
        go_wp2
        refine ⟨⟨_, rfl, ?_, ?_, HS.out.trans HX.out⟩, ?_⟩
        · simp; omega
        · simp; omega
        · simp [strLen]; omega
      have b0 : ((x[0].toNat : Int) == 48) = false := beq_eq_false_iff_ne.2 (by omega)
      have HE := hid (strip_end x (fun h => g2 h.2.2))
      have HY : Hid (stripZ s.data.toList = x.data.toList) := HX.out.symm.trans HE.out
      by_cases g3 : x.size = 19
      · have b1 : ((x.size : Int) != 19) = false := by simp [g3]
        have HF := hid (cmp_same (b := boundOf false) g3)
        clear g3
        go_wp2
        go_ret
        exact ⟨ret_b (by rw [HY.out, HF.out]; rfl), rfl⟩
      · have b1 : ((x.size : Int) != 19) = true := by rw [bne_iff_ne]; omega
        have HF := hid (cmp_len (d := x) (b := boundOf false) (show ¬ x.size = (boundOf false).length from g3))
        clear g3
        go_wp2
        go_ret
        exact ⟨ret_b (by rw [HY.out, HF.out, decide_eq_decide]; show (x.size : Int) < 19 ↔ x.size < 19; omega), rfl⟩
    · have b0 : decide ((1 : Int) < (x.size : Int)) = false := decide_eq_false (by omega)
      have HE := hid (strip_end x (fun h => g1 h.1))
      have HY : Hid (stripZ s.data.toList = x.data.toList) := HX.out.symm.trans HE.out
      by_cases g3 : x.size = 19
      · have b1 : ((x.size : Int) != 19) = false := by simp [g3]
        have HF := hid (cmp_same (b := boundOf false) g3)
        clear g3
        go_wp2
        go_ret
        exact ⟨ret_b (by rw [HY.out, HF.out]; rfl), rfl⟩
      · have b1 : ((x.size : Int) != 19) = true := by rw [bne_iff_ne]; omega
        have HF := hid (cmp_len (d := x) (b := boundOf false) (show ¬ x.size = (boundOf false).length from g3))
        clear g3
        go_wp2
        go_ret
        exact ⟨ret_b (by rw [HY.out, HF.out, decide_eq_decide]; show (x.size : Int) < 19 ↔ x.size < 19; omega), rfl⟩

theorem shape_pos_size {s : ByteArray} (h : shapeB s.data.toList = true) : 0 < s.size := by
  rcases Nat.eq_zero_or_pos s.size with h0 | h0
  · rw [is_empty h0] at h
    exact absurd h (by decide)
  · exact h0

theorem inRange_walk (s : ByteArray) (hs : s.size ≤ 140737488351232) (h : shapeB s.data.toList = true) (w : World) :
    Calls Tryd.prog 72 #[.string s] w fun e w' => e = .returned (.bool (inRangeB s.data.toList)) ∧ w' = w := by
  have h0 := shape_pos_size h
  by_cases h1 : s[0].toNat = 45
  · exact inRange_neg s hs h0 h1 (shape_open h).1 w
  · exact inRange_pos s hs h0 h1 w

theorem value_walk (s : ByteArray) (hs : s.size ≤ 140737488351232) (h : shapeB s.data.toList = true) (hr : inRangeB s.data.toList = true) (w : World) :
    Calls Tryd.prog 73 #[.string s] w fun e w' => e = .returned (.int .i64 (valueOf s.data.toList)) ∧ Below w.heap.size w w' := by
  have h0 := shape_pos_size h
  obtain ⟨g1, g2⟩ := shape_open h
  rw [inRangeB, range_iff _ _ g1 g2, decide_eq_true_eq] at hr
  by_cases h1 : s[0].toNat = 45
  · rw [(digsOf_neg s h0 h1).1] at hr
    exact value_neg s hs h0 h1 g2 hr w
  · rw [(digsOf_pos s h0 h1).1] at hr
    exact value_pos s hs h0 h1 g2 hr w
end Go.Proofs.Qxb6500890aDoor
