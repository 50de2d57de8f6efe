/- The law SortOrderedPermutation. -/
import Derived.Test.Qxb6500890aTextStab
import Derived.WalkLawsBesides
namespace Go.Proofs.Qxb6500890a
open Go.RowKit
set_option linter.unusedSimpArgs false
set_option linter.unusedVariables false

theorem Blk.row {w : World} {g n : Nat} {T : TypeId} {X : List ByteArray} (h : Blk w g T (X.map .string)) (hn : X.length = n) (hb : n ≤ 65536) : RowOf w 1 strCell (some ⟨g, 0, none⟩) n n X := by
  refine ⟨hn, Nat.le_refl _, ⟨by omega, by simp [maxLen]; omega, fun h => by cases h⟩, fun i hi => ⟨g, 0, rfl, h.lt, fun j hj => ?_⟩⟩
  obtain rfl : j = 0 := by omega
  rw [h.cell]
  simp [strCell, hi]

theorem str_ne {x s : ByteArray} (h : ¬ x = s) : (x.toList == s.toList) = false := by
  simp only [beq_eq_false_iff_ne, ByteArray.toList_eq]
  intro e
  exact h (ByteArray.ext (Array.toList_inj.1 e))

theorem bytesLess_cmp : ∀ a b : List UInt8, Op.bytesLess a b = decide (cmpL a b < 0)
  | [], [] => by simp [Op.bytesLess, cmpL]
  | [], _ :: _ => by simp [Op.bytesLess, cmpL]
  | _ :: _, [] => by simp [Op.bytesLess, cmpL]
  | x :: a, y :: b => by
    have ih := bytesLess_cmp a b
    have hlt : (x < y) ↔ x.toNat < y.toNat := UInt8.lt_iff_toNat_lt
    have hlt2 : (y < x) ↔ y.toNat < x.toNat := UInt8.lt_iff_toNat_lt
    by_cases h : x.toNat = y.toNat
    · have : x = y := UInt8.toNat_inj.1 h
      subst this
      simp [Op.bytesLess, cmpL, ih]
    · by_cases h2 : x.toNat < y.toNat
      · have : ¬ y < x := by rw [hlt2]; omega
        simp [Op.bytesLess, cmpL, h, h2, hlt, hlt2]
      · have : ¬ x = y := fun e => h (by rw [e])
        have h3 : y.toNat < x.toNat := by omega
        simp [Op.bytesLess, cmpL, h, h2, hlt, hlt2, h3, this]

theorem str_le {x y : ByteArray} (h : ltS y x = false) : (!(Op.bytesLess x.toList y.toList || x.toList == y.toList)) = false := by
  have e := cmp_neg y.data.toList x.data.toList
  have z := cmp_zero x.data.toList y.data.toList
  simp only [ltS, decide_eq_false_iff_not] at h
  rw [bytesLess_cmp, ByteArray.toList_eq, ByteArray.toList_eq]
  by_cases h1 : cmpL x.data.toList y.data.toList = 0
  · simp [z.1 h1]
  · have : cmpL x.data.toList y.data.toList < 0 := by omega
    simp [this]

theorem sort_adj {X : List ByteArray} {m : Nat} {x y : ByteArray} (hm : 1 ≤ m) (hx : (ssort ltS X)[m - 1]? = some x) (hy : (ssort ltS X)[m]? = some y) : ltS y x = false := by
  obtain ⟨i, rfl⟩ : ∃ i, m = i + 1 := ⟨m - 1, by omega⟩
  obtain ⟨h1, rfl⟩ := List.getElem?_eq_some_iff.1 hx
  obtain ⟨h2, rfl⟩ := List.getElem?_eq_some_iff.1 hy
  exact srt_get ltS_ord _ (ssort_srt ltS_ord X) i h2

theorem op_ln {l : List TOp} {k : Nat} {o : TOp} (h : l[k]? = some o) : o.ln ≤ opsW l ∧ o.rn ≤ opsW l := by
  have : opW o ≤ opsW l := by
    have hm := List.mem_of_getElem? h
    unfold opsW
    clear h
    induction l with
    | nil => cases hm
    | cons a l ih =>
      simp only [List.map_cons, List.sum_cons]
      rcases List.mem_cons.1 hm with rfl | h
      · omega
      · have := ih h; omega
  unfold opW at this
  omega

def cnt (s : ByteArray) (l : List ByteArray) : Nat := l.countP (fun x => decide (x = s))
theorem cnt_succ {s x : ByteArray} {l : List ByteArray} {k : Nat} (h : l[k]? = some x) : cnt s (l.take (k + 1)) = cnt s (l.take k) + if x = s then 1 else 0 := by
  rw [List.take_add_one, h]
  unfold cnt
  rw [List.countP_append]
  by_cases e : x = s <;> simp [e]
theorem cnt_le (s : ByteArray) (l : List ByteArray) : cnt s l ≤ l.length := List.countP_le_length

set_option maxRecDepth 100000 in
set_option maxHeartbeats 1000000 in
theorem count_walk (a : Option Addr) (n c : Nat) (X : List ByteArray) (s : ByteArray) (w : World) (hr : RowOf w 1 strCell a n c X) :
    Calls Try.prog 27 #[.slice a n c, .string s] w fun e w' => e = .returned (.int .i64 (cnt s X : Nat)) ∧ w' = w := by
  have hn : n ≤ 140737488351232 := hr.2.2.1.1
  have HR := hid hr
  clear hr
  go_enter Try.func27, Try.ntmps27
  go_wp2
  go_loop [5, 10] (fun v i => ∃ k t : Nat, k ≤ n ∧ t ≤ k ∧ i = .int .i64 k ∧ v = .int .i64 (t : Int) ∧ Hid (t = cnt s (X.take k))) (fun _ i => n - (intOf i).toNat)
  case atStart => exact ⟨0, 0, Nat.zero_le _, Nat.le_refl _, rfl, rfl, hid (by simp [cnt])⟩
  case round =>
    obtain ⟨k, t, hk, ht, rfl, rfl, HT⟩ := hrel
    by_cases hlt : k < n
    · obtain ⟨x, hx, b, off, rfl, hb, cx⟩ := HR.out.cell1 hlt
      have k0 : w.cell? ⟨b, off + k, none⟩ = some (.string x) := cx
      have HC := hid (cnt_succ (s := s) hx)
      clear hx cx
      by_cases he : x = s
      · rw [if_pos he] at HC
        go_wp2
        exact ⟨⟨k + 1, t + 1, by omega, by omega, by go_num, by go_num, hid (by rw [HC.out, HT.out])⟩, by simp [intOf]; omega⟩
      · rw [if_neg he] at HC
        have hne := str_ne he
        go_wp2
        exact ⟨⟨k + 1, t, by omega, by omega, by go_num, rfl, hid (by rw [HC.out, HT.out]; rfl)⟩, by simp [intOf]; omega⟩
    · go_wp2
      go_ret
      have e := HT.out
      rw [List.take_of_length_le (by rw [HR.out.len]; omega)] at e
      exact ⟨by rw [← e]; rfl, rfl⟩

set_option maxRecDepth 100000 in
set_option maxHeartbeats 1000000 in
theorem copyStrings_walk (a : Option Addr) (n c : Nat) (X : List ByteArray) (w : World) (hr : RowOf w 1 strCell a n c X) (hn : n ≤ 65536) :
    Calls Try.prog 25 #[.slice a n c] w fun e w' => e = .returned (.slice (some ⟨w.heap.size, 0, none⟩) n n) ∧ Below w.heap.size w w' ∧ Blk w' w.heap.size 9 (X.map .string) := by
  have hmk := run_make_row' (P := Try.prog) 30 9 (.string ByteArray.empty) 16 (by kernel_rfl) info_str2 rfl .i64 .i64 n (by omega) (by omega)
  obtain ⟨i0, hi, hz0, hz1, hz2⟩ := info_parts info_str
  obtain ⟨wx, hwx⟩ : ∃ wx, (w.alloc (Obj.cells (madeCells #[Value.string ByteArray.empty] n) 9)) = wx := ⟨_, rfl⟩
  have hBx : Blk wx w.heap.size 9 ((List.replicate n ByteArray.empty).map .string) := by
    subst hwx
    have e := Blk.new w ((List.replicate n ByteArray.empty).map .string) 9
    rw [← made_str] at e
    exact e
  have hU : Below w.heap.size w wx := by subst hwx; exact Below.alloc (Below.refl _ _) (Nat.le_refl _) _
  have hrx := hr.below hU
  have hXl := hr.len
  obtain ⟨w6, hrun, hb6, hu6⟩ := run_copy_blk (P := Try.prog) wx 30 30 3 9 i0 1 Try.underlying30 hi hz1 (some ⟨w.heap.size, 0, none⟩) a n n n c w.heap.size 0 9 _ (X.map .string) hBx (by rw [List.length_map, hXl]; simp) (fun h0 => by
    have h0' : 0 < n := by simpa using h0
    obtain ⟨x, hx, b, off, rfl, hb, cx⟩ := hrx.cell1 h0'
    refine ⟨rfl, _, rfl, fun j v hv => ?_⟩
    have hj : j < n := by
      have := (List.getElem?_eq_some_iff.1 hv).1
      rw [List.length_map, hXl] at this
      exact this
    obtain ⟨y, hy, b2, off2, e2, _, cy⟩ := hrx.cell1 hj
    cases e2
    have : (⟨b, off, none⟩ : Addr).add j = ⟨b, off + j, none⟩ := by by_cases h0 : j = 0 <;> simp [Addr.add, h0]
    rw [this, cy, ← hv, List.getElem?_map, hy]
    rfl) (by simp [hXl]) (str_one _)
  have HB6 := hid hb6
  have HXl := hid hXl
  have HU6 : Hid (Below w.heap.size w w6) := hid (hU.trans (hu6.below (Nat.le_refl _) hU.size))
  rw [← hwx] at hrun
  clear hb6 hu6 hBx hU hrx hXl hwx hr
  go_enter Try.func25, Try.ntmps25
  go_wp2
  go_ret
  refine ⟨rfl, HU6.out, ?_⟩
  have e6 : splice ((List.replicate n ByteArray.empty).map Value.string) 0 (X.map Value.string) = X.map Value.string := by
    unfold splice
    rw [List.drop_of_length_le (by rw [List.length_map, List.length_map, List.length_replicate, HXl.out]; omega)]
    simp
  have h6 := HB6.out
  rw [e6] at h6
  exact h6

set_option maxRecDepth 100000 in
set_option maxHeartbeats 1000000 in
theorem sortStrings_walk (g n : Nat) (X : List ByteArray) (hX : X.length = n) (hn : n ≤ 65536) (hok : ∀ s ∈ X, s.size ≤ 140737488351232) (w : World) (hb : Blk w g 9 (X.map .string)) :
    Calls Try.prog 26 #[.slice (some ⟨g, 0, none⟩) n n] w fun e w' => e = .returned (.tuple #[]) ∧ Upd g w w' ∧ Blk w' g 9 ((ssort ltS X).map .string) := by
  have HB0 := hid hb
  have HOk := hid hok
  clear hb hok
  go_enter Try.func26, Try.ntmps26
  go_wp2_with fail
  refine (stable_walk g n X hX hn HOk.out _ HB0.out).mono ?_
  rintro e w1 ⟨rfl, hu1, hb1⟩
  have HU1 := hid hu1
  have HB1 := hid hb1
  clear hu1 hb1
  go_wp2
  go_end0
  exact ⟨rfl, HU1.out, HB1.out⟩

set_option maxRecDepth 100000 in
set_option maxHeartbeats 2000000 in
theorem sortLaw_walk (a : Option Addr) (n c : Nat) (l : List TOp) (w : World) (hs : Script w a n c l) :
    Calls Try.prog 6 #[.slice a n c] w fun e w' => e = .returned (.bool true) ∧ Below w.heap.size w w' := by
  have HS := hid hs
  clear hs
  go_enter Try.func6, Try.ntmps6
  go_wp2_with fail
  refine (small_walk a n c l _ HS.out).mono ?_
  rintro e w' ⟨r, rfl, rfl, hr⟩
  cases r with
  | false =>
    go_wp2
    go_ret
    exact ⟨rfl, Below.refl _ _⟩
  | true =>
    have hsm := hr rfl
    have hn : n ≤ 65536 := by omega
    have HSm := hid hsm
    clear hr hsm
    go_wp2
    go_loopw [14] (fun i wr => ∃ k : Nat, k ≤ n ∧ i = .int .i64 k ∧ Hid (Below w'.heap.size w' wr)) (fun i _ => n - (intOf i).toNat)
    case atStart => exact ⟨0, Nat.zero_le _, rfl, hid (Below.refl _ _)⟩
    case round =>
      obtain ⟨k, hk, rfl, HB⟩ := hrel
      by_cases hlt : k < n
      · obtain ⟨o, ho, hok, b, off, rfl, hb, c0, c1, c2, c3, c4, c5, c6, c7⟩ := (HS.out.below HB.out).at hlt
        have HOk : Hid (OpOk wr o) := hok
        have HLn : Hid (o.ln ≤ 65536) := hid (by have h1 := (op_ln ho).1; have h2 := HSm.out; omega)
        clear ho hok
        obtain ⟨kind, oa, ob, oc, s, t, la, ln, lc, list, ra, rn, rc, recs⟩ := o
        obtain ⟨wa, hwa⟩ : ∃ wa, wr.alloc (Obj.cells #[Value.int IntKind.i64 kind, Value.int IntKind.i64 oa, Value.int IntKind.i64 ob, Value.int IntKind.i64 oc, Value.string s, Value.string t, Value.slice la ln lc, Value.slice ra rn rc] 37) = wa := ⟨_, rfl⟩
        obtain ⟨p, hp⟩ : ∃ p, wr.heap.size = p := ⟨_, rfl⟩
        have HBa : Hid (Below wr.heap.size wr wa) := by subst hwa; exact hid (Below.alloc (Below.refl _ _) (Nat.le_refl _) _)
        have HC6 : Hid (wa.cell? ⟨p, 6, none⟩ = some (.slice la ln lc) ∧ p < wa.heap.size) := by subst hwa hp; exact hid ⟨(Blk.new wr [_, _, _, _, _, _, _, _] 37).cell 6, (Blk.new wr [_, _, _, _, _, _, _, _] 37).lt⟩
        have HLr : Hid (RowOf wa 1 strCell la ln lc list) := hid (HOk.out.list.below HBa.out)
        have HLl : Hid (list.length = ln) := hid HOk.out.list.len
        have HFl : Hid (∀ s ∈ list, s.size ≤ 140737488351232) := hid HOk.out.fl
        have hln : ln ≤ 65536 := HLn.out
        clear HOk HLn
        have k6a := HC6.out.1
        go_wp2_with fail
        clear hwa k6a c0 c1 c2 c3 c4 c5 c6 c7
        refine (copyStrings_walk la ln lc list wa HLr.out hln).mono ?_
        rintro e w1 ⟨rfl, hb1, hk1⟩
        obtain ⟨g, hg⟩ : ∃ g, wa.heap.size = g := ⟨_, rfl⟩
        rw [hg] at hb1 hk1 HC6 ⊢
        have HB1 := hid hb1
        have HK1 := hid hk1
        clear hb1 hk1
        go_wp2_with fail
        refine (sortStrings_walk g ln list HLl.out hln HFl.out _ HK1.out).mono ?_
        rintro e w2 ⟨rfl, hu2, hk2⟩
        have HB2 : Hid (Below g wa w2) := hid (HB1.out.trans (hu2.below (Nat.le_refl _) (by have := HB1.out.size; omega)))
        have HK2 := hid (hk2.row (by rw [ssort_length, HLl.out]) hln)
        have k6 : w2.cell? ⟨p, 6, none⟩ = some (.slice la ln lc) := by rw [HB2.out.cell HC6.out.2]; exact HC6.out.1
        have HL2 : Hid (RowOf w2 1 strCell la ln lc list) := hid (HLr.out.below (by rw [hg]; exact HB2.out))
        have HW2 : Hid (Below w'.heap.size w' w2) := hid ((HB.out.trans (HBa.out.mono HB.out.size)).trans (HB2.out.mono (by have h1 := HB.out.size; have h2 := HBa.out.size; omega)))
        clear hu2 hk2 hg hp
        go_wp2
        go_loopw [6] (fun i wq => ∃ k : Nat, 1 ≤ k ∧ k ≤ ln + 1 ∧ i = .int .i64 k ∧ Hid (Drew w2 wq)) (fun i _ => ln + 1 - (intOf i).toNat)
        case atStart => exact ⟨1, by omega, by omega, rfl, hid (Drew.refl _)⟩
        case round =>
          obtain ⟨m, hm1, hm, rfl, HD⟩ := hrel
          by_cases hlt2 : m < ln
          · obtain ⟨x, hx, b1, off1, e1, hb1, cx⟩ := (HK2.out.below (HD.out.below _)).cell1 (show m - 1 < ln by omega)
            obtain ⟨y, hy, b2, off2, e2, hb2, cy⟩ := (HK2.out.below (HD.out.below _)).cell1 hlt2
            cases e1; cases e2
            have k1 : wr.cell? ⟨g, m - 1, none⟩ = some (.string x) := by simpa [strCell] using cx
            have k2 : wr.cell? ⟨g, m, none⟩ = some (.string y) := by simpa [strCell] using cy
            have hle := str_le (sort_adj hm1 hx hy)
            have i1 : (m : Int) < (ln : Int) := by omega
            have i2 : (m : Int) - 1 < (ln : Int) := by omega
            have i3 : 0 ≤ (m : Int) - 1 := by omega
            clear hx hy cx cy hb1 hb2
            go_wp2
            go_quiet (fail)
            go_wp2
            exact ⟨⟨m + 1, by omega, by omega, by go_num, hid (HD.out.next nq)⟩, by simp [intOf]; omega⟩
          · have k6' : wr.cell? ⟨p, 6, none⟩ = some (.slice la ln lc) := by obtain ⟨nn, rfl⟩ := HD.out; exact k6
            clear k6
            have HD0 := HD
            clear HD
            go_wp2
            go_loopw [48] (fun i wq => ∃ k : Nat, k ≤ ln ∧ i = .int .i64 k ∧ Hid (Drew w2 wq)) (fun i _ => ln - (intOf i).toNat)
            case atStart => exact ⟨0, by omega, rfl, HD0⟩
            case round =>
              obtain ⟨j, hj, rfl, HD⟩ := hrel
              by_cases hlt3 : j < ln
              · obtain ⟨x, hx, b1, off1, rfl, hb1, cx⟩ := (HL2.out.below (HD.out.below _)).cell1 hlt3
                have k1 : wr.cell? ⟨b1, off1 + j, none⟩ = some (.string x) := cx
                have k6 : wr.cell? ⟨p, 6, none⟩ = some (.slice (some ⟨b1, off1, none⟩) ln lc) := by obtain ⟨nn, rfl⟩ := HD.out; obtain ⟨mm, rfl⟩ := HD0.out; exact k6'
                have hcnt : cnt x (ssort ltS list) = cnt x list := (ssort_perm (lt := ltS) list).countP_eq _
                obtain ⟨N, hN⟩ : ∃ N, cnt x list = N := ⟨_, rfl⟩
                have HKq : Hid (∀ nn, Calls Try.prog 27 #[.slice (some ⟨g, 0, none⟩) ln ln, .string x] (wr.drewN nn) fun e w' => e = .returned (.int .i64 (N : Int)) ∧ w' = wr.drewN nn) := hid fun nn => by
                  rw [← hN, ← hcnt]; exact count_walk (some ⟨g, 0, none⟩) ln ln (ssort ltS list) x _ (HK2.out.below ((HD.out.next nn).below _))
                have HLq : Hid (∀ nn, Calls Try.prog 27 #[.slice (some ⟨b1, off1, none⟩) ln lc, .string x] (wr.drewN nn) fun e w' => e = .returned (.int .i64 (N : Int)) ∧ w' = wr.drewN nn) := hid fun nn => by
                  rw [← hN]; exact count_walk (some ⟨b1, off1, none⟩) ln lc list x _ (HL2.out.below ((HD.out.next nn).below _))
                have hq : ((N : Int) != (N : Int)) = false := by simp
                clear hN
                clear hx cx hb1 k6' hcnt
                go_wp2
                go_quiet ((go_at_call 27; first
                  | with_reducible exact Calls.quiet_of_same (HKq.out _)
                  | with_reducible exact Calls.quiet_of_same (HLq.out _)))
                go_wp2
                exact ⟨⟨j + 1, by omega, by go_num, hid (HD.out.next nq)⟩, by simp [intOf]; omega⟩
              · go_wp2
                exact ⟨⟨k + 1, by omega, by go_num, hid (HW2.out.trans (HD.out.below _))⟩, by simp [intOf]; omega⟩
      · go_wp2
        go_ret
        exact ⟨rfl, HB.out⟩
end Go.Proofs.Qxb6500890a
