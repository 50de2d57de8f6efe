/- NewName. -/
import Derived.Test.Qxb6500891aPtEq
import Derived.Test.Qxb6500891aMid
namespace Go.Proofs.Qxb6500891a
open Go.RowKit
set_option linter.unusedSimpArgs false
set_option linter.unusedVariables false

def badB (l : List Nat) : Bool := l.any fun x => x == 0 || x == 47
def nnCode (l : List Nat) : Int := if l = [] then 1 else if 32 < l.length then 10 else if badB l then 8 else 0
def nnRes (l : List Nat) : List Nat := if nnCode l = 0 then l else []
theorem nnRes_bad {l : List Nat} {c : Int} (h : nnCode l = c) (hc : c ≠ 0) : nnRes l = [] := by unfold nnRes; rw [if_neg (by rw [h]; exact hc)]
theorem nnRes_ok {l : List Nat} (h : nnCode l = 0) : nnRes l = l := by unfold nnRes; rw [if_pos h]
theorem zero_name : (#[Value.int .u8 0, Value.int .u8 0, Value.int .u8 0, Value.int .u8 0, Value.int .u8 0, Value.int .u8 0, Value.int .u8 0, Value.int .u8 0, Value.int .u8 0, Value.int .u8 0, Value.int .u8 0, Value.int .u8 0, Value.int .u8 0, Value.int .u8 0, Value.int .u8 0, Value.int .u8 0, Value.int .u8 0, Value.int .u8 0, Value.int .u8 0, Value.int .u8 0, Value.int .u8 0, Value.int .u8 0, Value.int .u8 0, Value.int .u8 0, Value.int .u8 0, Value.int .u8 0, Value.int .u8 0, Value.int .u8 0, Value.int .u8 0, Value.int .u8 0, Value.int .u8 0, Value.int .u8 0, Value.int .u8 0] : Array Value) = (nameC []).toArray := rfl
theorem one_name (l : List Nat) : ∀ v ∈ nameC l, v.oneCell' = true := by
  intro v hv
  unfold nameC at hv
  rcases List.mem_cons.1 hv with rfl | hv
  · rfl
  · obtain ⟨x, _, rfl⟩ := List.mem_map.1 hv
    rfl
theorem name_made {l : List Nat} (h : l.length ≤ 32) : (splice (nameC []) 1 (l.map fun (x : Nat) => Value.int .u8 (x : Int))).set 0 (.int .u8 (l.length : Int)) = nameC l := by
  unfold splice nameC
  simp only [List.length_nil, Nat.sub_zero, List.nil_append, List.take_succ_cons, List.take_zero, List.length_map, List.cons_append, List.set_cons_zero, List.map_append, List.map_replicate, List.cons.injEq, true_and]
  rw [show 1 + l.length = l.length + 1 by omega, List.drop_succ_cons, List.drop_replicate]
theorem name_len0 : (nameC []).length = 33 := rfl

set_option maxRecDepth 100000 in
set_option maxHeartbeats 2000000 in
theorem newName_walk (a : Option Addr) (n c : Nat) (l : List Nat) (w : World) (hr : ByteRow w a n c l) :
    Calls Try.prog 22 #[.slice a n c] w fun e w' => e = .returned (.tuple #[nameV (nnRes l), .int .u8 (nnCode l)]) ∧ Below w.heap.size w w' := by
  have hn := hr.1.2.2.1.1
  have hl := hr.len
  obtain ⟨p, hp⟩ : ∃ p, w.heap.size = p := ⟨_, rfl⟩
  obtain ⟨b1, b2, hb⟩ := blk2 w (nameC []) (nameC []) 36 36
  obtain ⟨w2, hw2⟩ : ∃ w2, ((w.alloc (.cells (nameC []).toArray 36)).alloc (.cells (nameC []).toArray 36)) = w2 := ⟨_, rfl⟩
  rw [hw2] at b1 b2 hb
  rw [hp] at b1 b2
  have HR := hid (hr.below hb)
  have HBU : Hid (∀ g w3, p ≤ g → Upd g w2 w3 → Below w.heap.size w w3) := hid (fun g w3 hg hu => hb.trans (hu.below (by omega) (by have := b2.lt; omega)))
  have B1 := hid b1
  have B2 := hid b2
  have I0 : Hid ((Try.prog.info? 36).map (·.size) = some (nameC []).length) := hid info_name
  clear b1 b2 hb hr
  go_enter Try.func22, Try.ntmps22
  go_upto_region 2 with fail
  simp only [zero_name, hw2]
  clear hw2
  by_cases h0 : n = 0
  · subst h0
    have hl0 : l = [] := List.eq_nil_of_length_eq_zero hl
    subst hl0
    have HN : Hid (nnCode [] = 1) := hid rfl
    go_wp2_with (first
      | (refine wpList_load_blk rfl 36 _ rfl (p + 1) rfl (nameC []) B2.out _ Try.underlying36 rfl I0.out ?_)
      | (refine wpList_store_blk rfl 36 _ _ rfl p rfl (nameC []) rfl B1.out rfl I0.out (one_name []) ?_; intro w3 HB3 HU3))
    exact bodyPost_ret (results_cell_tmp Try.results22 rfl (by rw [name_len0]; exact aggName) HB3.out) rfl ⟨by rw [nnRes_bad HN.out (by omega), HN.out]; rfl, HBU.out _ _ (by omega) HU3.out⟩
  by_cases h32 : 32 < n
  · have d0 : ((n : Int) == 0) = false := by simp; omega
    have d1 : decide (32 < (n : Int)) = true := decide_eq_true (by omega)
    have HN : Hid (nnCode l = 10) := hid (by unfold nnCode; rw [if_neg (by intro e; rw [e] at hl; simp at hl; omega), if_pos (by omega)])
    go_wp2_with (first
      | (refine wpList_load_blk rfl 36 _ rfl (p + 1) rfl (nameC []) B2.out _ Try.underlying36 rfl I0.out ?_)
      | (refine wpList_store_blk rfl 36 _ _ rfl p rfl (nameC []) rfl B1.out rfl I0.out (one_name []) ?_; intro w3 HB3 HU3))
    exact bodyPost_ret (results_cell_tmp Try.results22 rfl (by rw [name_len0]; exact aggName) HB3.out) rfl ⟨by rw [nnRes_bad HN.out (by omega), HN.out]; rfl, HBU.out _ _ (by omega) HU3.out⟩
  have d0 : ((n : Int) == 0) = false := by simp; omega
  have d1 : decide (32 < (n : Int)) = false := decide_eq_false (by omega)
  have hne : l ≠ [] := by intro e; rw [e] at hl; simp at hl; omega
  go_wp2_with fail
  go_loopw [17] (fun v wr => wr = w2 ∧ ∃ k : Nat, k ≤ n ∧ v = .int .i64 k ∧ Hid (badB (l.take k) = false)) (fun v _ => n - (intOf v).toNat)
  case atStart => exact ⟨rfl, 0, Nat.zero_le _, rfl, hid rfl⟩
  case round =>
    obtain ⟨rfl, k, hk, rfl, HK⟩ := hrel
    by_cases hlt : k < n
    · obtain ⟨x, hx, hx256, b, off, rfl, hbk, cx⟩ := HR.out.get hlt
      have i1 : (k : Int) < (n : Int) := by omega
      have hnx : badB (l.take (k + 1)) = (x == 0 || x == 47) := by
        rw [List.take_add_one, hx]
        have := HK.out
        unfold badB at *
        rw [List.any_append, this]
        simp
      have Hnx := hid hnx
      by_cases e0 : x = 0
      · have HN : Hid (nnCode l = 8) := hid (by
          unfold nnCode
          rw [if_neg hne, if_neg (by omega), if_pos]
          unfold badB
          rw [List.any_eq_true]
          exact ⟨x, List.mem_of_getElem? hx, by simp [e0]⟩)
        subst e0
        clear hx hnx
        go_wp2_with (first
      | (refine wpList_load_blk rfl 36 _ rfl (p + 1) rfl (nameC []) B2.out _ Try.underlying36 rfl I0.out ?_)
      | (refine wpList_store_blk rfl 36 _ _ rfl p rfl (nameC []) rfl B1.out rfl I0.out (one_name []) ?_; intro w3 HB3 HU3))
        exact bodyPost_ret (results_cell_tmp Try.results22 rfl (by rw [name_len0]; exact aggName) HB3.out) rfl ⟨by rw [nnRes_bad HN.out (by omega), HN.out]; rfl, HBU.out _ _ (by omega) HU3.out⟩
      · have q0 : ((x : Int) == 0) = false := by simp; omega
        by_cases e1 : x = 47
        · have HN : Hid (nnCode l = 8) := hid (by
            unfold nnCode
            rw [if_neg hne, if_neg (by omega), if_pos]
            unfold badB
            rw [List.any_eq_true]
            exact ⟨x, List.mem_of_getElem? hx, by simp [e1]⟩)
          subst e1
          clear hx hnx
          go_wp2_with (first
      | (refine wpList_load_blk rfl 36 _ rfl (p + 1) rfl (nameC []) B2.out _ Try.underlying36 rfl I0.out ?_)
      | (refine wpList_store_blk rfl 36 _ _ rfl p rfl (nameC []) rfl B1.out rfl I0.out (one_name []) ?_; intro w3 HB3 HU3))
          exact bodyPost_ret (results_cell_tmp Try.results22 rfl (by rw [name_len0]; exact aggName) HB3.out) rfl ⟨by rw [nnRes_bad HN.out (by omega), HN.out]; rfl, HBU.out _ _ (by omega) HU3.out⟩
        · have q1 : ((x : Int) == 47) = false := by simp; omega
          clear hx hnx
          go_wp2
          exact ⟨⟨by first | rfl | trivial, k + 1, by omega, by go_num, hid (by rw [Hnx.out]; simp [e0, e1])⟩, by simp [intOf]; omega⟩
    · have hkn : k = n := by omega
      subst hkn
      have HN : Hid (nnCode l = 0) := hid (by
        unfold nnCode
        have := HK.out
        rw [List.take_of_length_le (by omega)] at this
        rw [if_neg hne, if_neg (by omega), if_neg (by rw [this]; simp)])
      go_upto_region 12 with fail
      as_aux_lemma =>
      obtain ⟨i0, hi0, hz1⟩ : ∃ i0, Try.prog.info? 5 = some i0 ∧ i0.size = 1 := by
        have : (Try.prog.info? 5).map (·.size) = some 1 := by kernel_rfl
        cases hq : Try.prog.info? 5 with
        | none => rw [hq] at this; simp at this
        | some i => rw [hq] at this; exact ⟨i, rfl, by simpa using this⟩
      have hle : l.length ≤ 32 := by omega
      obtain ⟨w6, hrun, hb6, hu6⟩ := run_copy_blk (P := Try.prog) wr 26 26 3 5 i0 1 Try.underlying26 hi0 hz1 (some ⟨p + 1, 1, none⟩) a 32 32 k c (p + 1) 1 36 (nameC []) (l.map fun (x : Nat) => Value.int .u8 (x : Int)) B2.out
        (by rw [List.length_map, hl, show Nat.min k 32 = k from Nat.min_eq_left (by omega), Nat.mul_one])
        (fun _ => ⟨rfl, by
          obtain ⟨x, hx, _, b, off, e, _, _⟩ := HR.out.get (show 0 < k by omega)
          refine ⟨⟨b, off, none⟩, e, fun j v hv => ?_⟩
          rw [List.getElem?_map] at hv
          obtain ⟨y, hy, rfl⟩ := Option.map_eq_some_iff.1 hv
          have hj : j < k := by have := (List.getElem?_eq_some_iff.1 hy).1; omega
          obtain ⟨y', hy', _, b', off', e', _, cy⟩ := HR.out.get hj
          rw [e] at e'
          cases e'
          rw [hy] at hy'
          cases hy'
          rw [show (⟨b, off, none⟩ : Addr).add j = ⟨b, off + j, none⟩ by unfold Addr.add; split <;> simp_all]
          exact cy⟩)
        (by rw [List.length_map, name_len0]; omega) (fun v hv => by obtain ⟨x, _, rfl⟩ := List.mem_map.1 hv; rfl)
      rw [show Nat.min k 32 = k from Nat.min_eq_left (by omega)] at hrun
      have hsl := fun w' => slice_all ⟨p + 1, 1, none⟩ w'
      have c0 : w6.cell? ⟨p + 1, 0, none⟩ = some (.int .u8 0) := hb6.cell 0
      have f0 : w6.frozen? ⟨p + 1, 0, none⟩ = false := hb6.frozen 0
      have hb7 := hb6.set 0 (.int .u8 (l.length : Int))
      rw [name_made hle, hl] at hb7
      have HB7 := hid hb7
      have HU7 : Hid (Upd (p + 1) wr (w6.setCell ⟨p + 1, 0, none⟩ (.int .u8 (k : Int)))) := hid (hu6.setCell rfl _)
      clear hb6 hu6 hb7 hi0 hz1
      go_upto_region 13 with fail
      obtain ⟨w7, hw7⟩ : ∃ w7, w6.setCell ⟨p + 1, 0, none⟩ (.int .u8 (k : Int)) = w7 := ⟨_, rfl⟩
      rw [hw7] at HB7 HU7
      rw [hw7]
      have B17 := hid (B1.out.upd HU7.out (by omega))
      have I7 : Hid ((Try.prog.info? 36).map (·.size) = some (nameC l).length) := hid (by rw [nameC_len hle]; exact info_name)
      have L7 : Hid ((nameC []).length = (nameC l).length) := hid (by rw [nameC_len hle]; rfl)
      clear hw7 hrun hsl c0 f0
      go_wp2_with (first
        | (refine wpList_load_blk rfl 36 _ rfl (p + 1) rfl (nameC l) HB7.out _ Try.underlying36 rfl I7.out ?_)
        | (refine wpList_store_blk rfl 36 _ _ rfl p rfl (nameC l) rfl B17.out L7.out I7.out (one_name l) ?_; intro w8 HB8 HU8))
      exact bodyPost_ret (results_cell_tmp Try.results22 rfl (by rw [nameC_len hle]; exact aggName) HB8.out) rfl ⟨by rw [nnRes_ok HN.out, HN.out]; rfl, (HBU.out _ _ (by omega) HU7.out).trans (HU8.out.below (by omega) (by have := B2.out.lt; have := HU7.out.size; omega))⟩
end Go.Proofs.Qxb6500891a
