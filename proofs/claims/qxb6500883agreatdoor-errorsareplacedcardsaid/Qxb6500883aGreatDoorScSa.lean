/- Excerpts: exact appends, characters, spaces. -/
import Derived.Test.Qxb6500883aGreatDoorScTn
import Derived.Test.Qxb6500883aGreatDoorScN
namespace Go.Proofs.Qxb6500883aGreatDoor
open Go.RowKit
set_option linter.unusedSimpArgs false
set_option linter.unusedVariables false
section
variable {w w' : World} {n0 : Nat} {v v' : Value} {bs : List UInt8}
/-- A string appended: exactly, and where the row then lies. -/
theorem wpList_app_sx {ops : Array Oper} {rest : List Oper} {o : Oper} {a : Act} {Q : Exit → Act → World → Prop} (hgd : o.guard = none) (sl x : Operand) (hA : OwR rtB n0 w v bs)
    (ho : o.op = .call { callee := .builtin .append, args := #[sl, x], argTypes := #[28, 9] })
    (hs : a.eval sl = v) (s : ByteArray) (hx : a.eval x = .string s) (hsp : 0 < s.size) (hb : bs.length + s.size ≤ 140000000000000) (h0 : n0 ≤ w.heap.size)
    (h : ∀ v' w', Hid (OwR rtB n0 w' v' (bs ++ s.data.toList)) → Hid (Kep w v w') → (∀ g, v'.ownBlock = some g → v.ownBlock = some g ∨ w.heap.size ≤ g) → wpList Tryz.prog ops Q rest (a.put o.dst v') w') : wpList Tryz.prog ops Q (o :: rest) a w := by
  obtain ⟨i0, z0, hi, hz0, hz1, hz2, hz3⟩ := okB.info
  have hz1 : i0.size = 1 := hz1
  have hz2 : i0.bytes = 1 := hz2
  have hz3 : z0.cells.size = 1 := hz3
  have e8 : byteCells s = s.data.toList.map byV := rfl
  have hsrc : Go.Src Tryz.prog i0.size 9 (.string s) s.size (s.data.toList.map byV) w := by rw [hz1]; exact Go.Src.ofString w Tryz.underlying9 s
  have hsl : s.data.toList.length = s.size := rfl
  -- a new row
  have grown : ∀ (ax : Option Addr) (cap : Nat), v = .slice ax bs.length cap → cap < bs.length + s.size → (Builtin.firstCells i0.size bs.length (.slice ax bs.length cap)).run Tryz.prog w.drew = .ok (bs.map byV).toArray w.drew → wpList Tryz.prog ops Q (o :: rest) a w := fun ax cap hv hg hold => by
    have hr := run_append_grow_src (P := Tryz.prog) w 28 9 o.type 5 i0 z0 okB.un hi hz0 ax bs.length cap (bs.map byV) hold (.string s) s.size (s.data.toList.map byV) hsrc hg (by omega) (growslice_fits hg (by rw [hz2]; omega))
    have hge := grownCap_ge w (bs.length + s.size) cap 5
    have hcm : grownCap w (bs.length + s.size) cap 5 ≤ maxLen := grownCap_le_maxLen w (bs.length + s.size) cap 5 (by unfold maxLen; omega)
    refine Go.Lib.wpList_append_run w hgd sl x 28 9 ho _ _ (hs.trans hv) hx _ _ hr (h _ _ (hid ?_) (hid ⟨rfl, rfl, rfl, by simp, fun q hq _ => heap_alloc_old w.drew _ hq⟩) (fun g hg => .inr ?_))
    · refine ⟨by rw [rtB_flat, List.length_map]; show _ = _ * 1; omega, .inr ⟨w.heap.size, _, _, by rw [List.length_append, hsl], h0, heap_alloc_new w.drew _, by rw [List.length_append, hsl]; exact hge, hcm, ?_, ?_⟩⟩
      · show _ = _ * 1
        simp only [Array.size_append, List.size_toArray, size_zeroCells, hz3, List.length_map, List.length_append]
        omega
      · rw [rtB_flat]
        show List.take (_ * 1) _ = _
        rw [Nat.mul_one]
        simp only [Array.toList_append]
        rw [← List.map_append]
        have e : (bs ++ s.data.toList).length = ((bs ++ s.data.toList).map byV).length := by rw [List.length_map]
        rw [e]
        exact List.take_left
    · simp [Value.ownBlock] at hg
      omega
  rcases hA.2 with ⟨h1, h2⟩ | ⟨g, cap, cur, h1, h2, h3, h4, h5, h6, h7⟩
  · obtain rfl : bs = [] := List.eq_nil_of_length_eq_zero h2
    exact grown none 0 h1 (by rw [List.length_nil]; omega) (run_firstCells_none w.drew i0.size 0 0 0)
  · rw [rtB_flat] at h7
    have h7 : cur.toList.take (bs.length * 1) = bs.map byV := h7
    have h6 : cur.size = cap * 1 := h6
    rw [Nat.mul_one] at h7 h6
    have hct : cur.toList.length = cap := by simpa using h6
    have hcell : ∀ j u, (bs.map byV)[j]? = some u → w.cell? ⟨g, j, none⟩ = some u := fun j u hu => by
      rw [cell_of_row w g j _ _ _ h3]
      rw [← h7, List.getElem?_take] at hu
      split at hu
      · simpa using hu
      · cases hu
    by_cases hroom : bs.length + s.size ≤ cap
    · have hB : Blk w g 5 cur.toList := by unfold Blk; rw [Array.toArray_toList]; exact h3
      have hr := run_append_room_src (P := Tryz.prog) w 28 9 o.type 5 i0 okB.un hi g 0 bs.length cap (.string s) s.size (s.data.toList.map byV) hsrc hroom (fun j hj => by
        rw [hz1, hB.cell, List.getElem?_eq_getElem (by rw [hct]; rw [List.length_map, hsl] at hj; omega)]; rfl) (fun j hj => hB.frozen _)
      have hB2 := Blk.setCells (s.data.toList.map byV) (0 + bs.length * i0.size) hB (by rw [List.length_map, hsl, hz1, hct]; omega)
      refine Go.Lib.wpList_append_run w hgd sl x 28 9 ho _ _ (hs.trans h1) hx _ _ hr (h _ _ (hid ?_) (hid ?_) (fun g' hg' => .inl (by rw [h1]; exact hg')))
      · have e : 0 + bs.length * i0.size = bs.length := by rw [hz1]; omega
        rw [e] at hB2 ⊢
        have hsp2 : splice cur.toList bs.length (s.data.toList.map byV) = (bs ++ s.data.toList).map byV ++ cur.toList.drop (bs.length + s.size) := by
          unfold splice
          rw [h7, List.map_append, List.length_map, hsl]
        rw [hsp2] at hB2
        refine ⟨by rw [rtB_flat, List.length_map]; show _ = _ * 1; omega, .inr ⟨g, cap, _, by rw [List.length_append, hsl], h2, hB2, by rw [List.length_append, hsl]; exact hroom, h5, ?_, ?_⟩⟩
        · show _ = cap * 1
          rw [List.size_toArray, List.length_append, List.length_map, List.length_append, List.length_drop, hct, hsl]
          omega
        · rw [rtB_flat]
          show List.take (_ * 1) _ = _
          rw [Nat.mul_one]
          have e2 : (bs ++ s.data.toList).length = ((bs ++ s.data.toList).map byV).length := by rw [List.length_map]
          rw [e2]
          exact List.take_left
      · have hu := Upd.setCells g (s.data.toList.map byV) (0 + bs.length * i0.size) (Upd.refl g w)
        exact ⟨hu.os, hu.tape, hu.output, hu.size, fun k hk hne => hu.block k hk (fun e => hne k (by rw [h1, e]; rfl) rfl)⟩
    · exact grown (some ⟨g, 0, none⟩) cap h1 (by omega) (run_firstCells_some w.drew i0.size bs.length ⟨g, 0, none⟩ bs.length cap (bs.map byV) (by rw [List.length_map, hz1]; omega) (fun j u hu => by rw [add_lit, Nat.zero_add]; exact hcell j u hu))
/-- The character that stands for a byte. -/
def shwN (c : Nat) : Nat := if c = 9 then 32 else if c < 32 ∨ 126 < c then 63 else c
set_option maxRecDepth 100000 in
theorem shownW (c : Nat) (hc : c < 256) (w : World) : Calls Tryz.prog 66 #[.int .u8 (c : Int)] w fun e w' => e = .returned (.int .u8 (shwN c : Int)) ∧ w' = w := by
  unfold shwN
  by_cases h9 : c = 9
  · have d1 : ((c : Int) == 9) = true := by simp; omega
    rw [if_pos h9]
    clear h9
    go_enter Tryz.func66, Tryz.ntmps66
    go_wp2
    go_ret
    exact ⟨rfl, rfl⟩
  · have d1 : ((c : Int) == 9) = false := by simp; omega
    rw [if_neg h9]
    by_cases h1 : c < 32
    · have d2 : decide ((c : Int) < 32) = true := decide_eq_true (by omega)
      rw [if_pos (.inl h1)]
      go_enter Tryz.func66, Tryz.ntmps66
      go_wp2
      go_ret
      exact ⟨rfl, rfl⟩
    · have d2 : decide ((c : Int) < 32) = false := decide_eq_false (by omega)
      by_cases h2 : 126 < c
      · have d3 : decide ((126 : Int) < (c : Int)) = true := decide_eq_true (by omega)
        rw [if_pos (.inr h2)]
        go_enter Tryz.func66, Tryz.ntmps66
        go_wp2
        go_ret
        exact ⟨rfl, rfl⟩
      · have d3 : decide ((126 : Int) < (c : Int)) = false := decide_eq_false (by omega)
        rw [if_neg (by omega)]
        go_enter Tryz.func66, Tryz.ntmps66
        go_wp2
        go_ret
        exact ⟨rfl, rfl⟩
/-- What an exact append leaves. -/
structure ApE (n0 : Nat) (w : World) (v : Value) (bs : List UInt8) (w' : World) (v' : Value) : Prop where
  row : OwR rtB n0 w' v' bs
  kp : Kep w v w'
  at' : ∀ g, v'.ownBlock = some g → v.ownBlock = some g ∨ w.heap.size ≤ g
/-- Another row stays. -/
theorem ApE.other {n1 : Nat} {u : Value} {cs : List UInt8} (h : ApE n0 w v bs w' v') (hu : OwR rtB n1 w u cs) (hne : ∀ g, v.ownBlock = some g → u.ownBlock ≠ some g) : OwR rtB n1 w' u cs ∧ ∀ g, v'.ownBlock = some g → u.ownBlock ≠ some g := by
  refine ⟨hu.of (fun g hg hlt => h.kp.blk g hlt (fun k hk e => hne k hk (by rw [e] at hg; exact hg))), fun g hg e => ?_⟩
  rcases h.at' g hg with h1 | h1
  · exact hne g h1 e
  · have := hu.lt g e
    omega
set_option maxRecDepth 100000 in
set_option maxHeartbeats 2000000 in
theorem appendSpacesW (k : Nat) (hk : k ≤ 1000) (hr : OwR rtB n0 w v bs) (h0 : n0 ≤ w.heap.size) (hl : bs.length ≤ 1000000) : Calls Tryz.prog 65 #[v, .int .i64 (k : Int)] w fun e w' => ∃ v', e = .returned v' ∧ Hid (ApE n0 w v (bs ++ List.replicate k 32) w' v') := by
  have HS : Hid (ApE n0 w v (bs ++ List.replicate (k - k) 32) w v) := hid ⟨by rw [Nat.sub_self]; simpa using hr, ⟨rfl, rfl, rfl, Nat.le_refl _, fun _ _ _ => rfl⟩, fun g hg => .inl hg⟩
  clear hr
  go_enter Tryz.func65, Tryz.ntmps65
  go_upto_region 1 with fail
  go_loopw [0, 1] (fun s t wr => ∃ (i : Nat) (b : Value), s = b ∧ t = .int .i64 (i : Int) ∧ i ≤ k ∧ Hid (ApE n0 w v (bs ++ List.replicate (k - i) 32) wr b)) (fun _ t _ => (intOf t).toNat)
  case atStart => exact ⟨k, _, rfl, rfl, Nat.le_refl _, HS⟩
  case round =>
  obtain ⟨i, b, rfl, rfl, hi, HL⟩ := hrel
  clear HS
  by_cases hin : 0 < i
  rotate_left
  · have d1 : decide ((0 : Int) < (i : Int)) = false := decide_eq_false (by omega)
    have HQ : Hid (ApE n0 w v (bs ++ List.replicate k 32) wr u0) := hid (by
      have e : k - i = k := by omega
      have := HL.out
      rw [e] at this
      exact this)
    clear HL
    go_wp2
    go_ret
    exact ⟨_, rfl, HQ⟩
  have d1 : decide ((0 : Int) < (i : Int)) = true := decide_eq_true (by omega)
  have hz := Nat.le_trans h0 (show w.heap.size ≤ wr.heap.size from HL.out.kp.size)
  obtain ⟨j, rfl⟩ : ∃ j, i = j + 1 := ⟨i - 1, by omega⟩
  go_wp2_with (at_builtin; refine stopHere ?_)
  intro _
  have k1 := Blk.new wr [Value.int .u8 32] 5
  have HO := hid (HL.out.row.below (nbel wr (.cells #[.int .u8 32] 5)))
  refine wpList_app_l okB rfl _ _ HO.out rfl [32] rfl (some ⟨wr.heap.size, 0, none⟩) 1 1 rfl rfl (fun h => by cases h) (fun ad had q u hu => ?_) (by rw [List.length_append, List.length_replicate]; show (_ + _) * 1 ≤ _; omega) (Nat.le_trans hz (nbel wr _).size) ?_
  · cases had
    rw [add_lit, Nat.zero_add]
    exact (k1.cell q).trans hu
  intro v9 w9 HR HK hat
  have HQ : Hid (ApE n0 w v (bs ++ List.replicate (k - j) 32) w9 v9) := hid (by
    have e : k - j = (k - (j + 1)) + 1 := by omega
    have hr := HR.out
    rw [List.append_assoc, ← List.replicate_succ', ← e] at hr
    refine ⟨hr, ⟨HK.out.os.trans HL.out.kp.os, HK.out.tape.trans HL.out.kp.tape, HK.out.output.trans HL.out.kp.output, Nat.le_trans HL.out.kp.size (Nat.le_trans (nbel wr (.cells #[.int .u8 32] 5)).size HK.out.size), fun x hx hne => ?_⟩, fun g hg => ?_⟩
    · have hx2 : x < wr.heap.size := Nat.lt_of_lt_of_le hx HL.out.kp.size
      rw [HK.out.blk x (Nat.lt_of_lt_of_le hx2 (nbel wr (.cells #[.int .u8 32] 5)).size) (fun q hq e => ?_), (nbel wr (.cells #[.int .u8 32] 5)).block x hx2]
      · exact HL.out.kp.blk x hx hne
      · rcases HL.out.at' q hq with h1 | h1
        · exact hne q h1 e
        · omega
    · rcases hat g hg with h1 | h1
      · exact HL.out.at' g h1
      · refine .inr (Nat.le_trans HL.out.kp.size (Nat.le_trans (nbel wr (.cells #[.int .u8 32] 5)).size h1)))
  clear HR HK HO HL hat
  have ej : ((j + 1 : Nat) : Int) - 1 = (j : Int) := by omega
  go_wp2
  exact ⟨⟨j, _, rfl, by go_num, by omega, HQ⟩, by simp [intOf]⟩
end
end Go.Proofs.Qxb6500883aGreatDoor
