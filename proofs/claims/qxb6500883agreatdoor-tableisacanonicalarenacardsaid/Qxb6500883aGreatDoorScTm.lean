/- A row of bytes made from a constant string bears a mark: appending to it. -/
import Derived.Test.Qxb6500883aGreatDoorScTa
import Derived.Lib.SlBytesConst
import Derived.Lib.AppendZeros
namespace Go.Proofs.Qxb6500883aGreatDoor
open Go.RowKit
set_option linter.unusedSimpArgs false
set_option linter.unusedVariables false
section
variable {w w' w0 w1 w2 : World} {n0 : Nat} {v v' : Value} {bs : List UInt8}
/-- A full row that may bear a mark. -/
structure Fm (n0 : Nat) (w : World) (g : Nat) (bs : List UInt8) : Prop where
  b : ∃ fz, w.heap[g]? = some (.cells (bs.map byV).toArray 5 fz)
  hi : n0 ≤ g
theorem Fm.lt {g : Nat} (h : Fm n0 w g bs) : g < w.heap.size := by obtain ⟨fz, hb⟩ := h.b; exact (Array.getElem?_eq_some_iff.1 hb).1
theorem Fm.below {g : Nat} (h : Fm n0 w g bs) (hb : Below w.heap.size w w') : Fm n0 w' g bs := by
  obtain ⟨fz, h1⟩ := h.b
  exact ⟨⟨fz, by rw [hb.block g h.lt]; exact h1⟩, h.hi⟩
theorem Fm.upd {g k : Nat} (h : Fm n0 w g bs) (hu : Upd k w w') (hk : k < n0) : Fm n0 w' g bs := by
  obtain ⟨fz, h1⟩ := h.b
  exact ⟨⟨fz, by rw [hu.block g h.lt (by have := h.hi; omega)]; exact h1⟩, h.hi⟩
theorem Fm.cell {g j : Nat} {u : Value} (h : Fm n0 w g bs) (hu : (bs.map byV)[j]? = some u) : w.cell? ⟨g, j, none⟩ = some u := by
  obtain ⟨fz, hb⟩ := h.b
  rw [cell_of_row w g j _ _ fz hb]
  simpa using hu
/-- Something appended to a full row: a new row. -/
theorem wpList_app_g {g : Nat} {ops : Array Oper} {rest : List Oper} {o : Oper} {a : Act} {Q : Exit → Act → World → Prop} (hgd : o.guard = none) (sl x : Operand) (ys : List UInt8) (hA : Fm n0 w g bs) (m : Nat) (hm : bs.length = m)
    (ho : o.op = .call { callee := .builtin .append, args := #[sl, x], argTypes := #[28, 28] })
    (hs : a.eval sl = .slice (some ⟨g, 0, none⟩) m m) (cs : Array Value) (hcs : cs = (ys.map byV).toArray) (n : Nat) (hx : a.eval x = .slice (some ⟨w.heap.size, 0, none⟩) n n) (hn : ys.length = n) (hp : 0 < n) (hb : bs.length + n ≤ 140000000000000) (h0 : n0 ≤ w.heap.size)
    (h : ∀ v' w', Hid (OwR rtB n0 w' v' (bs ++ ys)) → Hid (Below w.heap.size w w') → wpList Tryz.prog ops Q rest (a.put o.dst v') w') : wpList Tryz.prog ops Q (o :: rest) a (w.alloc (.cells cs 5)) := by
  subst hcs hm hn
  obtain ⟨i0, z0, hi, hz0, hz1, hz2, hz3⟩ := okB.info
  have k := Blk.new w (ys.map byV) 5
  have hb1 := nbel w (.cells (ys.map byV).toArray 5)
  obtain ⟨wa, hwa⟩ : ∃ x, w.alloc (.cells (ys.map byV).toArray 5) = x := ⟨_, rfl⟩
  rw [hwa] at k hb1 ⊢
  have hA1 := hA.below hb1
  have ea : ∀ (g j : Nat), (⟨g, 0, none⟩ : Addr).add j = ⟨g, j, none⟩ := fun g j => by unfold Addr.add; split <;> simp_all
  have hz1 : i0.size = 1 := hz1
  have hz2 : i0.bytes = 1 := hz2
  have hz3 : z0.cells.size = 1 := hz3
  have hr := run_append_grow (P := Tryz.prog) wa 28 o.type 5 i0 z0 okB.un hi hz0 ⟨g, 0, none⟩ bs.length bs.length (bs.map byV) (by rw [List.length_map, hz1, Nat.mul_one]) (fun j u hu => by rw [ea]; exact hA1.cell hu) ⟨w.heap.size, 0, none⟩ ys.length ys.length (ys.map byV) (by rw [List.length_map, hz1, Nat.mul_one]) (fun j u hu => by rw [ea, k.cell]; exact hu) (by omega) (by omega) (growslice_fits (by omega) (by rw [hz2]; omega))
  refine Go.Lib.wpList_append_run wa hgd sl x 28 28 ho _ _ hs hx _ _ hr ?_
  refine h _ _ (hid ?_) (hid ?_)
  · have hge := grownCap_ge wa (bs.length + ys.length) bs.length 5
    have hcm : grownCap wa (bs.length + ys.length) bs.length 5 ≤ maxLen := grownCap_le_maxLen wa (bs.length + ys.length) bs.length 5 (by unfold maxLen; omega)
    refine ⟨by rw [rtB_flat, List.length_map]; show _ = _ * 1; omega, .inr ⟨wa.heap.size, _, _, by rw [List.length_append], Nat.le_trans h0 hb1.size, heap_alloc_new wa.drew _, by rw [List.length_append]; exact hge, hcm, ?_, ?_⟩⟩
    · show _ = _ * 1
      simp only [Array.size_append, List.size_toArray, size_zeroCells, hz3, List.length_map]
      omega
    · rw [rtB_flat]
      show List.take (_ * 1) _ = _
      rw [Nat.mul_one]
      simp only [Array.toList_append, List.append_assoc]
      rw [← List.append_assoc, ← List.map_append]
      have e : (bs ++ ys).length = ((bs ++ ys).map byV).length := by rw [List.length_map]
      rw [e]
      exact List.take_left
  · exact hb1.trans ⟨rfl, rfl, rfl, by simp, fun q hq => heap_alloc_old wa.drew _ (Nat.lt_of_lt_of_le hq hb1.size)⟩

set_option maxRecDepth 100000 in
set_option maxHeartbeats 2000000 in
theorem appendNumberF {g : Nat} (base : Nat) (hb : base = 10 ∨ base = 16) : ∀ (k : Nat) {w : World} {bs : List UInt8} (m n : Nat), bs.length = m → n < base ^ (k + 1) → n < 18446744073709551616 → Fm n0 w g bs → n0 ≤ w.heap.size → bs.length + k ≤ 100000000000000 →
    Calls Tryz.prog 76 #[.slice (some ⟨g, 0, none⟩) m m, .int .u64 (n : Int), .int .u64 (base : Int)] w fun e w' => ∃ v', e = .returned v' ∧ Hid (Below n0 w w' ∧ ∃ ds : List UInt8, ds.length ≤ k + 1 ∧ OwR rtB n0 w' v' (bs ++ ds)) := by
  intro k
  induction k with
  | zero =>
    intro w bs m n hm hn hn2 hr h0 hl
    have hlt : n < base := by simpa using hn
    have d1 : decide ((base : Int) ≤ (n : Int)) = false := decide_eq_false (by omega)
    have d2 : ¬ base ≤ n := by omega
    have HR := hid hr
    obtain ⟨d, hd, hd16⟩ : ∃ d : Nat, (n : Int) % (base : Int) = (d : Int) ∧ d < 16 := ⟨n % base, by omega, by have := Nat.mod_lt n (show 0 < base by omega); omega⟩
    have hd17 : (d : Int) < 16 := by omega
    clear hr hn
    go_enter Tryz.func76, Tryz.ntmps76
    go_wp2_with (at_builtin; refine stopHere ?_)
    intro _
    refine wpList_app_g rfl _ _ [_] HR.out m hm rfl rfl _ rfl 1 rfl rfl (by decide) (by omega) h0 ?_
    intro v9 w9 HF HB
    have HQ : Hid (Below n0 w w9 ∧ ∃ ds : List UInt8, ds.length ≤ 0 + 1 ∧ OwR rtB n0 w9 v9 (bs ++ ds)) := hid ⟨HB.out.mono h0, _, Nat.le_refl _, HF.out⟩
    clear HF HB
    go_wp2
    go_ret
    exact ⟨_, rfl, HQ⟩
  | succ k ih =>
    intro w bs m n hm hn hn2 hr h0 hl
    have HR := hid hr
    obtain ⟨d, hd, hd16⟩ : ∃ d : Nat, (n : Int) % (base : Int) = (d : Int) ∧ d < 16 := ⟨n % base, by omega, by have := Nat.mod_lt n (show 0 < base by omega); omega⟩
    have hd17 : (d : Int) < 16 := by omega
    by_cases hlt : n < base
    · have d1 : decide ((base : Int) ≤ (n : Int)) = false := decide_eq_false (by omega)
      have d2 : ¬ base ≤ n := by omega
      clear hr hn ih
      go_enter Tryz.func76, Tryz.ntmps76
      go_wp2_with (at_builtin; refine stopHere ?_)
      intro _
      refine wpList_app_g rfl _ _ [_] HR.out m hm rfl rfl _ rfl 1 rfl rfl (by decide) (by omega) h0 ?_
      intro v9 w9 HF HB
      have HQ : Hid (Below n0 w w9 ∧ ∃ ds : List UInt8, ds.length ≤ k + 1 + 1 ∧ OwR rtB n0 w9 v9 (bs ++ ds)) := hid ⟨HB.out.mono h0, _, by show 1 ≤ _; omega, HF.out⟩
      clear HF HB
      go_wp2
      go_ret
      exact ⟨_, rfl, HQ⟩
    · have d1 : decide ((base : Int) ≤ (n : Int)) = true := decide_eq_true (by omega)
      have d2 : base ≤ n := by omega
      obtain ⟨q, hq⟩ : ∃ q, n / base = q := ⟨_, rfl⟩
      have hqi : (n : Int) / (base : Int) = (q : Int) := by rw [← hq]; exact (Int.natCast_ediv n base).symm
      have hqk : q < base ^ (k + 1) := by
        rw [← hq]
        rw [Nat.pow_succ] at hn
        exact Nat.div_lt_of_lt_mul (by rw [Nat.mul_comm]; exact hn)
      have hql : q < 18446744073709551616 := by rw [← hq]; exact Nat.lt_of_le_of_lt (Nat.div_le_self _ _) hn2
      have HI := hid (ih (w := w) (bs := bs) m q hm hqk hql hr h0 (by omega))
      clear hr hn ih hq hqk
      go_enter Tryz.func76, Tryz.ntmps76
      go_wp2_with fail
      refine HI.out.mono ?_
      rintro e w3 ⟨v3, rfl, H3⟩
      clear HI
      go_wp2_with (at_builtin; refine stopHere ?_)
      intro _
      obtain ⟨hb3, ds, hds, hr3⟩ := H3.out
      have HR3 := hid hr3
      have HB3 := hid hb3
      have h03 := Nat.le_trans h0 hb3.size
      clear hr3 hb3 H3
      refine wpList_app_n rfl _ _ [_] HR3.out rfl rfl _ rfl 1 rfl rfl (by rw [List.length_append]; omega) h03 ?_
      intro v9 w9 HF
      have HQ : Hid (Below n0 w w9 ∧ ∃ ds : List UInt8, ds.length ≤ k + 1 + 1 ∧ OwR rtB n0 w9 v9 (bs ++ ds)) := hid (by
        obtain ⟨es, he, hr9⟩ := HF.out.row
        exact ⟨HB3.out.trans HF.out.bel, ds ++ es, by rw [List.length_append]; omega, by rw [← List.append_assoc]; exact hr9⟩)
      clear HF HR3 HB3
      go_wp2
      go_ret
      exact ⟨_, rfl, HQ⟩
end
end Go.Proofs.Qxb6500883aGreatDoor
