/- Texts of scripts: floods. -/
import Derived.Test.Qxb6500883aGreatDoorScTf
import Derived.Test.Qxb6500883aGreatDoorScTg
namespace Go.Proofs.Qxb6500883aGreatDoor
open Go.RowKit
set_option linter.unusedSimpArgs false
set_option linter.unusedVariables false
section
variable {w w' : World} {n0 : Nat} {v v' : Value} {bs : List UInt8} {kd oa ob oc : Nat} {os : ByteArray}
/-- A flood under way. -/
structure FdI (n0 : Nat) (w1 : World) (bs : List UInt8) (k : Nat) (wr : World) (b : Value) : Prop where
  row : ∃ ds : List UInt8, ds.length ≤ k ∧ Fld ds ∧ OwR rtB n0 wr b (bs ++ ds)
  bel : Below n0 w1 wr
  kt : ∀ g t cs, Blk w1 g t cs → t ≠ 5 → Blk wr g t cs
set_option maxRecDepth 100000 in
set_option maxHeartbeats 4000000 in
theorem appendFloodW (hoa : oa < 18446744073709551616) (hob : ob < 18446744073709551616) (hoc : oc < 18446744073709551616) (hr : OwR rtB n0 w v bs) (h0 : n0 ≤ w.heap.size) (hl : bs.length ≤ 60000000000000) : Calls Tryz.prog 49 #[v, .agg #[.int .u8 (kd : Int), .int .u64 (oa : Int), .int .u64 (ob : Int), .int .u64 (oc : Int), .string os]] w fun e w' => ∃ v', e = .returned v' ∧ Hid (FdI n0 w bs 560000 w' v') := by
  have HR0 := hid hr
  obtain ⟨p, hp⟩ : ∃ p, w.heap.size = p := ⟨_, rfl⟩
  have k0 := Blk.new w [.int .u8 (kd : Int), .int .u64 (oa : Int), .int .u64 (ob : Int), .int .u64 (oc : Int), .string os] 85
  rw [hp] at k0
  have hb1 : Below w.heap.size w (w.alloc (.cells [.int .u8 (kd : Int), .int .u64 (oa : Int), .int .u64 (ob : Int), .int .u64 (oc : Int), .string os].toArray 85)) := nbel w _
  obtain ⟨m2, e2_, h2_⟩ : ∃ q : Nat, (oa : Int) % 2 = (q : Int) ∧ q < 2 := ⟨oa % 2, by omega, by omega⟩
  obtain ⟨nb, e3_, h3_⟩ : ∃ q : Nat, (ob : Int) % 14000 = (q : Int) ∧ q < 14000 := ⟨ob % 14000, by omega, by omega⟩
  clear hr
  go_enter Tryz.func49, Tryz.ntmps49
  go_upto_region 1 with fail
  (try simp only [hp])
  generalize hw1 : w.alloc _ = w1 at k0 hb1 ⊢
  clear hw1
  have HP1 := hid k0
  have HB1 := hid hb1
  have cA := k0.cell 1
  clear k0 hb1 hp
  go_wp2_with fail
  refine (numTxW 0 m2 (by omega) (by omega) (by omega) w1).mono ?_
  rintro e w2 ⟨s, rfl, hs, HN⟩
  have HP := hid (HP1.out.below HN.out)
  have HS : Hid (FdI n0 w bs (0 * 40) w2 v) := hid ⟨⟨[], Nat.zero_le _, Fld.nil, by rw [List.append_nil]; exact (HR0.out.below HB1.out).below HN.out⟩, (HB1.out.trans (HN.out.mono HB1.out.size)).mono h0, fun g t cs hg _ => (hg.below HB1.out).below HN.out⟩
  have HPk : Hid (∀ wr : World, (∀ g t cs, Blk w2 g t cs → t ≠ 5 → Blk wr g t cs) → wr.cell? ⟨p, 2, none⟩ = some (.int .u64 (ob : Int))) := hid (fun wr hk => (hk p _ _ HP.out (by decide)).cell 2)
  have HI0 : Hid (FdI n0 w bs (0 * 40) w2 v ∧ ∀ g t cs, Blk w2 g t cs → t ≠ 5 → Blk w2 g t cs) := hid ⟨HS.out, fun _ _ _ h _ => h⟩
  clear HR0 HP1 HB1 HN HP HS cA
  go_upto_region 3 with fail
  obtain ⟨sm, hsm, hsz⟩ : ∃ sm : ByteArray, ({ data := #[116, 121, 112, 101, 32, 70] } : ByteArray) ++ s ++ { data := #[95] } = sm ∧ sm.size ≤ 8 := ⟨_, rfl, by rw [ByteArray.size_append, ByteArray.size_append]; have e1 : (⟨#[116, 121, 112, 101, 32, 70]⟩ : ByteArray).size = 6 := rfl; have e2 : (⟨#[95]⟩ : ByteArray).size = 1 := rfl; omega⟩
  (try simp only [hsm])
  (try simp only [e2_])
  clear hsm
  go_loopw [0, 6] (fun s t wr => ∃ (i : Nat) (b : Value), s = b ∧ t = .int .u64 (i : Int) ∧ i ≤ nb ∧ Hid (FdI n0 w bs (i * 40) wr b ∧ ∀ g t cs, Blk w2 g t cs → t ≠ 5 → Blk wr g t cs)) (fun _ t _ => nb - (intOf t).toNat)
  case atStart => exact ⟨0, _, rfl, rfl, Nat.zero_le _, HI0⟩
  case round =>
  obtain ⟨i, b, rfl, rfl, hi, HL⟩ := hrel
  clear HI0
  have cB := HPk.out wr HL.out.2
  by_cases hin : i < nb
  rotate_left
  · have d1_ : decide ((i : Int) < (nb : Int)) = false := decide_eq_false (by omega)
    have HQ : Hid (FdI n0 w bs 560000 wr u0) := hid (by
      obtain ⟨ds, a1, a2, a3⟩ := HL.out.1.row
      exact ⟨⟨ds, by omega, a2, a3⟩, HL.out.1.bel, HL.out.1.kt⟩)
    clear HL
    go_wp2
    go_ret
    exact ⟨_, rfl, HQ⟩
  have d1_ : decide ((i : Int) < (nb : Int)) = true := decide_eq_true (by omega)
  have ew_ : IntKind.u64.wrap ((i : Int) + 1) = ((i + 1 : Nat) : Int) := by rw [IntKind.wrap_u64]; omega
  obtain ⟨ds, hd1, hd2, hd3⟩ := HL.out.1.row
  have HR := hid hd3
  have HF0 := hid hd2
  have hz := Nat.le_trans h0 (show w.heap.size ≤ wr.heap.size from HL.out.1.bel.size)
  clear hd2 hd3
  go_wp2_with (at_builtin; refine stopHere ?_)
  intro _
  refine wpList_app_t rfl _ _ HR.out rfl rfl _ rfl 8 hsz (by rw [List.length_append]; omega) hz ?_
  intro v3 w3 HA
  obtain ⟨es, he, hr3⟩ := HA.out.row
  have HR3 := hid hr3
  have hz3 := Nat.le_trans hz HA.out.bel.size
  clear hr3 cB
  go_wp2_with (at_builtin; refine stopHere ?_)
  refine (appendNumberW 10 (by decide) 4 i (by omega) (by omega) HR3.out hz3 (by rw [List.length_append, List.length_append]; omega)).mono ?_
  rintro e w4 ⟨v4, rfl, HA4⟩
  obtain ⟨fs, hf, hr4⟩ := HA4.out.row
  have HR4 := hid hr4
  have hz4 := Nat.le_trans hz3 HA4.out.bel.size
  clear hr4
  go_wp2_with (at_builtin; refine stopHere ?_)
  intro _
  refine wpList_app_s rfl _ _ HR4.out rfl rfl _ rfl (by rw [List.length_append, List.length_append, List.length_append]; show _ + 6 ≤ _; omega) hz4 ?_
  intro v5 w5 HR5 HK5
  have HQ : Hid (FdI n0 w bs ((i + 1) * 40) w5 v5 ∧ ∀ g t cs, Blk w2 g t cs → t ≠ 5 → Blk w5 g t cs) := hid (by
    have k5 : ∀ g t cs, Blk w4 g t cs → t ≠ 5 → Blk w5 g t cs := fun g t cs hg ht => HK5.out.keep hg (HR4.out.ne hg ht)
    have k : ∀ g t cs, Blk wr g t cs → t ≠ 5 → Blk w5 g t cs := fun g t cs hg ht => k5 g t cs (HA4.out.kt g t cs (HA.out.kt g t cs hg ht) ht) ht
    refine ⟨⟨⟨ds ++ ((es ++ fs ++ [61, 98, 121, 116, 101]) ++ [59]), ?_, HF0.out.item ?_ (by decide), ?_⟩, HL.out.1.bel.trans (HA.out.bel.trans (HA4.out.bel.trans (HK5.out.below HR4.out.hi hz4))), fun g t cs hg ht => k g t cs (HL.out.1.kt g t cs hg ht) ht⟩, fun g t cs hg ht => k g t cs (HL.out.2 g t cs hg ht) ht⟩
    · simp only [List.length_append, List.length_cons, List.length_nil]; omega
    · simp only [List.length_append, List.length_cons, List.length_nil]; omega
    · have e : bs ++ (ds ++ ((es ++ fs ++ [61, 98, 121, 116, 101]) ++ [59])) = bs ++ ds ++ es ++ fs ++ [61, 98, 121, 116, 101, 59] := by simp
      rw [e]
      exact HR5.out)
  clear HR5 HK5 HR4 HA4 HR3 HA HR HF0 HL
  go_wp2
  exact ⟨⟨i + 1, _, rfl, by go_num, by omega, HQ⟩, by simp [intOf]; omega⟩
end
end Go.Proofs.Qxb6500883aGreatDoor
