/- A packed table in memory, its words told by a function; the small functions. -/
import Derived.Test.Qxb6500887aGreatAzBit
import Derived.Test.Qxb6500887aGreatRowX
import Derived.Test.Qxb6500887aGreatArRng3
namespace Go.Proofs.Qxb6500887aGreat
open Go.RowKit
set_option linter.unusedSimpArgs false
set_option linter.unusedVariables false

/-- The shape of a table: entries, width, entries to a word, words. -/
structure TK (n wd per len : Nat) : Prop where
  wd : Wd wd per
  len : n = per * len
  n : n ≤ 32768
/-- The numbers in a table's block. -/
def tbC (b n wd per len : Nat) : List Value := [.slice (some ⟨b, 0, none⟩) len len, .int .i64 (n : Int), .int .u64 (wd : Int), .int .i64 (per : Int), .int .u64 ((2 ^ wd - 1 : Nat) : Int), .int .u64 ((onW wd : Nat) : Int)]
def wdC (len : Nat) (X : Nat → Nat) : List Value := fnC len (fun q => .int .u64 ((X q : Nat) : Int))
/-- A table in the blocks t and b: its words are X. -/
structure TB (t b n wd per len : Nat) (X : Nat → Nat) (w : World) : Prop where
  tb : Blk w t 216 (tbC b n wd per len)
  wb : Blk w b 29 (wdC len X)
  lt : ∀ q, X q < 18446744073709551616
  ne : t ≠ b
  k : TK n wd per len
section
variable {t b n wd per len : Nat} {X : Nat → Nat} {w w' : World}
theorem TB.below (h : TB t b n wd per len X w) (hb : Below w.heap.size w w') : TB t b n wd per len X w' := ⟨h.tb.below hb, h.wb.below hb, h.lt, h.ne, h.k⟩
theorem TB.upd {g : Nat} (h : TB t b n wd per len X w) (hu : Upd g w w') (h1 : t ≠ g) (h2 : b ≠ g) : TB t b n wd per len X w' := ⟨h.tb.upd hu h1, h.wb.upd hu h2, h.lt, h.ne, h.k⟩
theorem TB.cells (h : TB t b n wd per len X w) : w.cell? ⟨t, 0, none⟩ = some (.slice (some ⟨b, 0, none⟩) len len) ∧ w.cell? ⟨t, 1, none⟩ = some (.int .i64 (n : Int)) ∧ w.cell? ⟨t, 2, none⟩ = some (.int .u64 (wd : Int)) ∧ w.cell? ⟨t, 3, none⟩ = some (.int .i64 (per : Int)) ∧ w.cell? ⟨t, 4, none⟩ = some (.int .u64 ((2 ^ wd - 1 : Nat) : Int)) ∧ w.cell? ⟨t, 5, none⟩ = some (.int .u64 ((onW wd : Nat) : Int)) :=
  ⟨h.tb.cell 0, h.tb.cell 1, h.tb.cell 2, h.tb.cell 3, h.tb.cell 4, h.tb.cell 5⟩
theorem TB.word (h : TB t b n wd per len X w) {q : Nat} (hq : q < len) : w.cell? ⟨b, q, none⟩ = some (.int .u64 ((X q : Nat) : Int)) := by
  rw [h.wb.cell q]
  exact fnC_get _ hq
theorem TB.tab (h : TB t b n wd per len X w) : Tab w t b n wd per (2 ^ wd - 1) ((onW wd : Nat) : Int) ((List.range len).map X) := by
  refine ⟨?_, ?_⟩
  · have := h.tb
    unfold tbC at this
    simpa using this
  · have := h.wb
    unfold wdC fnC at this
    rw [List.map_map]
    exact this
theorem TB.put (h : TB t b n wd per len X w) {q x : Nat} (hq : q < len) (hx : x < 18446744073709551616) : TB t b n wd per len (fup X q x) (w.setCell ⟨b, q, none⟩ (.int .u64 (x : Int))) ∧ Upd b w (w.setCell ⟨b, q, none⟩ (.int .u64 (x : Int))) := by
  have hu : Upd b w (w.setCell ⟨b, q, none⟩ (.int .u64 (x : Int))) := (Upd.refl b w).setCell rfl _
  refine ⟨⟨h.tb.upd hu h.ne, ?_, fun q' => ?_, h.ne, h.k⟩, hu⟩
  · have := h.wb.set q (.int .u64 (x : Int))
    unfold wdC at this ⊢
    rw [fnC_set _ hq] at this
    rw [fup_map (fun y : Nat => Value.int .u64 (y : Int)) X q x] at this
    exact this
  · by_cases e : q' = q
    · rw [e, fup_self]; exact hx
    · rw [fup_ne _ _ e]; exact h.lt q'
theorem TB.dom (h : TB t b n wd per len X w) : t < w.heap.size ∧ b < w.heap.size := ⟨h.tb.lt, h.wb.lt⟩
end
section
variable {t b n wd per len : Nat} {X : Nat → Nat} {w w' : World}
set_option maxRecDepth 100000 in
theorem TB.hasRange (h : TB t b n wd per len X w) (lo hi : Nat) (h1 : lo ≤ hi) (h2 : hi ≤ n) : Calls Tryz.prog 215 #[.pointer (some ⟨t, 0, none⟩), .int .i64 (lo : Int), .int .i64 (hi : Int)] w fun e w' => e = .returned (.bool true) ∧ w' = w := by
  have c1 := h.cells.2.1
  have d1 : decide ((lo : Int) ≥ 0) = true := decide_eq_true (by omega)
  have d2 : decide ((lo : Int) ≤ (hi : Int)) = true := decide_eq_true (by omega)
  have d3 : decide ((hi : Int) ≤ (n : Int)) = true := decide_eq_true (by omega)
  clear h
  go_enter Tryz.func215, Tryz.ntmps215
  go_wp2
  go_ret
  exact ⟨rfl, rfl⟩
theorem TB.locate (h : TB t b n wd per len X w) (i : Nat) (hi : i < n) : Calls Tryz.prog 213 #[.pointer (some ⟨t, 0, none⟩), .int .i64 (i : Int)] w fun e w' => e = .returned (.tuple #[.int .i64 ((i / per : Nat) : Int), .int .u64 ((i % per * wd : Nat) : Int)]) ∧ Drew w w' := by
  have k := h.k.wd.mul
  exact tabLocate_walk h.tab i hi h.k.n k.2.1 k.2.2.1 k.2.2.2.2 k.1
theorem TK.div {i : Nat} (h : TK n wd per len) (hi : i < n) : i / per < len := by
  have h1 := h.len
  have h2 := h.wd.mul
  rw [Nat.div_lt_iff_lt_mul (by omega), Nat.mul_comm, ← h1]
  exact hi
theorem TK.small (h : TK n wd per len) : len ≤ 32768 := by
  have h1 := h.len
  have h2 := h.wd.mul
  have h3 := h.n
  have : 1 * len ≤ per * len := Nat.mul_le_mul_right _ h2.2.1
  omega
/-- Entry i of a table. -/
def eN (wd per : Nat) (X : Nat → Nat) (i : Nat) : Nat := enW wd (X (i / per)) (i % per)
theorem TB.get (h : TB t b n wd per len X w) (i : Nat) (hi : i < n) : Calls Tryz.prog 153 #[.pointer (some ⟨t, 0, none⟩), .int .i64 (i : Int)] w fun e w' => e = .returned (.tuple #[.int .u64 ((eN wd per X i : Nat) : Int), .bool true]) ∧ Drew w w' := by
  have k := h.k.wd.mul
  exact tabGet_walk h.tab i hi h.k.n k.2.1 k.2.2.1 k.2.2.2.2 k.1 (X (i / per)) (by rw [List.getElem?_map, List.getElem?_range (h.k.div hi)]; rfl) (by rw [List.length_map, List.length_range]; have := h.k.small; omega) (h.lt _) (two_small k.2.2.2.2)
end
theorem u64_pow (k : Nat) (hk : k < 64) : IntKind.u64.wrap ((1 : Int) * 2 ^ k) = ((2 ^ k : Nat) : Int) ∧ 2 ^ k < 18446744073709551616 ∧ 1 ≤ 2 ^ k := by
  have h1 : (2 : Nat) ^ k < 2 ^ 64 := Nat.pow_lt_pow_right (by decide) hk
  have h2 : 0 < (2 : Nat) ^ k := Nat.pow_pos (by decide)
  have e : (1 : Int) * 2 ^ k = ((2 ^ k : Nat) : Int) := by rw [Int.one_mul]; simp
  refine ⟨?_, h1, h2⟩
  rw [e]
  generalize (2 : Nat) ^ k = z at *
  exact u64_nat (by omega) (by omega)
set_option maxRecDepth 100000 in
theorem lowBitsG (k : Nat) (hk : k ≤ 64) (w : World) : Calls Tryz.prog 219 #[.int .u64 (k : Int)] w fun e w' => e = .returned (.int .u64 ((bM 0 k : Nat) : Int)) ∧ w' = w := by
  by_cases h64 : k = 64
  · subst h64
    go_enter Tryz.func219, Tryz.ntmps219
    go_wp2
    go_ret
    exact ⟨rfl, rfl⟩
  · have d1 : decide ((k : Int) ≥ 64) = false := decide_eq_false (by omega)
    have hp := u64_pow k (by omega)
    have e1 : IntKind.u64.wrap ((2 : Int) ^ k) = ((2 ^ k : Nat) : Int) := by have := hp.1; rwa [Int.one_mul] at this
    have HE : Hid (IntKind.u64.wrap ((2 : Int) ^ k - 1) = ((bM 0 k : Nat) : Int)) := hid (by
      have h2 := hp.2
      rw [show (2 : Int) ^ k = ((2 ^ k : Nat) : Int) by simp]
      unfold bM
      rw [Nat.pow_zero]
      generalize (2 : Nat) ^ k = z at *
      rw [show (z : Int) - 1 = ((z - 1 : Nat) : Int) by omega]
      exact u64_nat (by omega) (by omega))
    have hk64 : k < 64 := by omega
    clear hp
    go_enter Tryz.func219, Tryz.ntmps219
    go_wp2
    rw [HE.out]
    go_ret
    exact ⟨rfl, rfl⟩
/-- Go's onesCount, as it is computed. -/
def ocI (y : Int) : Int := wrap64 (IntKind.u64.wrap (bits .and .u64 (IntKind.u64.wrap (IntKind.u64.wrap (bits .and .u64 (IntKind.u64.wrap (y - bits .and .u64 (y / 2) 6148914691236517205)) 3689348814741910323 + bits .and .u64 (IntKind.u64.wrap (y - bits .and .u64 (y / 2) 6148914691236517205) / 4) 3689348814741910323) + IntKind.u64.wrap (bits .and .u64 (IntKind.u64.wrap (y - bits .and .u64 (y / 2) 6148914691236517205)) 3689348814741910323 + bits .and .u64 (IntKind.u64.wrap (y - bits .and .u64 (y / 2) 6148914691236517205) / 4) 3689348814741910323) / 16)) 1085102592571150095 * 72340172838076673) / 72057594037927936)
set_option maxRecDepth 100000 in
theorem onesCountG (y : Nat) (hy : y < 18446744073709551616) (w : World) : Calls Tryz.prog 252 #[.int .u64 (y : Int)] w fun e w' => e = .returned (.int .i64 (ocI (y : Int))) ∧ w' = w := by
  unfold ocI
  go_enter Tryz.func252, Tryz.ntmps252
  go_wp2
  go_ret
  exact ⟨rfl, rfl⟩
theorem ocI_le (y : Int) : 0 ≤ ocI y ∧ ocI y ≤ 255 := by
  unfold ocI
  generalize bits .and .u64 _ 1085102592571150095 = z
  have h := IntKind.wrap_u64 (z * 72340172838076673)
  rw [h]
  have h1 : 0 ≤ z * 72340172838076673 % 18446744073709551616 := Int.emod_nonneg _ (by decide)
  have h2 : z * 72340172838076673 % 18446744073709551616 < 18446744073709551616 := Int.emod_lt_of_pos _ (by decide)
  generalize z * 72340172838076673 % 18446744073709551616 = u at *
  unfold wrap64
  omega
theorem oc_tab : ((List.range 64).all fun k => ocI (((2 ^ k - 1 : Nat)) : Int) == (k : Int)) = true := by kernel_rfl
theorem oc_low {k : Nat} (hk : k < 64) : ocI ((2 ^ k - 1 : Nat) : Int) = (k : Int) := eq_of_beq (List.all_eq_true.1 oc_tab k (List.mem_range.2 hk))
end Go.Proofs.Qxb6500887aGreat
