/- Code.Error, and the model's maps and descriptions (written by tools/mk_aw8.py). -/
import Derived.Test.Qxb6500887aGreatAw7
import Derived.Deep.DeepCutAuto
namespace Go.Proofs.Qxb6500887aGreat
open Go.RowKit
set_option linter.unusedSimpArgs false
set_option linter.unusedVariables false
/-- The text of a code. -/
def erL (c : Int) : List UInt8 := if c = 0 then [111, 107] else if c = 1 then [111, 117, 116, 115, 105, 100, 101, 32, 116, 104, 101, 32, 104, 101, 97, 112] else if c = 2 then [97, 100, 100, 114, 101, 115, 115, 32, 111, 102, 102, 32, 116, 104, 101, 32, 103, 114, 97, 110, 117, 108, 101, 32, 98, 111, 117, 110, 100, 97, 114, 121] else if c = 3 then [118, 97, 108, 117, 101, 32, 116, 111, 111, 32, 108, 97, 114, 103, 101, 32, 102, 111, 114, 32, 116, 104, 101, 32, 116, 97, 98, 108, 101] else if c = 4 then [115, 105, 122, 101, 32, 111, 117, 116, 32, 111, 102, 32, 98, 111, 117, 110, 100, 115] else if c = 5 then [109, 111, 114, 101, 32, 114, 101, 102, 101, 114, 101, 110, 99, 101, 32, 102, 105, 101, 108, 100, 115, 32, 116, 104, 97, 110, 32, 119, 111, 114, 100, 115] else if c = 6 then [110, 111, 116, 32, 97, 32, 104, 101, 97, 100, 101, 114] else if c = 7 then [101, 120, 116, 101, 110, 116, 32, 111, 117, 116, 32, 111, 102, 32, 98, 111, 117, 110, 100, 115] else if c = 8 then [110, 111, 32, 115, 117, 99, 104, 32, 102, 105, 101, 108, 100] else if c = 9 then [110, 111, 116, 32, 97, 32, 114, 101, 102, 101, 114, 101, 110, 99, 101] else if c = 10 then [108, 105, 110, 101, 32, 116, 97, 108, 108, 121, 32, 111, 117, 116, 32, 111, 102, 32, 98, 111, 117, 110, 100, 115] else if c = 11 then [110, 111, 32, 115, 117, 99, 104, 32, 115, 116, 101, 112] else [117, 110, 107, 110, 111, 119, 110, 32, 99, 111, 100, 101]
set_option maxRecDepth 100000 in
theorem errorX (c : Int) (w : World) : Calls Tryz.prog 251 #[.int .u8 c] w fun e w' => e = .returned (.string (bsA (erL c))) ∧ w' = w := by
  unfold erL
  by_cases h0 : c = 0
  · subst h0
    rw [if_pos rfl]
    go_enter Tryz.func251, Tryz.ntmps251
    go_wp2
    go_ret
    exact ⟨rfl, rfl⟩
  rw [if_neg h0]
  have d0 : (c == 0) = false := by simpa using h0
  clear h0
  by_cases h1 : c = 1
  · subst h1
    rw [if_pos rfl]
    go_enter Tryz.func251, Tryz.ntmps251
    go_wp2
    go_ret
    exact ⟨rfl, rfl⟩
  rw [if_neg h1]
  have d1 : (c == 1) = false := by simpa using h1
  clear h1
  by_cases h2 : c = 2
  · subst h2
    rw [if_pos rfl]
    go_enter Tryz.func251, Tryz.ntmps251
    go_wp2
    go_ret
    exact ⟨rfl, rfl⟩
  rw [if_neg h2]
  have d2 : (c == 2) = false := by simpa using h2
  clear h2
  by_cases h3 : c = 3
  · subst h3
    rw [if_pos rfl]
    go_enter Tryz.func251, Tryz.ntmps251
    go_wp2
    go_ret
    exact ⟨rfl, rfl⟩
  rw [if_neg h3]
  have d3 : (c == 3) = false := by simpa using h3
  clear h3
  by_cases h4 : c = 4
  · subst h4
    rw [if_pos rfl]
    go_enter Tryz.func251, Tryz.ntmps251
    go_wp2
    go_ret
    exact ⟨rfl, rfl⟩
  rw [if_neg h4]
  have d4 : (c == 4) = false := by simpa using h4
  clear h4
  by_cases h5 : c = 5
  · subst h5
    rw [if_pos rfl]
    go_enter Tryz.func251, Tryz.ntmps251
    go_wp2
    go_ret
    exact ⟨rfl, rfl⟩
  rw [if_neg h5]
  have d5 : (c == 5) = false := by simpa using h5
  clear h5
  by_cases h6 : c = 6
  · subst h6
    rw [if_pos rfl]
    go_enter Tryz.func251, Tryz.ntmps251
    go_wp2
    go_ret
    exact ⟨rfl, rfl⟩
  rw [if_neg h6]
  have d6 : (c == 6) = false := by simpa using h6
  clear h6
  by_cases h7 : c = 7
  · subst h7
    rw [if_pos rfl]
    go_enter Tryz.func251, Tryz.ntmps251
    go_wp2
    go_ret
    exact ⟨rfl, rfl⟩
  rw [if_neg h7]
  have d7 : (c == 7) = false := by simpa using h7
  clear h7
  by_cases h8 : c = 8
  · subst h8
    rw [if_pos rfl]
    go_enter Tryz.func251, Tryz.ntmps251
    go_wp2
    go_ret
    exact ⟨rfl, rfl⟩
  rw [if_neg h8]
  have d8 : (c == 8) = false := by simpa using h8
  clear h8
  by_cases h9 : c = 9
  · subst h9
    rw [if_pos rfl]
    go_enter Tryz.func251, Tryz.ntmps251
    go_wp2
    go_ret
    exact ⟨rfl, rfl⟩
  rw [if_neg h9]
  have d9 : (c == 9) = false := by simpa using h9
  clear h9
  by_cases h10 : c = 10
  · subst h10
    rw [if_pos rfl]
    go_enter Tryz.func251, Tryz.ntmps251
    go_wp2
    go_ret
    exact ⟨rfl, rfl⟩
  rw [if_neg h10]
  have d10 : (c == 10) = false := by simpa using h10
  clear h10
  by_cases h11 : c = 11
  · subst h11
    rw [if_pos rfl]
    go_enter Tryz.func251, Tryz.ntmps251
    go_wp2
    go_ret
    exact ⟨rfl, rfl⟩
  rw [if_neg h11]
  have d11 : (c == 11) = false := by simpa using h11
  clear h11
  go_enter Tryz.func251, Tryz.ntmps251
  go_wp2
  go_ret
  exact ⟨rfl, rfl⟩
theorem erL_len (c : Int) : (erL c).length ≤ 32 := by
  unfold erL
  by_cases h0 : c = 0
  · rw [if_pos h0]; decide
  rw [if_neg h0]
  by_cases h1 : c = 1
  · rw [if_pos h1]; decide
  rw [if_neg h1]
  by_cases h2 : c = 2
  · rw [if_pos h2]; decide
  rw [if_neg h2]
  by_cases h3 : c = 3
  · rw [if_pos h3]; decide
  rw [if_neg h3]
  by_cases h4 : c = 4
  · rw [if_pos h4]; decide
  rw [if_neg h4]
  by_cases h5 : c = 5
  · rw [if_pos h5]; decide
  rw [if_neg h5]
  by_cases h6 : c = 6
  · rw [if_pos h6]; decide
  rw [if_neg h6]
  by_cases h7 : c = 7
  · rw [if_pos h7]; decide
  rw [if_neg h7]
  by_cases h8 : c = 8
  · rw [if_pos h8]; decide
  rw [if_neg h8]
  by_cases h9 : c = 9
  · rw [if_pos h9]; decide
  rw [if_neg h9]
  by_cases h10 : c = 10
  · rw [if_pos h10]; decide
  rw [if_neg h10]
  by_cases h11 : c = 11
  · rw [if_pos h11]; decide
  rw [if_neg h11]
  decide
def bmF (f : Nat → UInt8) : Nat → List UInt8
  | 0 => []
  | q + 1 => bmF f q ++ [f q]
theorem bmF_len (f : Nat → UInt8) : ∀ q, (bmF f q).length = q
  | 0 => rfl
  | q + 1 => by unfold bmF; rw [List.length_append, bmF_len f q]; rfl
/-- The sign of a tally, of a block. -/
def tmk (t : Nat) : UInt8 := if t = 0 then 46 else if t < 10 then (48 + t).toUInt8 else (87 + t).toUInt8
def hmk (n : Nat) : UInt8 := if n = 32 then 46 else if n = 0 then 35 else 43
def bmL (E : ES) (b : Nat) : List UInt8 := bmF (fun r => tmk (E.T (32 * b + r))) 32
def hmL (E : ES) : List UInt8 := bmF (fun b => hmk (flE E.T b 32)) 64
section
variable {l : ML} {E : ES} {w w' w0 : World}
set_option maxRecDepth 100000 in
set_option maxHeartbeats 4000000 in
theorem blockMapM (h : MM l E w) {b : Nat} (hb : b < 64) : Calls Tryz.prog 202 #[.pointer (some ⟨l.m, 0, none⟩), .int .i64 (b : Int)] w fun e w' => e = .returned (.string (bsA (bmL E b))) ∧ w' = w := by
  unfold bmL
  have c4 := h.cells.2.2.2.2.1
  have HT := hid (fun (i : Nat) (hi : i < 2048) => h.tally hi)
  have HTl := hid h.tl
  clear h
  go_enter Tryz.func202, Tryz.ntmps202
  go_upto_region 3 with fail
  go_loopw [5, 6] (fun t v wr => wr = w ∧ ∃ (q : Nat) (s : ByteArray), v = .int .i64 (q : Int) ∧ t = .string s ∧ q ≤ 32 ∧ s.size ≤ 32 ∧ Hid (s = bsA (bmF (fun r => tmk (E.T (32 * b + r))) q))) (fun _ v _ => 32 - (intOf v).toNat)
  case atStart => exact ⟨rfl, 0, _, rfl, rfl, by omega, by decide, hid rfl⟩
  case round =>
  obtain ⟨hwr, q, s, rfl, rfl, hq, hsz, HS⟩ := hrel
  have hwr' := hwr.symm
  clear hwr
  subst hwr'
  by_cases hqn : q < 32
  rotate_left
  · as_aux_lemma =>
    have dq : decide ((q : Int) < 32) = false := decide_eq_false (by omega)
    have HE : Hid (s = bsA (bmF (fun r => tmk (E.T (32 * b + r))) 32)) := hid (by rw [HS.out, show q = 32 by omega])
    clear HS
    go_wp2
    go_ret
    exact ⟨by rw [← HE.out]; rfl, rfl⟩
  as_aux_lemma =>
  have dq : decide ((q : Int) < 32) = true := decide_eq_true (by omega)
  obtain ⟨y, hy⟩ : ∃ y, 32 * b + q = y := ⟨_, rfl⟩
  obtain ⟨b0, hb0⟩ : ∃ b0, 32 * b = b0 := ⟨_, rfl⟩
  have eb0 : (b : Int) * 32 = (b0 : Int) := by omega
  have ey : (b0 : Int) + (q : Int) = (y : Int) := by omega
  have hyb : y < 2048 := by omega
  have ct := HT.out y hyb
  have ht := HTl.out y
  have Hst : Hid (bmF (fun r => tmk (E.T (32 * b + r))) (q + 1) = bmF (fun r => tmk (E.T (32 * b + r))) q ++ [tmk (E.T y)]) := hid (by rw [← hy]; rfl)
  obtain ⟨tv, htv⟩ : ∃ tv, E.T y = tv := ⟨_, rfl⟩
  rw [htv] at ct ht Hst
  have hsq : s.size = q := by rw [HS.out]; exact bmF_len _ _
  have hsz2 : s.size ≤ 31 := by omega
  clear htv hb0 hy HT HTl hsq
  rcases (by omega : tv = 0 ∨ tv = 1 ∨ tv = 2 ∨ tv = 3 ∨ tv = 4 ∨ tv = 5 ∨ tv = 6 ∨ tv = 7 ∨ tv = 8 ∨ tv = 9 ∨ tv = 10 ∨ tv = 11 ∨ tv = 12 ∨ tv = 13 ∨ tv = 14 ∨ tv = 15) with rfl | rfl | rfl | rfl | rfl | rfl | rfl | rfl | rfl | rfl | rfl | rfl | rfl | rfl | rfl | rfl
  · as_aux_lemma =>
    have HN : Hid (s ++ ⟨#[46]⟩ = bsA (bmF (fun r => tmk (E.T (32 * b + r))) (q + 1))) := hid (by rw [Hst.out, HS.out]; exact bsA_app _ [46])
    have hz1 : (s ++ ⟨#[46]⟩ : ByteArray).size ≤ 32 := by rw [ByteArray.size_append]; show s.size + 1 ≤ 32; omega
    go_wp2
    exact ⟨⟨by trivial, q + 1, s ++ ⟨#[46]⟩, by go_num, rfl, by omega, hz1, HN⟩, by simp [intOf]; omega⟩
  · as_aux_lemma =>
    have HN : Hid (s ++ ⟨#[49]⟩ = bsA (bmF (fun r => tmk (E.T (32 * b + r))) (q + 1))) := hid (by rw [Hst.out, HS.out]; exact bsA_app _ [49])
    have hz1 : (s ++ ⟨#[49]⟩ : ByteArray).size ≤ 32 := by rw [ByteArray.size_append]; show s.size + 1 ≤ 32; omega
    go_wp2
    exact ⟨⟨by trivial, q + 1, s ++ ⟨#[49]⟩, by go_num, rfl, by omega, hz1, HN⟩, by simp [intOf]; omega⟩
  · as_aux_lemma =>
    have HN : Hid (s ++ ⟨#[50]⟩ = bsA (bmF (fun r => tmk (E.T (32 * b + r))) (q + 1))) := hid (by rw [Hst.out, HS.out]; exact bsA_app _ [50])
    have hz1 : (s ++ ⟨#[50]⟩ : ByteArray).size ≤ 32 := by rw [ByteArray.size_append]; show s.size + 1 ≤ 32; omega
    go_wp2
    exact ⟨⟨by trivial, q + 1, s ++ ⟨#[50]⟩, by go_num, rfl, by omega, hz1, HN⟩, by simp [intOf]; omega⟩
  · as_aux_lemma =>
    have HN : Hid (s ++ ⟨#[51]⟩ = bsA (bmF (fun r => tmk (E.T (32 * b + r))) (q + 1))) := hid (by rw [Hst.out, HS.out]; exact bsA_app _ [51])
    have hz1 : (s ++ ⟨#[51]⟩ : ByteArray).size ≤ 32 := by rw [ByteArray.size_append]; show s.size + 1 ≤ 32; omega
    go_wp2
    exact ⟨⟨by trivial, q + 1, s ++ ⟨#[51]⟩, by go_num, rfl, by omega, hz1, HN⟩, by simp [intOf]; omega⟩
  · as_aux_lemma =>
    have HN : Hid (s ++ ⟨#[52]⟩ = bsA (bmF (fun r => tmk (E.T (32 * b + r))) (q + 1))) := hid (by rw [Hst.out, HS.out]; exact bsA_app _ [52])
    have hz1 : (s ++ ⟨#[52]⟩ : ByteArray).size ≤ 32 := by rw [ByteArray.size_append]; show s.size + 1 ≤ 32; omega
    go_wp2
    exact ⟨⟨by trivial, q + 1, s ++ ⟨#[52]⟩, by go_num, rfl, by omega, hz1, HN⟩, by simp [intOf]; omega⟩
  · as_aux_lemma =>
    have HN : Hid (s ++ ⟨#[53]⟩ = bsA (bmF (fun r => tmk (E.T (32 * b + r))) (q + 1))) := hid (by rw [Hst.out, HS.out]; exact bsA_app _ [53])
    have hz1 : (s ++ ⟨#[53]⟩ : ByteArray).size ≤ 32 := by rw [ByteArray.size_append]; show s.size + 1 ≤ 32; omega
    go_wp2
    exact ⟨⟨by trivial, q + 1, s ++ ⟨#[53]⟩, by go_num, rfl, by omega, hz1, HN⟩, by simp [intOf]; omega⟩
  · as_aux_lemma =>
    have HN : Hid (s ++ ⟨#[54]⟩ = bsA (bmF (fun r => tmk (E.T (32 * b + r))) (q + 1))) := hid (by rw [Hst.out, HS.out]; exact bsA_app _ [54])
    have hz1 : (s ++ ⟨#[54]⟩ : ByteArray).size ≤ 32 := by rw [ByteArray.size_append]; show s.size + 1 ≤ 32; omega
    go_wp2
    exact ⟨⟨by trivial, q + 1, s ++ ⟨#[54]⟩, by go_num, rfl, by omega, hz1, HN⟩, by simp [intOf]; omega⟩
  · as_aux_lemma =>
    have HN : Hid (s ++ ⟨#[55]⟩ = bsA (bmF (fun r => tmk (E.T (32 * b + r))) (q + 1))) := hid (by rw [Hst.out, HS.out]; exact bsA_app _ [55])
    have hz1 : (s ++ ⟨#[55]⟩ : ByteArray).size ≤ 32 := by rw [ByteArray.size_append]; show s.size + 1 ≤ 32; omega
    go_wp2
    exact ⟨⟨by trivial, q + 1, s ++ ⟨#[55]⟩, by go_num, rfl, by omega, hz1, HN⟩, by simp [intOf]; omega⟩
  · as_aux_lemma =>
    have HN : Hid (s ++ ⟨#[56]⟩ = bsA (bmF (fun r => tmk (E.T (32 * b + r))) (q + 1))) := hid (by rw [Hst.out, HS.out]; exact bsA_app _ [56])
    have hz1 : (s ++ ⟨#[56]⟩ : ByteArray).size ≤ 32 := by rw [ByteArray.size_append]; show s.size + 1 ≤ 32; omega
    go_wp2
    exact ⟨⟨by trivial, q + 1, s ++ ⟨#[56]⟩, by go_num, rfl, by omega, hz1, HN⟩, by simp [intOf]; omega⟩
  · as_aux_lemma =>
    have HN : Hid (s ++ ⟨#[57]⟩ = bsA (bmF (fun r => tmk (E.T (32 * b + r))) (q + 1))) := hid (by rw [Hst.out, HS.out]; exact bsA_app _ [57])
    have hz1 : (s ++ ⟨#[57]⟩ : ByteArray).size ≤ 32 := by rw [ByteArray.size_append]; show s.size + 1 ≤ 32; omega
    go_wp2
    exact ⟨⟨by trivial, q + 1, s ++ ⟨#[57]⟩, by go_num, rfl, by omega, hz1, HN⟩, by simp [intOf]; omega⟩
  · as_aux_lemma =>
    have HN : Hid (s ++ ⟨#[97]⟩ = bsA (bmF (fun r => tmk (E.T (32 * b + r))) (q + 1))) := hid (by rw [Hst.out, HS.out]; exact bsA_app _ [97])
    have hz1 : (s ++ ⟨#[97]⟩ : ByteArray).size ≤ 32 := by rw [ByteArray.size_append]; show s.size + 1 ≤ 32; omega
    go_wp2
    exact ⟨⟨by trivial, q + 1, s ++ ⟨#[97]⟩, by go_num, rfl, by omega, hz1, HN⟩, by simp [intOf]; omega⟩
  · as_aux_lemma =>
    have HN : Hid (s ++ ⟨#[98]⟩ = bsA (bmF (fun r => tmk (E.T (32 * b + r))) (q + 1))) := hid (by rw [Hst.out, HS.out]; exact bsA_app _ [98])
    have hz1 : (s ++ ⟨#[98]⟩ : ByteArray).size ≤ 32 := by rw [ByteArray.size_append]; show s.size + 1 ≤ 32; omega
    go_wp2
    exact ⟨⟨by trivial, q + 1, s ++ ⟨#[98]⟩, by go_num, rfl, by omega, hz1, HN⟩, by simp [intOf]; omega⟩
  · as_aux_lemma =>
    have HN : Hid (s ++ ⟨#[99]⟩ = bsA (bmF (fun r => tmk (E.T (32 * b + r))) (q + 1))) := hid (by rw [Hst.out, HS.out]; exact bsA_app _ [99])
    have hz1 : (s ++ ⟨#[99]⟩ : ByteArray).size ≤ 32 := by rw [ByteArray.size_append]; show s.size + 1 ≤ 32; omega
    go_wp2
    exact ⟨⟨by trivial, q + 1, s ++ ⟨#[99]⟩, by go_num, rfl, by omega, hz1, HN⟩, by simp [intOf]; omega⟩
  · as_aux_lemma =>
    have HN : Hid (s ++ ⟨#[100]⟩ = bsA (bmF (fun r => tmk (E.T (32 * b + r))) (q + 1))) := hid (by rw [Hst.out, HS.out]; exact bsA_app _ [100])
    have hz1 : (s ++ ⟨#[100]⟩ : ByteArray).size ≤ 32 := by rw [ByteArray.size_append]; show s.size + 1 ≤ 32; omega
    go_wp2
    exact ⟨⟨by trivial, q + 1, s ++ ⟨#[100]⟩, by go_num, rfl, by omega, hz1, HN⟩, by simp [intOf]; omega⟩
  · as_aux_lemma =>
    have HN : Hid (s ++ ⟨#[101]⟩ = bsA (bmF (fun r => tmk (E.T (32 * b + r))) (q + 1))) := hid (by rw [Hst.out, HS.out]; exact bsA_app _ [101])
    have hz1 : (s ++ ⟨#[101]⟩ : ByteArray).size ≤ 32 := by rw [ByteArray.size_append]; show s.size + 1 ≤ 32; omega
    go_wp2
    exact ⟨⟨by trivial, q + 1, s ++ ⟨#[101]⟩, by go_num, rfl, by omega, hz1, HN⟩, by simp [intOf]; omega⟩
  · as_aux_lemma =>
    have HN : Hid (s ++ ⟨#[102]⟩ = bsA (bmF (fun r => tmk (E.T (32 * b + r))) (q + 1))) := hid (by rw [Hst.out, HS.out]; exact bsA_app _ [102])
    have hz1 : (s ++ ⟨#[102]⟩ : ByteArray).size ≤ 32 := by rw [ByteArray.size_append]; show s.size + 1 ≤ 32; omega
    go_wp2
    exact ⟨⟨by trivial, q + 1, s ++ ⟨#[102]⟩, by go_num, rfl, by omega, hz1, HN⟩, by simp [intOf]; omega⟩
set_option maxRecDepth 100000 in
set_option maxHeartbeats 4000000 in
theorem heapMapM (h : MM l E w) : Calls Tryz.prog 203 #[.pointer (some ⟨l.m, 0, none⟩)] w fun e w' => e = .returned (.string (bsA (hmL E))) ∧ w' = w := by
  unfold hmL
  have HM := hid h
  clear h
  go_enter Tryz.func203, Tryz.ntmps203
  go_upto_region 3 with fail
  go_loopw [3, 4] (fun t v wr => wr = w ∧ ∃ (q : Nat) (s : ByteArray), v = .int .i64 (q : Int) ∧ t = .string s ∧ q ≤ 64 ∧ s.size ≤ 64 ∧ Hid (s = bsA (bmF (fun b => hmk (flE E.T b 32)) q))) (fun _ v _ => 64 - (intOf v).toNat)
  case atStart => exact ⟨rfl, 0, _, rfl, rfl, by omega, by decide, hid rfl⟩
  case round =>
  obtain ⟨hwr, q, s, rfl, rfl, hq, hsz, HS⟩ := hrel
  have hwr' := hwr.symm
  clear hwr
  subst hwr'
  by_cases hqn : q < 64
  rotate_left
  · as_aux_lemma =>
    have dq : decide ((q : Int) < 64) = false := decide_eq_false (by omega)
    have HE : Hid (s = bsA (bmF (fun b => hmk (flE E.T b 32)) 64)) := hid (by rw [HS.out, show q = 64 by omega])
    clear HS
    go_wp2
    go_ret
    exact ⟨by rw [← HE.out]; rfl, rfl⟩
  as_aux_lemma =>
  have dq : decide ((q : Int) < 64) = true := decide_eq_true (by omega)
  have HF := hid (flsM HM.out hqn)
  have Hst : Hid (bmF (fun b => hmk (flE E.T b 32)) (q + 1) = bmF (fun b => hmk (flE E.T b 32)) q ++ [hmk (flE E.T q 32)]) := hid rfl
  have hzb : flE E.T q 32 ≤ 32 := cnt_bound _ _
  obtain ⟨z, hz⟩ : ∃ z, flE E.T q 32 = z := ⟨_, rfl⟩
  rw [hz] at HF Hst hzb
  have HCl := hid (fun wz => claM z wz)
  have hsq : s.size = q := by rw [HS.out]; exact bmF_len _ _
  have hsz2 : s.size ≤ 63 := by omega
  clear hz HM hsq
  have hcs : (hmk z = 46 ∧ clM z = 0) ∨ (hmk z = 35 ∧ clM z = 2) ∨ (hmk z = 43 ∧ clM z = 1) := by
    unfold hmk clM
    by_cases h1 : z = 32
    · rw [if_pos h1, if_pos h1]; exact .inl ⟨rfl, rfl⟩
    · rw [if_neg h1, if_neg h1]
      by_cases h2 : z = 0
      · rw [if_pos h2, if_pos h2]; exact .inr (.inl ⟨rfl, rfl⟩)
      · rw [if_neg h2, if_neg h2]; exact .inr (.inr ⟨rfl, rfl⟩)
  rcases hcs with ⟨e1, e2⟩ | ⟨e1, e2⟩ | ⟨e1, e2⟩
  · as_aux_lemma =>
    rw [e1] at Hst
    rw [e2] at HCl
    have HN : Hid (s ++ ⟨#[46]⟩ = bsA (bmF (fun b => hmk (flE E.T b 32)) (q + 1))) := hid (by rw [Hst.out, HS.out]; exact bsA_app _ [46])
    have hz1 : (s ++ ⟨#[46]⟩ : ByteArray).size ≤ 64 := by rw [ByteArray.size_append]; show s.size + 1 ≤ 64; omega
    clear e1 e2
    (go_wp2_with fail; refine (HF.out).mono ?_; rintro e_ w_ ⟨he_, hw_⟩; subst he_; have hs_ := hw_.symm; clear hw_; subst hs_)
    (go_wp2_with fail; refine (HCl.out _).mono ?_; rintro e_ w_ ⟨he_, hw_⟩; subst he_; have hs_ := hw_.symm; clear hw_; subst hs_)
    go_wp2
    exact ⟨⟨by trivial, q + 1, s ++ ⟨#[46]⟩, by go_num, rfl, by omega, hz1, HN⟩, by simp [intOf]; omega⟩
  · as_aux_lemma =>
    rw [e1] at Hst
    rw [e2] at HCl
    have HN : Hid (s ++ ⟨#[35]⟩ = bsA (bmF (fun b => hmk (flE E.T b 32)) (q + 1))) := hid (by rw [Hst.out, HS.out]; exact bsA_app _ [35])
    have hz1 : (s ++ ⟨#[35]⟩ : ByteArray).size ≤ 64 := by rw [ByteArray.size_append]; show s.size + 1 ≤ 64; omega
    clear e1 e2
    (go_wp2_with fail; refine (HF.out).mono ?_; rintro e_ w_ ⟨he_, hw_⟩; subst he_; have hs_ := hw_.symm; clear hw_; subst hs_)
    (go_wp2_with fail; refine (HCl.out _).mono ?_; rintro e_ w_ ⟨he_, hw_⟩; subst he_; have hs_ := hw_.symm; clear hw_; subst hs_)
    go_wp2
    exact ⟨⟨by trivial, q + 1, s ++ ⟨#[35]⟩, by go_num, rfl, by omega, hz1, HN⟩, by simp [intOf]; omega⟩
  · as_aux_lemma =>
    rw [e1] at Hst
    rw [e2] at HCl
    have HN : Hid (s ++ ⟨#[43]⟩ = bsA (bmF (fun b => hmk (flE E.T b 32)) (q + 1))) := hid (by rw [Hst.out, HS.out]; exact bsA_app _ [43])
    have hz1 : (s ++ ⟨#[43]⟩ : ByteArray).size ≤ 64 := by rw [ByteArray.size_append]; show s.size + 1 ≤ 64; omega
    clear e1 e2
    (go_wp2_with fail; refine (HF.out).mono ?_; rintro e_ w_ ⟨he_, hw_⟩; subst he_; have hs_ := hw_.symm; clear hw_; subst hs_)
    (go_wp2_with fail; refine (HCl.out _).mono ?_; rintro e_ w_ ⟨he_, hw_⟩; subst he_; have hs_ := hw_.symm; clear hw_; subst hs_)
    go_wp2
    exact ⟨⟨by trivial, q + 1, s ++ ⟨#[43]⟩, by go_num, rfl, by omega, hz1, HN⟩, by simp [intOf]; omega⟩
end
end Go.Proofs.Qxb6500887aGreat
