/- text.DecodeRune computes dec. -/
import Derived.Test.Qxb6500881aUtfPlain
import Derived.Test.Qxb6500881aProg
import Derived.Test.Qxb6500881aMem
import Derived.Test.Qxb6500881aDrew
import Derived.Test.Qxb6500881aBlk
import Derived.WalkKit
import Derived.WalkSpells
import Derived.KernelRfl
import Derived.Deep.DeepCutAuto
import Derived.Deep.CutBlock
namespace Go.Proofs.Qxb6500881a
open Go.RowKit
set_option linter.unusedSimpArgs false
set_option linter.unusedVariables false

def byteCell (b : Nat) : List Value := [.int .u8 (b : Int)]
def ByteRow (w : World) (a : Option Addr) (n c : Nat) (l : List Nat) : Prop := RowOf w 1 byteCell a n c l ∧ ∀ b ∈ l, b < 256
theorem ByteRow.below {w w' : World} {a : Option Addr} {n c : Nat} {l : List Nat} (h : ByteRow w a n c l) (hb : Below w.heap.size w w') : ByteRow w' a n c l := ⟨h.1.below hb, h.2⟩
theorem ByteRow.get {w : World} {a : Option Addr} {n c : Nat} {l : List Nat} (h : ByteRow w a n c l) {k : Nat} (hk : k < n) : ∃ x, l[k]? = some x ∧ x < 256 ∧ ∃ b off, a = some ⟨b, off, none⟩ ∧ b < w.heap.size ∧ w.cell? ⟨b, off + k, none⟩ = some (.int .u8 (x : Int)) := by
  obtain ⟨x, hx, b, off, ha, hb, hc⟩ := h.1.cell1 hk
  exact ⟨x, hx, h.2 x (List.mem_of_getElem? hx), b, off, ha, hb, hc⟩

def decVal (o : Option (Nat × Nat)) : Value := match o with
  | none => .tuple #[.int .i32 0, .int .i64 0, .bool false]
  | some (r, n) => .tuple #[.int .i32 (r : Int), .int .i64 (n : Int), .bool true]

def DecIn (l : List Nat) (lo hi r size : Nat) : Prop := dec l = cont lo hi r (size - 1) (l.drop 1) size

theorem cont_short {lo hi r k size : Nat} {t : List Nat} (h : t.length < k) : cont lo hi r k t size = none := by
  induction k generalizing lo hi r t with
  | zero => omega
  | succ k ih =>
    cases t with
    | nil => rfl
    | cons c t =>
      simp only [cont]
      split
      · rfl
      · exact ih (by simp at h; omega)
theorem cont_bad {lo hi r k m y size : Nat} {t : List Nat} (hy : t[k]? = some y) (hm : 0 < m) (hb : y < lo ∨ hi < y) : cont lo hi r m (t.drop k) size = none := by
  obtain ⟨hk, rfl⟩ := List.getElem?_eq_some_iff.1 hy
  obtain ⟨m', rfl⟩ : ∃ m', m = m' + 1 := ⟨m - 1, by omega⟩
  rw [List.drop_eq_getElem_cons hk]
  simp only [cont]
  rw [if_pos hb]
theorem cont_good {lo hi r k m y size : Nat} {t : List Nat} (hy : t[k]? = some y) (hm : k < m) (hb : ¬ (y < lo ∨ hi < y)) : cont lo hi r (m - k) (t.drop k) size = cont 128 191 (r * 64 + y % 64) (m - (k + 1)) (t.drop (k + 1)) size := by
  obtain ⟨hk, rfl⟩ := List.getElem?_eq_some_iff.1 hy
  obtain ⟨m', hm'⟩ : ∃ m', m - k = m' + 1 := ⟨m - k - 1, by omega⟩
  rw [List.drop_eq_getElem_cons hk, hm', show m - (k + 1) = m' by omega]
  simp only [cont]
  rw [if_neg hb]

theorem decIn2 {x : Nat} {t : List Nat} (h1 : ¬ x < 128) (h2 : ¬ (x < 194 ∨ 244 < x)) (h3 : x < 224) : DecIn (x :: t) 128 191 (x % 32) 2 := by
  unfold DecIn; simp only [dec]; rw [if_neg h1, if_neg h2, if_pos h3]; rfl
theorem decIn3 {x lo hi : Nat} {t : List Nat} (h1 : ¬ x < 128) (h2 : ¬ (x < 194 ∨ 244 < x)) (h3 : ¬ x < 224) (h4 : x < 240) (hlo : (if x = 224 then 160 else 128) = lo) (hhi : (if x = 237 then 159 else 191) = hi) : DecIn (x :: t) lo hi (x % 16) 3 := by
  unfold DecIn; simp only [dec]; rw [if_neg h1, if_neg h2, if_neg h3, if_pos h4, hlo, hhi]; rfl
theorem decIn4 {x lo hi : Nat} {t : List Nat} (h1 : ¬ x < 128) (h2 : ¬ (x < 194 ∨ 244 < x)) (h4 : ¬ x < 240) (hlo : (if x = 240 then 144 else 128) = lo) (hhi : (if x = 244 then 143 else 191) = hi) : DecIn (x :: t) lo hi (x % 8) 4 := by
  unfold DecIn; simp only [dec]; rw [if_neg h1, if_neg h2, if_neg (by omega), if_neg h4, hlo, hhi]; rfl

set_option maxRecDepth 100000 in
set_option maxHeartbeats 1000000 in
theorem decode_walk (a : Option Addr) (n c : Nat) (l : List Nat) (w : World) (hr : ByteRow w a n c l) :
    Calls Try.prog 10 #[.slice a n c] w fun e w' => e = .returned (decVal (dec l)) ∧ w' = w := by
  have hn : n ≤ 140737488351232 := hr.1.2.2.1.1
  have hc : n ≤ c := hr.1.2.1
  have HR := hid hr
  clear hr
  by_cases h0 : n = 0
  · subst h0
    have hl : l = [] := List.eq_nil_of_length_eq_zero HR.out.1.len
    subst hl
    go_enter Try.func10, Try.ntmps10
    go_wp2
    exact bodyPost_ret (v := decVal (dec [])) (by simp [results, Try.results10, go_sem, decVal, dec]) rfl ⟨rfl, rfl⟩
  · obtain ⟨x, hx, hx2, b, off, rfl, hb, cx⟩ := HR.out.get (show 0 < n by omega)
    have hne : ((n : Int) == 0) = false := by simp; omega
    obtain ⟨t, rfl⟩ : ∃ t, l = x :: t := by
      cases l with
      | nil => simp at hx
      | cons y t => simp at hx; exact ⟨t, by rw [hx]⟩
    clear hx
    rw [Nat.add_zero] at cx
    by_cases h1 : x < 128
    · have e : dec (x :: t) = some (x, 1) := by simp [dec, h1]
      rw [e]
      clear e
      go_enter Try.func10, Try.ntmps10
      go_wp2
      exact bodyPost_ret (v := decVal (some (x, 1))) (by simp [results, Try.results10, go_sem, decVal]) rfl ⟨rfl, rfl⟩
    · by_cases h2 : x < 194 ∨ 244 < x
      · have e : dec (x :: t) = none := by simp only [dec]; rw [if_neg h1, if_pos h2]
        rw [e]
        clear e
        go_enter Try.func10, Try.ntmps10
        go_wp2
        all_goals exact bodyPost_ret (v := decVal none) (by simp [results, Try.results10, go_sem, decVal]) rfl ⟨rfl, rfl⟩
      · obtain ⟨D, hD⟩ : ∃ D, dec (x :: t) = D := ⟨_, rfl⟩
        rw [hD]
        have HDD := hid hD
        clear hD
        go_enter Try.func10, Try.ntmps10
        go_upto_block 0 with fail
        go_cut [2, 3, 6, 7] (fun v2 v3 v6 v7 wc => ∃ lo hi r size : Nat, v2 = .int .i32 (r : Int) ∧ v3 = .int .i64 (size : Int) ∧ v6 = .int .u8 (lo : Int) ∧ v7 = .int .u8 (hi : Int) ∧ 2 ≤ size ∧ size ≤ 4 ∧ r < 32 ∧ lo < 256 ∧ hi < 256 ∧ Hid (DecIn (x :: t) lo hi r size) ∧ wc = w)
        case first =>
          go_wp2
          all_goals go_meet
          all_goals (case rel => (try simp only [beq_iff_eq, beq_eq_false_iff_ne, ne_eq] at *); first
            | exact ⟨128, 191, x % 32, 2, by go_num, rfl, rfl, rfl, by omega, by omega, by omega, by omega, by omega, hid (decIn2 h1 h2 (by omega)), by first | rfl | trivial⟩
            | exact ⟨160, 191, x % 16, 3, by go_num, rfl, rfl, rfl, by omega, by omega, by omega, by omega, by omega, hid (decIn3 h1 h2 (by omega) (by omega) (by split <;> omega) (by split <;> omega)), by first | rfl | trivial⟩
            | exact ⟨128, 159, x % 16, 3, by go_num, rfl, rfl, rfl, by omega, by omega, by omega, by omega, by omega, hid (decIn3 h1 h2 (by omega) (by omega) (by split <;> omega) (by split <;> omega)), by first | rfl | trivial⟩
            | exact ⟨128, 191, x % 16, 3, by go_num, rfl, rfl, rfl, by omega, by omega, by omega, by omega, by omega, hid (decIn3 h1 h2 (by omega) (by omega) (by split <;> omega) (by split <;> omega)), by first | rfl | trivial⟩
            | exact ⟨144, 191, x % 8, 4, by go_num, rfl, rfl, rfl, by omega, by omega, by omega, by omega, by omega, hid (decIn4 h1 h2 (by omega) (by split <;> omega) (by split <;> omega)), by first | rfl | trivial⟩
            | exact ⟨128, 143, x % 8, 4, by go_num, rfl, rfl, rfl, by omega, by omega, by omega, by omega, by omega, hid (decIn4 h1 h2 (by omega) (by split <;> omega) (by split <;> omega)), by first | rfl | trivial⟩
            | exact ⟨128, 191, x % 8, 4, by go_num, rfl, rfl, rfl, by omega, by omega, by omega, by omega, by omega, hid (decIn4 h1 h2 (by omega) (by split <;> omega) (by split <;> omega)), by first | rfl | trivial⟩)
        case rest =>
          obtain ⟨lo, hi, r, size, rfl, rfl, rfl, rfl, g1, g2, g3, g4, g5, HD, rfl⟩ := hcut
          have HTl : Hid (t.length + 1 = n) := hid (by have := HR.out.1.len; simpa using this)
          have HE : Hid (D = cont lo hi r (size - 1) t size) := hid (by rw [← HDD.out]; exact HD.out)
          clear HDD HD
          by_cases hlen : n < size
          · have e : D = none := by
              rw [HE.out]
              exact cont_short (by have := HTl.out; omega)
            subst e
            go_wp2
            exact bodyPost_ret (v := decVal none) (by simp [results, Try.results10, go_sem, decVal]) rfl ⟨rfl, rfl⟩
          · have n1 : ¬ c = 1 := by omega
            go_wp2
            go_loop [2, 3, 6, 7, 58] (fun v2 v3 v6 v7 v58 => ∃ k lo hi r : Nat, k ≤ size - 1 ∧ v3 = .int .i64 (size : Int) ∧ v58 = .int .i64 (k : Int) ∧ v2 = .int .i32 (r : Int) ∧ v6 = .int .u8 (lo : Int) ∧ v7 = .int .u8 (hi : Int) ∧ (k = 0 ∧ r < 32 ∨ k = 1 ∧ r < 2048 ∨ k = 2 ∧ r < 131072 ∨ k = 3 ∧ r < 8388608) ∧ lo < 256 ∧ hi < 256 ∧ Hid (D = cont lo hi r (size - 1 - k) (t.drop k) size)) (fun _ _ _ _ i => size - (intOf i).toNat)
            case atStart => exact ⟨0, lo, hi, r, by omega, rfl, rfl, rfl, rfl, rfl, by omega, g4, g5, hid (by simpa using HE.out)⟩
            case round =>
              clear HE g3 g4 g5
              obtain ⟨k, lo, hi, r, hk, rfl, rfl, rfl, rfl, rfl, hr3, g4, g5, HE⟩ := hrel
              by_cases hlt : k < size - 1
              · obtain ⟨y, hy, hy2, b', off', e', hb', cy⟩ := HR.out.get (show k + 1 < n by omega)
                cases e'
                have cy' : wc.cell? ⟨b, off + 1 + k, none⟩ = some (.int .u8 (y : Int)) := by rw [← cy]; congr 2; omega
                have hyt : t[k]? = some y := by simpa using hy
                by_cases hbad : y < lo ∨ hi < y
                · have e : D = none := by rw [HE.out]; exact cont_bad hyt (by omega) hbad
                  subst e
                  clear HE cy hy
                  go_wp2
                  all_goals exact bodyPost_ret (v := decVal none) (by simp [results, Try.results10, go_sem, decVal]) rfl ⟨rfl, rfl⟩
                · have HE2 : Hid (D = cont 128 191 (r * 64 + y % 64) (size - 1 - (k + 1)) (t.drop (k + 1)) size) := hid (by rw [HE.out]; exact cont_good hyt (by omega) hbad)
                  have hr4 : r < 131072 := by omega
                  clear cy hy
                  go_wp2
                  exact ⟨⟨k + 1, 128, 191, r * 64 + y % 64, by omega, rfl, by go_num, by go_num, rfl, rfl, by omega, by omega, by omega, HE2⟩, by simp [intOf]; omega⟩
              · have e : D = some (r, size) := by
                  rw [HE.out, show size - 1 - k = 0 by omega]
                  cases t.drop k <;> rfl
                subst e
                go_wp2
                exact bodyPost_ret (v := decVal (some (r, size))) (by simp [results, Try.results10, go_sem, decVal]) rfl ⟨rfl, rfl⟩
end Go.Proofs.Qxb6500881a
