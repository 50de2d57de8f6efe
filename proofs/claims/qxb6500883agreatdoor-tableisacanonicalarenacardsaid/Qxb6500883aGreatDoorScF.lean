/- The text in memory; the plain lexer: blanks. -/
import Derived.Test.Qxb6500883aGreatDoorScE
namespace Go.Proofs.Qxb6500883aGreatDoor
open Go.RowKit
set_option linter.unusedSimpArgs false
set_option linter.unusedVariables false
/-- The byte at a place of the text. -/
def cN (bs : List UInt8) (i : Nat) : Nat := (bs.getD i 0).toNat
theorem cN_lt (bs : List UInt8) (i : Nat) : cN bs i < 256 := (bs.getD i 0).toNat_lt
/-- The text in memory. -/
structure Src (w : World) (a : Option Addr) (n c : Nat) (bs : List UInt8) : Prop where
  row : RowOf w 1 rtB.f a n c bs
  lt : ∀ ad, a = some ad → ad.block < w.heap.size
  le : n ≤ 17592186044000
section
variable {w w' : World} {a : Option Addr} {n c : Nat} {bs : List UInt8}
theorem Src.len (h : Src w a n c bs) : bs.length = n := h.row.len
theorem Src.cap (h : Src w a n c bs) : n ≤ c ∧ n ≤ 140737488351232 ∧ c ≤ maxLen := ⟨h.row.2.1, h.row.2.2.1.1, h.row.2.2.1.2.1⟩
theorem Src.cell (h : Src w a n c bs) {k : Nat} (hk : k < n) : ∃ b off, a = some ⟨b, off, none⟩ ∧ b < w.heap.size ∧ w.cell? ⟨b, off + k, none⟩ = some (.int .u8 (cN bs k : Int)) := by
  obtain ⟨x, hx, b, off, ha, hb, hc⟩ := h.row.cell1 hk
  refine ⟨b, off, ha, hb, ?_⟩
  rw [hc]
  have : cN bs k = x.toNat := by unfold cN; rw [List.getD_eq_getElem?_getD, hx]; rfl
  rw [this]
  rfl
theorem Src.of (h : Src w a n c bs) (hz : w.heap.size ≤ w'.heap.size) (hb : ∀ ad, a = some ad → ad.block < w.heap.size → w'.heap[ad.block]? = w.heap[ad.block]?) : Src w' a n c bs := by
  refine ⟨⟨h.row.1, h.row.2.1, h.row.2.2.1, fun i hi => ?_⟩, fun ad ha => Nat.lt_of_lt_of_le (h.lt ad ha) hz, h.le⟩
  obtain ⟨b, off, ha, hlt, hc⟩ := h.row.2.2.2 i hi
  have e := hb _ ha hlt
  refine ⟨b, off, ha, Nat.lt_of_lt_of_le hlt hz, fun j hj => by rw [keepCell _ (show w'.heap[b]? = w.heap[b]? from e)]; exact hc j hj⟩
theorem Src.below (h : Src w a n c bs) (hb : Below w.heap.size w w') : Src w' a n c bs := ⟨h.row.below hb, fun ad ha => Nat.lt_of_lt_of_le (h.lt ad ha) hb.size, h.le⟩
theorem Src.upd {g : Nat} (h : Src w a n c bs) (hu : Upd g w w') (hg : ∀ ad, a = some ad → ad.block ≠ g) : Src w' a n c bs := h.of hu.size (fun ad h1 h2 => hu.block _ h2 (hg ad h1))
/-- A piece of the text. -/
def sub (bs : List UInt8) (lo hi : Nat) : ByteArray := ⟨((bs.drop lo).take (hi - lo)).toArray⟩
theorem sub_size (bs : List UInt8) {lo hi : Nat} (h : hi ≤ bs.length) : (sub bs lo hi).size = hi - lo := by
  show ((bs.drop lo).take (hi - lo)).toArray.size = _
  simp; omega
theorem Src.str {b off : Nat} (h : Src w (some ⟨b, off, none⟩) n c bs) {lo hi k : Nat} (h1 : lo < hi) (h2 : hi ≤ n) (hk : k = hi - lo) (q : Nat) : (convert 28 9 (.slice (some ⟨b, off + lo, none⟩) k q)).run Tryz.prog w = .ok (.string (sub bs lo hi)) w := by
  subst hk
  have hn := h.len
  have hl : ((bs.drop lo).take (hi - lo)).length = hi - lo := by rw [List.length_take, List.length_drop]; omega
  have := run_convert_bytes_back (P := Tryz.prog) w 28 9 5 ⟨b, off + lo, none⟩ q ((bs.drop lo).take (hi - lo)) Tryz.underlying28 Tryz.underlying5 Tryz.underlying9 (fun j hj => ?_)
  · rw [hl] at this
    exact this
  · have ea : (⟨b, off + lo, none⟩ : Addr).add j = ⟨b, off + (lo + j), none⟩ := by unfold Addr.add; split <;> simp_all; omega
    obtain ⟨b', off', e, _, hc⟩ := h.cell (k := lo + j) (by omega)
    cases e
    rw [ea, hc]
    congr 2
    unfold cN
    rw [List.getD_eq_getElem?_getD]
    have : ((bs.drop lo).take (hi - lo))[j]? = bs[lo + j]? := by rw [List.getElem?_take, if_pos (by omega), List.getElem?_drop]
    rw [← this, List.getElem?_eq_getElem hj]
    rfl
end
/-- Blanks and comments skipped. -/
def skipL : Bool → List UInt8 → Nat
  | _, [] => 0
  | false, b :: r => if spB b.toNat then 1 + skipL false r else if b.toNat = 35 then 1 + skipL true r else 0
  | true, b :: r => if b.toNat = 10 then 1 + skipL false r else 1 + skipL true r
def skipP (bs : List UInt8) (i : Nat) : Nat := i + skipL false (bs.drop i)
theorem drop_cons (bs : List UInt8) {i : Nat} (h : i < bs.length) : ∃ b, bs.drop i = b :: bs.drop (i + 1) ∧ cN bs i = b.toNat := by
  refine ⟨bs[i], List.drop_eq_getElem_cons h, ?_⟩
  unfold cN
  rw [List.getD_eq_getElem?_getD, List.getElem?_eq_getElem h]
  rfl
theorem drop_end (bs : List UInt8) {i : Nat} (h : bs.length ≤ i) : bs.drop i = [] := List.drop_eq_nil_of_le h
theorem skipL_le (c : Bool) (l : List UInt8) : skipL c l ≤ l.length := by
  induction l generalizing c with
  | nil => cases c <;> exact Nat.le_refl _
  | cons b r ih =>
    have h1 := ih true
    have h2 := ih false
    cases c <;> (unfold skipL; rw [List.length_cons]; repeat' split) <;> omega
theorem skipP_le (bs : List UInt8) {i : Nat} (h : i ≤ bs.length) : skipP bs i ≤ bs.length := by
  have := skipL_le false (bs.drop i)
  rw [List.length_drop] at this
  unfold skipP; omega
theorem skipP_ge (bs : List UInt8) (i : Nat) : i ≤ skipP bs i := Nat.le_add_right _ _
section
variable (bs : List UInt8) {i : Nat}
theorem sk_end (h : bs.length ≤ i) : skipP bs i = i := by unfold skipP; rw [drop_end bs h]; rfl
theorem sk_sp (h : i < bs.length) (hs : spB (cN bs i) = true) : skipP bs i = skipP bs (i + 1) := by
  obtain ⟨b, h1, h2⟩ := drop_cons bs h
  unfold skipP
  rw [h1, skipL, ← h2, if_pos hs]
  omega
theorem sk_no (h : i < bs.length) (hs : spB (cN bs i) = false) (h5 : cN bs i ≠ 35) : skipP bs i = i := by
  obtain ⟨b, h1, h2⟩ := drop_cons bs h
  unfold skipP
  rw [h1, skipL, ← h2, hs, if_neg (by decide), if_neg h5]
  rfl
/-- Inside a comment. -/
def skipC (i : Nat) : Nat := i + skipL true (bs.drop i)
theorem sk_com (h : i < bs.length) (h5 : cN bs i = 35) : skipP bs i = skipC bs i := by
  obtain ⟨b, h1, h2⟩ := drop_cons bs h
  unfold skipP skipC
  rw [h1, skipL, skipL, ← h2, h5, if_neg (by decide), if_pos rfl, if_neg (by decide)]
theorem sc_end (h : bs.length ≤ i) : skipC bs i = i := by unfold skipC; rw [drop_end bs h]; rfl
theorem sc_nl (h : i < bs.length) (h5 : cN bs i = 10) : skipC bs i = skipP bs i := by
  obtain ⟨b, h1, h2⟩ := drop_cons bs h
  unfold skipP skipC
  rw [h1, skipL, skipL, ← h2, h5, if_pos rfl, if_pos (by decide)]
theorem sc_on (h : i < bs.length) (h5 : cN bs i ≠ 10) : skipC bs i = skipC bs (i + 1) := by
  obtain ⟨b, h1, h2⟩ := drop_cons bs h
  unfold skipC
  rw [h1, skipL, ← h2, if_neg h5]
  omega
end
end Go.Proofs.Qxb6500883aGreatDoor
