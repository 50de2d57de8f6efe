/- The model's Search; copyKeyed. -/
import Derived.Test.Qxb6500890aDoorTxS1
import Derived.Test.Qxb6500890aDoorTextKLaw
namespace Go.Proofs.Qxb6500890aDoor
open Go.RowKit
set_option linter.unusedSimpArgs false
set_option linter.unusedVariables false

theorem belP_next {Y : List ByteArray} {k y : ByteArray} {i : Nat} (h : Y[i]? = some y) : belP (Y.take (i + 1)) k = belP (Y.take i) k + if ltS y k then 1 else 0 := by
  unfold belP
  rw [List.take_add_one, h, List.countP_append]
  congr 1
  simp [List.countP_cons]
theorem fndP_next {Y : List ByteArray} {k y : ByteArray} {i : Nat} (h : Y[i]? = some y) : fndP (Y.take (i + 1)) k = (fndP (Y.take i) k || decide (y = k)) := by
  unfold fndP
  rw [List.take_add_one, h, List.any_append]
  simp
theorem belP_le (Y : List ByteArray) (k : ByteArray) : belP Y k ≤ Y.length := List.countP_le_length
section
variable {w w' : World}
set_option maxRecDepth 100000
set_option maxHeartbeats 1000000
theorem rowS_at {w : World} {a : Option Addr} {n c : Nat} {Y : List ByteArray} (h : RowOf w 1 strCell a n c Y) {i : Nat} {y : ByteArray} (hy : Y[i]? = some y) : ∃ g off, a = some ⟨g, off, none⟩ ∧ w.cell? ⟨g, off + i, none⟩ = some (.string y) := by
  have hi := (List.getElem?_eq_some_iff.1 hy).1
  obtain ⟨x, hx, b, off, ha, _, hc⟩ := h.cell1 (k := i) (by rw [← h.len]; exact hi)
  rw [hy] at hx
  cases hx
  exact ⟨b, off, ha, hc⟩
theorem msearch_walk (a : Option Addr) (n c : Nat) (Y : List ByteArray) (hn : n ≤ 65536) (k : ByteArray) (w : World) (hr : RowOf w 1 strCell a n c Y) :
    Calls Tryd.prog 46 #[.slice a n c, .string k] w fun e w' => e = .returned (seV Y k) ∧ w' = w := by
  have HR := hid hr
  have HX := hid hr.len
  have hni : (n : Int) ≤ 65536 := by omega
  obtain ⟨ev, hev⟩ : ∃ v, seV Y k = v := ⟨_, rfl⟩
  rw [hev]
  have Hev := hid hev
  clear hr hev
  go_enter Tryd.func46, Tryd.ntmps46
  go_wp2_with fail
  go_loopw [6, 7, 12] (fun v u t wr => wr = w ∧ ∃ (i m : Nat) (b : Bool), i ≤ n ∧ m ≤ i ∧ v = .int .i64 (m : Int) ∧ u = .bool b ∧ t = .int .i64 (i : Int) ∧ Hid (belP (Y.take i) k = m ∧ fndP (Y.take i) k = b)) (fun _ _ t _ => n - (intOf t).toNat)
  case atStart => exact ⟨rfl, 0, 0, false, by omega, by omega, rfl, rfl, rfl, hid ⟨rfl, rfl⟩⟩
  case round =>
  obtain ⟨rfl, i, m, b, hi, hm, rfl, rfl, rfl, HP⟩ := hrel
  by_cases hin : i < n
  rotate_left
  · have hie : i = n := by omega
    subst hie
    have di : decide ((i : Int) < (i : Int)) = false := decide_eq_false (by omega)
    have HE : Hid ((.tuple #[.int .i64 (m : Int), .bool b] : Value) = ev) := hid (by
      have h1 := HP.out
      rw [List.take_of_length_le (by rw [HX.out]; omega)] at h1
      rw [← Hev.out, seV, h1.1, h1.2])
    clear hin hi
    go_wp2
    exact bodyPost_ret (v := .tuple #[.int .i64 (m : Int), .bool b]) (by simp [results, Tryd.results46, go_sem]) rfl ⟨by rw [HE.out], rfl⟩
  have di : decide ((i : Int) < (n : Int)) = true := decide_eq_true (by omega)
  obtain ⟨y, hy⟩ := get_some (Y := Y) (i := i) (by rw [HX.out]; exact hin)
  obtain ⟨g, off, rfl, cx⟩ := rowS_at HR.out hy
  have HN1 := hid (belP_next (k := k) hy)
  have HN2 := hid (fndP_next (k := k) hy)
  have i1 : (i : Int) < (n : Int) := by omega
  have h1 : Op.bytesLess y.toList k.toList = ltS y k := by rw [toList_data, toList_data, bytesLess_cmp]; rfl
  obtain ⟨bl, hbl⟩ : ∃ x, ltS y k = x := ⟨_, rfl⟩
  obtain ⟨be, hbe⟩ : ∃ x, (y.toList == k.toList) = x := ⟨_, rfl⟩
  rw [hbl] at HN1 h1
  rw [← str_eq, hbe] at HN2
  clear hy hbl
  cases bl with
  | true =>
    cases be with
    | true =>
      have HN : Hid (belP (Y.take (i + 1)) k = m + 1 ∧ fndP (Y.take (i + 1)) k = true) := hid ⟨by rw [HN1.out, HP.out.1]; rfl, by rw [HN2.out, Bool.or_true]⟩
      clear HN1 HN2 HP
      go_wp2
      exact ⟨⟨trivial, i + 1, m + 1, true, by omega, by omega, by go_num, rfl, by go_num, HN⟩, by simp [intOf]; omega⟩
    | false =>
      have HN : Hid (belP (Y.take (i + 1)) k = m + 1 ∧ fndP (Y.take (i + 1)) k = b) := hid ⟨by rw [HN1.out, HP.out.1]; rfl, by rw [HN2.out, Bool.or_false]; exact HP.out.2⟩
      clear HN1 HN2 HP
      go_wp2
      exact ⟨⟨trivial, i + 1, m + 1, b, by omega, by omega, by go_num, rfl, by go_num, HN⟩, by simp [intOf]; omega⟩
  | false =>
    cases be with
    | true =>
      have HN : Hid (belP (Y.take (i + 1)) k = m ∧ fndP (Y.take (i + 1)) k = true) := hid ⟨by rw [HN1.out, HP.out.1]; rfl, by rw [HN2.out, Bool.or_true]⟩
      clear HN1 HN2 HP
      go_wp2
      exact ⟨⟨trivial, i + 1, m, true, by omega, by omega, by go_num, rfl, by go_num, HN⟩, by simp [intOf]; omega⟩
    | false =>
      have HN : Hid (belP (Y.take (i + 1)) k = m ∧ fndP (Y.take (i + 1)) k = b) := hid ⟨by rw [HN1.out, HP.out.1]; rfl, by rw [HN2.out, Bool.or_false]; exact HP.out.2⟩
      clear HN1 HN2 HP
      go_wp2
      exact ⟨⟨trivial, i + 1, m, b, by omega, by omega, by go_num, rfl, by go_num, HN⟩, by simp [intOf]; omega⟩
theorem copyKeyed_walk (a : Option Addr) (n c : Nat) (X : List Rec) (w : World) (hr : RowOf w 2 recCells a n c X) (hn : n ≤ 65536) :
    Calls Tryd.prog 24 #[.slice a n c] w fun e w' => e = .returned (.slice (some ⟨w.heap.size, 0, none⟩) n n) ∧ Below w.heap.size w w' ∧ BlkK w' w.heap.size X := by
  have hmk := make_keyed n (by omega)
  obtain ⟨i0, hi, hz0, hz1, hz2⟩ := info_partsK
  obtain ⟨wx, hwx⟩ : ∃ wx, (w.alloc (.cells (madeCells #[Value.string ByteArray.empty, Value.int .i64 0] (n * 2)) 49)) = wx := ⟨_, rfl⟩
  have hBx : Blk wx w.heap.size 49 (flat (List.replicate n (ByteArray.empty, 0))) := by
    subst hwx
    have e := Blk.new w (flat (List.replicate n (ByteArray.empty, 0))) 49
    rw [← made_keyed] at e
    exact e
  have hU : Below w.heap.size w wx := by subst hwx; exact Below.alloc (Below.refl _ _) (Nat.le_refl _) _
  have hrx := hr.below hU
  have hXl := hr.len
  have em : Nat.min n n = n := Nat.min_self n
  obtain ⟨w6, hrun, hb6, hu6⟩ := run_copy_blk (P := Tryd.prog) wx 34 34 3 49 i0 2 Tryd.underlying34 hi hz1 (some ⟨w.heap.size, 0, none⟩) a n n n c w.heap.size 0 49 _ (flat X) hBx (by rw [flat_len, hXl, em]) (fun h0 => by
    rw [em] at h0
    refine ⟨rfl, ?_⟩
    obtain ⟨x, hx, b, off, ha, _⟩ := hrx.cell h0
    exact ⟨_, ha, fun j v hv => hrx.cells (by omega) (fun x => rfl) _ ha j v hv⟩) (by rw [flat_len, flat_len, hXl, List.length_replicate]; omega) (fun v hv => by
    obtain ⟨x, _, hx⟩ := List.mem_flatMap.1 hv
    simp [recCells] at hx
    rcases hx with rfl | rfl <;> rfl)
  have HB6 := hid hb6
  have HXl := hid hXl
  have HU6 : Hid (Below w.heap.size w w6) := hid (hU.trans (hu6.below (Nat.le_refl _) hU.size))
  rw [← hwx] at hrun
  clear hb6 hu6 hBx hU hrx hXl hwx hr em
  go_enter Tryd.func24, Tryd.ntmps24
  go_wp2
  go_ret
  refine ⟨rfl, HU6.out, ?_⟩
  have e6 : splice (flat (List.replicate n (ByteArray.empty, 0))) 0 (flat X) = flat X := by
    unfold splice
    rw [List.drop_of_length_le (by rw [flat_len, flat_len, List.length_replicate, HXl.out]; omega)]
    simp
  have h6 := HB6.out
  rw [e6] at h6
  exact h6
end
end Go.Proofs.Qxb6500890aDoor
