/- Places: Locate, Place. -/
import Derived.Test.Qxb6500890aDoorTxE2
namespace Go.Proofs.Qxb6500890aDoor
open Go.RowKit
set_option linter.unusedSimpArgs false
set_option linter.unusedVariables false

def curS (p : Nat × Nat) (b : UInt8) : Nat × Nat := if b.toNat = 10 then (p.1 + 1, 1) else (p.1, p.2 + 1)
def placeP (l : List UInt8) : Nat × Nat := l.foldl curS (1, 1)
theorem place_next (s : ByteArray) {i : Nat} (h : i < s.size) : placeP (s.data.toList.take (i + 1)) = curS (placeP (s.data.toList.take i)) s[i] := by
  have e : s.data.toList.take (i + 1) = s.data.toList.take i ++ [s[i]] := by
    rw [List.take_add_one]
    congr 1
    have : s.data.toList[i]? = some s[i] := by
      have h2 : i < s.data.toList.length := h
      rw [List.getElem?_eq_getElem h2]
      rfl
    rw [this]
    rfl
  unfold placeP
  rw [e, List.foldl_append]
  rfl
theorem place_le (l : List UInt8) : (placeP l).1 ≤ l.length + 1 ∧ (placeP l).2 ≤ l.length + 1 ∧ 1 ≤ (placeP l).2 := by
  have h : ∀ (l : List UInt8) (p : Nat × Nat), 1 ≤ p.2 → (l.foldl curS p).1 ≤ p.1 + l.length ∧ (l.foldl curS p).2 ≤ p.2 + l.length ∧ 1 ≤ (l.foldl curS p).2 := by
    intro l
    induction l with
    | nil => intro p hp; exact ⟨Nat.le_refl _, Nat.le_refl _, hp⟩
    | cons b l ih =>
      intro p hp
      rw [List.foldl_cons, List.length_cons]
      have := ih (curS p b) (by unfold curS; split <;> simp)
      have e : (curS p b).1 ≤ p.1 + 1 ∧ (curS p b).2 ≤ p.2 + 1 := by
        unfold curS
        split
        · exact ⟨Nat.le_refl _, by simp⟩
        · exact ⟨Nat.le_succ _, Nat.le_refl _⟩
      omega
  have := h l (1, 1) (Nat.le_refl _)
  unfold placeP
  dsimp only at this
  omega
def plV (p : Nat × Nat) : Value := .tuple #[.int .i64 (p.1 : Int), .int .i64 (p.2 : Int)]
section
variable {w w' : World}
set_option maxRecDepth 100000
set_option maxHeartbeats 1000000
theorem locate_walk (s : ByteArray) (hs : s.size ≤ 1000000) (z : Int) (hz : I64 z) (w : World) : Calls Tryd.prog 34 #[.string s, .int .i64 z] w fun r w' => r = .returned (plV (placeP (s.data.toList.take (min z.toNat s.size)))) ∧ w' = w := by
  have hz1 := hz.1
  have hz2 := hz.2
  obtain ⟨x, hx⟩ : ∃ x, z.toNat = x := ⟨_, rfl⟩
  obtain ⟨n, hn⟩ : ∃ n, min z.toNat s.size = n := ⟨_, rfl⟩
  rw [hn]
  obtain ⟨m, hm⟩ : ∃ m, s.size = m := ⟨_, rfl⟩
  have Hx := hid hx
  have Hn : Hid (min x m = n) := hid (by rw [← hx, ← hm]; exact hn)
  have Hm := hid hm
  have hms : (m : Int) ≤ 1000000 := by omega
  have hxb : (x : Int) ≤ 9223372036854775807 := by omega
  clear hz hx hn
  obtain ⟨b1, hb1⟩ : ∃ b, decide (z < 0) = b := ⟨_, rfl⟩
  have Hb1 := hid hb1
  obtain ⟨b2, hb2⟩ : ∃ b, decide (m < x) = b := ⟨_, rfl⟩
  have Hb2 := hid hb2
  go_enter Tryd.func34, Tryd.ntmps34
  go_upto_if 9 with fail
  clear hb1
  go_cut [1] from 9 to 9 (fun v wc => v = .int .i64 (x : Int) ∧ wc = w)
  case first =>
    cases b1 with
    | true =>
      have HE : Hid ((0 : Int) = (x : Int)) := hid (by have := of_decide_eq_true Hb1.out; have := Hx.out; omega)
      go_wp2
      go_meet
      exact ⟨by rw [HE.out], rfl⟩
    | false =>
      have HE : Hid (z = (x : Int)) := hid (by have := of_decide_eq_false Hb1.out; have := Hx.out; omega)
      go_wp2
      go_meet
      exact ⟨by rw [HE.out], rfl⟩
  case rest =>
    obtain ⟨rfl, rfl⟩ := hcut
    go_upto_if 13 with fail
    clear hb2
    go_cut [1] from 13 to 15 (fun v wc' => v = .int .i64 (n : Int) ∧ wc' = wc)
    case first =>
      cases b2 with
      | true =>
        have HE : Hid ((m : Int) = (n : Int)) := hid (by have := of_decide_eq_true Hb2.out; have := Hn.out; omega)
        go_wp2
        go_meet
        exact ⟨by rw [HE.out], rfl⟩
      | false =>
        have HE : Hid ((x : Int) = (n : Int)) := hid (by have := of_decide_eq_false Hb2.out; have := Hn.out; omega)
        go_wp2
        go_meet
        exact ⟨by rw [HE.out], rfl⟩
    case rest =>
      obtain ⟨rfl, rfl⟩ := hcut
      have hnb : n ≤ m := by have := Hn.out; omega
      have hnm : (n : Int) ≤ 1000000 := by omega
      go_wp2_with fail
      go_loopw [4, 6, 7] (fun v u t wr => wr = wc ∧ ∃ i ln ls : Nat, i ≤ n ∧ v = .int .i64 (ln : Int) ∧ u = .int .i64 (ls : Int) ∧ t = .int .i64 (i : Int) ∧ ls ≤ i ∧ ln ≤ i + 1 ∧ Hid ((placeP (s.data.toList.take i)) = (ln, i - ls + 1))) (fun _ _ t _ => n - (intOf t).toNat)
      case atStart => exact ⟨rfl, 0, 1, 0, by omega, rfl, rfl, rfl, by omega, by omega, hid rfl⟩
      case round =>
      obtain ⟨rfl, i, ln, ls, hi, rfl, rfl, rfl, hls, hln, HP⟩ := hrel
      by_cases hin : i < n
      · have di : decide ((i : Int) < (n : Int)) = true := decide_eq_true (by omega)
        have ki : i < s.size := by rw [Hm.out]; omega
        have HNx := hid (place_next s ki)
        by_cases hb : s[i].toNat = 10
        · have d1 : ((s[i].toNat : Int) == 10) = true := by rw [hb]; rfl
          have HE : Hid (placeP (s.data.toList.take (i + 1)) = (ln + 1, (i + 1) - (i + 1) + 1)) := hid (by
            rw [HNx.out, HP.out]; unfold curS; rw [if_pos hb]; simp)
          clear hb HNx
          go_wp2
          exact ⟨⟨trivial, i + 1, ln + 1, i + 1, by omega, by go_num, by go_num, by go_num, by omega, by omega, HE⟩, by simp [intOf]; omega⟩
        · have d1 : ((s[i].toNat : Int) == 10) = false := by rw [beq_eq_false_iff_ne]; omega
          have HE : Hid (placeP (s.data.toList.take (i + 1)) = (ln, (i + 1) - ls + 1)) := hid (by
            rw [HNx.out, HP.out]; unfold curS; rw [if_neg hb]; simp; omega)
          clear hb HNx
          go_wp2
          exact ⟨⟨trivial, i + 1, ln, ls, by omega, by go_num, by go_num, by go_num, by omega, by omega, HE⟩, by simp [intOf]; omega⟩
      · have hie : i = n := by omega
        subst hie
        have di : decide ((i : Int) < (i : Int)) = false := decide_eq_false (by omega)
        have hlsi : (ls : Int) ≤ (i : Int) := by omega
        have HR : Hid ((.tuple #[.int .i64 (ln : Int), .int .i64 ((i : Int) - (ls : Int) + 1)] : Value) = plV (placeP (s.data.toList.take i))) := hid (by
          rw [HP.out]
          unfold plV
          dsimp only
          rw [show ((i - ls + 1 : Nat) : Int) = (i : Int) - (ls : Int) + 1 by omega])
        clear hin hi
        go_wp2
        exact bodyPost_ret (v := .tuple #[.int .i64 (ln : Int), .int .i64 ((i : Int) - (ls : Int) + 1)]) (by simp [results, Tryd.results34, go_sem]) rfl ⟨by rw [HR.out], rfl⟩
theorem extract_get (s : ByteArray) {n i : Nat} (hn : n ≤ s.size) (hi : i < (s.extract 0 n).size) : ((s.extract 0 n)[i]'hi).toNat = (s[i]'(by simp at hi; omega)).toNat := by
  congr 1
  rw [ByteArray.getElem_extract]
  congr 1
  omega
theorem mplace_walk (s : ByteArray) (hs : s.size ≤ 1000000) (z : Int) (hz : I64 z) (w : World) : Calls Tryd.prog 49 #[.string s, .int .i64 z] w fun r w' => r = .returned (plV (placeP (s.data.toList.take (min z.toNat s.size)))) ∧ Below w.heap.size w w' := by
  have hz1 := hz.1
  have hz2 := hz.2
  obtain ⟨x, hx⟩ : ∃ x, z.toNat = x := ⟨_, rfl⟩
  obtain ⟨n, hn⟩ : ∃ n, min z.toNat s.size = n := ⟨_, rfl⟩
  rw [hn]
  obtain ⟨m, hm⟩ : ∃ m, s.size = m := ⟨_, rfl⟩
  have Hx := hid hx
  have Hn : Hid (min x m = n) := hid (by rw [← hx, ← hm]; exact hn)
  have Hm := hid hm
  have hms : (m : Int) ≤ 1000000 := by omega
  have hxb : (x : Int) ≤ 9223372036854775807 := by omega
  clear hz hx hn
  obtain ⟨b1, hb1⟩ : ∃ b, decide (z < 0) = b := ⟨_, rfl⟩
  have Hb1 := hid hb1
  obtain ⟨b2, hb2⟩ : ∃ b, decide (m < x) = b := ⟨_, rfl⟩
  have Hb2 := hid hb2
  go_enter Tryd.func49, Tryd.ntmps49
  go_upto_if 11 with fail
  clear hb1
  go_cut [1] from 11 to 11 (fun v wc => v = .int .i64 (x : Int) ∧ wc = w)
  case first =>
    cases b1 with
    | true =>
      have HE : Hid ((0 : Int) = (x : Int)) := hid (by have := of_decide_eq_true Hb1.out; have := Hx.out; omega)
      go_wp2
      go_meet
      exact ⟨by rw [HE.out], rfl⟩
    | false =>
      have HE : Hid (z = (x : Int)) := hid (by have := of_decide_eq_false Hb1.out; have := Hx.out; omega)
      go_wp2
      go_meet
      exact ⟨by rw [HE.out], rfl⟩
  case rest =>
    obtain ⟨rfl, rfl⟩ := hcut
    go_upto_if 15 with fail
    clear hb2
    go_cut [1] from 15 to 17 (fun v wc' => v = .int .i64 (n : Int) ∧ wc' = wc)
    case first =>
      cases b2 with
      | true =>
        have HE : Hid ((m : Int) = (n : Int)) := hid (by have := of_decide_eq_true Hb2.out; have := Hn.out; omega)
        go_wp2
        go_meet
        exact ⟨by rw [HE.out], rfl⟩
      | false =>
        have HE : Hid ((x : Int) = (n : Int)) := hid (by have := of_decide_eq_false Hb2.out; have := Hn.out; omega)
        go_wp2
        go_meet
        exact ⟨by rw [HE.out], rfl⟩
    case rest =>
      obtain ⟨rfl, rfl⟩ := hcut
      have hnb : n ≤ m := by have := Hn.out; omega
      have hnm : (n : Int) ≤ 1000000 := by omega
      have hni : (n : Int) ≤ (m : Int) := by omega
      obtain ⟨d, hd⟩ : ∃ d, s.extract 0 n = d := ⟨_, rfl⟩
      have hds : d.size = n := by rw [← hd, ByteArray.size_extract]; omega
      obtain ⟨c, w1, hcv, hb1, hz1', hc1⟩ := bytes_conv wc d
      have HC : Hid (∀ i (hi : i < s.size), i < n → w1.cell? ⟨wc.heap.size, i, none⟩ = some (.int .u8 (s[i].toNat : Int))) := hid (fun i hi hin => by
        have h1 := hc1 i (by rw [hds]; exact hin)
        rw [h1]
        subst hd
        rw [extract_get s (by omega)])
      rw [hds] at hcv
      have HB := hid hb1
      clear hb1 hc1 hds hz1'
      go_wp2_with fail
      go_loopw [6, 7, 23] (fun v u t wr => wr = w1 ∧ ∃ i ln cl : Nat, i ≤ n ∧ v = .int .i64 (ln : Int) ∧ u = .int .i64 (cl : Int) ∧ t = .int .i64 (i : Int) ∧ cl ≤ i + 1 ∧ ln ≤ i + 1 ∧ Hid ((placeP (s.data.toList.take i)) = (ln, cl))) (fun _ _ t _ => n - (intOf t).toNat)
      case atStart => exact ⟨rfl, 0, 1, 1, by omega, rfl, rfl, rfl, by omega, by omega, hid rfl⟩
      case round =>
      obtain ⟨rfl, i, ln, cl, hi, rfl, rfl, rfl, hls, hln, HP⟩ := hrel
      by_cases hin : i < n
      · have di : decide ((i : Int) < (n : Int)) = true := decide_eq_true (by omega)
        have ki : i < s.size := by rw [Hm.out]; omega
        have HNx := hid (place_next s ki)
        have cx := HC.out i ki hin
        by_cases hb : s[i].toNat = 10
        · have d1 : ((s[i].toNat : Int) == 10) = true := by rw [hb]; rfl
          have HE : Hid (placeP (s.data.toList.take (i + 1)) = (ln + 1, 1)) := hid (by
            rw [HNx.out, HP.out]; unfold curS; rw [if_pos hb])
          clear hb HNx
          go_wp2
          exact ⟨⟨trivial, i + 1, ln + 1, 1, by omega, by go_num, by go_num, by go_num, by omega, by omega, HE⟩, by simp [intOf]; omega⟩
        · have d1 : ((s[i].toNat : Int) == 10) = false := by rw [beq_eq_false_iff_ne]; omega
          have HE : Hid (placeP (s.data.toList.take (i + 1)) = (ln, cl + 1)) := hid (by
            rw [HNx.out, HP.out]; unfold curS; rw [if_neg hb])
          clear hb HNx
          go_wp2
          exact ⟨⟨trivial, i + 1, ln, cl + 1, by omega, by go_num, by go_num, by go_num, by omega, by omega, HE⟩, by simp [intOf]; omega⟩
      · have hie : i = n := by omega
        subst hie
        have di : decide ((i : Int) < (i : Int)) = false := decide_eq_false (by omega)
        have HR : Hid ((.tuple #[.int .i64 (ln : Int), .int .i64 (cl : Int)] : Value) = plV (placeP (s.data.toList.take i))) := hid (by
          rw [HP.out]
          rfl)
        clear hin hi
        go_wp2
        exact bodyPost_ret (v := .tuple #[.int .i64 (ln : Int), .int .i64 (cl : Int)]) (by simp [results, Tryd.results49, go_sem]) rfl ⟨by rw [HR.out], HB.out⟩
end
end Go.Proofs.Qxb6500890aDoor
