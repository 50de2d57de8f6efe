/- textm.Decode, textm.FirstInvalid; the closure 'agree'. -/
import Derived.Test.Qxb6500881aUtfFirst
namespace Go.Proofs.Qxb6500881a
open Go.RowKit
set_option linter.unusedSimpArgs false
set_option linter.unusedVariables false

theorem ByteRow.take {w : World} {b off n c k : Nat} {l : List Nat} (h : ByteRow w (some ⟨b, off, none⟩) n c l) (hk : k ≤ n) : ByteRow w (some ⟨b, off, none⟩) k c (l.take k) := by
  refine ⟨⟨by rw [List.length_take, h.1.len]; omega, by have := h.1.2.1; omega, ⟨by have := h.1.2.2.1.1; omega, h.1.2.2.1.2.1, fun h => by cases h⟩, fun i hi => ?_⟩, fun b hb => h.2 b (List.mem_of_mem_take hb)⟩
  have hi' := hi
  rw [List.length_take, h.1.len] at hi'
  obtain ⟨b', off', e, hb, hc⟩ := h.1.2.2.2 i (by rw [h.1.len]; omega)
  cases e
  exact ⟨b, off, rfl, hb, fun j hj => by rw [List.getElem_take]; exact hc j hj⟩

def decValM (o : Option (Nat × Nat)) : Value := match o with
  | none => .tuple #[.int .i64 0, .int .i64 0, .bool false]
  | some (r, n) => .tuple #[.int .i64 (r : Int), .int .i64 (n : Int), .bool true]

theorem hit_val {l : List Nat} {k : Nat} {cp : Int} {D : Option (Nat × Nat)} (hD : dec l = D) (hb : ∀ b ∈ l, b < 256) (h1 : 1 ≤ k) (h4 : k ≤ 4) (hc : cpN l k = cp) (h : Hit l k) : Value.tuple #[.int .i64 cp, .int .i64 (k : Int), .bool true] = decValM D := by
  obtain ⟨e, h0⟩ := dec_hit l hb k h1 h4 h
  rw [← hD, e, hc]
  rw [hc] at h0
  simp only [decValM]
  rw [Int.toNat_of_nonneg h0]

theorem miss_next {l : List Nat} {k : Nat} (h : ∀ j, 1 ≤ j → j < k → ¬ Hit l j) (hk : ¬ Hit l k) : ∀ j, 1 ≤ j → j < k + 1 → ¬ Hit l j := fun j h1 h2 => by
  rcases (by omega : j < k ∨ j = k) with h3 | rfl
  · exact h j h1 h3
  · exact hk

set_option maxRecDepth 100000 in
set_option maxHeartbeats 4000000 in
theorem decodeM_walk (a : Option Addr) (n c : Nat) (l : List Nat) (w : World) (hr : ByteRow w a n c l) :
    Calls Try.prog 12 #[.slice a n c] w fun e w' => e = .returned (decValM (dec l)) ∧ Below w.heap.size w w' := by
  obtain ⟨D, hD⟩ : ∃ D, dec l = D := ⟨_, rfl⟩
  rw [hD]
  have HDD := hid hD
  have hn : n ≤ 140737488351232 := hr.1.2.2.1.1
  have hc : n ≤ c := hr.1.2.1
  have HR := hid hr
  clear hr hD
  go_enter Try.func12, Try.ntmps12
  go_wp2
  go_loopw [3] (fun i wr => ∃ k : Nat, 1 ≤ k ∧ k ≤ 5 ∧ k ≤ n + 1 ∧ i = .int .i64 (k : Int) ∧ Hid (∀ j, 1 ≤ j → j < k → ¬ Hit l j) ∧ Hid (Below w.heap.size w wr)) (fun i _ => 5 - (intOf i).toNat)
  case atStart => exact ⟨1, by omega, by omega, by omega, rfl, hid (fun j h1 h2 => by omega), hid (Below.refl _ _)⟩
  case round =>
    obtain ⟨k, hk1, hk5, hkn, rfl, HM, HB⟩ := hrel
    by_cases hin : k ≤ 4 ∧ k ≤ n
    · obtain ⟨hk4, hkl⟩ := hin
      have HRr := hid (HR.out.below HB.out)
      obtain ⟨x0, hx0, y0, b, off, rfl, hb, c0⟩ := HRr.out.get (show 0 < n by omega)
      rw [Nat.add_zero] at c0
      have i0 : (0 : Int) < (n : Int) := by omega
      rcases (by omega : k = 1 ∨ k = 2 ∨ k = 3 ∨ k = 4) with rfl | rfl | rfl | rfl
      · have HCp : Hid (cpN l 1 = (x0 : Int)) := hid (by
          match l, hx0 with
          | z0 :: t, h0 => simp at h0; subst h0; rfl)
        obtain ⟨cp, hcp⟩ : ∃ cp, (x0 : Int) = cp := ⟨_, rfl⟩
        have bcp : -9000000000 ≤ cp ∧ cp ≤ 9000000000 := by omega
        rw [hcp] at HCp
        have HTk := hid (HRr.out.take hkl)
        clear hx0
        go_wp2_with fail
        have HTW : Hid (ByteRow wr (some ⟨b, off, none⟩) 1 c (l.take 1)) := HTk
        have HBW : Hid (Below w.heap.size w wr) := HB
        refine (encode_walk cp bcp.1 bcp.2 _).mono ?_
        intro e w1 hp
        unfold EncPost at hp
        have HCp2 := hid hcp
        clear hcp c0
        cases hen : encM cp with
        | none =>
          rw [hen] at hp
          obtain ⟨rfl, rfl⟩ := hp
          have HNx : Hid (¬ Hit l 1) := hid (fun h => by have := h.2; rw [HCp.out, hen] at this; cases this)
          clear hen
          go_wp2
          exact ⟨⟨2, by omega, by omega, by omega, rfl, hid (miss_next HM.out HNx.out), HBW⟩, by simp [intOf]⟩
        | some l' =>
          rw [hen] at hp
          obtain ⟨rfl, hb1, hrow1⟩ := hp
          have HB1 := hid hb1
          have HR1 := hid hrow1
          clear hb1 hrow1
          have HW1 : Hid (Below w.heap.size w w1) := hid (HBW.out.trans (HB1.out.mono HBW.out.size))
          by_cases he : l' = l.take 1
          · have HH : Hid (Hit l 1) := hid ⟨by rw [HR.out.1.len]; exact hkl, by rw [HCp.out, hen, he]⟩
            have HE := hid he
            clear hen he
            go_wp2_with fail
            refine (equal_walk _ _ _ _ _ _ l' (l.take 1) _ HR1.out (HTW.out.below HB1.out)).mono ?_
            rw [decide_eq_true HE.out]
            rintro e w2 ⟨rfl, rfl⟩
            go_wp2
            exact bodyPost_ret (v := .tuple #[.int .i64 cp, .int .i64 (1 : Int), .bool true]) (by simp [results, Try.results12, go_sem]) rfl ⟨congrArg Ending.returned (hit_val HDD.out HR.out.2 (by omega) (by omega) HCp.out HH.out), HW1.out⟩
          · have HNx : Hid (¬ Hit l 1) := hid (fun h => by have := h.2; rw [HCp.out, hen] at this; exact he (Option.some.inj this))
            have HE := hid he
            clear hen he
            go_wp2_with fail
            refine (equal_walk _ _ _ _ _ _ l' (l.take 1) _ HR1.out (HTW.out.below HB1.out)).mono ?_
            rw [decide_eq_false HE.out]
            rintro e w2 ⟨rfl, rfl⟩
            go_wp2
            exact ⟨⟨2, by omega, by omega, by omega, rfl, hid (miss_next HM.out HNx.out), HW1⟩, by simp [intOf]⟩
      · obtain ⟨x1, hx1, y1, b1, off1, e1, _, c1⟩ := HRr.out.get (show 1 < n by omega)
        cases e1
        have i1 : (1 : Int) < (n : Int) := by omega
        have HCp : Hid (cpN l 2 = (((x0 : Int) - 192) * 64 + ((x1 : Int) - 128))) := hid (by
          match l, hx0, hx1 with
          | z0 :: z1 :: t, h0, h1 => simp at h0 h1; subst h0 h1; rfl)
        obtain ⟨cp, hcp⟩ : ∃ cp, (((x0 : Int) - 192) * 64 + ((x1 : Int) - 128)) = cp := ⟨_, rfl⟩
        have bcp : -9000000000 ≤ cp ∧ cp ≤ 9000000000 := by omega
        rw [hcp] at HCp
        have HTk := hid (HRr.out.take hkl)
        clear hx0 hx1
        go_wp2_with fail
        go_quiet (fail)
        go_wp2_with fail
        have HTW : Hid (ByteRow (wr.drewN nq) (some ⟨b, off, none⟩) 2 c (l.take 2)) := hid (HTk.out.below (Drew.below ⟨nq, rfl⟩ _))
        have HBW : Hid (Below w.heap.size w (wr.drewN nq)) := hid (HB.out.trans (Drew.below ⟨nq, rfl⟩ _))
        refine (encode_walk cp bcp.1 bcp.2 _).mono ?_
        intro e w1 hp
        unfold EncPost at hp
        have HCp2 := hid hcp
        clear hcp c0 c1
        cases hen : encM cp with
        | none =>
          rw [hen] at hp
          obtain ⟨rfl, rfl⟩ := hp
          have HNx : Hid (¬ Hit l 2) := hid (fun h => by have := h.2; rw [HCp.out, hen] at this; cases this)
          clear hen
          go_wp2
          exact ⟨⟨3, by omega, by omega, by omega, rfl, hid (miss_next HM.out HNx.out), HBW⟩, by simp [intOf]⟩
        | some l' =>
          rw [hen] at hp
          obtain ⟨rfl, hb1, hrow1⟩ := hp
          have HB1 := hid hb1
          have HR1 := hid hrow1
          clear hb1 hrow1
          have HW1 : Hid (Below w.heap.size w w1) := hid (HBW.out.trans (HB1.out.mono HBW.out.size))
          by_cases he : l' = l.take 2
          · have HH : Hid (Hit l 2) := hid ⟨by rw [HR.out.1.len]; exact hkl, by rw [HCp.out, hen, he]⟩
            have HE := hid he
            clear hen he
            go_wp2_with fail
            refine (equal_walk _ _ _ _ _ _ l' (l.take 2) _ HR1.out (HTW.out.below HB1.out)).mono ?_
            rw [decide_eq_true HE.out]
            rintro e w2 ⟨rfl, rfl⟩
            go_wp2
            exact bodyPost_ret (v := .tuple #[.int .i64 cp, .int .i64 (2 : Int), .bool true]) (by simp [results, Try.results12, go_sem]) rfl ⟨congrArg Ending.returned (hit_val HDD.out HR.out.2 (by omega) (by omega) HCp.out HH.out), HW1.out⟩
          · have HNx : Hid (¬ Hit l 2) := hid (fun h => by have := h.2; rw [HCp.out, hen] at this; exact he (Option.some.inj this))
            have HE := hid he
            clear hen he
            go_wp2_with fail
            refine (equal_walk _ _ _ _ _ _ l' (l.take 2) _ HR1.out (HTW.out.below HB1.out)).mono ?_
            rw [decide_eq_false HE.out]
            rintro e w2 ⟨rfl, rfl⟩
            go_wp2
            exact ⟨⟨3, by omega, by omega, by omega, rfl, hid (miss_next HM.out HNx.out), HW1⟩, by simp [intOf]⟩
      · obtain ⟨x1, hx1, y1, b1, off1, e1, _, c1⟩ := HRr.out.get (show 1 < n by omega)
        cases e1
        have i1 : (1 : Int) < (n : Int) := by omega
        obtain ⟨x2, hx2, y2, b2, off2, e2, _, c2⟩ := HRr.out.get (show 2 < n by omega)
        cases e2
        have i2 : (2 : Int) < (n : Int) := by omega
        have HCp : Hid (cpN l 3 = (((x0 : Int) - 224) * 4096 + ((x1 : Int) - 128) * 64 + ((x2 : Int) - 128))) := hid (by
          match l, hx0, hx1, hx2 with
          | z0 :: z1 :: z2 :: t, h0, h1, h2 => simp at h0 h1 h2; subst h0 h1 h2; rfl)
        obtain ⟨cp, hcp⟩ : ∃ cp, (((x0 : Int) - 224) * 4096 + ((x1 : Int) - 128) * 64 + ((x2 : Int) - 128)) = cp := ⟨_, rfl⟩
        have bcp : -9000000000 ≤ cp ∧ cp ≤ 9000000000 := by omega
        rw [hcp] at HCp
        have HTk := hid (HRr.out.take hkl)
        clear hx0 hx1 hx2
        go_wp2_with fail
        go_quiet (fail)
        go_wp2_with fail
        have HTW : Hid (ByteRow (wr.drewN nq) (some ⟨b, off, none⟩) 3 c (l.take 3)) := hid (HTk.out.below (Drew.below ⟨nq, rfl⟩ _))
        have HBW : Hid (Below w.heap.size w (wr.drewN nq)) := hid (HB.out.trans (Drew.below ⟨nq, rfl⟩ _))
        refine (encode_walk cp bcp.1 bcp.2 _).mono ?_
        intro e w1 hp
        unfold EncPost at hp
        have HCp2 := hid hcp
        clear hcp c0 c1 c2
        cases hen : encM cp with
        | none =>
          rw [hen] at hp
          obtain ⟨rfl, rfl⟩ := hp
          have HNx : Hid (¬ Hit l 3) := hid (fun h => by have := h.2; rw [HCp.out, hen] at this; cases this)
          clear hen
          go_wp2
          exact ⟨⟨4, by omega, by omega, by omega, rfl, hid (miss_next HM.out HNx.out), HBW⟩, by simp [intOf]⟩
        | some l' =>
          rw [hen] at hp
          obtain ⟨rfl, hb1, hrow1⟩ := hp
          have HB1 := hid hb1
          have HR1 := hid hrow1
          clear hb1 hrow1
          have HW1 : Hid (Below w.heap.size w w1) := hid (HBW.out.trans (HB1.out.mono HBW.out.size))
          by_cases he : l' = l.take 3
          · have HH : Hid (Hit l 3) := hid ⟨by rw [HR.out.1.len]; exact hkl, by rw [HCp.out, hen, he]⟩
            have HE := hid he
            clear hen he
            go_wp2_with fail
            refine (equal_walk _ _ _ _ _ _ l' (l.take 3) _ HR1.out (HTW.out.below HB1.out)).mono ?_
            rw [decide_eq_true HE.out]
            rintro e w2 ⟨rfl, rfl⟩
            go_wp2
            exact bodyPost_ret (v := .tuple #[.int .i64 cp, .int .i64 (3 : Int), .bool true]) (by simp [results, Try.results12, go_sem]) rfl ⟨congrArg Ending.returned (hit_val HDD.out HR.out.2 (by omega) (by omega) HCp.out HH.out), HW1.out⟩
          · have HNx : Hid (¬ Hit l 3) := hid (fun h => by have := h.2; rw [HCp.out, hen] at this; exact he (Option.some.inj this))
            have HE := hid he
            clear hen he
            go_wp2_with fail
            refine (equal_walk _ _ _ _ _ _ l' (l.take 3) _ HR1.out (HTW.out.below HB1.out)).mono ?_
            rw [decide_eq_false HE.out]
            rintro e w2 ⟨rfl, rfl⟩
            go_wp2
            exact ⟨⟨4, by omega, by omega, by omega, rfl, hid (miss_next HM.out HNx.out), HW1⟩, by simp [intOf]⟩
      · obtain ⟨x1, hx1, y1, b1, off1, e1, _, c1⟩ := HRr.out.get (show 1 < n by omega)
        cases e1
        have i1 : (1 : Int) < (n : Int) := by omega
        obtain ⟨x2, hx2, y2, b2, off2, e2, _, c2⟩ := HRr.out.get (show 2 < n by omega)
        cases e2
        have i2 : (2 : Int) < (n : Int) := by omega
        obtain ⟨x3, hx3, y3, b3, off3, e3, _, c3⟩ := HRr.out.get (show 3 < n by omega)
        cases e3
        have i3 : (3 : Int) < (n : Int) := by omega
        have HCp : Hid (cpN l 4 = (((x0 : Int) - 240) * 262144 + ((x1 : Int) - 128) * 4096 + ((x2 : Int) - 128) * 64 + ((x3 : Int) - 128))) := hid (by
          match l, hx0, hx1, hx2, hx3 with
          | z0 :: z1 :: z2 :: z3 :: t, h0, h1, h2, h3 => simp at h0 h1 h2 h3; subst h0 h1 h2 h3; rfl)
        obtain ⟨cp, hcp⟩ : ∃ cp, (((x0 : Int) - 240) * 262144 + ((x1 : Int) - 128) * 4096 + ((x2 : Int) - 128) * 64 + ((x3 : Int) - 128)) = cp := ⟨_, rfl⟩
        have bcp : -9000000000 ≤ cp ∧ cp ≤ 9000000000 := by omega
        rw [hcp] at HCp
        have HTk := hid (HRr.out.take hkl)
        clear hx0 hx1 hx2 hx3
        go_wp2_with fail
        go_quiet (fail)
        go_wp2_with fail
        have HTW : Hid (ByteRow (wr.drewN nq) (some ⟨b, off, none⟩) 4 c (l.take 4)) := hid (HTk.out.below (Drew.below ⟨nq, rfl⟩ _))
        have HBW : Hid (Below w.heap.size w (wr.drewN nq)) := hid (HB.out.trans (Drew.below ⟨nq, rfl⟩ _))
        refine (encode_walk cp bcp.1 bcp.2 _).mono ?_
        intro e w1 hp
        unfold EncPost at hp
        have HCp2 := hid hcp
        clear hcp c0 c1 c2 c3
        cases hen : encM cp with
        | none =>
          rw [hen] at hp
          obtain ⟨rfl, rfl⟩ := hp
          have HNx : Hid (¬ Hit l 4) := hid (fun h => by have := h.2; rw [HCp.out, hen] at this; cases this)
          clear hen
          go_wp2
          exact ⟨⟨5, by omega, by omega, by omega, rfl, hid (miss_next HM.out HNx.out), HBW⟩, by simp [intOf]⟩
        | some l' =>
          rw [hen] at hp
          obtain ⟨rfl, hb1, hrow1⟩ := hp
          have HB1 := hid hb1
          have HR1 := hid hrow1
          clear hb1 hrow1
          have HW1 : Hid (Below w.heap.size w w1) := hid (HBW.out.trans (HB1.out.mono HBW.out.size))
          by_cases he : l' = l.take 4
          · have HH : Hid (Hit l 4) := hid ⟨by rw [HR.out.1.len]; exact hkl, by rw [HCp.out, hen, he]⟩
            have HE := hid he
            clear hen he
            go_wp2_with fail
            refine (equal_walk _ _ _ _ _ _ l' (l.take 4) _ HR1.out (HTW.out.below HB1.out)).mono ?_
            rw [decide_eq_true HE.out]
            rintro e w2 ⟨rfl, rfl⟩
            go_wp2
            exact bodyPost_ret (v := .tuple #[.int .i64 cp, .int .i64 (4 : Int), .bool true]) (by simp [results, Try.results12, go_sem]) rfl ⟨congrArg Ending.returned (hit_val HDD.out HR.out.2 (by omega) (by omega) HCp.out HH.out), HW1.out⟩
          · have HNx : Hid (¬ Hit l 4) := hid (fun h => by have := h.2; rw [HCp.out, hen] at this; exact he (Option.some.inj this))
            have HE := hid he
            clear hen he
            go_wp2_with fail
            refine (equal_walk _ _ _ _ _ _ l' (l.take 4) _ HR1.out (HTW.out.below HB1.out)).mono ?_
            rw [decide_eq_false HE.out]
            rintro e w2 ⟨rfl, rfl⟩
            go_wp2
            exact ⟨⟨5, by omega, by omega, by omega, rfl, hid (miss_next HM.out HNx.out), HW1⟩, by simp [intOf]⟩
    · have e : D = none := by
        rw [← HDD.out]
        refine dec_miss l HR.out.2 (fun j h1 h4 => ?_)
        by_cases hj : j < k
        · exact HM.out j h1 hj
        · exact hit_short (by rw [HR.out.1.len]; omega)
      subst e
      by_cases hk4 : k ≤ 4
      · have d1 : decide ((k : Int) ≤ 4) = true := decide_eq_true (by omega)
        have d2 : decide ((k : Int) ≤ (n : Int)) = false := decide_eq_false (by omega)
        go_wp2
        exact bodyPost_ret (v := decValM none) (by simp [results, Try.results12, go_sem, decValM]) rfl ⟨rfl, HB.out⟩
      · have d1 : decide ((k : Int) ≤ 4) = false := decide_eq_false (by omega)
        go_wp2
        exact bodyPost_ret (v := decValM none) (by simp [results, Try.results12, go_sem, decValM]) rfl ⟨rfl, HB.out⟩
end Go.Proofs.Qxb6500881a
