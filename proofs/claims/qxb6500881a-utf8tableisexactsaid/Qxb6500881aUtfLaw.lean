/- The law UTF8TableIsExact. -/
import Derived.Test.Qxb6500881aUtfAgree
namespace Go.Proofs.Qxb6500881a
open Go.RowKit
set_option linter.unusedSimpArgs false
set_option linter.unusedVariables false

def edges : List Nat := [127, 128, 191, 192]
def Inv (w : World) (ge : Nat) (wr : World) : Prop := Below w.heap.size w wr ∧ Blk wr ge 5 (edges.map fun b : Nat => Value.int .u8 (b : Int))
theorem Inv.next {w wr w' : World} {ge : Nat} (h : Inv w ge wr) (hb : Below wr.heap.size wr w') : Inv w ge w' := ⟨h.1.trans (hb.mono h.1.size), h.2.below hb⟩
theorem Inv.cell {w wr : World} {ge i : Nat} (h : Inv w ge wr) (hi : i < 4) : ∃ t : Nat, t < 256 ∧ wr.cell? ⟨ge, i, none⟩ = some (.int .u8 (t : Int)) := by
  rw [h.2.cell]
  rcases (by omega : i = 0 ∨ i = 1 ∨ i = 2 ∨ i = 3) with rfl | rfl | rfl | rfl
  · exact ⟨127, by omega, rfl⟩
  · exact ⟨128, by omega, rfl⟩
  · exact ⟨191, by omega, rfl⟩
  · exact ⟨192, by omega, rfl⟩

theorem agree_new (l : List Nat) (hl : l.length ≤ 1000) (hb : ∀ b ∈ l, b < 256) (T : TypeId) (w : World) (w1 : World) (h : w1 = w.alloc (.cells (l.map (fun b : Nat => Value.int .u8 (b : Int))).toArray T)) :
    Calls Try.prog 4 #[.slice (some ⟨w.heap.size, 0, none⟩) l.length l.length] w1 fun e w' => e = .returned (.bool true) ∧ Below w.heap.size w w' := by
  obtain ⟨h1, h2⟩ := byteRowNew hl hb w1 h
  exact (agree_walk _ _ _ l w1 h2).mono fun e w' ⟨he, hb'⟩ => ⟨he, h1.trans (hb'.mono h1.size)⟩

theorem nil_row (w : World) : ByteRow w none 0 0 [] := ⟨⟨rfl, Nat.le_refl _, ⟨by omega, by simp [maxLen], fun _ => rfl⟩, fun i hi => by simp at hi⟩, fun b hb => by cases hb⟩

set_option maxRecDepth 100000 in
set_option maxHeartbeats 4000000 in
theorem utf_walk (w : World) : Calls Try.prog 3 #[] w fun e w' => e = .returned (.bool true) ∧ Below w.heap.size w w' := by
  obtain ⟨ge, hge⟩ : ∃ ge, w.heap.size = ge := ⟨_, rfl⟩
  have HI0 : Hid (Inv w ge (w.alloc (Obj.cells #[.int .u8 127, .int .u8 128, .int .u8 191, .int .u8 192] 5))) := by
    subst hge
    exact hid ⟨Below.alloc (Below.refl _ _) (Nat.le_refl _) _, Blk.new w [_, _, _, _] _⟩
  go_enter Try.func3, Try.ntmps3
  go_wp2
  go_loopw [3] (fun i wr => ∃ f : Nat, f ≤ 256 ∧ i = .int .i64 (f : Int) ∧ Hid (Inv w ge wr)) (fun i _ => 256 - (intOf i).toNat)
  case atStart => exact ⟨0, by omega, rfl, HI0⟩
  case round =>
    obtain ⟨f, hf, rfl, HI⟩ := hrel
    by_cases hltf : f < 256
    · have df : decide ((f : Int) < 256) = true := decide_eq_true (by omega)
      go_wp2
      go_loopw [4] (fun i wr => ∃ s : Nat, s ≤ 256 ∧ i = .int .i64 (s : Int) ∧ Hid (Inv w ge wr)) (fun i _ => 256 - (intOf i).toNat)
      case atStart => exact ⟨0, by omega, rfl, HI⟩
      case round =>
        obtain ⟨s, hs, rfl, HI⟩ := hrel
        by_cases hlts : s < 256
        · have ds : decide ((s : Int) < 256) = true := decide_eq_true (by omega)
          go_wp2_with fail
          refine (agree_new [f] (by simp) (by simp; omega) 5 wr _ rfl).mono ?_
          rintro e w1 ⟨rfl, hb1⟩
          have HI1 := hid (HI.out.next hb1)
          clear hb1
          go_wp2_with fail
          refine (agree_new [f, s] (by simp) (by simp; omega) 5 w1 _ rfl).mono ?_
          rintro e w2 ⟨rfl, hb2⟩
          have HI2 := hid (HI1.out.next hb2)
          clear hb2
          go_wp2
          go_loopw [43] (fun i wr => ∃ t : Nat, t ≤ 4 ∧ i = .int .i64 (t : Int) ∧ Hid (Inv w ge wr)) (fun i _ => 4 - (intOf i).toNat)
          case atStart => exact ⟨0, by omega, rfl, HI2⟩
          case round =>
            obtain ⟨t, ht, rfl, HI⟩ := hrel
            by_cases hltt : t < 4
            · have dt : decide ((t : Int) < 4) = true := decide_eq_true (by omega)
              obtain ⟨x, hx, cx⟩ := HI.out.cell hltt
              go_wp2_with fail
              refine (agree_new [f, s, x] (by simp) (by simp; omega) 5 wr _ rfl).mono ?_
              rintro e w3 ⟨rfl, hb3⟩
              have HI3 := hid (HI.out.next hb3)
              clear hb3 cx
              go_wp2
              go_loopw [58] (fun i wr => ∃ u : Nat, u ≤ 4 ∧ i = .int .i64 (u : Int) ∧ Hid (Inv w ge wr)) (fun i _ => 4 - (intOf i).toNat)
              case atStart => exact ⟨0, by omega, rfl, HI3⟩
              case round =>
                obtain ⟨u, hu, rfl, HI⟩ := hrel
                by_cases hltu : u < 4
                · obtain ⟨y, hy, cy⟩ := HI.out.cell hltu
                  go_wp2_with fail
                  refine (agree_new [f, s, x, y] (by simp) (by simp; omega) 5 wr _ rfl).mono ?_
                  rintro e w4 ⟨rfl, hb4⟩
                  have HI4 := hid (HI.out.next hb4)
                  clear hb4 cy
                  go_wp2
                  exact ⟨⟨u + 1, by omega, by go_num, HI4⟩, by simp [intOf]; omega⟩
                · go_wp2
                  exact ⟨⟨t + 1, by omega, by go_num, HI⟩, by simp [intOf]; omega⟩
            · go_wp2
              exact ⟨⟨s + 1, by omega, by go_num, HI⟩, by simp [intOf]; omega⟩
        · go_wp2
          exact ⟨⟨f + 1, by omega, by go_num, HI⟩, by simp [intOf]; omega⟩
    · go_wp2
      go_loopw [9] (fun i wr => ∃ j : Nat, j ≤ 1114116 ∧ i = .int .i64 ((j : Int) - 2) ∧ Hid (Inv w ge wr)) (fun i _ => (1114114 - intOf i).toNat)
      case atStart => exact ⟨0, by omega, rfl, HI⟩
      case round =>
        obtain ⟨j, hj, rfl, HI⟩ := hrel
        by_cases hltj : j < 1114116
        · have d1 : decide ((j : Int) - 2 ≤ 1114113) = true := decide_eq_true (by omega)
          obtain ⟨cp, hcp⟩ : ∃ cp, (j : Int) - 2 = cp := ⟨_, rfl⟩
          have b1 : -100 ≤ cp := by omega
          have b2 : cp ≤ 2000000 := by omega
          have HJ := hid hcp
          rw [hcp] at d1
          rw [hcp]
          have b3 : cp ≤ 1114113 := by omega
          have HJ1 : Hid (cp + 1 = ((j + 1 : Nat) : Int) - 2) := hid (by omega)
          clear hcp
          go_wp2_with fail
          refine (appendRune_walk cp b1 b2 _).mono ?_
          intro e w1 hp
          unfold AppPost at hp
          cases hen : encM cp with
          | none =>
            rw [hen] at hp
            obtain ⟨rfl, rfl⟩ := hp
            go_wp2_with fail
            refine (encode_walk cp (by omega) (by omega) _).mono ?_
            intro e w2 hp
            unfold EncPost at hp
            rw [hen] at hp
            obtain ⟨rfl, rfl⟩ := hp
            clear hen
            go_wp2_with fail
            refine (equal_walk none none 0 0 0 0 [] [] _ (nil_row _) (nil_row _)).mono ?_
            rintro e w3 ⟨rfl, rfl⟩
            go_wp2_with fail
            refine (decode_walk none 0 0 [] _ (nil_row _)).mono ?_
            rw [show decVal (dec []) = .tuple #[.int .i32 0, .int .i64 0, .bool false] from rfl]
            rintro e w4 ⟨rfl, rfl⟩
            go_wp2
            exact ⟨⟨j + 1, by omega, congrArg (Value.int .i64) HJ1.out, HI⟩, by simp [intOf]; omega⟩
          | some l =>
            rw [hen] at hp
            obtain ⟨a1, c1, rfl, hb1, hr1⟩ := hp
            have HI1 := hid (HI.out.next hb1)
            have HR1 := hid hr1
            clear hb1 hr1
            go_wp2_with fail
            refine (encode_walk cp (by omega) (by omega) _).mono ?_
            intro e w2 hp
            unfold EncPost at hp
            rw [hen] at hp
            obtain ⟨rfl, hb2, hr2⟩ := hp
            have HI2 := hid (HI1.out.next hb2)
            have HR12 := hid (HR1.out.below hb2)
            have HR2 := hid hr2
            have HDe : Hid (∃ m : Nat, cp = (m : Int) ∧ dec l = some (m, l.length)) := hid (by
              unfold encM at hen
              split at hen
              · cases hen
              · rename_i hns
                obtain ⟨m, rfl⟩ : ∃ m : Nat, cp = (m : Int) := ⟨cp.toNat, by unfold noScalar at hns; omega⟩
                obtain rfl := Option.some.inj hen
                exact ⟨m, rfl, by rw [Int.toNat_natCast]; exact dec_enc m hns⟩)
            clear hb2 hr2 hen
            obtain ⟨len, hlen⟩ : ∃ len, l.length = len := ⟨_, rfl⟩
            rw [hlen] at HR12 HR2 HDe ⊢
            have hln : len ≤ 140737488351232 := HR2.out.1.2.2.1.1
            have hlp : 0 < len := by
              obtain ⟨m, _, hd⟩ := HDe.out
              have := dec_size hd
              omega
            go_wp2_with fail
            refine (equal_walk a1 (some ⟨w1.heap.size, 0, none⟩) len c1 len len l l _ HR12.out HR2.out).mono ?_
            rw [decide_eq_true rfl]
            rintro e w3 ⟨rfl, rfl⟩
            go_wp2_with fail
            refine (decode_walk a1 len c1 l _ HR12.out).mono ?_
            obtain ⟨m, hm, hd⟩ := HDe.out
            rw [hd, show decVal (some (m, len)) = .tuple #[.int .i32 (m : Int), .int .i64 (len : Int), .bool true] from rfl]
            rintro e w4 ⟨rfl, rfl⟩
            subst hm
            clear hd
            have q1 : ((m : Int) != (m : Int)) = false := by simp
            have q2 : ((len : Int) != (len : Int)) = false := by simp
            go_wp2
            exact ⟨⟨j + 1, by omega, congrArg (Value.int .i64) HJ1.out, HI2⟩, by have := HJ.out; simp [intOf]; omega⟩
        · have d1 : decide ((j : Int) - 2 ≤ 1114113) = false := decide_eq_false (by omega)
          go_wp2
          go_ret
          exact ⟨rfl, HI.out.1⟩
end Go.Proofs.Qxb6500881a
