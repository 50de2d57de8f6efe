/- The walks of text.magnitude, text.AppendInt (onto an empty slice with room for twenty bytes), text.FormatInt. -/
import Derived.Test.Qxb6500890aDoorTextFmtPlain
import Derived.Test.Qxb6500890aDoorDrew
import Derived.Test.Qxb6500890aDoorOwn
import Derived.Test.Qxb6500890aDoorProg
import Derived.WalkKit
import Derived.WalkSpells
import Derived.Deep.AppendSrc
namespace Go.Proofs.Qxb6500890aDoor
open Go.RowKit
set_option linter.unusedSimpArgs false
set_option linter.unusedVariables false

theorem magnitude_walk (v : Int) (h1 : -9223372036854775808 ≤ v) (h2 : v ≤ 9223372036854775807) (w : World) :
    Calls Tryd.prog 81 #[.int .i64 v] w fun e w' => e = .returned (.int .u64 v.natAbs) ∧ w' = w := by
  by_cases h : v < 0
  · have hv : (v.natAbs : Int) = -v := by omega
    rw [hv]
    go_enter Tryd.func81, Tryd.ntmps81
    go_wp2
    go_ret
    exact ⟨ret_i (by rw [IntKind.wrap_u64, IntKind.wrap_u64]; omega), rfl⟩
  · have hv : (v.natAbs : Int) = v := by omega
    rw [hv]
    go_enter Tryd.func81, Tryd.ntmps81
    go_wp2
    go_ret
    exact ⟨ret_i rfl, rfl⟩

def byteVals (l : List UInt8) : List Value := l.map fun b => .int .u8 (b.toNat : Int)

theorem drop_set {arr : Array Value} {m : Nat} (h : m < arr.size) (v : Value) : (arr.setIfInBounds m v).toList.drop m = v :: arr.toList.drop (m + 1) := by
  rw [Array.toList_setIfInBounds, List.drop_set, if_neg (by omega), Nat.sub_self]
  rw [List.drop_eq_getElem_cons (by simpa using h)]
  rfl

theorem step_digit (arr : Array Value) (m x : Nat) (D : List UInt8) {M : Nat} (hm2 : 2 ≤ m) (hmu : m ≤ 20) (ha : arr.size = 20) (hm : m + D.length = 20) (hd : arr.toList.drop m = byteVals D) (hx : digs M = digs x ++ D) (h10 : 10 ≤ x) (hb : x < 10 ^ 20) :
    (arr.setIfInBounds (m - 1) (Value.int IntKind.u8 (48 + ((x : Int) - (x : Int) / 10 * 10)))).size = 20 ∧ m - 1 + (UInt8.ofNat (48 + x % 10) :: D).length = 20 ∧
    (arr.setIfInBounds (m - 1) (Value.int IntKind.u8 (48 + ((x : Int) - (x : Int) / 10 * 10)))).toList.drop (m - 1) = byteVals (UInt8.ofNat (48 + x % 10) :: D) ∧ digs M = digs (x / 10) ++ (UInt8.ofNat (48 + x % 10) :: D) := by
  refine ⟨by simpa using ha, by rw [List.length_cons]; omega, ?_, ?_⟩
  · rw [drop_set (by omega), show m - 1 + 1 = m by omega, hd, byteVals, byteVals, List.map_cons, ofNat_toNat (show 48 + x % 10 < 256 by omega)]
    congr 2
    omega
  · rw [hx, digs_big x hb h10, List.append_assoc]; rfl

theorem last_digit (arr : Array Value) (m x : Nat) (D : List UInt8) {M : Nat} (hm2 : 2 ≤ m) (hmu : m ≤ 20) (ha : arr.size = 20) (hm : m + D.length = 20) (hd : arr.toList.drop m = byteVals D) (hx : digs M = digs x ++ D) (h10 : x < 10) :
    (arr.setIfInBounds (m - 1) (Value.int IntKind.u8 (48 + (x : Int)))).size = 20 ∧ m - 1 + (digs M).length = 20 ∧
    (arr.setIfInBounds (m - 1) (Value.int IntKind.u8 (48 + (x : Int)))).toList.drop (m - 1) = byteVals (digs M) := by
  refine ⟨by simpa using ha, by rw [hx, digs_small x h10]; simp; omega, ?_⟩
  rw [drop_set (by omega), show m - 1 + 1 = m by omega, hd, hx, digs_small x h10]
  simp only [byteVals, List.map_cons, List.map_append, List.cons_append, List.nil_append, List.map_nil, ofNat_toNat (show 48 + x < 256 by omega)]
  congr 2

theorem info_u8 : (Tryd.prog.info? 5).map (fun i => (i.zero, i.size, i.bytes)) = some (some (.int .u8 0), 1, 1) := by kernel_rfl

set_option maxRecDepth 100000 in
theorem slice20 (W : World) (N : Nat) (l : Int) (h0 : 0 ≤ l) (h1 : l < 20) :
    (Instr.sliceAt 94 (.pointer (some ⟨N, 0, none⟩)) (some (.int .i64 l)) none none).run Tryd.prog W = .ok (.slice (some ⟨N, l.toNat, none⟩) (20 - l.toNat) (20 - l.toNat)) W := by
  have e : Tryd.prog.arrayLen 94 = 20 := by kernel_rfl
  have e2 : Tryd.prog.elem 94 = 5 := by kernel_rfl
  have e3 : (sizeOf 5).run Tryd.prog W = .ok 1 W := by
    obtain ⟨i0, hi0, _, hz1, _⟩ := info_parts info_u8
    simp [sizeOf, typeInfo, hi0, hz1]
  have ht : Tryd.prog.underlying 94 = some (.array (Tryd.prog.arrayLen 94) (Tryd.prog.elem 94)) := by kernel_rfl
  rw [run_sliceAt_array_l W 94 ⟨N, 0, none⟩ ht .i64 l h0 (by rw [e]; omega), e, e2, e3]
  have : ¬ (20 = l.toNat) := by omega
  simp only [Result.andThen_ok, slicedAt, if_neg this, Addr.add]
  congr 4
  split <;> simp <;> omega

theorem byteVals_len (l : List UInt8) : (byteVals l).length = l.length := by simp [byteVals]

theorem room_alloc (w : World) (b : Nat) (arr : Array Value) (i : Nat) (L : List UInt8) (hb : b < w.heap.size) (hc : ∀ j, j < 20 → (w.cell? ⟨b, j, none⟩).isSome = true) (hf : ∀ j, j < 20 → w.frozen? ⟨b, j, none⟩ = false)
    (hd : arr.toList.drop i = byteVals L) (hi : i + L.length = 20) :
    (Builtin.append_ #[82, 82] 82 #[.slice (some ⟨b, 0, none⟩) 0 20, .slice (some ⟨w.heap.size, i, none⟩) (20 - i) (20 - i)]).run Tryd.prog (w.alloc (.cells arr 94)) =
      .ok (.slice (some ⟨b, 0, none⟩) L.length 20) ((w.alloc (.cells arr 94)).setCells b 0 (byteVals L)) := by
  obtain ⟨i0, hi0, hz0, hz1, hz2⟩ := info_parts info_u8
  have e : 20 - i = L.length := by omega
  rw [e]
  have hsrc : Src Tryd.prog i0.size 82 (.slice (some ⟨w.heap.size, i, none⟩) L.length L.length) L.length (byteVals L) (w.alloc (.cells arr 94)) := by
    refine Src.ofSlice _ Tryd.underlying82 ⟨w.heap.size, i, none⟩ L.length L.length (byteVals L) (by rw [hz1, byteVals_len, Nat.mul_one]) (fun j u hj => ?_) (fun u hu => ?_)
    · have ea : (⟨w.heap.size, i, none⟩ : Addr).add j = ⟨w.heap.size, i + j, none⟩ := by unfold Addr.add; split <;> simp_all
      rw [ea, World.cell?_alloc_at _ _ _ _ rfl, ← Array.getElem?_toList, ← List.getElem?_drop, hd]
      exact hj
    · simp only [byteVals, List.mem_map] at hu
      obtain ⟨x, _, rfl⟩ := hu
      rfl
  have hold : ∀ j, j < 20 → (w.alloc (.cells arr 94)).cell? ⟨b, j, none⟩ = w.cell? ⟨b, j, none⟩ := fun j _ => World.cell?_alloc_past _ _ _ hb
  have hr := run_append_room_src (P := Tryd.prog) (w.alloc (.cells arr 94)) 82 82 82 5 i0 Tryd.underlying82 hi0 b 0 0 20 _ L.length (byteVals L) hsrc (by omega)
    (fun j hj => by rw [byteVals_len] at hj; simp only [Nat.zero_mul, Nat.zero_add]; rw [hold j (by omega)]; exact hc j (by omega))
    (fun j hj => by
      rw [byteVals_len] at hj
      simp only [Nat.zero_mul, Nat.zero_add]
      rw [World.frozen?_alloc_old _ _ _ (by simp; omega)]
      exact hf j (by omega))
  simpa using hr

set_option maxRecDepth 100000 in
set_option maxHeartbeats 1000000 in
theorem appendInt_walk (v : Int) (h1 : -9223372036854775808 ≤ v) (h2 : v ≤ 9223372036854775807) (w : World) (b : Nat) (hb : b < w.heap.size)
    (hc : ∀ j, j < 20 → (w.cell? ⟨b, j, none⟩).isSome = true) (hf : ∀ j, j < 20 → w.frozen? ⟨b, j, none⟩ = false) :
    Calls Tryd.prog 53 #[.slice (some ⟨b, 0, none⟩) 0 20, .int .i64 v] w fun e w' =>
      e = .returned (.slice (some ⟨b, 0, none⟩) (fmtL v).length 20) ∧ ∃ arr, w' = (w.alloc (.cells arr 94)).setCells b 0 (byteVals (fmtL v)) := by
  have HC := hid hc
  have HF := hid hf
  clear hc hf
  have hmag : v.natAbs ≤ 9223372036854775808 := by omega
  go_enter Tryd.func53, Tryd.ntmps53
  go_wp2_with (go_at_call 81; refine (magnitude_walk v h1 h2 _).mono ?_; rintro e w' ⟨rfl, rfl⟩)
  have Hm := hid (digs_len 19 v.natAbs (by decide) (by decide) (by omega))
  go_loopw [6, 7] (fun i u wr => ∃ (m x : Nat) (arr : Array Value) (D : List UInt8), i = .int .i64 m ∧ u = .int .u64 x ∧ wr = w.alloc (.cells arr 94) ∧ arr.size = 20 ∧ m + D.length = 20 ∧ arr.toList.drop m = byteVals D ∧ digs v.natAbs = digs x ++ D ∧ x ≤ v.natAbs) (fun _ u _ => (intOf u).toNat)
  case atStart => exact ⟨20, v.natAbs, _, [], rfl, rfl, rfl, rfl, rfl, rfl, by simp, Nat.le_refl _⟩
  case round =>
    obtain ⟨m, x, arr, D, rfl, rfl, rfl, ha, hm, hd, hx, hxm⟩ := hrel
    have hp : 0 < (digs x).length := List.length_pos_iff.2 (digs_pos x (by omega))
    have hlen : (digs x).length + D.length ≤ 19 := by have := Hm.out; rw [hx, List.length_append] at this; exact this
    have HD := hid hd
    have HX := hid hx
    clear hd hx
    by_cases h10 : 10 ≤ x
    · obtain ⟨cv, hcv⟩ : ∃ cv, arr[m - 1]? = some cv := ⟨_, Array.getElem?_eq_getElem (show m - 1 < arr.size by omega)⟩
      have hm2 : 2 ≤ m := by omega
      have HS := hid (step_digit arr m x D hm2 (by omega) ha hm HD.out HX.out h10 (by omega))
      go_wp2
      obtain ⟨s1, s2, s3, s4⟩ := HS.out
      exact ⟨⟨m - 1, x / 10, _, UInt8.ofNat (48 + x % 10) :: D, by go_num, by go_num, rfl, s1, s2, s3, s4, by omega⟩, by simp [intOf]; omega⟩
    · have hm2 : 2 ≤ m := by omega
      have HS := hid (last_digit arr m x D hm2 (by omega) ha hm HD.out HX.out (by omega))
      obtain ⟨cv, hcv⟩ : ∃ cv, arr[m - 1]? = some cv := ⟨_, Array.getElem?_eq_getElem (show m - 1 < arr.size by omega)⟩
      by_cases hv : v < 0
      · obtain ⟨cv2, hcv2⟩ : ∃ cv, (arr.setIfInBounds (m - 1) (Value.int IntKind.u8 (48 + ↑x)))[m - 1 - 1]? = some cv := ⟨_, Array.getElem?_eq_getElem (show m - 1 - 1 < (arr.setIfInBounds (m - 1) _).size by simp; omega)⟩
        have hsl := fun W => slice20 W w.heap.size ((m : Int) - 1 - 1) (by omega) (by omega)
        have e45 : fmtL v = 45 :: digs v.natAbs := by rw [fmtL, if_pos hv]
        have HR := hid (room_alloc w b ((arr.setIfInBounds (m - 1) (Value.int IntKind.u8 (48 + ↑x))).setIfInBounds (m - 1 - 1) (Value.int IntKind.u8 45)) (m - 1 - 1) (fmtL v) hb HC.out HF.out
          (by
            have h3 := HS.out
            rw [drop_set (by rw [h3.1]; omega), show m - 1 - 1 + 1 = m - 1 by omega, h3.2.2, e45]; rfl)
          (by have h3 := HS.out.2.1; rw [e45, List.length_cons]; omega))
        clear e45
        go_wp2_with (at_builtin; refine wpList_append_run _ rfl (.tmp 39) (.tmp 41) 82 82 rfl _ _ _ _ rfl rfl HR.out ?_)
        go_ret
        exact ⟨rfl, _, rfl⟩
      · have hsl := fun W => slice20 W w.heap.size ((m : Int) - 1) (by omega) (by omega)
        have e45 : fmtL v = digs v.natAbs := by rw [fmtL, if_neg hv]
        have HR := hid (room_alloc w b (arr.setIfInBounds (m - 1) (Value.int IntKind.u8 (48 + ↑x))) (m - 1) (fmtL v) hb HC.out HF.out (by rw [e45]; exact HS.out.2.2) (by have h3 := HS.out.2.1; rw [e45]; omega))
        clear e45
        go_wp2_with (at_builtin; refine wpList_append_run _ rfl (.tmp 39) (.tmp 41) 82 82 rfl _ _ _ _ rfl rfl HR.out ?_)
        go_ret
        exact ⟨rfl, _, rfl⟩

theorem frozen_new (w : World) (c : Array Value) (t : TypeId) (j : Nat) : (w.alloc (.cells c t)).frozen? ⟨w.heap.size, j, none⟩ = false := by
  unfold World.frozen? World.alloc
  simp

theorem twenty_some (j : Nat) (hj : j < 20) : ((#[.int .u8 0, .int .u8 0, .int .u8 0, .int .u8 0, .int .u8 0, .int .u8 0, .int .u8 0, .int .u8 0, .int .u8 0, .int .u8 0, .int .u8 0, .int .u8 0, .int .u8 0, .int .u8 0, .int .u8 0, .int .u8 0, .int .u8 0, .int .u8 0, .int .u8 0, .int .u8 0] : Array Value)[j]?).isSome = true := by
  rw [Array.getElem?_eq_getElem (by simpa using hj)]
  rfl

theorem fmt_len (v : Int) (h1 : -9223372036854775808 ≤ v) (h2 : v ≤ 9223372036854775807) : (fmtL v).length ≤ 20 := by
  have := digs_len 19 v.natAbs (by decide) (by decide) (by omega)
  unfold fmtL
  split
  · simp; omega
  · omega

theorem setCells_below (B b o : Nat) (hB : B ≤ b) : ∀ (vs : List Value) (w : World) (o : Nat), Below B w (w.setCells b o vs)
  | [], w, o => Below.refl _ _
  | v :: vs, w, o => ((Below.refl _ _).setCell (p := ⟨b, o, none⟩) hB v).trans (setCells_below B b o hB vs _ (o + 1))

set_option maxRecDepth 100000 in
set_option maxHeartbeats 1000000 in
theorem formatInt_walk (v : Int) (h1 : -9223372036854775808 ≤ v) (h2 : v ≤ 9223372036854775807) (w : World) :
    Calls Tryd.prog 16 #[.int .i64 v] w fun e w' => e = .returned (.string ⟨(fmtL v).toArray⟩) ∧ Below w.heap.size w w' := by
  have hl := fmt_len v h1 h2
  go_enter Tryd.func16, Tryd.ntmps16
  go_wp2_with fail
  refine (appendInt_walk v h1 h2 _ w.heap.size (by simp) (fun j hj => ?_) (fun j hj => ?_)).mono ?_
  · rw [World.cell?_alloc_at _ _ _ _ rfl]
    exact twenty_some j hj
  · exact frozen_new _ _ _ _
  rintro e w1 ⟨rfl, arr, hw1⟩
  have hb1 : Below w.heap.size w w1 := by
    rw [hw1]
    exact (((Below.refl _ _).alloc (Nat.le_refl _) _).alloc (by simp) _).trans (setCells_below _ _ 0 (Nat.le_refl _) _ _ _)
  have hcv : (convert 82 9 (.slice (some ⟨w.heap.size, 0, none⟩) (fmtL v).length 20)).run Tryd.prog w1 = .ok (.string ⟨(fmtL v).toArray⟩) w1 := by
    refine run_convert_bytes_back w1 82 9 5 ⟨w.heap.size, 0, none⟩ 20 (fmtL v) Tryd.underlying82 Tryd.underlying5 Tryd.underlying9 (fun j hj => ?_)
    have ea : (⟨w.heap.size, 0, none⟩ : Addr).add j = ⟨w.heap.size, 0 + j, none⟩ := by unfold Addr.add; split <;> simp_all
    rw [ea, hw1, World.cell?_setCells_in w.heap.size (byteVals (fmtL v)) 0 _ (fun k hk => ?_) j (by rw [byteVals_len]; exact hj)]
    · simp [byteVals]
    · rw [byteVals_len] at hk
      simp only [Nat.zero_add]
      rw [World.cell?_alloc_past _ _ _ (by simp), World.cell?_alloc_at _ _ _ _ rfl]
      exact twenty_some k (by omega)
  have HB := hid hb1
  clear hb1 hw1
  go_wp2
  go_ret
  exact ⟨rfl, HB.out⟩
end Go.Proofs.Qxb6500890aDoor
