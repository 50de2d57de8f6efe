/- Structure of any type; same. -/
import Derived.Test.Qxb6500883aGreatDoorScUc
namespace Go.Proofs.Qxb6500883aGreatDoor
open Go.RowKit
set_option linter.unusedSimpArgs false
set_option linter.unusedVariables false
/-- A type's structure, written. -/
def strB (T : TS) (al : Nat → Int) (id : Nat) (x : TR) : List UInt8 := if x.kind < 3 ∨ x.kind = 7 then rf T al id else fl T al x
section
variable {τ : Rl} {w w0 : World} {tB n0 ga mn mf : Nat} {V : TV} {T : TS} {al : Nat → Int} {bn : ByteArray → Option Nat}
set_option maxRecDepth 100000 in
set_option maxHeartbeats 4000000 in
theorem fullDef (h : TRd w0 τ tB V T ga al) {id : Nat} {x : TR} (hx : T.types[id]? = some x) (hk : x.kind < 3 ∨ x.kind = 7) (w : World) (ax : Option Addr) (m q : Nat) (bs : List UInt8) (hr : OwR rtB w0.heap.size w (.slice ax m q) bs) (hb : Below w0.heap.size w0 w) (hl : bs.length + (rf T al id).length ≤ 70368744177664) : Calls Tryz.prog 51 #[.pointer (some ⟨tB, 0, none⟩), .slice ax m q, .int .i32 (id : Int)] w fun e w' => ∃ v, e = .returned v ∧ Hid (OwR rtB w0.heap.size w' v (bs ++ rf T al id) ∧ Below w0.heap.size w0 w') := by
  obtain ⟨gt, qt, hC⟩ := h.ty hx
  have hlt := (List.getElem?_eq_some_iff.1 hx).1
  have i1 : (id : Int) < (T.types.length : Int) := by omega
  obtain ⟨c0, hc⟩ := hC w hb
  have k0 : w.cell? ⟨gt, id * 12, none⟩ = some (.int .u8 (x.kind : Int)) := hc 0 (by decide)
  have HA := hid (refAll h id id (Nat.le_refl _) hlt w ax m q bs hr hb hl)
  obtain ⟨kd, hkd⟩ : ∃ k, x.kind = k := ⟨_, rfl⟩
  rw [hkd] at k0 hk
  have t3 : ((kd : Int) == 3) = false := by simp; omega
  have t4 : ((kd : Int) == 4) = false := by simp; omega
  have t5 : ((kd : Int) == 5) = false := by simp; omega
  have t6 : ((kd : Int) == 6) = false := by simp; omega
  have t8 : ((kd : Int) == 8) = false := by simp; omega
  obtain ⟨rr, hrr⟩ : ∃ a, rf T al id = a := ⟨_, rfl⟩
  rw [hrr] at HA ⊢
  clear h hx hkd hk hl hC hc hr hb hrr
  generalize T.types.length = nt at c0 hlt i1
  go_enter Tryz.func51, Tryz.ntmps51
  go_wp2_with fail
  refine HA.out.mono ?_
  rintro e w8 ⟨v8, rfl, h8⟩
  obtain ⟨a8, q8, hv8⟩ := h8.out.1.shape
  obtain ⟨n8, hn8⟩ : ∃ k, (bs ++ rr).length = k := ⟨_, rfl⟩
  rw [hn8] at hv8
  clear hn8
  subst hv8
  clear HA
  go_wp2
  go_ret
  exact ⟨_, rfl, h8⟩
/-- A bracketed type, written out in full. -/
theorem fullAny (h : TRd w0 τ tB V T ga al) {id : Nat} {x : TR} (hx : T.types[id]? = some x) (h8 : 8 ≤ id) (hk : x.kind ≠ 7) : FuC w0 tB T al id x := by
  have h2 := (List.getElem?_eq_some_iff.1 hx).1
  cases h.st id x h8 hx with
  | @ser e g1 g2 g3 =>
    rcases g1 with g1 | g1
    · exact fullSer3 h hx g1 g2 (refAll h e e (by omega) (by omega))
    · exact fullSer4 h hx g1 g2 (refAll h e e (by omega) (by omega))
  | bit g1 g2 =>
    rcases g1 with g1 | g1
    · exact fullBit5 h hx g1
    · exact fullBit6 h hx g1
  | con g1 g2 g3 g4 => exact absurd g1 hk
  | uni g1 g2 g3 g4 => exact fullUni h hx g1 g2 g3 (fun o ho => refAll h o o (Nat.le_refl _) (by have := g4 o ho; omega))
theorem structW (h : TRd w0 τ tB V T ga al) {id : Nat} {x : TR} (hx : T.types[id]? = some x) (h8 : x.kind < 3 ∨ 8 ≤ id) (hl : (strB T al id x).length ≤ 70368744177664) : Calls Tryz.prog 33 #[.pointer (some ⟨tB, 0, none⟩), .int .i32 (id : Int)] w0 fun e w' => e = .returned (.string ⟨(strB T al id x).toArray⟩) ∧ Below w0.heap.size w0 w' := by
  refine structureW h (fun w ax m q bs hr hb hl => ?_) hl
  unfold strB at hl ⊢
  by_cases hk : x.kind < 3 ∨ x.kind = 7
  · rw [if_pos hk] at hl ⊢
    exact fullDef h hx hk w ax m q bs hr hb hl
  · rw [if_neg hk] at hl ⊢
    exact fullAny h hx (by omega) (by omega) w ax m q bs hr hb hl
end
/-- A slice reads as these cells. -/
structure Rdg (w : World) (a : Option Addr) (n : Nat) (cs : List Value) : Prop where
  len : cs.length = n
  get : ∀ i v, cs[i]? = some v → ∃ g o, a = some ⟨g, o, none⟩ ∧ w.cell? ⟨g, o + i, none⟩ = some v
theorem Rdg.at {w : World} {a : Option Addr} {n : Nat} {cs : List Value} (h : Rdg w a n cs) {i : Nat} {v : Value} (hv : cs[i]? = some v) : ∃ g o, a = some ⟨g, o, none⟩ ∧ w.cell? ⟨g, o + i, none⟩ = some v := h.get i v hv
theorem Rdg.of {w w' : World} {a : Option Addr} {n : Nat} {cs : List Value} (h : Rdg w a n cs) (hb : ∀ ad, a = some ad → ∀ k v, w.cell? ⟨ad.block, k, none⟩ = some v → w'.cell? ⟨ad.block, k, none⟩ = some v) : Rdg w' a n cs :=
  ⟨h.len, fun i v hv => by
    obtain ⟨g, o, h1, h2⟩ := h.get i v hv
    exact ⟨g, o, h1, hb _ h1 _ _ h2⟩⟩
section
variable {w : World} {a b : Option Addr} {n c d : Nat}
set_option maxRecDepth 100000 in
set_option maxHeartbeats 4000000 in
theorem sameBoolW {xs : List Bool} (h : Rdg w a n (xs.map fun (x : Bool) => Value.bool x)) (k : Rdg w b n (xs.map fun (x : Bool) => Value.bool x)) (hn : n ≤ 140000000000000) : Calls Tryz.prog 40 #[.slice a n c, .slice b n d] w fun e w' => e = .returned (.bool true) ∧ Hid (Below w.heap.size w w') := by
  have H := hid h
  have K := hid k
  have hl : xs.length = n := by have := h.len; rw [List.length_map] at this; exact this
  have Hl := hid hl
  clear h k hl
  go_enter Tryz.func40, Tryz.ntmps40
  go_upto_region 4 with fail
  go_loopw [13] (fun t wr => ∃ (i : Nat), t = .int .i64 (i : Int) ∧ i ≤ n ∧ Hid (Below w.heap.size w wr)) (fun t _ => n - (intOf t).toNat)
  case atStart => exact ⟨0, rfl, Nat.zero_le _, hid (Below.refl _ _)⟩
  case round =>
  obtain ⟨i, rfl, hi, HI⟩ := hrel
  by_cases hin : i < n
  rotate_left
  · have d1 : decide ((i : Int) < (n : Int)) = false := decide_eq_false (by omega)
    go_wp2
    go_ret
    exact ⟨rfl, HI⟩
  have d1 : decide ((i : Int) < (n : Int)) = true := decide_eq_true (by omega)
  have i1 : (i : Int) < (n : Int) := by omega
  obtain ⟨x, hx⟩ : ∃ x, xs[i]? = some x := ⟨_, List.getElem?_eq_getElem (by rw [Hl.out]; exact hin)⟩
  have hv : (xs.map fun (x : Bool) => Value.bool x)[i]? = some (Value.bool x) := by rw [List.getElem?_map, hx]; rfl
  obtain ⟨g1, o1, ha, c1⟩ := H.out.get i _ hv
  obtain ⟨g2, o2, hb, c2⟩ := K.out.get i _ hv
  have c1 : wr.cell? ⟨g1, o1 + i, none⟩ = some (Value.bool x) := by
    rw [keepCell _ (HI.out.block g1 (block_lt_of_cell c1))]; exact c1
  have c2 : wr.cell? ⟨g2, o2 + i, none⟩ = some (Value.bool x) := by
    rw [keepCell _ (HI.out.block g2 (block_lt_of_cell c2))]; exact c2
  have tn : (x != x) = false := by simp
  clear hx hv
  subst ha hb
  go_upto_region 6 with fail
  obtain ⟨X0, W, hT, hI⟩ := class_mk (fun w' => Drew wr w')
  have H0 : Hid (∃ y, wr.drew = W y) := hid (hI _ ⟨1, rfl⟩)
  have hne : Nonempty X0 := ⟨H0.out.choose⟩
  have HTT := hid hT
  have a1 : ∀ z, (W z).cell? ⟨g1, o1 + i, none⟩ = some (Value.bool x) := fun y => by obtain ⟨m, e⟩ := hT y; rw [e]; exact c1
  have a2 : ∀ z, (W z).cell? ⟨g2, o2 + i, none⟩ = some (Value.bool x) := fun y => by obtain ⟨m, e⟩ := hT y; rw [e]; exact c2
  clear hT hI
  refine wp_region_class W (by kernel_rfl) (by kernel_rfl) H0.out ?_
  repeat (go_big_quiet_step (fail))
  refine wpQuiet_nil ?_
  intro z
  have HD := hid (HTT.out z)
  have HB := hid ((HTT.out z).below wr.heap.size)
  have a1z := a1 z
  have a2z := a2 z
  generalize W z = w2 at HD HB a1z a2z ⊢
  clear H0 HTT a1 a2
  have HJ := hid (HI.out.trans (HB.out.mono HI.out.size))
  clear HD HB a1z a2z c1 c2 HI
  go_wp2
  exact ⟨⟨i + 1, by go_num, by omega, HJ⟩, by simp [intOf]; omega⟩
end
section
variable {w : World} {a b : Option Addr} {n c d : Nat}
set_option maxRecDepth 100000 in
set_option maxHeartbeats 4000000 in
theorem sameIdW {xs : List Nat} (h : Rdg w a n (xs.map fun (x : Nat) => Value.int .i32 (x : Int))) (k : Rdg w b n (xs.map fun (x : Nat) => Value.int .i32 (x : Int))) (hn : n ≤ 140000000000000) : Calls Tryz.prog 31 #[.slice a n c, .slice b n d] w fun e w' => e = .returned (.bool true) ∧ Hid (Below w.heap.size w w') := by
  have H := hid h
  have K := hid k
  have hl : xs.length = n := by have := h.len; rw [List.length_map] at this; exact this
  have Hl := hid hl
  clear h k hl
  go_enter Tryz.func31, Tryz.ntmps31
  go_upto_region 4 with fail
  go_loopw [13] (fun t wr => ∃ (i : Nat), t = .int .i64 (i : Int) ∧ i ≤ n ∧ Hid (Below w.heap.size w wr)) (fun t _ => n - (intOf t).toNat)
  case atStart => exact ⟨0, rfl, Nat.zero_le _, hid (Below.refl _ _)⟩
  case round =>
  obtain ⟨i, rfl, hi, HI⟩ := hrel
  by_cases hin : i < n
  rotate_left
  · have d1 : decide ((i : Int) < (n : Int)) = false := decide_eq_false (by omega)
    go_wp2
    go_ret
    exact ⟨rfl, HI⟩
  have d1 : decide ((i : Int) < (n : Int)) = true := decide_eq_true (by omega)
  have i1 : (i : Int) < (n : Int) := by omega
  obtain ⟨x, hx⟩ : ∃ x, xs[i]? = some x := ⟨_, List.getElem?_eq_getElem (by rw [Hl.out]; exact hin)⟩
  have hv : (xs.map fun (x : Nat) => Value.int .i32 (x : Int))[i]? = some (Value.int .i32 (x : Int)) := by rw [List.getElem?_map, hx]; rfl
  obtain ⟨g1, o1, ha, c1⟩ := H.out.get i _ hv
  obtain ⟨g2, o2, hb, c2⟩ := K.out.get i _ hv
  have c1 : wr.cell? ⟨g1, o1 + i, none⟩ = some (Value.int .i32 (x : Int)) := by
    rw [keepCell _ (HI.out.block g1 (block_lt_of_cell c1))]; exact c1
  have c2 : wr.cell? ⟨g2, o2 + i, none⟩ = some (Value.int .i32 (x : Int)) := by
    rw [keepCell _ (HI.out.block g2 (block_lt_of_cell c2))]; exact c2
  have tn : ((x : Int) != (x : Int)) = false := by simp
  clear hx hv
  subst ha hb
  go_upto_region 6 with fail
  obtain ⟨X0, W, hT, hI⟩ := class_mk (fun w' => Drew wr w')
  have H0 : Hid (∃ y, wr.drew = W y) := hid (hI _ ⟨1, rfl⟩)
  have hne : Nonempty X0 := ⟨H0.out.choose⟩
  have HTT := hid hT
  have a1 : ∀ z, (W z).cell? ⟨g1, o1 + i, none⟩ = some (Value.int .i32 (x : Int)) := fun y => by obtain ⟨m, e⟩ := hT y; rw [e]; exact c1
  have a2 : ∀ z, (W z).cell? ⟨g2, o2 + i, none⟩ = some (Value.int .i32 (x : Int)) := fun y => by obtain ⟨m, e⟩ := hT y; rw [e]; exact c2
  clear hT hI
  refine wp_region_class W (by kernel_rfl) (by kernel_rfl) H0.out ?_
  repeat (go_big_quiet_step (fail))
  refine wpQuiet_nil ?_
  intro z
  have HD := hid (HTT.out z)
  have HB := hid ((HTT.out z).below wr.heap.size)
  have a1z := a1 z
  have a2z := a2 z
  generalize W z = w2 at HD HB a1z a2z ⊢
  clear H0 HTT a1 a2
  have HJ := hid (HI.out.trans (HB.out.mono HI.out.size))
  clear HD HB a1z a2z c1 c2 HI
  go_wp2
  exact ⟨⟨i + 1, by go_num, by omega, HJ⟩, by simp [intOf]; omega⟩
end
section
variable {w : World} {a b : Option Addr} {n c d : Nat}
set_option maxRecDepth 100000 in
set_option maxHeartbeats 4000000 in
theorem sameByteW {xs : List UInt8} (h : Rdg w a n (xs.map fun (x : UInt8) => Value.int .u8 (x.toNat : Int))) (k : Rdg w b n (xs.map fun (x : UInt8) => Value.int .u8 (x.toNat : Int))) (hn : n ≤ 140000000000000) : Calls Tryz.prog 12 #[.slice a n c, .slice b n d] w fun e w' => e = .returned (.bool true) ∧ Hid (Below w.heap.size w w') := by
  have H := hid h
  have K := hid k
  have hl : xs.length = n := by have := h.len; rw [List.length_map] at this; exact this
  have Hl := hid hl
  clear h k hl
  go_enter Tryz.func12, Tryz.ntmps12
  go_upto_region 4 with fail
  go_loopw [13] (fun t wr => ∃ (i : Nat), t = .int .i64 (i : Int) ∧ i ≤ n ∧ Hid (Below w.heap.size w wr)) (fun t _ => n - (intOf t).toNat)
  case atStart => exact ⟨0, rfl, Nat.zero_le _, hid (Below.refl _ _)⟩
  case round =>
  obtain ⟨i, rfl, hi, HI⟩ := hrel
  by_cases hin : i < n
  rotate_left
  · have d1 : decide ((i : Int) < (n : Int)) = false := decide_eq_false (by omega)
    go_wp2
    go_ret
    exact ⟨rfl, HI⟩
  have d1 : decide ((i : Int) < (n : Int)) = true := decide_eq_true (by omega)
  have i1 : (i : Int) < (n : Int) := by omega
  obtain ⟨x, hx⟩ : ∃ x, xs[i]? = some x := ⟨_, List.getElem?_eq_getElem (by rw [Hl.out]; exact hin)⟩
  have hv : (xs.map fun (x : UInt8) => Value.int .u8 (x.toNat : Int))[i]? = some (Value.int .u8 (x.toNat : Int)) := by rw [List.getElem?_map, hx]; rfl
  obtain ⟨g1, o1, ha, c1⟩ := H.out.get i _ hv
  obtain ⟨g2, o2, hb, c2⟩ := K.out.get i _ hv
  have c1 : wr.cell? ⟨g1, o1 + i, none⟩ = some (Value.int .u8 (x.toNat : Int)) := by
    rw [keepCell _ (HI.out.block g1 (block_lt_of_cell c1))]; exact c1
  have c2 : wr.cell? ⟨g2, o2 + i, none⟩ = some (Value.int .u8 (x.toNat : Int)) := by
    rw [keepCell _ (HI.out.block g2 (block_lt_of_cell c2))]; exact c2
  have tn : ((x.toNat : Int) != (x.toNat : Int)) = false := by simp
  clear hx hv
  subst ha hb
  go_upto_region 6 with fail
  obtain ⟨X0, W, hT, hI⟩ := class_mk (fun w' => Drew wr w')
  have H0 : Hid (∃ y, wr.drew = W y) := hid (hI _ ⟨1, rfl⟩)
  have hne : Nonempty X0 := ⟨H0.out.choose⟩
  have HTT := hid hT
  have a1 : ∀ z, (W z).cell? ⟨g1, o1 + i, none⟩ = some (Value.int .u8 (x.toNat : Int)) := fun y => by obtain ⟨m, e⟩ := hT y; rw [e]; exact c1
  have a2 : ∀ z, (W z).cell? ⟨g2, o2 + i, none⟩ = some (Value.int .u8 (x.toNat : Int)) := fun y => by obtain ⟨m, e⟩ := hT y; rw [e]; exact c2
  clear hT hI
  refine wp_region_class W (by kernel_rfl) (by kernel_rfl) H0.out ?_
  repeat (go_big_quiet_step (fail))
  refine wpQuiet_nil ?_
  intro z
  have HD := hid (HTT.out z)
  have HB := hid ((HTT.out z).below wr.heap.size)
  have a1z := a1 z
  have a2z := a2 z
  generalize W z = w2 at HD HB a1z a2z ⊢
  clear H0 HTT a1 a2
  have HJ := hid (HI.out.trans (HB.out.mono HI.out.size))
  clear HD HB a1z a2z c1 c2 HI
  go_wp2
  exact ⟨⟨i + 1, by go_num, by omega, HJ⟩, by simp [intOf]; omega⟩
end
end Go.Proofs.Qxb6500883aGreatDoor
