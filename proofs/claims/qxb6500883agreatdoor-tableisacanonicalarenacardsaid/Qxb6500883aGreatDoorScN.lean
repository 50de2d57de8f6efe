/- newError; hexByte. -/
import Derived.Test.Qxb6500883aGreatDoorScM
namespace Go.Proofs.Qxb6500883aGreatDoor
open Go.RowKit
set_option linter.unusedSimpArgs false
set_option linter.unusedVariables false
theorem OwR.mk {α : Type} {K : RK α} {w : World} {g n0 : Nat} {xs : List α} (h : Blk w g K.t (xs.flatMap K.f)) (hl : ∀ x, (K.f x).length = K.n) (hm : xs.length ≤ maxLen) (hg : n0 ≤ g) : OwR K n0 w (.slice (some ⟨g, 0, none⟩) xs.length xs.length) xs := by
  have e := length_flatMap_const xs (fun x _ => hl x)
  refine ⟨e, .inr ⟨g, xs.length, (xs.flatMap K.f).toArray, rfl, hg, h, Nat.le_refl _, hm, ?_, ?_⟩⟩
  · rw [List.size_toArray, e]
  · show ((xs.flatMap K.f).toArray.toList).take (xs.length * K.n) = _
    rw [List.toList_toArray, ← e, List.take_length]
/-- An error's record. -/
def erC (k pos : Nat) (pl : Nat × Nat) (m : ByteArray) : List Value := [.int .u8 (k : Int), .int .i64 (pos : Int), .int .i64 (pl.1 : Int), .int .i64 (pl.2 : Int), .string m]
/-- A placed error: its words are not empty. -/
structure ErM (w : World) (q : Nat) (bs : List UInt8) (k pos : Nat) : Prop where
  e : ∃ m : ByteArray, 0 < m.size ∧ m.size ≤ 35184372088832 ∧ Blk w q 41 (erC k pos (placeP (bs.take pos)) m)
section
variable {w w' : World} {a : Option Addr} {n c : Nat} {bs : List UInt8}
theorem ErM.below {q k pos : Nat} (h : ErM w q bs k pos) (hb : Below w.heap.size w w') : ErM w' q bs k pos := by
  obtain ⟨m, h1, h2, h3⟩ := h.e
  exact ⟨m, h1, h2, h3.below hb⟩
set_option maxRecDepth 100000 in
theorem newErrorW (h : Src w a n c bs) (k pos : Nat) (m : ByteArray) (hp : pos ≤ n) (hm : 0 < m.size) (hm2 : m.size ≤ 35184372088832) : Calls Tryz.prog 141 #[.slice a n c, .int .u8 (k : Int), .int .i64 (pos : Int), .string m] w fun e w' => ∃ q, e = .returned (.pointer (some ⟨q, 0, none⟩)) ∧ w.heap.size ≤ q ∧ Hid (ErM w' q bs k pos ∧ Below w.heap.size w w') := by
  have HT := hid (newLineTableW h)
  have hl := h.len
  have hle := h.le
  clear h
  go_enter Tryz.func141, Tryz.ntmps141
  go_wp2_with fail
  refine HT.out.mono ?_
  rintro e w1 ⟨q1, rfl, H1⟩
  have HP := hid (placeW H1.out.1 hl hle pos hp)
  have HB1 := hid H1.out.2
  clear H1 HT
  go_wp2_with fail
  refine HP.out.mono ?_
  rintro e w2 ⟨rfl, hd2⟩
  have HB2 := hid (HB1.out.trans ((hd2.below w1.heap.size).mono HB1.out.size))
  clear hd2 HB1 HP
  obtain ⟨pl, hpl⟩ : ∃ pl, placeP (bs.take pos) = pl := ⟨_, rfl⟩
  rw [hpl]
  obtain ⟨q, hq⟩ : ∃ q, w2.heap.size = q := ⟨_, rfl⟩
  have HF : Hid (ErM (w2.alloc (.cells (erC k pos pl m).toArray 41)) q bs k pos ∧ Below w.heap.size w (w2.alloc (.cells (erC k pos pl m).toArray 41)) ∧ w.heap.size ≤ q) := hid (by
    have kk := Blk.new w2 (erC k pos pl m) 41
    rw [hq] at kk
    have hz := HB2.out.size
    exact ⟨⟨m, hm, hm2, by rw [hpl]; exact kk⟩, HB2.out.trans ((nbel w2 _).mono hz), by omega⟩)
  clear HB2 hpl
  unfold plV
  dsimp only [erC] at HF
  go_wp2
  go_ret
  exact ⟨q, by subst hq; rfl, HF.out.2.2, hid ⟨HF.out.1, HF.out.2.1⟩⟩
set_option maxRecDepth 100000 in
theorem hexByteW (x : Nat) (hx : x < 256) (w : World) : Calls Tryz.prog 140 #[.int .u8 (x : Int)] w fun e w' => ∃ s : ByteArray, e = .returned (.string s) ∧ s.size = 4 ∧ Hid (Below w.heap.size w w') := by
  obtain ⟨X0, W, hT, hI⟩ := class_mk (fun w' => Drew w w')
  have H0 : Hid (∃ y, w.drew = W y) := hid (hI _ ⟨1, rfl⟩)
  have hne : Nonempty X0 := ⟨H0.out.choose⟩
  have HTT := hid hT
  clear hT hI
  obtain ⟨k, hk⟩ : ∃ k, x / 16 = k := ⟨_, rfl⟩
  obtain ⟨j, hj⟩ : ∃ j, x % 16 = j := ⟨_, rfl⟩
  have hk2 : k < 16 := by omega
  have hj2 : j < 16 := by omega
  have ek : (x : Int) / 16 = (k : Int) := by omega
  have ej : (x : Int) % 16 = (j : Int) := by omega
  have hS : ∀ (i : Nat), i < 16 → ∃ v : UInt8, ∀ wz : World, (Instr.index 9 (.string ⟨#[48, 49, 50, 51, 52, 53, 54, 55, 56, 57, 97, 98, 99, 100, 101, 102]⟩) (.int .u8 (i : Int))).run Tryz.prog wz = .ok (.int .u8 (v.toNat : Int)) wz := fun i hi => by
    refine ⟨((#[48, 49, 50, 51, 52, 53, 54, 55, 56, 57, 97, 98, 99, 100, 101, 102] : Array UInt8)[i]'(by simpa using hi)), fun wz => ?_⟩
    rw [run_index_string (h := Tryz.underlying9)]
    have h1 : 0 ≤ (i : Int) ∧ (i : Int) < 16 := by omega
    rcases (by omega : i = 0 ∨ i = 1 ∨ i = 2 ∨ i = 3 ∨ i = 4 ∨ i = 5 ∨ i = 6 ∨ i = 7 ∨ i = 8 ∨ i = 9 ∨ i = 10 ∨ i = 11 ∨ i = 12 ∨ i = 13 ∨ i = 14 ∨ i = 15) with rfl | rfl | rfl | rfl | rfl | rfl | rfl | rfl | rfl | rfl | rfl | rfl | rfl | rfl | rfl | rfl <;> rfl
  obtain ⟨v1, hv1⟩ := hS k hk2
  obtain ⟨v2, hv2⟩ := hS j hj2
  clear hS
  go_enter Tryz.func140, Tryz.ntmps140
  go_upto_region 1 with fail
  refine wp_region_class_tailT W 6 (by kernel_rfl) (by kernel_rfl) (by kernel_rfl) H0.out ?_
  dsimp only [List.take, List.drop]
  repeat (go_big_quiet_step (fail))
  refine wpQuiet_nil ?_
  intro z
  have HZ := hid (HTT.out z)
  generalize W z = wz at HZ ⊢
  clear H0 HTT hv1 hv2
  obtain ⟨p, hp⟩ : ∃ p, wz.heap.size = p := ⟨_, rfl⟩
  obtain ⟨w2, hw2⟩ : ∃ w2, wz.alloc (.cells #[.int .u8 48, .int .u8 120, .int .u8 (v1.toNat : Int), .int .u8 (v2.toNat : Int)] 5) = w2 := ⟨_, rfl⟩
  have HB : Hid (Below w.heap.size w w2) := hid (by rw [← hw2]; exact (HZ.out.below _).trans ((nbel wz _).mono (HZ.out.below w.heap.size).size))
  have hcv : (convert 28 9 (.slice (some ⟨p, 0, none⟩) 4 4)).run Tryz.prog w2 = .ok (.string ⟨#[48, 120, v1, v2]⟩) w2 := by
    have kk := Blk.new wz [.int .u8 48, .int .u8 120, .int .u8 (v1.toNat : Int), .int .u8 (v2.toNat : Int)] 5
    rw [hp] at kk
    rw [← hw2]
    exact (OwR.mk (K := rtB) (xs := [48, 120, v1, v2]) (n0 := 0) kk (fun _ => rfl) (show 4 ≤ maxLen by decide) (Nat.zero_le _)).str
  go_wp2
  go_ret
  exact ⟨_, rfl, rfl, HB⟩
end
end Go.Proofs.Qxb6500883aGreatDoor
