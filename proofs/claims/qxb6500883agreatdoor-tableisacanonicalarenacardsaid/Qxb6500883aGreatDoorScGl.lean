/- The listed variables: punctuation, keywords, tokText, builtins, basics, landmarks (written by tools/mk_scgl.py). -/
import Derived.Test.Qxb6500883aGreatDoorScH
namespace Go.Proofs.Qxb6500883aGreatDoor
open Go.RowKit
set_option linter.unusedSimpArgs false
set_option linter.unusedVariables false

/-- punctuation -/
def puN : Nat → Nat
  | 40 => 14
  | 41 => 15
  | 42 => 18
  | 43 => 16
  | 44 => 9
  | 45 => 17
  | 47 => 19
  | 58 => 8
  | 59 => 7
  | 61 => 6
  | 91 => 10
  | 93 => 11
  | 123 => 12
  | 125 => 13
  | _ => 0
/-- keywords: 0 for no keyword. -/
def kwL : List (List UInt8 × Nat) := [([66, 105, 116, 108, 105, 115, 116], 27), ([66, 105, 116, 118, 101, 99, 116, 111, 114], 26), ([76, 105, 115, 116], 25), ([78, 111, 110, 101], 29), ([85, 110, 105, 111, 110], 28), ([86, 101, 99, 116, 111, 114], 24), ([98, 111, 111, 108, 101, 97, 110], 30), ([98, 121, 116, 101], 31), ([99, 111, 110, 115, 116], 21), ([99, 111, 110, 116, 97, 105, 110, 101, 114], 23), ([116, 121, 112, 101], 22), ([117, 105, 110, 116, 49, 50, 56], 36), ([117, 105, 110, 116, 49, 54], 33), ([117, 105, 110, 116, 50, 53, 54], 37), ([117, 105, 110, 116, 51, 50], 34), ([117, 105, 110, 116, 54, 52], 35), ([117, 105, 110, 116, 56], 32)]
def kwOf (s : ByteArray) : Nat := match kwL.find? (fun x => x.1 == s.data.toList) with | some x => x.2 | none => 0
/-- tokText -/
def ttL : List ByteArray := [⟨#[]⟩, ⟨#[]⟩, ⟨#[]⟩, ⟨#[]⟩, ⟨#[]⟩, ⟨#[]⟩, ⟨#[61]⟩, ⟨#[59]⟩, ⟨#[58]⟩, ⟨#[44]⟩, ⟨#[91]⟩, ⟨#[93]⟩, ⟨#[123]⟩, ⟨#[125]⟩, ⟨#[40]⟩, ⟨#[41]⟩, ⟨#[43]⟩, ⟨#[45]⟩, ⟨#[42]⟩, ⟨#[47]⟩, ⟨#[42, 42]⟩, ⟨#[99, 111, 110, 115, 116]⟩, ⟨#[116, 121, 112, 101]⟩, ⟨#[99, 111, 110, 116, 97, 105, 110, 101, 114]⟩, ⟨#[86, 101, 99, 116, 111, 114]⟩, ⟨#[76, 105, 115, 116]⟩, ⟨#[66, 105, 116, 118, 101, 99, 116, 111, 114]⟩, ⟨#[66, 105, 116, 108, 105, 115, 116]⟩, ⟨#[85, 110, 105, 111, 110]⟩, ⟨#[78, 111, 110, 101]⟩, ⟨#[98, 111, 111, 108, 101, 97, 110]⟩, ⟨#[98, 121, 116, 101]⟩, ⟨#[117, 105, 110, 116, 56]⟩, ⟨#[117, 105, 110, 116, 49, 54]⟩, ⟨#[117, 105, 110, 116, 51, 50]⟩, ⟨#[117, 105, 110, 116, 54, 52]⟩, ⟨#[117, 105, 110, 116, 49, 50, 56]⟩, ⟨#[117, 105, 110, 116, 50, 53, 54]⟩]
def ttS (i : Nat) : ByteArray := ttL.getD i ⟨#[]⟩
def baL : List ByteArray := [⟨#[117, 105, 110, 116, 56]⟩, ⟨#[117, 105, 110, 116, 49, 54]⟩, ⟨#[117, 105, 110, 116, 51, 50]⟩, ⟨#[117, 105, 110, 116, 54, 52]⟩, ⟨#[117, 105, 110, 116, 49, 50, 56]⟩, ⟨#[117, 105, 110, 116, 50, 53, 54]⟩, ⟨#[98, 111, 111, 108, 101, 97, 110]⟩, ⟨#[98, 121, 116, 101]⟩]
def laL : List ByteArray := [⟨#[52, 50, 57, 52, 57, 54, 55, 50, 57, 53]⟩, ⟨#[52, 50, 57, 52, 57, 54, 55, 50, 57, 54]⟩, ⟨#[52, 50, 57, 52, 57, 54, 55, 50, 57, 52]⟩, ⟨#[50, 42, 42, 51, 50]⟩, ⟨#[50, 42, 42, 51, 50, 32, 45, 32, 49]⟩, ⟨#[50, 42, 42, 51, 49]⟩, ⟨#[50, 42, 42, 51, 48]⟩, ⟨#[50, 42, 42, 50, 57]⟩, ⟨#[50, 42, 42, 50, 55]⟩, ⟨#[51, 52, 51, 53, 57, 55, 51, 56, 51, 54, 48]⟩, ⟨#[51, 52, 51, 53, 57, 55, 51, 56, 51, 53, 57]⟩, ⟨#[51, 52, 51, 53, 57, 55, 51, 56, 51, 53, 50]⟩, ⟨#[51, 52, 51, 53, 57, 55, 51, 56, 51, 53, 51]⟩, ⟨#[50, 42, 42, 51, 53]⟩, ⟨#[50, 42, 42, 52, 48]⟩, ⟨#[50, 42, 42, 54, 51]⟩, ⟨#[50, 42, 42, 54, 52, 32, 45, 32, 49]⟩, ⟨#[50, 42, 42, 54, 52]⟩, ⟨#[49, 56, 52, 52, 54, 55, 52, 52, 48, 55, 51, 55, 48, 57, 53, 53, 49, 54, 49, 53]⟩, ⟨#[49, 56, 52, 52, 54, 55, 52, 52, 48, 55, 51, 55, 48, 57, 53, 53, 49, 54, 49, 54]⟩, ⟨#[48, 120, 102, 102, 102, 102, 102, 102, 102, 102, 102, 102, 102, 102, 102, 102, 102, 102]⟩, ⟨#[48, 120, 49, 48, 48, 48, 48, 48, 48, 48, 48, 48, 48, 48, 48, 48, 48, 48, 48]⟩, ⟨#[49, 48, 55, 51, 55, 52, 49, 56, 50, 51]⟩, ⟨#[49, 48, 55, 51, 55, 52, 49, 56, 50, 52]⟩, ⟨#[56, 53, 56, 57, 57, 51, 52, 53, 57]⟩, ⟨#[56, 53, 56, 57, 57, 51, 52, 54, 48]⟩, ⟨#[53, 51, 54, 56, 55, 48, 57, 49, 49]⟩, ⟨#[53, 51, 54, 56, 55, 48, 57, 49, 50]⟩, ⟨#[50, 53, 53]⟩, ⟨#[50, 53, 54]⟩, ⟨#[50, 53, 55]⟩, ⟨#[48, 120, 49, 48, 48]⟩]
/-- A row of strings that lies below block N. -/
structure SRow (N : Nat) (g : Nat) (l : List ByteArray) (w : World) (gb go gc : Nat) : Prop where
  lt : gb < N
  c : w.cell? ⟨g, 0, none⟩ = some (.slice (some ⟨gb, go, none⟩) l.length gc)
  row : ∀ (i : Nat) (s : ByteArray), l[i]? = some s → w.cell? ⟨gb, go + i, none⟩ = some (.string s)
/-- The record of a built-in type: kind, then bits, then bytes. -/
def buC (i : Nat) : List Value :=
  let k : Int := if i = 0 then 0 else if i = 1 then 1 else 2
  let b : Int := if i < 2 then 0 else ((2 ^ (i + 1) : Nat) : Int)
  let z : Int := if i = 0 then 0 else if i = 1 then 1 else ((2 ^ (i - 2) : Nat) : Int)
  let q : Int := if i = 0 then 0 else 1
  [.int .u8 k, .bool true, .int .u8 0, .int .i32 0, .int .i32 0, .int .i32 0, .int .u64 b, .string ⟨#[]⟩, .int .u32 z, .int .u32 z, .int .u32 z, .int .u32 q]
/-- The listed variables read as they are laid; they lie below block N. -/
structure Gl (N mg : Nat) (w : World) : Prop where
  n6 : 6 ≤ N
  sz : N ≤ w.heap.size
  lm : mg < N
  pu : ∀ x : Nat, x < 256 → w.cell? ⟨2, x, none⟩ = some (.int .u8 (puN x : Int))
  bu : ∀ i : Nat, i < 8 → ∀ j : Nat, j < 12 → w.cell? ⟨3, i * 12 + j, none⟩ = (buC i)[j]?
  kw : w.cell? ⟨4, 0, none⟩ = some (.map (some mg))
  lk : ∀ wy : World, wy.heap[mg]? = w.heap[mg]? → ∀ s : ByteArray, (Instr.lookup 225 (.map (some mg)) (.string s) true).run Tryz.prog wy = .ok (.tuple #[.int .u8 (kwOf s : Int), .bool (kwOf s != 0)]) wy
  tt : ∀ i : Nat, i < 38 → w.cell? ⟨5, i, none⟩ = some (.string (ttS i))
  ba : ∃ gb go gc, SRow N 0 baL w gb go gc
  la : ∃ gb go gc, SRow N 1 laL w gb go gc
theorem SRow.below {N g : Nat} {l : List ByteArray} {w w' : World} {gb go gc : Nat} (h : SRow N g l w gb go gc) (hg : g < N) (hb : Below N w w') : SRow N g l w' gb go gc :=
  ⟨h.lt, by rw [keepCell _ (hb.block g hg)]; exact h.c, fun i s hs => by rw [keepCell _ (hb.block gb h.lt)]; exact h.row i s hs⟩
theorem Gl.below {N mg : Nat} {w w' : World} (h : Gl N mg w) (hb : Below N w w') : Gl N mg w' := by
  have h6 := h.n6
  refine ⟨h6, Nat.le_trans h.sz hb.size, h.lm, fun x hx => ?_, fun i hi j hj => ?_, ?_, fun wy hy => h.lk wy (hy.trans (hb.block mg h.lm)), fun i hi => ?_, ?_, ?_⟩
  · rw [keepCell _ (hb.block 2 (by omega))]; exact h.pu x hx
  · rw [keepCell _ (hb.block 3 (by omega))]; exact h.bu i hi j hj
  · rw [keepCell _ (hb.block 4 (by omega))]; exact h.kw
  · rw [keepCell _ (hb.block 5 (by omega))]; exact h.tt i hi
  · obtain ⟨gb, go, gc, h1⟩ := h.ba
    exact ⟨gb, go, gc, h1.below (by omega) hb⟩
  · obtain ⟨gb, go, gc, h1⟩ := h.la
    exact ⟨gb, go, gc, h1.below (by omega) hb⟩
theorem Gl.below' {N mg : Nat} {w w' : World} (h : Gl N mg w) (hb : Below w.heap.size w w') : Gl N mg w' := h.below (hb.mono h.sz)
theorem Gl.upd {N mg g : Nat} {w w' : World} (h : Gl N mg w) (hg : N ≤ g) (hu : Upd g w w') : Gl N mg w' := h.below (hu.below hg h.sz)
theorem kwOf_lt (s : ByteArray) : kwOf s < 38 := by
  unfold kwOf
  cases h : kwL.find? (fun x => x.1 == s.data.toList) with
  | none => decide
  | some x =>
    have hm := List.mem_of_find?_eq_some h
    have : ∀ y ∈ kwL, y.2 < 38 := by decide
    exact this x hm
theorem kwOf_ge (s : ByteArray) (h : kwOf s ≠ 0) : 21 ≤ kwOf s := by
  unfold kwOf at h ⊢
  cases h2 : kwL.find? (fun x => x.1 == s.data.toList) with
  | none => rw [h2] at h; exact absurd rfl h
  | some x =>
    have hm := List.mem_of_find?_eq_some h2
    have : ∀ y ∈ kwL, 21 ≤ y.2 := by decide
    exact this x hm
theorem puN_lt (x : Nat) : puN x < 20 := by
  unfold puN
  split <;> decide
end Go.Proofs.Qxb6500883aGreatDoor
