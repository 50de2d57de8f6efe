/- The type table in memory. -/
import Derived.Test.Qxb6500883aGreatDoorScFc
namespace Go.Proofs.Qxb6500883aGreatDoor
open Go.RowKit
set_option linter.unusedSimpArgs false
set_option linter.unusedVariables false
/-- A type's record. -/
structure TR where
  kind : Nat
  fixed : Bool
  depth : Nat
  elem : Int
  lo : Nat
  hi : Nat
  length : Nat
  name : ByteArray
  size : Nat
  mn : Nat
  mx : Nat
  chunks : Nat
/-- A field. -/
structure FD where
  name : ByteArray
  typ : Nat
/-- A declaration, resolved. -/
structure DC where
  sort : Nat
  name : ByteArray
  value : Nat
  typ : Int
def trC (x : TR) : List Value := [.int .u8 (x.kind : Int), .bool x.fixed, .int .u8 (x.depth : Int), .int .i32 x.elem, .int .i32 (x.lo : Int), .int .i32 (x.hi : Int), .int .u64 (x.length : Int), .string x.name, .int .u32 (x.size : Int), .int .u32 (x.mn : Int), .int .u32 (x.mx : Int), .int .u32 (x.chunks : Int)]
def fdC (x : FD) : List Value := [.string x.name, .int .i32 (x.typ : Int)]
def dcC (x : DC) : List Value := [.int .u8 (x.sort : Int), .string x.name, .int .u64 (x.value : Int), .int .i32 x.typ]
def rtR : RK TR := ⟨99, 88, 12, 56, trC⟩
def rtFd : RK FD := ⟨63, 60, 2, 24, fdC⟩
def rtId : RK Nat := ⟨47, 58, 1, 4, fun x => [.int .i32 (x : Int)]⟩
def rtDc : RK DC := ⟨75, 71, 4, 40, dcC⟩
theorem okR : RKok Tryz.prog rtR := ⟨Tryz.underlying88, info_of' (z := .agg #[.int .u8 0, .bool false, .int .u8 0, .int .i32 0, .int .i32 0, .int .i32 0, .int .u64 0, .string ⟨#[]⟩, .int .u32 0, .int .u32 0, .int .u32 0, .int .u32 0]) (by kernel_rfl) rfl, by decide, by decide, fun _ => rfl, fun x u hu => by
  simp only [rtR, trC, List.mem_cons, List.not_mem_nil, or_false] at hu
  rcases hu with rfl | rfl | rfl | rfl | rfl | rfl | rfl | rfl | rfl | rfl | rfl | rfl <;> rfl⟩
theorem okFd : RKok Tryz.prog rtFd := ⟨Tryz.underlying60, info_of' (z := .agg #[.string ⟨#[]⟩, .int .i32 0]) (by kernel_rfl) rfl, by decide, by decide, fun _ => rfl, fun x u hu => by
  simp only [rtFd, fdC, List.mem_cons, List.not_mem_nil, or_false] at hu
  rcases hu with rfl | rfl <;> rfl⟩
theorem okId : RKok Tryz.prog rtId := ⟨Tryz.underlying58, info_of' (z := .int .i32 0) (by kernel_rfl) rfl, by decide, by decide, fun _ => rfl, fun x u hu => by
  simp only [rtId, List.mem_cons, List.not_mem_nil, or_false] at hu
  subst hu; rfl⟩
theorem okDc : RKok Tryz.prog rtDc := ⟨Tryz.underlying71, info_of' (z := .agg #[.int .u8 0, .string ⟨#[]⟩, .int .u64 0, .int .i32 0]) (by kernel_rfl) rfl, by decide, by decide, fun _ => rfl, fun x u hu => by
  simp only [rtDc, dcC, List.mem_cons, List.not_mem_nil, or_false] at hu
  rcases hu with rfl | rfl | rfl | rfl <;> rfl⟩
/-- A shape's key. -/
structure SK where
  kind : Nat
  elem : Int
  length : Nat
deriving DecidableEq
def skV (k : SK) : Value := .agg #[.int .u8 (k.kind : Int), .int .i32 k.elem, .int .u64 (k.length : Int)]
/-- A field's key. -/
structure FK where
  cont : Int
  name : ByteArray
deriving DecidableEq
def fkV (k : FK) : Value := .agg #[.int .i32 k.cont, .string k.name]
/-- What the table holds. -/
structure TS where
  types : List TR
  flds : List FD
  opts : List Nat
  decls : List DC
/-- The table's cells. -/
structure TV where
  t : Value
  f : Value
  o : Value
  d : Value
  byN : Value
  byF : Value
  al : Value
  sh : Value
  un : Value
def tbC (V : TV) : List Value := [V.t, V.f, V.o, V.d, V.byN, V.byF, V.al, V.sh, V.un]
/-- The table in block tB (roles: 50 the block, 51 types, 52 fields, 53 options, 54 declarations). -/
structure TbM (τ : Rl) (w : World) (tB : Nat) (V : TV) (T : TS) : Prop where
  b : Blk w tB 95 (tbC V)
  rb : τ tB = 50
  t : RowX rtR w τ 51 V.t T.types
  f : RowX rtFd w τ 52 V.f T.flds
  o : RowX rtId w τ 53 V.o T.opts
  d : RowX rtDc w τ 54 V.d T.decls
section
variable {τ τ' : Rl} {w w' w1 w2 : World} {tB : Nat} {V : TV} {T : TS}
theorem TbM.fr {X : Nat → Bool} (h : TbM τ w tB V T) (hf : Fr X τ w τ' w') (hX : ∀ r, 50 ≤ r → r ≤ 54 → X r = false) : TbM τ' w' tB V T :=
  ⟨hf.keep h.b h.rb (hX 50 (by decide) (by decide)), by rw [hf.old _ h.b.lt]; exact h.rb, h.t.fr hf (hX 51 (by decide) (by decide)), h.f.fr hf (hX 52 (by decide) (by decide)), h.o.fr hf (hX 53 (by decide) (by decide)), h.d.fr hf (hX 54 (by decide) (by decide))⟩
theorem TbM.below (h : TbM τ w tB V T) (hb : Below w.heap.size w w') : TbM τ w' tB V T := h.fr (X := fun _ => false) (Fr.below hb) (fun _ _ _ => rfl)
/-- A row has grown; its slice is stored. -/
theorem TbM.appT {ys : List TR} {v' : Value} (h : TbM τ w tB V T) (hr : RowX rtR w1 τ' 51 v' (T.types ++ ys)) (hf : Fr (fun c => c == 51) τ w τ' w1) : TbM τ' (w1.setCell ⟨tB, 0, none⟩ v') tB { V with t := v' } { T with types := T.types ++ ys } ∧ Fr (fun c => c == 50 || c == 51) τ w τ' (w1.setCell ⟨tB, 0, none⟩ v') := by
  have b1 := hf.keep h.b h.rb rfl
  have r1 : τ' tB = 50 := by rw [hf.old _ h.b.lt]; exact h.rb
  have hf2 : Fr (fun c => c == 50) τ' w1 τ' (w1.setCell ⟨tB, 0, none⟩ v') := Fr.set _ (by show (τ' tB == 50) = true; rw [r1]; rfl)
  exact ⟨⟨b1.set 0 v', r1, hr.fr hf2 rfl, (h.f.fr hf rfl).fr hf2 rfl, (h.o.fr hf rfl).fr hf2 rfl, (h.d.fr hf rfl).fr hf2 rfl⟩, (hf.one rfl).trans (hf2.one rfl)⟩
theorem TbM.appF {ys : List FD} {v' : Value} (h : TbM τ w tB V T) (hr : RowX rtFd w1 τ' 52 v' (T.flds ++ ys)) (hf : Fr (fun c => c == 52) τ w τ' w1) : TbM τ' (w1.setCell ⟨tB, 1, none⟩ v') tB { V with f := v' } { T with flds := T.flds ++ ys } ∧ Fr (fun c => c == 50 || c == 52) τ w τ' (w1.setCell ⟨tB, 1, none⟩ v') := by
  have b1 := hf.keep h.b h.rb rfl
  have r1 : τ' tB = 50 := by rw [hf.old _ h.b.lt]; exact h.rb
  have hf2 : Fr (fun c => c == 50) τ' w1 τ' (w1.setCell ⟨tB, 1, none⟩ v') := Fr.set _ (by show (τ' tB == 50) = true; rw [r1]; rfl)
  exact ⟨⟨b1.set 1 v', r1, (h.t.fr hf rfl).fr hf2 rfl, hr.fr hf2 rfl, (h.o.fr hf rfl).fr hf2 rfl, (h.d.fr hf rfl).fr hf2 rfl⟩, (hf.one rfl).trans (hf2.one rfl)⟩
theorem TbM.appO {ys : List Nat} {v' : Value} (h : TbM τ w tB V T) (hr : RowX rtId w1 τ' 53 v' (T.opts ++ ys)) (hf : Fr (fun c => c == 53) τ w τ' w1) : TbM τ' (w1.setCell ⟨tB, 2, none⟩ v') tB { V with o := v' } { T with opts := T.opts ++ ys } ∧ Fr (fun c => c == 50 || c == 53) τ w τ' (w1.setCell ⟨tB, 2, none⟩ v') := by
  have b1 := hf.keep h.b h.rb rfl
  have r1 : τ' tB = 50 := by rw [hf.old _ h.b.lt]; exact h.rb
  have hf2 : Fr (fun c => c == 50) τ' w1 τ' (w1.setCell ⟨tB, 2, none⟩ v') := Fr.set _ (by show (τ' tB == 50) = true; rw [r1]; rfl)
  exact ⟨⟨b1.set 2 v', r1, (h.t.fr hf rfl).fr hf2 rfl, (h.f.fr hf rfl).fr hf2 rfl, hr.fr hf2 rfl, (h.d.fr hf rfl).fr hf2 rfl⟩, (hf.one rfl).trans (hf2.one rfl)⟩
theorem TbM.appD {ys : List DC} {v' : Value} (h : TbM τ w tB V T) (hr : RowX rtDc w1 τ' 54 v' (T.decls ++ ys)) (hf : Fr (fun c => c == 54) τ w τ' w1) : TbM τ' (w1.setCell ⟨tB, 3, none⟩ v') tB { V with d := v' } { T with decls := T.decls ++ ys } ∧ Fr (fun c => c == 50 || c == 54) τ w τ' (w1.setCell ⟨tB, 3, none⟩ v') := by
  have b1 := hf.keep h.b h.rb rfl
  have r1 : τ' tB = 50 := by rw [hf.old _ h.b.lt]; exact h.rb
  have hf2 : Fr (fun c => c == 50) τ' w1 τ' (w1.setCell ⟨tB, 3, none⟩ v') := Fr.set _ (by show (τ' tB == 50) = true; rw [r1]; rfl)
  exact ⟨⟨b1.set 3 v', r1, (h.t.fr hf rfl).fr hf2 rfl, (h.f.fr hf rfl).fr hf2 rfl, (h.o.fr hf rfl).fr hf2 rfl, hr.fr hf2 rfl⟩, (hf.one rfl).trans (hf2.one rfl)⟩
end
end Go.Proofs.Qxb6500883aGreatDoor
