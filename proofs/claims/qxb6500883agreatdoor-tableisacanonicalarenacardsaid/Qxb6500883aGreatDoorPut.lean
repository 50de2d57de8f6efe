/- A struct stored into the middle of a block. -/
import Derived.Test.Qxb6500883aGreatDoorMid
namespace Go.Proofs.Qxb6500883aGreatDoor
open Go.RowKit
section
variable {P : Program} {w : World}
theorem wpList_store_at {ops : Array Oper} {rest : List Oper} {op : Oper} {a : Act} {Q : Exit → Act → World → Prop} (hgd : op.guard = none) (ty : TypeId) (x y : Operand) (ho : op.op = .store ty x y)
    (g o : Nat) (hx : a.eval x = .pointer (some ⟨g, o, none⟩)) (ds : List Value) (hy : a.eval y = .agg ds.toArray) {cs : List Value} {t : TypeId} (hb : Blk w g t cs) (hl : o + ds.length ≤ cs.length)
    (hi : (P.info? ty).map (·.size) = some ds.length) (h1 : ∀ v ∈ ds, v.oneCell' = true)
    (h : ∀ w', Hid (Blk w' g t (splice cs o ds)) → Hid (Upd g w w') → wpList P ops Q rest (a.put op.dst undef) w') : wpList P ops Q (op :: rest) a w :=
  wpList_store_mid hgd ty x y ho g o ds.toArray hx hy (hb.thereAt (by simpa using hl)) (by simpa using hi) (all_oneCell_toArray h1)
    (h _ (hid (Blk.setCells ds o hb hl)) (hid (Upd.setCells g ds o (Upd.refl g w))))
end
end Go.Proofs.Qxb6500883aGreatDoor
