/- append in place: a block with room. -/
import Derived.Test.Qxb6500883aGreatDoorMid
import Derived.Test.Qxb6500883aGreatDoorOwn
namespace Go.Proofs.Qxb6500883aGreatDoor
open Go.RowKit
section
variable {P : Program} {w : World}
theorem Blk.setRow {g : Nat} {e : TypeId} {cs ds : List Value} (hb : Blk w g e cs) : Blk (w.setRow g ds.toArray) g e ds := by
  unfold Blk
  exact setRow_heap w g cs.toArray ds.toArray e (0, 0) hb
theorem wpList_append_blk {ops : Array Oper} {rest : List Oper} {o : Oper} {a : Act} {Q : Exit → Act → World → Prop} (hgd : o.guard = none) (s x : Operand) (t : TypeId)
    (ho : o.op = .call { callee := .builtin .append, args := #[s, x], argTypes := #[t, t] })
    (e : TypeId) (i : TypeInfo) (size : Nat) (ht : P.underlying t = some (.slice e)) (hi : P.info? e = some i) (hsize : i.size = size)
    (g n cap : Nat) (cs : List Value) (hs : a.eval s = .slice (some ⟨g, 0, none⟩) n cap) (hb : Blk w g e cs)
    (ad : Addr) (m c : Nat) (news : List Value) (hx : a.eval x = .slice (some ad) m c) (hl : news.length = m * size) (hnews : ∀ j u, news[j]? = some u → w.cell? (ad.add j) = some u) (h1 : ∀ u ∈ news, u.oneCell' = true)
    (hroom : n + m ≤ cap) (hfit : n * size + news.length ≤ cs.length)
    (h : ∀ w', Blk w' g e (splice cs (n * size) news) → Upd g w w' → wpList P ops Q rest (a.put o.dst (.slice (some ⟨g, 0, none⟩) (n + m) cap)) w') : wpList P ops Q (o :: rest) a w := by
  subst hsize
  refine wpList_plain hgd fun _ hK => ?_
  have hr := run_append_room (P := P) w t o.type e i ht hi g n cap cs.toArray hb ad m c news hl hnews h1 hroom (by simpa using hfit)
  unfold Oper.wp execOp
  simp only [ho, resolve, invoke, builtin, Sem.run_bind, Sem.run_pure, Result.andThen_ok, List.map_toArray, List.map_cons, List.map_nil, hs, hx, hr]
  exact hK _ _ (h _ (hb.setRow (ds := splice cs (n * i.size) news)) (Upd.setRow _))
end
end Go.Proofs.Qxb6500883aGreatDoor
