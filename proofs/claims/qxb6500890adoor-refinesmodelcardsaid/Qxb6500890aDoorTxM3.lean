/- The text model: SortKeyed. -/
import Derived.Test.Qxb6500890aDoorTxS3
import Derived.OwnWalk
namespace Go.Proofs.Qxb6500890aDoor
open Go.RowKit
set_option linter.unusedSimpArgs false
set_option linter.unusedVariables false

def rtS : RK ByteArray := ⟨9, 33, 1, 16, strCell⟩
def rtK : RK Rec := ⟨49, 34, 2, 24, recCells⟩
theorem info_of {t : TypeId} {z : Value} {n b : Nat} (h : (Tryd.prog.info? t).map (fun i => (i.zero, i.size, i.bytes)) = some (some z, n, b)) (hz : z.cells.size = n) : ∃ i z, Tryd.prog.info? t = some i ∧ i.zero = some z ∧ i.size = n ∧ i.bytes = b ∧ z.cells.size = n := by
  obtain ⟨i, hi, he⟩ := Option.map_eq_some_iff.1 h
  simp only [Prod.mk.injEq] at he
  exact ⟨i, z, hi, he.1, he.2.1, he.2.2, hz⟩
theorem okS : RKok Tryd.prog rtS := ⟨Tryd.underlying33, info_of (z := .string ByteArray.empty) (by kernel_rfl) rfl, by decide, by decide, fun _ => rfl, fun x u hu => by simp [rtS, strCell] at hu; subst hu; rfl⟩
theorem okK : RKok Tryd.prog rtK := ⟨Tryd.underlying34, info_of (z := .agg #[.string ByteArray.empty, .int .i64 0]) (by kernel_rfl) rfl, by decide, by decide, fun _ => rfl, fun x u hu => by simp [rtK, recCells] at hu; rcases hu with rfl | rfl <;> rfl⟩
theorem stopHere {p : Prop} (h : True → p) : p := h trivial
theorem OwR.made0 {α : Type} (K : RK α) (w : World) : OwR K w.heap.size (w.alloc (.cells #[] K.t)) (.slice (some ⟨w.heap.size, 0, none⟩) 0 0) [] := ⟨by simp, .inr ⟨w.heap.size, 0, #[], rfl, Nat.le_refl _, (Blk.new w [] K.t), Nat.le_refl _, Nat.zero_le _, by simp, by simp⟩⟩
theorem OwR.rowK {n0 : Nat} {w : World} {v : Value} {xs : List Rec} (h : OwR rtK n0 w v xs) (hl : xs.length ≤ 140737488351232) : ∃ a n c, v = .slice a n c ∧ RowOf w 2 recCells a n c xs := ownsRow_row (by decide) (fun x => rfl) hl h
theorem OwR.rowS {n0 : Nat} {w : World} {v : Value} {xs : List ByteArray} (h : OwR rtS n0 w v xs) (hl : xs.length ≤ 140737488351232) : ∃ a n c, v = .slice a n c ∧ RowOf w 1 strCell a n c xs := ownsRow_row (by decide) (fun x => rfl) hl h
theorem cutK_run {a : Option Addr} {n m q : Nat} (ha : (a = none ∧ q = 0) ∨ ∃ g, a = some ⟨g, 0, none⟩) (hm : m ≤ q) : ∀ wx : World, (Instr.slice 34 (.slice a n q) none (some (.int .i64 (m : Int))) none).run Tryd.prog wx = .ok (.slice a m q) wx := fun wx => by
  have ht : Tryd.prog.underlying 34 = some (.slice (Tryd.prog.elem 34)) := by kernel_rfl
  have e2 : Tryd.prog.elem 34 = 49 := by kernel_rfl
  have e3 : (sizeOf 49).run Tryd.prog wx = .ok 2 wx := by
    obtain ⟨i0, hi0, _, hz1, _⟩ := info_partsK
    simp [sizeOf, typeInfo, hi0, hz1]
  rw [run_slice_h wx 34 a n q ht .i64 (m : Int) (by omega) (by omega), e2, e3]
  simp only [Result.andThen_ok, sliced, Int.toNat_natCast, Nat.sub_zero, Nat.zero_mul]
  rcases ha with ⟨rfl, rfl⟩ | ⟨g, rfl⟩
  · simp
  · have ea : (⟨g, 0, none⟩ : Addr).add 0 = ⟨g, 0, none⟩ := rfl
    simp [ea]
def tlK (a : Option Addr) (n q : Nat) : Option Addr := if q = n then a else a.map (·.add (n * 2))
theorem tailK_run {a : Option Addr} {n k m q : Nat} (hm : n + k = m) : ∀ wx : World, (Instr.slice 34 (.slice a m q) (some (.int .i64 (n : Int))) none none).run Tryd.prog wx = .ok (.slice (tlK a n q) k (q - n)) wx := fun wx => by
  have ht : Tryd.prog.underlying 34 = some (.slice (Tryd.prog.elem 34)) := by kernel_rfl
  have e2 : Tryd.prog.elem 34 = 49 := by kernel_rfl
  have e3 : (sizeOf 49).run Tryd.prog wx = .ok 2 wx := by
    obtain ⟨i0, hi0, _, hz1, _⟩ := info_partsK
    simp [sizeOf, typeInfo, hi0, hz1]
  rw [run_slice_l wx 34 a m q ht .i64 (n : Int) (by omega) (by omega), e2, e3]
  simp only [Result.andThen_ok, sliced, Int.toNat_natCast, tlK]
  rw [show m - n = k by omega]
theorem ins_split {α : Type} {lt : α → α → Bool} (x : α) : ∀ (l : List α) (j : Nat), (∀ y ∈ l.take j, lt x y = false) → (∀ y, l[j]? = some y → lt x y = true) → l.take j ++ x :: l.drop j = ins lt x l
  | [], j, _, _ => by simp [ins]
  | y :: l, 0, _, h => by
    have := h y (by simp)
    simp [ins, this]
  | y :: l, j + 1, h1, h2 => by
    have hy := h1 y (by simp)
    rw [List.take_succ_cons, List.drop_succ_cons, List.cons_append, ins_split x l j (fun z hz => h1 z (by simp [hz])) (fun z hz => h2 z (by simpa using hz)), ins, if_neg (by simp [hy])]
theorem str_leq (x y : ByteArray) : (Op.bytesLess y.toList x.toList || y.toList == x.toList) = !(ltS x y) := by
  have e := cmp_neg y.data.toList x.data.toList
  have z := cmp_zero y.data.toList x.data.toList
  rw [bytesLess_cmp, ByteArray.toList_eq, ByteArray.toList_eq]
  unfold ltS
  by_cases h1 : cmpL y.data.toList x.data.toList = 0
  · have h2 : y.data.toList = x.data.toList := z.1 h1
    rw [h2] at e ⊢
    simp
    rw [h2] at h1
    omega
  · have h3 : (y.data.toList == x.data.toList) = false := by rw [beq_eq_false_iff_ne]; exact fun hc => h1 (z.2 hc)
    rw [h3, Bool.or_false, ← decide_not]
    exact decide_eq_decide.2 (by omega)
section
variable {w w' : World} {n0 n1 : Nat} {a : Option Addr} {n q : Nat} {xs : List Rec}
theorem OwR.shp (h : OwR rtK n0 w (.slice a n q) xs) : ((a = none ∧ q = 0) ∨ ∃ g, a = some ⟨g, 0, none⟩) ∧ n ≤ q ∧ xs.length = n := by
  rcases h.2 with ⟨h0, h1⟩ | ⟨g, cap, cur, h0, h1, h2, h3, _⟩
  · injection h0 with e1 e2 e3
    exact ⟨.inl ⟨e1, e3⟩, by omega, by omega⟩
  · injection h0 with e1 e2 e3
    subst e3
    exact ⟨.inr ⟨g, e1⟩, by omega, by omega⟩
/-- All cells of an own row, wherever what lies below n1 has stayed. -/
theorem OwR.cellsAt (h : OwR rtK n0 w (.slice a n q) xs) (hb : Below n1 w w') (hl : ∀ g, (Value.slice a n q).ownBlock = some g → g < n1) {g : Nat} (ha : a = some ⟨g, 0, none⟩) (j : Nat) (u : Value) (hu : (xs.flatMap recCells)[j]? = some u) : w'.cell? ⟨g, j, none⟩ = some u := by
  have hg : g < n1 := hl g (by rw [ha]; rfl)
  have h1 := h.rx.src.1 ⟨g, 0, none⟩ ha j u hu
  have ea : (⟨g, 0, none⟩ : Addr).add j = ⟨g, 0 + j, none⟩ := by unfold Addr.add; split <;> simp_all
  rw [ea, Nat.zero_add] at h1
  rw [hb.cell hg]
  exact h1
end
end Go.Proofs.Qxb6500890aDoor
