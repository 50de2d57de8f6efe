/- The heap: Shape, LoadRef, StoreRef, LoadData, StoreData, Depth, PopRoot, PushRoot. -/
import Derived.Test.Qxb6500889aDoorMuH1
import Derived.Test.Qxb6500889aDoorHeavy
namespace Go.Proofs.Qxb6500889aDoor
open Go.RowKit
set_option linter.unusedSimpArgs false
set_option linter.unusedVariables false

section
variable {w : World} {ρ : Rl} {L : HL} {H : HS}
theorem und_addr : Tryd.prog.underlying 50 = some (.int .u64) := Tryd.underlying50
theorem HM.look (h : HM w ρ L H) {a : Nat} {x : Ob} (hx : H.objs a = some x) : (Instr.lookup 78 (.map (some L.mO)) (.int .u64 (a : Int)) false).run Tryd.prog w = .ok (.pointer (some ⟨L.ob a, 0, none⟩)) w := by
  obtain ⟨E, h1, h2, h3⟩ := h.mo
  obtain ⟨e, he, rfl⟩ := (h3 a).2 (by rw [hx]; rfl)
  have := h1.look Tryd.underlying78 und_addr he
  rw [h2 e he] at this
  exact this
theorem aC_get {l : List Nat} {i x : Nat} (h : l[i]? = some x) : (aC l)[i]? = some (.int .u64 (x : Int)) := by unfold aC; rw [List.getElem?_map, h]; rfl
theorem aC_len (l : List Nat) : (aC l).length = l.length := by simp [aC]
theorem aC_set (l : List Nat) (i x : Nat) : (aC l).set i (.int .u64 (x : Int)) = aC (l.set i x) := by unfold aC; rw [List.map_set]
set_option maxRecDepth 1000000 in
set_option maxHeartbeats 2000000 in
theorem shape_walk (h : HM w ρ L H) {a : Nat} {x : Ob} (hx : H.objs a = some x) :
    Calls Tryd.prog 24 #[.pointer (some ⟨L.hB, 0, none⟩), .int .u64 (a : Int)] w fun e w' => e = .returned (.tuple #[.int .i64 (x.refs.length : Int), .int .i64 (x.data.length : Int)]) ∧ Below w.heap.size w w' := by
  have c0 := h.cells.1
  have hlk := h.look hx
  have ho := (h.o a x hx).o
  have hsz := (h.o a x hx).sz
  obtain ⟨X, W, hT, hI⟩ := class_mk (fun w' => Drew w w')
  have o0 : ∀ y, (W y).cell? ⟨L.ob a, 0, none⟩ = some (.slice (some ⟨L.rb a, 0, none⟩) x.refs.length x.refs.length) := fun y => (ho.drew (hT y)).cell 0
  have o1 : ∀ y, (W y).cell? ⟨L.ob a, 1, none⟩ = some (.slice (some ⟨L.db a, 0, none⟩) x.data.length x.data.length) := fun y => (ho.drew (hT y)).cell 1
  have H0 : Hid (∃ y, w.drew = W y) := hid (hI _ ⟨1, rfl⟩)
  have hne : Nonempty X := ⟨H0.out.choose⟩
  have HTT := hid hT
  obtain ⟨n, hn⟩ : ∃ n, x.refs.length = n := ⟨_, rfl⟩
  obtain ⟨k, hk⟩ : ∃ k, x.data.length = k := ⟨_, rfl⟩
  rw [hn] at o0 hsz
  rw [hk] at o1 hsz
  rw [hn, hk]
  generalize L.hB = hB at *
  generalize L.mO = mO at *
  generalize L.ob a = oB at *
  generalize L.rb a = rB at *
  generalize L.db a = dB at *
  clear h hx ho hT hI hn hk
  go_enter Tryd.func24, Tryd.ntmps24
  go_upto_region 2 with fail
  refine wp_region_class W (by kernel_rfl) (by kernel_rfl) H0.out ?_
  repeat (go_big_quiet_step (fail))
  refine wpQuiet_nil ?_
  intro z
  have HZ := hid (HTT.out z)
  generalize W z = wz at HZ ⊢
  go_wp2_with fail
  exact bodyPost_ret (v := .tuple #[.int .i64 (n : Int), .int .i64 (k : Int)]) (by simp [results, Tryd.results24, go_sem]) rfl ⟨rfl, Drew.below HZ.out _⟩
set_option maxRecDepth 1000000 in
set_option maxHeartbeats 2000000 in
theorem loadRef_walk (h : HM w ρ L H) {a : Nat} {x : Ob} (hx : H.objs a = some x) {i v : Nat} (hv : x.refs[i]? = some v) :
    Calls Tryd.prog 69 #[.pointer (some ⟨L.hB, 0, none⟩), .int .u64 (a : Int), .int .i64 (i : Int)] w fun e w' => e = .returned (.int .u64 (v : Int)) ∧ w' = w := by
  have c0 := h.cells.1
  have hlk := h.look hx
  have ho := h.o a x hx
  have hsz := ho.sz
  have hi := (List.getElem?_eq_some_iff.1 hv).1
  have o0 : w.cell? ⟨L.ob a, 0, none⟩ = some (.slice (some ⟨L.rb a, 0, none⟩) x.refs.length x.refs.length) := ho.o.cell 0
  have o1 : w.cell? ⟨L.rb a, i, none⟩ = some (.int .u64 (v : Int)) := by rw [ho.r.cell]; exact aC_get hv
  generalize x.refs.length = n at *
  generalize L.hB = hB at *
  generalize L.mO = mO at *
  generalize L.ob a = oB at *
  generalize L.rb a = rB at *
  have i1 : (i : Int) < (n : Int) := by omega
  clear h hx ho hv
  go_enter Tryd.func69, Tryd.ntmps69
  go_wp2
  go_ret
  exact ⟨rfl, rfl⟩
set_option maxRecDepth 1000000 in
set_option maxHeartbeats 2000000 in
theorem loadData_walk (h : HM w ρ L H) {a : Nat} {x : Ob} (hx : H.objs a = some x) {i v : Nat} (hv : x.data[i]? = some v) :
    Calls Tryd.prog 72 #[.pointer (some ⟨L.hB, 0, none⟩), .int .u64 (a : Int), .int .i64 (i : Int)] w fun e w' => e = .returned (.int .u64 (v : Int)) ∧ w' = w := by
  have c0 := h.cells.1
  have hlk := h.look hx
  have ho := h.o a x hx
  have hsz := ho.sz
  have hi := (List.getElem?_eq_some_iff.1 hv).1
  have o0 : w.cell? ⟨L.ob a, 1, none⟩ = some (.slice (some ⟨L.db a, 0, none⟩) x.data.length x.data.length) := ho.o.cell 1
  have o1 : w.cell? ⟨L.db a, i, none⟩ = some (.int .u64 (v : Int)) := by rw [ho.d.cell]; exact aC_get hv
  generalize x.data.length = n at *
  generalize L.hB = hB at *
  generalize L.mO = mO at *
  generalize L.ob a = oB at *
  generalize L.db a = rB at *
  have i1 : (i : Int) < (n : Int) := by omega
  clear h hx ho hv
  go_enter Tryd.func72, Tryd.ntmps72
  go_wp2
  go_ret
  exact ⟨rfl, rfl⟩
theorem ObM.setR {a : Nat} {x : Ob} (h : ObM w ρ L a x) (i v : Nat) : ObM (w.setCell ⟨L.rb a, i, none⟩ (.int .u64 (v : Int))) ρ L a { x with refs := x.refs.set i v } := by
  have hu : Upd (L.rb a) w (w.setCell ⟨L.rb a, i, none⟩ (.int .u64 (v : Int))) := (Upd.refl (L.rb a) w).setCell (p := ⟨L.rb a, i, none⟩) rfl _
  refine ⟨?_, by have := h.r.set i (.int .u64 (v : Int)); rw [aC_set] at this; exact this, h.d.upd hu (fun e => by have := h.rr; have := h.rd; rw [e] at this; omega), h.ro, h.rr, h.rd, ?_⟩
  · have := h.o.upd hu (fun e => by have := h.rr; have := h.ro; rw [e] at this; omega)
    show Blk _ _ _ [.slice _ (x.refs.set i v).length (x.refs.set i v).length, _]
    rw [List.length_set]
    exact this
  · show (x.refs.set i v).length + _ ≤ _
    rw [List.length_set]
    exact h.sz
theorem ObM.setD {a : Nat} {x : Ob} (h : ObM w ρ L a x) (i v : Nat) : ObM (w.setCell ⟨L.db a, i, none⟩ (.int .u64 (v : Int))) ρ L a { x with data := x.data.set i v } := by
  have hu : Upd (L.db a) w (w.setCell ⟨L.db a, i, none⟩ (.int .u64 (v : Int))) := (Upd.refl (L.db a) w).setCell (p := ⟨L.db a, i, none⟩) rfl _
  refine ⟨?_, h.r.upd hu (fun e => by have := h.rr; have := h.rd; rw [← e] at this; omega), by have := h.d.set i (.int .u64 (v : Int)); rw [aC_set] at this; exact this, h.ro, h.rr, h.rd, ?_⟩
  · have := h.o.upd hu (fun e => by have := h.rd; have := h.ro; rw [e] at this; omega)
    show Blk _ _ _ [_, .slice _ (x.data.set i v).length (x.data.set i v).length]
    rw [List.length_set]
    exact this
  · show _ + (x.data.set i v).length ≤ _
    rw [List.length_set]
    exact h.sz
set_option maxRecDepth 1000000 in
set_option maxHeartbeats 2000000 in
theorem storeRef_walk (h : HM w ρ L H) {a : Nat} {x : Ob} (hx : H.objs a = some x) {i : Nat} (hi : i < x.refs.length) (v : Nat) :
    Calls Tryd.prog 71 #[.pointer (some ⟨L.hB, 0, none⟩), .int .u64 (a : Int), .int .i64 (i : Int), .int .u64 (v : Int)] w fun e w' => e = .returned (.tuple #[]) ∧ HM w' ρ L { H with objs := fup H.objs a (some { x with refs := x.refs.set i v }) } ∧ Fr ρ w ρ w' := by
  have c0 := h.cells.1
  have hlk := h.look hx
  have ho := h.o a x hx
  have hsz := ho.sz
  have o0 : w.cell? ⟨L.ob a, 0, none⟩ = some (.slice (some ⟨L.rb a, 0, none⟩) x.refs.length x.refs.length) := ho.o.cell 0
  obtain ⟨v0, hv0⟩ : ∃ v0, x.refs[i]? = some v0 := ⟨_, List.getElem?_eq_getElem hi⟩
  have o1 : w.cell? ⟨L.rb a, i, none⟩ = some (.int .u64 (v0 : Int)) := by rw [ho.r.cell]; exact aC_get hv0
  have f1 : w.frozen? ⟨L.rb a, i, none⟩ = false := ho.r.frozen i
  have hu : Upd (L.rb a) w (w.setCell ⟨L.rb a, i, none⟩ (.int .u64 (v : Int))) := (Upd.refl (L.rb a) w).setCell (p := ⟨L.rb a, i, none⟩) rfl _
  have HF := hid (And.intro (h.setF hx hu (.inl ho.rr) (ho.setR i v)) (Fr.upd (ρ := ρ) hu (by rw [ho.rr]; omega)))
  generalize x.refs.length = n at *
  generalize L.hB = hB at *
  generalize L.mO = mO at *
  generalize L.ob a = oB at *
  generalize L.rb a = rB at *
  have i1 : (i : Int) < (n : Int) := by omega
  clear h hx ho hv0 hu
  go_enter Tryd.func71, Tryd.ntmps71
  go_wp2
  exact bodyPost_end (v := .tuple #[]) (by simp [results, Tryd.results71, go_sem]) rfl ⟨rfl, HF.out⟩
set_option maxRecDepth 1000000 in
set_option maxHeartbeats 2000000 in
theorem storeData_walk (h : HM w ρ L H) {a : Nat} {x : Ob} (hx : H.objs a = some x) {i : Nat} (hi : i < x.data.length) (v : Nat) :
    Calls Tryd.prog 73 #[.pointer (some ⟨L.hB, 0, none⟩), .int .u64 (a : Int), .int .i64 (i : Int), .int .u64 (v : Int)] w fun e w' => e = .returned (.tuple #[]) ∧ HM w' ρ L { H with objs := fup H.objs a (some { x with data := x.data.set i v }) } ∧ Fr ρ w ρ w' := by
  have c0 := h.cells.1
  have hlk := h.look hx
  have ho := h.o a x hx
  have hsz := ho.sz
  have o0 : w.cell? ⟨L.ob a, 1, none⟩ = some (.slice (some ⟨L.db a, 0, none⟩) x.data.length x.data.length) := ho.o.cell 1
  obtain ⟨v0, hv0⟩ : ∃ v0, x.data[i]? = some v0 := ⟨_, List.getElem?_eq_getElem hi⟩
  have o1 : w.cell? ⟨L.db a, i, none⟩ = some (.int .u64 (v0 : Int)) := by rw [ho.d.cell]; exact aC_get hv0
  have f1 : w.frozen? ⟨L.db a, i, none⟩ = false := ho.d.frozen i
  have hu : Upd (L.db a) w (w.setCell ⟨L.db a, i, none⟩ (.int .u64 (v : Int))) := (Upd.refl (L.db a) w).setCell (p := ⟨L.db a, i, none⟩) rfl _
  have HF := hid (And.intro (h.setF hx hu (.inr ho.rd) (ho.setD i v)) (Fr.upd (ρ := ρ) hu (by rw [ho.rd]; omega)))
  generalize x.data.length = n at *
  generalize L.hB = hB at *
  generalize L.mO = mO at *
  generalize L.ob a = oB at *
  generalize L.db a = rB at *
  have i1 : (i : Int) < (n : Int) := by omega
  clear h hx ho hv0 hu
  go_enter Tryd.func73, Tryd.ntmps73
  go_wp2
  exact bodyPost_end (v := .tuple #[]) (by simp [results, Tryd.results73, go_sem]) rfl ⟨rfl, HF.out⟩
theorem HM.rcell (h : HM w ρ L H) {m : Nat} (hm : m < 4) : w.cell? ⟨L.hB, 2 + m, none⟩ = some (L.rv m) := by
  rw [h.hb.cell]
  rcases (by omega : m = 0 ∨ m = 1 ∨ m = 2 ∨ m = 3) with rfl | rfl | rfl | rfl <;> rfl
theorem HM.ncell (h : HM w ρ L H) {m : Nat} (hm : m < 4) : w.cell? ⟨L.hB, 6 + m, none⟩ = some (.bool (H.run m)) := by
  rw [h.hb.cell]
  rcases (by omega : m = 0 ∨ m = 1 ∨ m = 2 ∨ m = 3) with rfl | rfl | rfl | rfl <;> rfl
set_option maxRecDepth 1000000 in
theorem depth_walk (h : HM w ρ L H) {m : Nat} (hm : m < 4) :
    Calls Tryd.prog 45 #[.pointer (some ⟨L.hB, 0, none⟩), .int .i64 (m : Int)] w fun e w' => e = .returned (.int .i64 ((H.roots m).length : Int)) ∧ w' = w := by
  have c0 := h.rcell hm
  obtain ⟨a, k, hv⟩ := (h.rt m hm).shape
  have hle := (h.rt m hm).le
  unfold maxLen at hle
  rw [hv] at c0
  generalize (H.roots m).length = n at *
  generalize L.hB = hB at *
  have i1 : (m : Int) < 4 := by omega
  clear h hv
  go_enter Tryd.func45, Tryd.ntmps45
  go_wp2
  go_ret
  exact ⟨rfl, rfl⟩
end
end Go.Proofs.Qxb6500889aDoor
