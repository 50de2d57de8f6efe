/- Span. -/
import Derived.Test.Qxb6500891aPtParse
namespace Go.Proofs.Qxb6500891a
open Go.RowKit
set_option linter.unusedSimpArgs false
set_option linter.unusedVariables false

def zSpan : List Value := [.int .u8 0, .int .u8 0, .int .u8 0, .bool false, .int .u32 0]
structure Pb (w : World) (g : Nat) (t : TypeId) (cs : List Value) (wr : World) : Prop where
  bel : Below w.heap.size w wr
  blk : Blk wr g t cs
theorem Pb.below {w wr w' : World} {g : Nat} {t : TypeId} {cs : List Value} (h : Pb w g t cs wr) (hb : Below wr.heap.size wr w') : Pb w g t cs w' := ⟨h.bel.trans (hb.mono h.bel.size), h.blk.below hb⟩
theorem slice_comp (ad : Addr) (n : Nat) (hn : n ≤ 128) (w : World) : (Instr.sliceAt 61 (.pointer (some ad)) none (some (.int .i64 (n : Int))) none).run Try.prog w = .ok (.slice (some ad) n 128) w := by
  have hal : Try.prog.arrayLen 61 = 128 := by kernel_rfl
  rw [run_sliceAt_array_h w 61 ad (by kernel_rfl) .i64 (n : Int) (by omega) (by rw [hal]; omega)]
  simp [slicedAt, hal, go_sem, Addr.add]
theorem spC_cells {cs : List Value} {o : Nat} {l : List Nat} {sp : List Sp} (h : Comps cs o l sp) {i : Nat} {s : Sp} (hi : sp[i]? = some s) {w : World} {g : Nat} {t : TypeId} (hb : Blk w g t cs) :
    w.cell? ⟨g, o + 257 + i * 5, none⟩ = some (.int .u8 (s.a : Int)) ∧ w.cell? ⟨g, o + 257 + i * 5 + 1, none⟩ = some (.int .u8 (s.b : Int)) ∧ w.cell? ⟨g, o + 257 + i * 5 + 2, none⟩ = some (.int .u8 s.cls) ∧ w.cell? ⟨g, o + 257 + i * 5 + 3, none⟩ = some (.bool s.sl) ∧
    w.cell? ⟨g, o + 257 + i * 5 + 4, none⟩ = some (.int .u32 (hashL 2166136261 (sub l s.a s.b))) := by
  have c := fun j v hv => h.cell i s hi j v hv
  refine ⟨?_, ?_, ?_, ?_, ?_⟩
  · rw [hb.cell]; exact c 0 _ rfl
  · rw [hb.cell]; exact c 1 _ rfl
  · rw [hb.cell]; exact c 2 _ rfl
  · rw [hb.cell]; exact c 3 _ rfl
  · rw [hb.cell]; exact c 4 _ rfl

set_option maxRecDepth 1000000 in
set_option maxHeartbeats 2000000 in
theorem span_walk (g o : Nat) (t : TypeId) (cs : List Value) (l : List Nat) (sp : List Sp) (w : World) (hb : Blk w g t cs) (hp : PathOk cs o l sp) (i : Nat) (s : Sp) (hi : sp[i]? = some s) :
    Calls Try.prog 20 #[.pointer (some ⟨g, o, none⟩), .int .i64 (i : Int)] w fun e w' => e = .returned (.tuple #[.int .i64 (s.a : Int), .int .i64 (s.b : Int)]) ∧ Below w.heap.size w w' := by
  have hilt : i < sp.length := (List.getElem?_eq_some_iff.1 hi).1
  have h128 := hp.n128
  have hso := hp.cp.ok s (List.mem_of_getElem? hi)
  have hb255 : s.b ≤ 255 := Nat.le_trans hso.le hp.n255
  have ha255 : s.a ≤ 255 := by have := hso.lt; omega
  have i1 : (i : Int) < (sp.length : Int) := by omega
  have HP0 : Hid (Pb w g t cs w) := hid ⟨Below.refl _ _, hb⟩
  have hsl := fun w' => slice_comp ⟨g, o + 257, none⟩ sp.length h128 w'
  have HCp := hid hp
  have Hi := hid hi
  clear hb hp hi hso
  obtain ⟨cl, hcl⟩ : ∃ cl, s.cls = cl := ⟨_, rfl⟩
  obtain ⟨H, hH⟩ : ∃ H, hashL 2166136261 (sub l s.a s.b) = H := ⟨_, rfl⟩
  go_enter Try.func20, Try.ntmps20
  go_upto_region 1 with fail
  refine wp_region_alloc (C := Pb w g t cs) (n := 11) (B := w.heap.size) (t := 60) (zs := zSpan) rfl rfl (by kernel_rfl) (by kernel_rfl) (by kernel_rfl) (by kernel_rfl) ?hr (fun _ _ h hb => h.below hb) (fun _ h => h.bel.size) HP0.out ?hx
  case hr =>
    intro a w
    simp [go_sem, zSpan]
  apply Exists.intro
  refine ⟨?_, ?_⟩
  · intro X W hne hX hI
    have c256 : ∀ x, (W x).cell? ⟨g, o + 256, none⟩ = some (.int .i64 (sp.length : Int)) := fun x => by rw [(hX x).blk.cell]; exact HCp.out.ct
    have e0 := fun x => (spC_cells HCp.out.cp Hi.out (hX x).blk).1
    have e1 := fun x => (spC_cells HCp.out.cp Hi.out (hX x).blk).2.1
    have e2 := fun x => (spC_cells HCp.out.cp Hi.out (hX x).blk).2.2.1
    have e3 := fun x => (spC_cells HCp.out.cp Hi.out (hX x).blk).2.2.2.1
    have e4 := fun x => (spC_cells HCp.out.cp Hi.out (hX x).blk).2.2.2.2
    rw [hcl] at e2
    rw [hH] at e4
    clear hI hX
    dsimp only [List.take]
    repeat (go_big_quiet_step (fail))
    exact wpQuiet_nil rfl
  · intro q wx hg HX hbl
    dsimp only [List.drop]
    have e0 : wx.cell? ⟨q, 0, none⟩ = some (.int .u8 0) := hbl.cell 0
    have e1 : wx.cell? ⟨q, 1, none⟩ = some (.int .u8 0) := hbl.cell 1
    have e2 : wx.cell? ⟨q, 2, none⟩ = some (.int .u8 0) := hbl.cell 2
    have e3 : wx.cell? ⟨q, 3, none⟩ = some (.bool false) := hbl.cell 3
    have e4 : wx.cell? ⟨q, 4, none⟩ = some (.int .u32 0) := hbl.cell 4
    have f0 := hbl.frozen 0
    have f1 := hbl.frozen 1
    have f2 := hbl.frozen 2
    have f3 := hbl.frozen 3
    have f4 := hbl.frozen 4
    have HB1 := hid HX.bel
    have HBl := hid hbl
    clear HX hbl hsl
    go_upto_region 2 with fail
    obtain ⟨w2, hw2⟩ : ∃ w2, ((((wx.setCell ⟨q, 0, none⟩ (.int .u8 (s.a : Int))).setCell ⟨q, 1, none⟩ (.int .u8 (s.b : Int))).setCell ⟨q, 2, none⟩ (.int .u8 cl)).setCell ⟨q, 3, none⟩ (.bool s.sl)).setCell ⟨q, 4, none⟩ (.int .u32 H) = w2 := ⟨_, rfl⟩
    have hb2 := ((((HBl.out.set 0 (.int .u8 (s.a : Int))).set 1 (.int .u8 (s.b : Int))).set 2 (.int .u8 cl)).set 3 (.bool s.sl)).set 4 (.int .u32 H)
    have hu2 : Upd q wx w2 := by rw [← hw2]; exact (((((Upd.refl q wx).setCell rfl _).setCell rfl _).setCell rfl _).setCell rfl _).setCell rfl _
    rw [hw2] at hb2
    rw [hw2]
    have g0 : w2.cell? ⟨q, 0, none⟩ = some (.int .u8 (s.a : Int)) := hb2.cell 0
    have g1 : w2.cell? ⟨q, 1, none⟩ = some (.int .u8 (s.b : Int)) := hb2.cell 1
    have HB2 : Hid (Below w.heap.size w w2) := hid (HB1.out.trans (hu2.below hg HB1.out.size))
    clear hw2 hb2 hu2 HBl e0 e1 e2 e3 e4 f0 f1 f2 f3 f4
    go_wp2_with fail
    go_quiet (fail)
    go_wp2
    exact bodyPost_ret (v := .tuple #[.int .i64 (s.a : Int), .int .i64 (s.b : Int)]) (by simp [results, Try.results20, go_sem]) rfl ⟨rfl, HB2.out.trans (Drew.below ⟨_, rfl⟩ _)⟩
end Go.Proofs.Qxb6500891a
