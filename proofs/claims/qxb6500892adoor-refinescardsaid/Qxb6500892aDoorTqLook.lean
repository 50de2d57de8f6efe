/- Entry, Config, Where, newReal. -/
import Derived.Test.Qxb6500892aDoorTqOps
namespace Go.Proofs.Qxb6500892aDoor
open Go.RowKit
set_option linter.unusedSimpArgs false
set_option linter.unusedVariables false

def lv (s : ES) (i : Nat) : Bool := decide (s.whr i ≠ 0)
def enC (s : ES) (i : Nat) : Nat → Value
  | 0 => .int .i64 (if lv s i = true then (i : Int) else 0)
  | 1 => .int .u64 (if lv s i = true then (s.key i : Int) else 0)
  | 2 => .int .i64 (if lv s i = true then s.pin i else 0)
  | _ => .bool (if lv s i = true then s.neg i else false)
theorem info_ent : AggOf Tryd.prog 64 4 := AggOf.struct Tryd.underlying64 (by kernel_rfl)
theorem info_cfg : AggOf Tryd.prog 31 4 := AggOf.struct Tryd.underlying31 (by kernel_rfl)
section
variable {e gn gb : Nat} {w0 : World} {s : ES} {L C : Nat → List Nat} {w : World}
set_option maxRecDepth 100000 in
set_option maxHeartbeats 1000000 in
theorem config_walk (hE : EM e gn gb s w) :
    Calls Tryd.prog 18 #[.pointer (some ⟨e, 0, none⟩)] w fun y w' => y = .returned (.agg #[.int .i64 (s.slots : Int), .int .i64 (s.kin : Int), .int .i64 (s.kout : Int), .int .i64 (s.kneg : Int)]) ∧ Below w.heap.size w w' := by
  obtain ⟨p, hp⟩ : ∃ p, w.heap.size = p := ⟨_, rfl⟩
  have hlt := hE.eb.lt
  have hpe : p ≠ e := by omega
  have hep : e ≠ p := by omega
  obtain ⟨w1, hw1⟩ : ∃ w1, w.alloc (.cells #[.int .i64 0, .int .i64 0, .int .i64 0, .int .i64 0] 31) = w1 := ⟨_, rfl⟩
  have HB1 : Hid (Below w.heap.size w w1) := hid (hw1 ▸ nbel w _)
  have hE1 := hE.below HB1.out
  have b0 : Blk w1 p 31 [.int .i64 0, .int .i64 0, .int .i64 0, .int .i64 0] := by rw [← hw1, ← hp]; exact Blk.new w _ _
  have c0 := hE1.slots
  have c1 := hE1.kin
  have c2 := hE1.kout
  have c3 := hE1.kneg
  have b1 := b0.set 0 (.int .i64 (s.slots : Int))
  have b2 := b1.set 1 (.int .i64 (s.kin : Int))
  have b3 := b2.set 2 (.int .i64 (s.kout : Int))
  have HB4 := hid (b3.set 3 (.int .i64 (s.kneg : Int)))
  have HBe : Hid (Below w.heap.size w ((((w1.setCell ⟨p, 0, none⟩ (.int .i64 (s.slots : Int))).setCell ⟨p, 1, none⟩ (.int .i64 (s.kin : Int))).setCell ⟨p, 2, none⟩ (.int .i64 (s.kout : Int))).setCell ⟨p, 3, none⟩ (.int .i64 (s.kneg : Int)))) := hid (HB1.out.trans (((((Upd.refl p w1).setCell rfl _).setCell rfl _).setCell rfl _).setCell rfl _ |>.below (by omega) HB1.out.size))
  have f0 := b0.frozen 0
  have f1 := b1.frozen 1
  have f2 := b2.frozen 2
  have f3 := b3.frozen 3
  have z0 := b0.cell 0
  have z1 := b1.cell 1
  have z2 := b2.cell 2
  have z3 := b3.cell 3
  simp only [List.set_cons_zero, List.set_cons_succ, List.getElem?_cons_zero, List.getElem?_cons_succ] at z0 z1 z2 z3
  have I := hid info_cfg
  clear b0 b1 b2 b3 hE1
  go_enter Tryd.func18, Tryd.ntmps18
  go_upto_region 1 with fail
  try simp only [hw1]
  clear hw1 hE
  go_wp2
  refine bodyPost_ret (results_blk (cs := [.int .i64 (s.slots : Int), .int .i64 (s.kin : Int), .int .i64 (s.kout : Int), .int .i64 (s.kneg : Int)]) Tryd.results18 rfl I.out HB4.out) rfl ?_
  exact ⟨rfl, HBe.out⟩
set_option maxRecDepth 100000 in
set_option maxHeartbeats 1000000 in
theorem entry_walk (h : EE e gn gb w0 s L C w) {i : Nat} (hi : i < s.slots) (hpb : s.pin i ≤ 1000000) :
    Calls Tryd.prog 21 #[.pointer (some ⟨e, 0, none⟩), .int .i64 (i : Int)] w fun y w' => y = .returned (.tuple #[.agg #[enC s i 0, enC s i 1, enC s i 2, enC s i 3], .bool (lv s i)]) ∧ Below w.heap.size w w' := by
  have hE := h.em
  have hn := h.ei.sn
  have hin : i < s.n := by omega
  obtain ⟨p, hp⟩ : ∃ p, w.heap.size = p := ⟨_, rfl⟩
  have hlt := hE.nb.lt
  have hgp : gn ≠ p := by omega
  have hpg : p ≠ gn := by omega
  obtain ⟨w1, hw1⟩ : ∃ w1, w.alloc (.cells #[.int .i64 0, .int .u64 0, .int .i64 0, .bool false] 64) = w1 := ⟨_, rfl⟩
  have HB1 : Hid (Below w.heap.size w w1) := hid (hw1 ▸ nbel w _)
  have hE1 := hE.below HB1.out
  have b0 : Blk w1 p 64 [.int .i64 0, .int .u64 0, .int .i64 0, .bool false] := by rw [← hw1, ← hp]; exact Blk.new w _ _
  obtain ⟨v1, h1⟩ : ∃ v, s.key i = v := ⟨_, rfl⟩
  obtain ⟨v2, h2⟩ : ∃ v, s.pin i = v := ⟨_, rfl⟩
  obtain ⟨v3, h3⟩ : ∃ v, s.neg i = v := ⟨_, rfl⟩
  have HL := hid (live_walk hE1 hn (i : Int))
  have I := hid info_ent
  have hv0 := (h.ei.pn i hin).1
  rw [h2] at hv0 hpb
  have hplt := b0.lt
  by_cases hl : s.whr i = 0
  · as_aux_lemma =>
    have hlc : liveC s (i : Int) = 1 := by rw [liveC_at hi, if_pos hl]
    have hlp : liveP gn s (i : Int) = .pointer none := by unfold liveP; rw [hlc, if_neg (by omega)]
    rw [hlc, hlp] at HL
    have hlv : lv s i = false := decide_eq_false (by simpa using hl)
    have HR : Hid (enC s i 0 = .int .i64 0 ∧ enC s i 1 = .int .u64 0 ∧ enC s i 2 = .int .i64 0 ∧ enC s i 3 = .bool false ∧ lv s i = false) := hid ⟨by simp [enC, hlv], by simp [enC, hlv], by simp [enC, hlv], by simp [enC, hlv], hlv⟩
    have b1 := b0.set 0 (.int .i64 0)
    have b2 := b1.set 1 (.int .u64 0)
    have b3 := b2.set 2 (.int .i64 0)
    have HB4 := hid (b3.set 3 (.bool false))
    have HBe : Hid (Below w.heap.size w ((((w1.setCell ⟨p, 0, none⟩ (.int .i64 0)).setCell ⟨p, 1, none⟩ (.int .u64 0)).setCell ⟨p, 2, none⟩ (.int .i64 0)).setCell ⟨p, 3, none⟩ (.bool false))) := hid (HB1.out.trans (((((Upd.refl p w1).setCell rfl _).setCell rfl _).setCell rfl _).setCell rfl _ |>.below (by omega) HB1.out.size))
    have f0 := b0.frozen 0
    have f1 := b1.frozen 1
    have f2 := b2.frozen 2
    have f3 := b3.frozen 3
    have z0 := b0.cell 0
    have z1 := b1.cell 1
    have z2 := b2.cell 2
    have z3 := b3.cell 3
    simp only [List.set_cons_zero, List.set_cons_succ, List.getElem?_cons_zero, List.getElem?_cons_succ] at z0 z1 z2 z3
    clear b0 b1 b2 b3 hE1 h hE hl hlc hlp hlv h1 h2 h3
    go_enter Tryd.func21, Tryd.ntmps21
    go_upto_region 1 with fail
    try simp only [hw1]
    clear hw1
    go_wp2_with fail
    refine HL.out.mono ?_
    rintro y w2 ⟨rfl, hw2⟩
    have hw2' := hw2.symm
    clear hw2
    subst hw2'
    go_wp2
    refine bodyPost_ret (results_cell_tmp (cs := [.int .i64 0, .int .u64 0, .int .i64 0, .bool false]) Tryd.results21 rfl I.out HB4.out) rfl ?_
    obtain ⟨a1, a2, a3, a4, a5⟩ := HR.out
    exact ⟨by rw [a1, a2, a3, a4, a5]; rfl, HBe.out⟩
  · as_aux_lemma =>
    have hlc : liveC s (i : Int) = 0 := by rw [liveC_at hi, if_neg hl]
    have hlp : liveP gn s (i : Int) = .pointer (some ⟨gn, i * 7, none⟩) := by unfold liveP; rw [hlc, if_pos rfl, Int.toNat_natCast]
    rw [hlc, hlp] at HL
    have hlv : lv s i = true := decide_eq_true hl
    have HR : Hid (enC s i 0 = .int .i64 (i : Int) ∧ enC s i 1 = .int .u64 (v1 : Int) ∧ enC s i 2 = .int .i64 v2 ∧ enC s i 3 = .bool v3 ∧ lv s i = true) := hid ⟨by simp [enC, hlv], by simp [enC, hlv, h1], by simp [enC, hlv, h2], by simp [enC, hlv, h3], hlv⟩
    have HS0 : Hid (w1.cell? ⟨gn, i * 7 + 4, none⟩ = some (.int .u64 (v1 : Int)) ∧ w1.cell? ⟨gn, i * 7 + 3, none⟩ = some (.int .i32 v2) ∧ w1.cell? ⟨gn, i * 7 + 6, none⟩ = some (.bool v3)) := hid ⟨by rw [← h1]; exact hE1.key hin, by rw [← h2]; exact hE1.pin hin, by rw [← h3]; exact hE1.neg hin⟩
    have hw64 : wrap64 v2 = v2 := by unfold wrap64; omega
    have hw64b : IntKind.i64.wrap v2 = v2 := by rw [IntKind.wrap_i64]; omega
    have HB0 := hid b0
    clear b0 hE1 h hE hl hlc hlp hlv h1 h2 h3
    go_enter Tryd.func21, Tryd.ntmps21
    go_upto_region 1 with fail
    try simp only [hw1]
    clear hw1
    go_wp2_with fail
    refine HL.out.mono ?_
    rintro y w2 ⟨rfl, hw2⟩
    have hw2' := hw2.symm
    clear hw2
    subst hw2'
    go_upto_region 4 with fail
    refine wp_region_heavy (fun w' => w'.cell? ⟨gn, i * 7 + 4, none⟩ = some (.int .u64 (v1 : Int)) ∧ w'.cell? ⟨gn, i * 7 + 3, none⟩ = some (.int .i32 v2) ∧ w'.cell? ⟨gn, i * 7 + 6, none⟩ = some (.bool v3)) 15 [0, 1, 2, 3, 4, 5, 6, 7, 8, 9, 10, 11, 12, 13, 14] [] rfl (by kernel_rfl) (by kernel_rfl) (fun d _ _ _ _ h => by cases d <;> exact h) HS0.out ?_
    apply Exists.intro
    refine ⟨?_, ?_⟩
    · intro W hW
      have d0 : ∀ u, (W u).cell? ⟨gn, i * 7 + 4, none⟩ = some (.int .u64 (v1 : Int)) := fun u => (hW u).1
      have d1 : ∀ u, (W u).cell? ⟨gn, i * 7 + 3, none⟩ = some (.int .i32 v2) := fun u => (hW u).2.1
      have d2 : ∀ u, (W u).cell? ⟨gn, i * 7 + 6, none⟩ = some (.bool v3) := fun u => (hW u).2.2
      clear hW
      simp only [List.take, opsAt, List.drop, List.cons_append, List.nil_append]
      repeat (go_big_quiet_step (fail))
      exact rfl
    simp only [List.take, List.drop, opsAt, List.cons_append, List.nil_append, wpHv]
    have b0 := HB0.out.drewN 1
    have HB1d : Hid (Below w.heap.size w (w1.drewN 1)) := hid (HB1.out.trans (Drew.below ⟨1, rfl⟩ _))
    have hw1d : w1.drew = w1.drewN 1 := rfl
    rw [hw1d]
    generalize w1.drewN 1 = w2 at HB1d b0 ⊢
    have b1 := b0.set 0 (.int .i64 (i : Int))
    have b2 := b1.set 1 (.int .u64 (v1 : Int))
    have b3 := b2.set 2 (.int .i64 v2)
    have HB4 := hid (b3.set 3 (.bool v3))
    have HBe : Hid (Below w.heap.size w ((((w2.setCell ⟨p, 0, none⟩ (.int .i64 (i : Int))).setCell ⟨p, 1, none⟩ (.int .u64 (v1 : Int))).setCell ⟨p, 2, none⟩ (.int .i64 v2)).setCell ⟨p, 3, none⟩ (.bool v3))) := hid (HB1d.out.trans (((((Upd.refl p w2).setCell rfl _).setCell rfl _).setCell rfl _).setCell rfl _ |>.below (by omega) HB1d.out.size))
    have f0 := b0.frozen 0
    have f1 := b1.frozen 1
    have f2 := b2.frozen 2
    have f3 := b3.frozen 3
    have z0 := b0.cell 0
    have z1 := b1.cell 1
    have z2 := b2.cell 2
    have z3 := b3.cell 3
    simp only [List.set_cons_zero, List.set_cons_succ, List.getElem?_cons_zero, List.getElem?_cons_succ] at z0 z1 z2 z3
    clear b0 b1 b2 b3 HS0 HB0 HB1 HL hw1d
    simp only [QN]
    go_wp2
    refine bodyPost_ret (results_cell_tmp (cs := [.int .i64 (i : Int), .int .u64 (v1 : Int), .int .i64 v2, .bool v3]) Tryd.results21 rfl I.out HB4.out) rfl ?_
    obtain ⟨a1, a2, a3, a4, a5⟩ := HR.out
    exact ⟨by rw [a1, a2, a3, a4, a5]; rfl, HBe.out⟩
end
end Go.Proofs.Qxb6500892aDoor
