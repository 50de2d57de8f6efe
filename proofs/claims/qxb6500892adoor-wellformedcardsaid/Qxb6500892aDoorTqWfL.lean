/- WellFormed: the law. -/
import Derived.Test.Qxb6500892aDoorTqWf
namespace Go.Proofs.Qxb6500892aDoor
open Go.RowKit
set_option linter.unusedSimpArgs false
set_option linter.unusedVariables false

/-- The machine at the start of a round. -/
def VI (w0 : World) (r i : Nat) (w : World) : Prop := ∃ e gn gb s L C, RS w0 r e gn gb s L C w ∧ ∀ j, j < s.slots → s.pin j ≤ (i : Int)
theorem NewS.pinB {a b c d : Int} {s : ES} {L : Nat → List Nat} (h : NewS a b c d s L) (i : Nat) : ∀ j, j < s.slots → s.pin j ≤ (i : Int) := fun j _ => by rw [h.pin]; omega
set_option maxRecDepth 100000 in
set_option maxHeartbeats 4000000 in
theorem wellFormedLaw_walk (a : Option Addr) (n c : Nat) (l : List TOp) (w : World) (hs : Script w a n c l) (hd : Dflt w) :
    Calls Tryd.prog 4 #[.slice a n c] w fun e w' => e = .returned (.bool true) ∧ Below w.heap.size w w' := by
  have hn := hs.1.2.2.1.1
  have HSm := hid (fun w => small_walk a n c (by unfold maxLen; omega) w)
  have HS := hid hs
  have HD := hid (newReal_walk hd)
  clear hs hd
  by_cases hsm : n ≤ 65536
  rotate_left
  · as_aux_lemma =>
    rw [decide_eq_false hsm] at HSm
    go_enter Tryd.func4, Tryd.ntmps4
    go_wp2_with (go_at_call 7; refine (HSm.out _).mono ?_; rintro e w' ⟨rfl, rfl⟩)
    go_ret
    exact ⟨rfl, Below.refl _ _⟩
  rw [decide_eq_true hsm] at HSm
  go_enter Tryd.func4, Tryd.ntmps4
  go_wp2_with (go_at_call 7; refine (HSm.out _).mono ?_; rintro e w' ⟨rfl, rfl⟩)
  refine HD.out.mono ?_
  rintro y w1 ⟨r, rfl, HR⟩
  obtain ⟨e0, gn0, gb0, s0, L0, C0, h01, h02⟩ := HR.out
  have H01 := hid h01
  have H02 := hid h02
  clear h01 h02
  have HRw := hid (raw_walk H01.out.em H01.out.ei)
  have r0 : w1.cell? ⟨r, 0, none⟩ = some (.pointer (some ⟨e0, 0, none⟩)) := H01.out.rb.cell 0
  go_upto_region 4 with fail
  go_wp2_with fail
  refine HRw.out.mono ?_
  rintro y wa0 ⟨V, rfl, HV⟩
  clear r0 HRw
  obtain ⟨g, cp, hRR⟩ := RR.of H01.out.ei HV.out.2
  have HWf := hid (wellFormed_walk H01.out.ei hRR (fun j hj => by have := H02.out.pinB 0 j hj; omega))
  obtain ⟨RC, hRC⟩ : ∃ l, rwC s0 5 V = l := ⟨_, rfl⟩
  rw [hRC]
  rw [hRC] at HWf
  clear hRC hRR
  go_wp2_with fail
  refine HWf.out.mono ?_
  rintro y wb0 ⟨rfl, hbb⟩
  have HB0 : Hid (Below w1.heap.size w1 wb0) := hid (HV.out.1.trans (hbb.mono HV.out.1.size))
  clear hbb HWf HV
  have HLI : Hid (VI w' r 0 wb0) := hid ⟨e0, gn0, gb0, s0, L0, C0, H01.out.below HB0.out, H02.out.pinB 0⟩
  clear HR HD HSm HB0 H01 H02
  go_upto_region 7 with fail
  go_loopw [19] (fun v wr => ∃ i : Nat, i ≤ n ∧ v = .int .i64 (i : Int) ∧ Hid (VI w' r i wr)) (fun v _ => n - (intOf v).toNat)
  case atStart => exact ⟨0, by omega, rfl, HLI⟩
  case round =>
  clear HLI
  obtain ⟨i, hi, rfl, HLI⟩ := hrel
  obtain ⟨e, gn, gb, s, L, C, hrs, hpb⟩ := HLI.out
  have HRS := hid hrs
  have HPB := hid hpb
  clear hrs hpb HLI
  obtain ⟨wo, hwo⟩ : ∃ wo, wo = wr := ⟨_, rfl⟩
  subst hwo
  by_cases hin : i < n
  rotate_left
  · as_aux_lemma =>
    have di : decide ((i : Int) < (n : Int)) = false := decide_eq_false (by omega)
    go_wp2
    go_ret
    exact ⟨rfl, HRS.out.bel⟩
  have di : decide ((i : Int) < (n : Int)) = true := decide_eq_true (by omega)
  have hii : (i : Int) < (n : Int) := by omega
  obtain ⟨o, ho, hok, b, off, rfl, hb, c0, c1, c2, c3, c4, c5, c6, c7⟩ := (HS.out.below HRS.out.bel).at hin
  have HOk := hid hok
  have Ho := hid ho
  clear ho hok
  obtain ⟨ob, hob⟩ : ∃ p, wo.heap.size = p := ⟨_, rfl⟩
  go_upto_region 9 with fail
  obtain ⟨w2, hw2⟩ : ∃ w2, wo.alloc (.cells #[.int .u8 (o.kind : Int), .int .i64 o.x, .int .u64 (o.k : Int), .bool o.B, .int .i64 o.a, .int .i64 o.b, .int .i64 o.c, .int .i64 o.d] 33) = w2 := ⟨_, rfl⟩
  have HW2 : Hid (RS w' r e gn gb s L C w2 ∧ Blk w2 ob 33 (opCells o)) := hid (by
    rw [← hw2]
    have hbk := Blk.new wo (opCells o) 33
    rw [hob] at hbk
    exact ⟨HRS.out.below (nbel wo _), hbk⟩)
  simp only [hw2]
  clear hw2 hob c0 c1 c2 c3 c4 c5 c6 c7 HRS
  have HST := hid (step_walk HW2.out.1 o.kind o.x o.k o.B o.a o.b o.c o.d (fun j hj => by have := HPB.out j hj; omega))
  have k0 : w2.cell? ⟨ob, 0, none⟩ = some (.int .u8 (o.kind : Int)) := HW2.out.2.cell 0
  have k1 : w2.cell? ⟨ob, 1, none⟩ = some (.int .i64 o.x) := HW2.out.2.cell 1
  have k2 : w2.cell? ⟨ob, 2, none⟩ = some (.int .u64 (o.k : Int)) := HW2.out.2.cell 2
  have k3 : w2.cell? ⟨ob, 3, none⟩ = some (.bool o.B) := HW2.out.2.cell 3
  have k4 : w2.cell? ⟨ob, 4, none⟩ = some (.int .i64 o.a) := HW2.out.2.cell 4
  have k5 : w2.cell? ⟨ob, 5, none⟩ = some (.int .i64 o.b) := HW2.out.2.cell 5
  have k6 : w2.cell? ⟨ob, 6, none⟩ = some (.int .i64 o.c) := HW2.out.2.cell 6
  have k7 : w2.cell? ⟨ob, 7, none⟩ = some (.int .i64 o.d) := HW2.out.2.cell 7
  go_wp2_with fail
  refine HST.out.mono ?_
  rintro y w5 ⟨err, som, slt, hy, HX⟩
  unfold ansV at hy
  subst hy
  clear k0 k1 k2 k3 k4 k5 k6 k7 HST
  obtain ⟨e', gn', gb', s', L', C', g1, _, hst⟩ := HX.out
  have HRS := hid g1
  have HPB2 : Hid (∀ j, j < s'.slots → s'.pin j ≤ (i : Int) + 1) := hid (hst.pinU HW2.out.1.ei (N := (i : Int)) (by omega) HPB.out)
  clear g1 hst HX HW2 HPB
  have HRw := hid (raw_walk HRS.out.em HRS.out.ei)
  have r0 : w5.cell? ⟨r, 0, none⟩ = some (.pointer (some ⟨e', 0, none⟩)) := HRS.out.rb.cell 0
  go_upto_region 10 with fail
  go_wp2_with fail
  refine HRw.out.mono ?_
  rintro y wa1 ⟨V, rfl, HV⟩
  clear r0 HRw
  obtain ⟨g, cp, hRR⟩ := RR.of HRS.out.ei HV.out.2
  have HWf := hid (wellFormed_walk HRS.out.ei hRR (fun j hj => by have := HPB2.out j hj; omega))
  obtain ⟨RC, hRC⟩ : ∃ l, rwC s' 5 V = l := ⟨_, rfl⟩
  rw [hRC]
  rw [hRC] at HWf
  clear hRC hRR
  go_wp2_with fail
  refine HWf.out.mono ?_
  rintro y wb1 ⟨rfl, hbb⟩
  have HB1 : Hid (Below w5.heap.size w5 wb1) := hid (HV.out.1.trans (hbb.mono HV.out.1.size))
  clear hbb HWf HV
  have HFin : Hid (VI w' r (i + 1) wb1) := hid ⟨e', gn', gb', s', L', C', HRS.out.below HB1.out, fun j hj => by have := HPB2.out j hj; omega⟩
  clear HB1 HRS HPB2
  go_wp2
  exact ⟨⟨i + 1, by omega, by go_num, HFin⟩, by simp [intOf]; omega⟩
end Go.Proofs.Qxb6500892aDoor
