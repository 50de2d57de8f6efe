/- Refines: the law. -/
import Derived.Test.Qxb6500892aDoorTqM9
namespace Go.Proofs.Qxb6500892aDoor
open Go.RowKit
set_option linter.unusedSimpArgs false
set_option linter.unusedVariables false

theorem NewS.abs {a b c d : Int} {s : ES} {L : Nat → List Nat} (h : NewS a b c d s L) : absM s L = mtM a b c.toNat d := by
  have e : c.toNat = s.kout := by have := h.ko; omega
  unfold absM mtM
  rw [h.sl, h.ki, h.kn, e]
  unfold Vw Gh
  rw [h.l1, h.l2, h.l3]
  rfl
theorem NewS.pinZ {a b c d : Int} {s : ES} {L : Nat → List Nat} (h : NewS a b c d s L) (i : Nat) : ∀ j, j < s.slots → s.pin j ≤ (i : Int) := fun j _ => by rw [h.pin]; omega
theorem StpS.play {x : Int} {k : Nat} {B : Bool} {a b c d : Int} {s s' : ES} {L L' C C' : Nat → List Nat} {kind err : Nat} {som : Bool} {slt : Int} (h : StpS x k B a b c d s L kind err som slt s' L') (hE : EI s L C) (hE' : EI s' L' C') : playM (absM s L) kind x k B a b c d = (err, som, slt, absM s' L') := by
  by_cases h0 : kind = 0
  · unfold playM
    rw [if_pos h0]
    cases h with
    | bad hb => rw [hb]; rfl
    | new hb _ _ hn => rw [if_pos hb, hn.abs]
    | none _ hk => omega
    | _ => cases h0
  · unfold playM
    rw [if_neg h0]
    exact h.model hE hE' h0
/-- Both machines at the start of a round. -/
def RI (w0 : World) (r r2 i : Nat) (w : World) : Prop := ∃ e gn gb s L C pb, RS w0 r e gn gb s L C w ∧ MT w0.heap.size r2 pb (absM s L) w ∧ ∀ j, j < s.slots → s.pin j ≤ (i : Int)
theorem Dflt.below {w w' : World} (h : Dflt w) (hb : Below w.heap.size w w') : Dflt w' := by
  have hk : w'.heap[0]? = w.heap[0]? := hb.block 0 h.lt
  exact ⟨Nat.lt_of_lt_of_le h.lt hb.size, (keepCell 0 hk).trans h.c0, (keepCell 1 hk).trans h.c1, (keepCell 2 hk).trans h.c2, (keepCell 3 hk).trans h.c3⟩
set_option maxRecDepth 100000 in
set_option maxHeartbeats 4000000 in
theorem refines_walk (a : Option Addr) (n c : Nat) (l : List TOp) (w : World) (hs : Script w a n c l) (hd : Dflt w) :
    Calls Tryd.prog 3 #[.slice a n c] w fun e w' => e = .returned (.bool true) ∧ Below w.heap.size w w' := by
  have hn := hs.1.2.2.1.1
  have HSm := hid (fun w => small_walk a n c (by unfold maxLen; omega) w)
  have HS := hid hs
  have HD := hid (newReal_walk hd)
  have HDf := hid hd
  clear hs hd
  by_cases hsm : n ≤ 65536
  rotate_left
  · as_aux_lemma =>
    rw [decide_eq_false hsm] at HSm
    go_enter Tryd.func3, Tryd.ntmps3
    go_wp2_with (go_at_call 7; refine (HSm.out _).mono ?_; rintro e w' ⟨rfl, rfl⟩)
    go_ret
    exact ⟨rfl, Below.refl _ _⟩
  rw [decide_eq_true hsm] at HSm
  go_enter Tryd.func3, Tryd.ntmps3
  go_wp2_with (go_at_call 7; refine (HSm.out _).mono ?_; rintro e w' ⟨rfl, rfl⟩)
  refine HD.out.mono ?_
  rintro y w1 ⟨r, rfl, HR⟩
  obtain ⟨e0, gn0, gb0, s0, L0, C0, h01, h02⟩ := HR.out
  have H01 := hid h01
  have H02 := hid h02
  clear h01 h02
  have HNm := hid (newModel_walk (HDf.out.below H01.out.bel) (B := w'.heap.size) H01.out.bel.size)
  go_wp2_with fail
  refine HNm.out.mono ?_
  rintro y w2 ⟨r2, rfl, HY⟩
  obtain ⟨pb0, hy1, hy2⟩ := HY.out
  have HLI : Hid (RI w' r r2 0 w2) := hid ⟨e0, gn0, gb0, s0, L0, C0, pb0, H01.out.below hy2, by rw [H02.out.abs]; exact hy1, H02.out.pinZ 0⟩
  clear HR HD HSm H01 H02 HNm HY hy1 hy2 HDf
  go_upto_region 5 with fail
  go_loopw [14] (fun v wr => ∃ i : Nat, i ≤ n ∧ v = .int .i64 (i : Int) ∧ Hid (RI w' r r2 i wr)) (fun v _ => n - (intOf v).toNat)
  case atStart => exact ⟨0, by omega, rfl, HLI⟩
  case round =>
  clear HLI
  obtain ⟨i, hi, rfl, HLI⟩ := hrel
  obtain ⟨e, gn, gb, s, L, C, pb, hrs, hmt, hpb⟩ := HLI.out
  have HRS := hid hrs
  have HMT := hid hmt
  have HPB := hid hpb
  clear hrs hpb hmt HLI
  obtain ⟨wo, hwo⟩ : ∃ wo, wo = wr := ⟨_, rfl⟩
  subst hwo
  by_cases hin : i < n
  rotate_left
  · as_aux_lemma =>
    have di : decide ((i : Int) < (n : Int)) = false := decide_eq_false (by omega)
    go_wp2
    go_ret
    exact ⟨rfl, HRS.out.bel⟩
  have di : decide ((i : Int) < (n : Int)) = true := decide_eq_true (by omega)
  have hii : (i : Int) < (n : Int) := by omega
  obtain ⟨o, ho, hok, b, off, rfl, hb, c0, c1, c2, c3, c4, c5, c6, c7⟩ := (HS.out.below HRS.out.bel).at hin
  have HOk := hid hok
  have Ho := hid ho
  clear ho hok
  obtain ⟨ob, hob⟩ : ∃ p, wo.heap.size = p := ⟨_, rfl⟩
  go_upto_region 7 with fail
  obtain ⟨w3, hw3⟩ : ∃ w2, wo.alloc (.cells #[.int .u8 (o.kind : Int), .int .i64 o.x, .int .u64 (o.k : Int), .bool o.B, .int .i64 o.a, .int .i64 o.b, .int .i64 o.c, .int .i64 o.d] 33) = w2 := ⟨_, rfl⟩
  have HW2 : Hid (RS w' r e gn gb s L C w3 ∧ Blk w3 ob 33 (opCells o) ∧ MT w'.heap.size r2 pb (absM s L) w3) := hid (by
    rw [← hw3]
    have hbk := Blk.new wo (opCells o) 33
    rw [hob] at hbk
    exact ⟨HRS.out.below (nbel wo _), hbk, HMT.out.below (nbel wo _)⟩)
  simp only [hw3]
  clear hw3 hob c0 c1 c2 c3 c4 c5 c6 c7 HRS HMT
  refine wp_region_heavy (fun wz => Blk wz ob 33 (opCells o)) 7 [0, 1, 3, 4] [2, 5, 6] rfl (by kernel_rfl) (by kernel_rfl) (fun d _ _ _ _ h => by cases d <;> exact h) (HW2.out.2.1.below (Drew.below ⟨1, rfl⟩ _)) ?_
  apply Exists.intro
  refine ⟨?_, ?_⟩
  · intro W hW
    have d0 : ∀ u, (W u).cell? ⟨ob, 0, none⟩ = some (.int .u8 (o.kind : Int)) := fun u => (hW u).cell 0
    have d1 : ∀ u, (W u).cell? ⟨ob, 1, none⟩ = some (.int .i64 o.x) := fun u => (hW u).cell 1
    have d2 : ∀ u, (W u).cell? ⟨ob, 2, none⟩ = some (.int .u64 (o.k : Int)) := fun u => (hW u).cell 2
    have d3 : ∀ u, (W u).cell? ⟨ob, 3, none⟩ = some (.bool o.B) := fun u => (hW u).cell 3
    have d4 : ∀ u, (W u).cell? ⟨ob, 4, none⟩ = some (.int .i64 o.a) := fun u => (hW u).cell 4
    have d5 : ∀ u, (W u).cell? ⟨ob, 5, none⟩ = some (.int .i64 o.b) := fun u => (hW u).cell 5
    have d6 : ∀ u, (W u).cell? ⟨ob, 6, none⟩ = some (.int .i64 o.c) := fun u => (hW u).cell 6
    have d7 : ∀ u, (W u).cell? ⟨ob, 7, none⟩ = some (.int .i64 o.d) := fun u => (hW u).cell 7
    clear hW
    simp only [List.take, opsAt, List.drop, List.cons_append, List.nil_append]
    repeat (go_big_quiet_step (fail))
    exact rfl
  simp only [List.take, List.drop, opsAt, List.cons_append, List.nil_append, wpHv]
  have HWd : Hid (RS w' r e gn gb s L C w3.drew ∧ Blk w3.drew ob 33 (opCells o) ∧ MT w'.heap.size r2 pb (absM s L) w3.drew) := hid ⟨HW2.out.1.below (Drew.below ⟨1, rfl⟩ _), HW2.out.2.1.below (Drew.below ⟨1, rfl⟩ _), HW2.out.2.2.below (Drew.below ⟨1, rfl⟩ _)⟩
  generalize w3.drew = w4 at HWd ⊢
  clear HW2
  have HST := hid (step_walk HWd.out.1 o.kind o.x o.k o.B o.a o.b o.c o.d (fun j hj => by have := HPB.out j hj; omega))
  go_wp2_with fail
  refine HST.out.mono ?_
  rintro y w5 ⟨err, som, slt, hy, HX⟩
  unfold ansV at hy
  subst hy
  clear HST
  obtain ⟨e', gn', gb', s', L', C', g1, g2, hst⟩ := HX.out
  have HRS := hid g1
  have HPl := hid (hst.play HWd.out.1.ei g1.ei)
  have HPB2 : Hid (∀ j, j < s'.slots → s'.pin j ≤ (i : Int) + 1) := hid (hst.pinU HWd.out.1.ei (N := (i : Int)) (by omega) HPB.out)
  have HM5 := hid (HWd.out.2.2.u4 HWd.out.1 g2)
  have HB5 : Hid (Blk w5 ob 33 (opCells o)) := hid (g2.blk HWd.out.2.1 (HWd.out.2.1.tne HWd.out.1.rb (by decide)) (HWd.out.2.1.tne HWd.out.1.em.eb (by decide)) (HWd.out.2.1.tne HWd.out.1.em.nb (by decide)) (HWd.out.2.1.tne HWd.out.1.em.bb (by decide)))
  have HPS := hid (pstep_walk HM5.out (MOk.of HWd.out.1.ei (fun j hj => by have := HPB.out j hj; omega)) o.kind o.x o.k o.B o.a o.b o.c o.d)
  clear g1 g2 hst HX HWd HPB
  go_wp2_with fail
  refine ⟨HB5.out, ?_⟩
  go_wp2_with fail
  refine HPS.out.mono ?_
  rintro y w6 ⟨err', som', slt', hy, HX⟩
  unfold ansV at hy
  subst hy
  clear HPS
  obtain ⟨pb', m', hp1, hp2, hp3⟩ := HX.out
  rw [HPl.out] at hp1
  simp only [Prod.mk.injEq] at hp1
  obtain ⟨rfl, rfl, rfl, rfl⟩ := hp1
  have HR6 := hid (HRS.out.uf hp3)
  have HM6 := hid hp2
  have HB6 : Hid (Blk w6 ob 33 (opCells o)) := hid (hp3.blk _ _ _ HB5.out (by decide) (by decide) (by decide))
  clear hp2 hp3 HX HPl HRS HM5 HB5
  have hne := fun wz => neq_ans (err : Int) som slt wz
  go_wp2_with fail
  refine ⟨HB6.out, ?_⟩
  go_wp2_with fail
  refine ⟨HB6.out, ?_⟩
  simp only [QN]
  clear hne HB6
  have HVw := hid (fun (wz : World) (hz : Below w6.heap.size w6 wz) => view_walk (HR6.out.below hz).em HR6.out.ei (fun j hj => by have := HPB2.out j hj; omega))
  have HMk : Hid (MOk (absM s' L')) := hid (MOk.of HR6.out.ei (fun j hj => by have := HPB2.out j hj; omega))
  have HMv : Hid (∀ wz, Below w6.heap.size w6 wz → Calls Tryd.prog 14 #[.pointer (some ⟨pb', 0, none⟩)] wz fun y w'' => MViewP (absM s' L') wz y w'') := hid (fun wz hz => by
    obtain ⟨a1, n1, c1, a2, n2, c2, a3, n3, c3, h⟩ := HM6.out.mx
    exact mview_walk (h.below hz) HMk.out)
  go_upto_region 9 with fail
  refine wp_region_heavy (fun wz => Below w6.heap.size w6 wz) 12 [0, 1, 2, 3, 5, 6, 7, 8] [4, 9, 10, 11] rfl (by kernel_rfl) (by kernel_rfl) (fun d _ _ _ _ h => by cases d <;> exact h) (Drew.below ⟨1, rfl⟩ _) ?_
  apply Exists.intro
  refine ⟨?_, ?_⟩
  · intro W hW
    have d0 : ∀ u, (W u).cell? ⟨r, 0, none⟩ = some (.pointer (some ⟨e', 0, none⟩)) := fun u => (HR6.out.rb.below (hW u)).cell 0
    have d1 : ∀ u, (W u).cell? ⟨r2, 0, none⟩ = some (.pointer (some ⟨pb', 0, none⟩)) := fun u => (HM6.out.rb.below (hW u)).cell 0
    clear hW
    simp only [List.take, opsAt, List.drop, List.cons_append, List.nil_append]
    repeat (go_big_quiet_step (fail))
    exact rfl
  simp only [List.take, List.drop, opsAt, List.cons_append, List.nil_append, wpHv]
  have HBd : Hid (Below w6.heap.size w6 w6.drew) := hid (Drew.below ⟨1, rfl⟩ _)
  generalize w6.drew = wd at HBd ⊢
  go_wp2_with fail
  refine (HVw.out wd HBd.out).mono ?_
  rintro y w7 ⟨a1, n1, c1, a2, n2, c2, a3, n3, c3, rfl, HV⟩
  have HB7 : Hid (Below w6.heap.size w6 w7) := hid (HBd.out.trans (HV.out.1.mono HBd.out.size))
  clear HVw
  go_wp2_with fail
  refine ⟨HB7.out, ?_⟩
  go_wp2_with fail
  refine (HMv.out w7 HB7.out).mono ?_
  rintro y w8 ⟨b1, m1, d1, b2, m2, d2, b3, m3, d3, rfl, HV8⟩
  have HB8 : Hid (Below w6.heap.size w6 w8) := hid (HB7.out.trans (HV8.out.1.mono HB7.out.size))
  clear HMv
  have el1 : m1 = n1 := by have x1 := HV.out.2.1.lenS; have x2 := HV8.out.2.1.lenS; rw [← x1, ← x2]; rfl
  have el2 : m2 = n2 := by have x1 := HV.out.2.2.1.lenS; have x2 := HV8.out.2.2.1.lenS; rw [← x1, ← x2]; rfl
  have el3 : m3 = n3 := by have x1 := HV.out.2.2.2.lenS; have x2 := HV8.out.2.2.2.lenS; rw [← x1, ← x2]; rfl
  subst el1 el2 el3
  have HSa := hid (same_walk (w := w8) (V1 := (absM s' L').I) (V2 := (absM s' L').M) (K := (absM s' L').O) ((HV.out.2.1.below HV8.out.1).rowE (by have := HMk.out.l1; exact Nat.le_trans this (by omega))) (HV8.out.2.1.rowE (by have := HMk.out.l1; omega)) ((HV.out.2.2.1.below HV8.out.1).rowE (by have := HMk.out.l2; exact Nat.le_trans this (by omega))) (HV8.out.2.2.1.rowE (by have := HMk.out.l2; omega)) ((HV.out.2.2.2.below HV8.out.1).rowU (by have := HMk.out.l3; exact Nat.le_trans this (by omega))) (HV8.out.2.2.2.rowU (by have := HMk.out.l3; omega)) (by have := HV8.out.2.1.lenS; have := HMk.out.l1; omega) (by have := HV8.out.2.2.1.lenS; have := HMk.out.l2; omega) (by have := HV8.out.2.2.2.lenS; have := HMk.out.l3; omega))
  clear HV HV8
  go_wp2_with fail
  refine ⟨HB8.out, ?_⟩
  go_wp2_with fail
  refine HSa.out.mono ?_
  rintro y w9 ⟨rfl, hb9⟩
  have HB9 : Hid (Below w6.heap.size w6 w9) := hid (HB8.out.trans (hb9.mono HB8.out.size))
  have HFin : Hid (RI w' r r2 (i + 1) w9) := hid ⟨e', gn', gb', s', L', C', pb', HR6.out.below HB9.out, HM6.out.below HB9.out, fun j hj => by have := HPB2.out j hj; omega⟩
  clear hb9 HSa HB7 HB8 HBd HR6 HM6 HPB2 HMk
  go_wp2_with fail
  refine ⟨HB9.out, ?_⟩
  go_wp2_with fail
  refine ⟨HB9.out, ?_⟩
  simp only [QN]
  clear HB9
  go_wp2
  exact ⟨⟨i + 1, by omega, by go_num, HFin⟩, by simp [intOf]; omega⟩
end Go.Proofs.Qxb6500892aDoor
