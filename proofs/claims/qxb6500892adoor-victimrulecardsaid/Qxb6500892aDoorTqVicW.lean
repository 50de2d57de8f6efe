/- VictimRule: the walk. -/
import Derived.Test.Qxb6500892aDoorTqVicP
namespace Go.Proofs.Qxb6500892aDoor
open Go.RowKit
set_option linter.unusedSimpArgs false
set_option linter.unusedVariables false

/-- The machine at the start of a round. -/
def VI (w0 : World) (r i : Nat) (w : World) : Prop := ∃ e gn gb s L C, RS w0 r e gn gb s L C w ∧ ∀ j, j < s.slots → s.pin j ≤ (i : Int)
theorem NewS.pinB {a b c d : Int} {s : ES} {L : Nat → List Nat} (h : NewS a b c d s L) (i : Nat) : ∀ j, j < s.slots → s.pin j ≤ (i : Int) := fun j _ => by rw [h.pin]; omega
/-- What Reclaim answers and does. -/
theorem StpS.rcl8 {x : Int} {k : Nat} {B : Bool} {a b c d : Int} {s s' : ES} {L L' C : Nat → List Nat} {kind err : Nat} {som : Bool} {slt : Int} (h : StpS x k B a b c d s L kind err som slt s' L') (hE : EI s L C) (hk : kind = 8) :
    som = (victimS s L).isSome ∧ slt = ovV (victimS s L) ∧ s'.slots = s.slots ∧ s'.kin = s.kin ∧ s'.kneg = s.kneg ∧ ∀ i, victimS s L = some i → s'.whr i = 0 ∧ i < s.slots := by
  cases h with
  | rcl o _ _ h =>
    obtain ⟨ho, h⟩ := h
    subst ho
    refine ⟨rfl, rfl, ?_⟩
    cases hv : victimS s L with
    | none =>
      rw [hv] at h
      obtain ⟨rfl, _⟩ := h
      exact ⟨rfl, rfl, rfl, fun i hi => by cases hi⟩
    | some j =>
      rw [hv] at h
      have h' : PgS j s L s' L' := h
      have v := h'.v
      obtain ⟨hj, _, _⟩ := hE.victim hv
      exact ⟨v.cf.slots, v.cf.kin, v.cf.kneg, fun i hi => by
        cases hi
        exact ⟨by rw [v.whr j hj, upd_same], hj⟩⟩
  | _ => omega
theorem ents_one (V : List TEnt) : ∀ u ∈ V.flatMap entC, u.oneCell' = true := fun u hu => by
  obtain ⟨t, _, ht⟩ := List.mem_flatMap.1 hu
  exact entC_one t u ht
theorem EI.viewLen {s : ES} {L C : Nat → List Nat} (h : EI s L C) {q : Nat} (hq : q < 5) : (L q).length ≤ 131072 := Nat.le_trans (nodup_len (h.q.dl q hq).nd (h.q.dl q hq).lt) h.q.nb
/-- Rows that lie behind the machine stay when the machine moves. -/
theorem OR.u4 {α : Type} {w w' : World} {base : Nat} {t : TypeId} {sz : Nat} {f : α → List Value} {v : Value} {l : List α} {r e gn gb : Nat} (h : OR w base t sz f v l) (hu : U4 r e gn gb w w') (h1 : r < base) (h2 : e < base) (h3 : gn < base) (h4 : gb < base) : OR w' base t sz f v l :=
  h.keep fun g hg => hu.block g (h.lt hg) (by have := (h.blk hg).1; omega) (by have := (h.blk hg).1; omega) (by have := (h.blk hg).1; omega) (by have := (h.blk hg).1; omega)
set_option maxRecDepth 100000 in
set_option maxHeartbeats 4000000 in
theorem victimRule_walk (a : Option Addr) (n c : Nat) (l : List TOp) (w : World) (hs : Script w a n c l) (hd : Dflt w) :
    Calls Tryd.prog 5 #[.slice a n c] w fun e w' => e = .returned (.bool true) ∧ Below w.heap.size w w' := by
  have hn := hs.1.2.2.1.1
  have HSm := hid (fun w => small_walk a n c (by unfold maxLen; omega) w)
  have HS := hid hs
  have HD := hid (newReal_walk hd)
  clear hs hd
  by_cases hsm : n ≤ 65536
  rotate_left
  · as_aux_lemma =>
    rw [decide_eq_false hsm] at HSm
    go_enter Tryd.func5, Tryd.ntmps5
    go_wp2_with (go_at_call 7; refine (HSm.out _).mono ?_; rintro e w' ⟨rfl, rfl⟩)
    go_ret
    exact ⟨rfl, Below.refl _ _⟩
  rw [decide_eq_true hsm] at HSm
  go_enter Tryd.func5, Tryd.ntmps5
  go_wp2_with (go_at_call 7; refine (HSm.out _).mono ?_; rintro e w' ⟨rfl, rfl⟩)
  refine HD.out.mono ?_
  rintro y w1 ⟨r, rfl, HR⟩
  have HLI : Hid (VI w' r 0 w1) := hid (by
    obtain ⟨e, gn, gb, s, L, C, h1, h2⟩ := HR.out
    exact ⟨e, gn, gb, s, L, C, h1, h2.pinB 0⟩)
  clear HR HD HSm
  go_upto_region 5 with fail
  go_loopw [26] (fun v wr => ∃ i : Nat, i ≤ n ∧ v = .int .i64 (i : Int) ∧ Hid (VI w' r i wr)) (fun v _ => n - (intOf v).toNat)
  case atStart => exact ⟨0, by omega, rfl, HLI⟩
  case round =>
  clear HLI
  obtain ⟨i, hi, rfl, HLI⟩ := hrel
  obtain ⟨e, gn, gb, s, L, C, hrs, hpb⟩ := HLI.out
  have HRS := hid hrs
  have HPB := hid hpb
  clear hrs hpb HLI
  obtain ⟨wo, hwo⟩ : ∃ wo, wo = wr := ⟨_, rfl⟩
  subst hwo
  by_cases hin : i < n
  rotate_left
  · as_aux_lemma =>
    have di : decide ((i : Int) < (n : Int)) = false := decide_eq_false (by omega)
    go_wp2
    go_ret
    exact ⟨rfl, HRS.out.bel⟩
  have di : decide ((i : Int) < (n : Int)) = true := decide_eq_true (by omega)
  have hii : (i : Int) < (n : Int) := by omega
  obtain ⟨o, ho, hok, b, off, rfl, hb, c0, c1, c2, c3, c4, c5, c6, c7⟩ := (HS.out.below HRS.out.bel).at hin
  have HOk := hid hok
  have Ho := hid ho
  clear ho hok
  obtain ⟨ob, hob⟩ : ∃ p, wo.heap.size = p := ⟨_, rfl⟩
  go_upto_region 7 with fail
  obtain ⟨w2, hw2⟩ : ∃ w2, wo.alloc (.cells #[.int .u8 (o.kind : Int), .int .i64 o.x, .int .u64 (o.k : Int), .bool o.B, .int .i64 o.a, .int .i64 o.b, .int .i64 o.c, .int .i64 o.d] 33) = w2 := ⟨_, rfl⟩
  have HW2 : Hid (RS w' r e gn gb s L C w2 ∧ Blk w2 ob 33 (opCells o)) := hid (by
    rw [← hw2]
    have hbk := Blk.new wo (opCells o) 33
    rw [hob] at hbk
    exact ⟨HRS.out.below (nbel wo _), hbk⟩)
  simp only [hw2]
  clear hw2 hob c0 c1 c2 c3 c4 c5 c6 c7 HRS
  have HVw := hid (view_walk HW2.out.1.em HW2.out.1.ei (fun j hj => by have := HPB.out j hj; omega))
  have r0 : w2.cell? ⟨r, 0, none⟩ = some (.pointer (some ⟨e, 0, none⟩)) := HW2.out.1.rb.cell 0
  go_wp2_with fail
  refine HVw.out.mono ?_
  rintro y w3 ⟨a1, n1, c1, a2, n2, c2, a3, n3, c3, rfl, HV⟩
  clear HVw r0
  obtain ⟨vb, hvb⟩ : ∃ p, w3.heap.size = p := ⟨_, rfl⟩
  go_upto_region 8 with fail
  obtain ⟨w4, hw4⟩ : ∃ w4, w3.alloc (.cells #[.slice a1 n1 c1, .slice a2 n2 c2, .slice a3 n3 c3] 41) = w4 := ⟨_, rfl⟩
  obtain ⟨V1, hV1⟩ : ∃ V, (L 1).map (entOf s) = V := ⟨_, rfl⟩
  obtain ⟨V2, hV2⟩ : ∃ V, (L 2).map (entOf s) = V := ⟨_, rfl⟩
  rw [hV1, hV2] at HV
  have HVV := hid (And.intro hV1 hV2)
  have hvl : V1.length ≤ 131072 ∧ V2.length ≤ 131072 := by
    have h1 := HW2.out.1.ei.viewLen (q := 1) (by omega)
    have h2 := HW2.out.1.ei.viewLen (q := 2) (by omega)
    rw [← hV1, ← hV2, List.length_map, List.length_map]
    exact ⟨h1, h2⟩
  have HW4 : Hid (RS w' r e gn gb s L C w4 ∧ Blk w4 ob 33 (opCells o) ∧ Blk w4 vb 41 [.slice a1 n1 c1, .slice a2 n2 c2, .slice a3 n3 c3] ∧ OR w4 w2.heap.size 64 4 entC (.slice a1 n1 c1) V1 ∧ OR w4 w2.heap.size 64 4 entC (.slice a2 n2 c2) V2) := hid (by
    have hb : Below w3.heap.size w3 w4 := by rw [← hw4]; exact nbel w3 _
    have k1 := Blk.new w3 [.slice a1 n1 c1, .slice a2 n2 c2, .slice a3 n3 c3] 41
    rw [hvb] at k1
    have k1' : Blk w4 vb 41 [.slice a1 n1 c1, .slice a2 n2 c2, .slice a3 n3 c3] := by rw [← hw4]; exact k1
    exact ⟨(HW2.out.1.below HV.out.1).below hb, (HW2.out.2.below HV.out.1).below hb, k1', HV.out.2.1.below hb, HV.out.2.2.1.below hb⟩)
  have HLt : Hid (r < w2.heap.size ∧ e < w2.heap.size ∧ gn < w2.heap.size ∧ gb < w2.heap.size) := hid ⟨HW2.out.1.rb.lt, HW2.out.1.em.eb.lt, HW2.out.1.em.nb.lt, HW2.out.1.em.bb.lt⟩
  try simp only [hw4]
  clear hw4 hvb HV hV1 hV2 HW2
  have HST := hid (step_walk HW4.out.1 o.kind o.x o.k o.B o.a o.b o.c o.d (fun j hj => by have := HPB.out j hj; omega))
  have k0 : w4.cell? ⟨ob, 0, none⟩ = some (.int .u8 (o.kind : Int)) := HW4.out.2.1.cell 0
  have k1 : w4.cell? ⟨ob, 1, none⟩ = some (.int .i64 o.x) := HW4.out.2.1.cell 1
  have k2 : w4.cell? ⟨ob, 2, none⟩ = some (.int .u64 (o.k : Int)) := HW4.out.2.1.cell 2
  have k3 : w4.cell? ⟨ob, 3, none⟩ = some (.bool o.B) := HW4.out.2.1.cell 3
  have k4 : w4.cell? ⟨ob, 4, none⟩ = some (.int .i64 o.a) := HW4.out.2.1.cell 4
  have k5 : w4.cell? ⟨ob, 5, none⟩ = some (.int .i64 o.b) := HW4.out.2.1.cell 5
  have k6 : w4.cell? ⟨ob, 6, none⟩ = some (.int .i64 o.c) := HW4.out.2.1.cell 6
  have k7 : w4.cell? ⟨ob, 7, none⟩ = some (.int .i64 o.d) := HW4.out.2.1.cell 7
  go_wp2_with fail
  refine HST.out.mono ?_
  rintro y w5 ⟨err, som, slt, hy, HX⟩
  unfold ansV at hy
  subst hy
  clear k0 k1 k2 k3 k4 k5 k6 k7 HST
  obtain ⟨ab, hab⟩ : ∃ p, w5.heap.size = p := ⟨_, rfl⟩
  go_upto_region 9 with fail
  obtain ⟨w6, hw6⟩ : ∃ w6, w5.alloc (.cells #[.int .u8 (err : Int), .bool som, .int .i64 slt] 36) = w6 := ⟨_, rfl⟩
  have HY : Hid (∃ e' gn' gb' s' L' C', RS w' r e' gn' gb' s' L' C' w6 ∧ Blk w6 ob 33 (opCells o) ∧ Blk w6 vb 41 [.slice a1 n1 c1, .slice a2 n2 c2, .slice a3 n3 c3] ∧ OR w6 w2.heap.size 64 4 entC (.slice a1 n1 c1) V1 ∧ OR w6 w2.heap.size 64 4 entC (.slice a2 n2 c2) V2 ∧ Blk w6 ab 36 [.int .u8 (err : Int), .bool som, .int .i64 slt] ∧ StpS o.x o.k o.B o.a o.b o.c o.d s L o.kind err som slt s' L') := hid (by
    obtain ⟨e', gn', gb', s', L', C', h1, h2, h3⟩ := HX.out
    have hb : Below w5.heap.size w5 w6 := by rw [← hw6]; exact nbel w5 _
    have k1 := Blk.new w5 [.int .u8 (err : Int), .bool som, .int .i64 slt] 36
    rw [hab] at k1
    have k1' : Blk w6 ab 36 [.int .u8 (err : Int), .bool som, .int .i64 slt] := by rw [← hw6]; exact k1
    obtain ⟨g1, g2, g3, g4, g5⟩ := HW4.out
    obtain ⟨t1, t2, t3, t4⟩ := HLt.out
    exact ⟨e', gn', gb', s', L', C', h1.below hb, (h2.blk g2 (g2.tne g1.rb (by decide)) (g2.tne g1.em.eb (by decide)) (g2.tne g1.em.nb (by decide)) (g2.tne g1.em.bb (by decide))).below hb, (h2.blk g3 (g3.tne g1.rb (by decide)) (g3.tne g1.em.eb (by decide)) (g3.tne g1.em.nb (by decide)) (g3.tne g1.em.bb (by decide))).below hb, (g4.u4 h2 t1 t2 t3 t4).below hb, (g5.u4 h2 t1 t2 t3 t4).below hb, k1', h3⟩)
  try simp only [hw6]
  clear hw6 hab HX HLt
  have HEI := hid HW4.out.1.ei
  clear HW4
  obtain ⟨e', gn', gb', s', L', C', g1, g2, g3, g4, g5, g6, hst⟩ := HY.out
  have HRS := hid g1
  have HBv := hid (And.intro g3 (And.intro g4 g5))
  have HBa := hid g6
  have HStp := hid hst
  have k0 : w6.cell? ⟨ob, 0, none⟩ = some (.int .u8 (o.kind : Int)) := g2.cell 0
  clear g1 g2 g3 g4 g5 g6 hst HY
  have HLn : Hid (∀ wz, Below w6.heap.size w6 wz → VI w' r (i + 1) wz) := hid (fun wz hz => ⟨e', gn', gb', s', L', C', HRS.out.below hz, fun j hj => by
    have := HStp.out.pinU HEI.out (N := (i : Int)) (by omega) HPB.out j hj
    omega⟩)
  have HPB2 : Hid (∀ j, j < s'.slots → s'.pin j ≤ 1000000) := hid (fun j hj => by
    have := HStp.out.pinU HEI.out (N := (i : Int)) (by omega) HPB.out j hj
    omega)
  obtain ⟨B8, hB8⟩ : ∃ B, ((o.kind : Int) == 8) = B := ⟨_, rfl⟩
  go_upto_if 40 with fail
  have HB8 := hid hB8
  clear hB8 k0
  go_cut [8, 9] from 41 to 72 (fun v8 v9 wc => Hid (Below w6.heap.size w6 wc))
  case first =>
    as_aux_lemma =>
    cases B8 with
    | false =>
      go_wp2
      go_meet
      case rel => exact hid (Below.refl _ _)
    | true =>
    have hk8 : o.kind = 8 := by have := HB8.out; simp at this; omega
    obtain ⟨hsom, hslt, hsl, hki, hkn, hwh⟩ := HStp.out.rcl8 HEI.out hk8
    have HWh := hid hwh
    have HEx : Hid (expP V1 V2 s'.kin s'.kneg = (victimS s L).map (entOf s)) := hid (by
      rw [← HVV.out.1, ← HVV.out.2, hki, hkn]
      exact exp_victim HEI.out)
    obtain ⟨ov0, hov⟩ : ∃ o, victimS s L = o := ⟨_, rfl⟩
    rw [hov] at hsom hslt HEx HWh
    have Hsl := hid hsl
    have HBA : Hid (Blk w6 ab 36 [.int .u8 (err : Int), .bool ov0.isSome, .int .i64 (ovV ov0)]) := hid (by rw [← hsom, ← hslt]; exact HBa.out)
    have Hn : Hid (V1.length = n1 ∧ V2.length = n2) := hid ⟨(HBv.out.2.1.row' (by decide) (fun _ => rfl) (by omega)).1, (HBv.out.2.2.row' (by decide) (fun _ => rfl) (by omega)).1⟩
    have HRow : Hid (RowOf w6 4 entC a1 n1 c1 V1 ∧ RowOf w6 4 entC a2 n2 c2 V2) := hid ⟨HBv.out.2.1.row' (by decide) (fun _ => rfl) (by omega), HBv.out.2.2.row' (by decide) (fun _ => rfl) (by omega)⟩
    have HBw := hid HBv.out.1
    clear hsom hslt hsl hki hkn hwh hov hk8 HBv HBa HB8 HStp HVV HLn
    go_upto_region 10 with fail
    refine wp_region_hlh (fun w3 => Below w6.heap.size w6 w3) 11 [0, 1, 2, 3, 4] [5, 6] [7, 8, 9, 10] [] rfl (by kernel_rfl) (by kernel_rfl) (fun d _ _ _ _ h => by cases d <;> exact h) (Drew.below ⟨1, rfl⟩ _) ?_
    apply Exists.intro
    refine ⟨?_, ?_⟩
    · intro W hW
      have d0 : ∀ x, (W x).cell? ⟨vb, 0, none⟩ = some (.slice a1 n1 c1) := fun x => (HBw.out.below (hW x)).cell 0
      have d1 : ∀ x, (W x).cell? ⟨vb, 1, none⟩ = some (.slice a2 n2 c2) := fun x => (HBw.out.below (hW x)).cell 1
      have d2 : ∀ x, (W x).cell? ⟨vb, 2, none⟩ = some (.slice a3 n3 c3) := fun x => (HBw.out.below (hW x)).cell 2
      have d3 : ∀ x, (W x).cell? ⟨r, 0, none⟩ = some (.pointer (some ⟨e', 0, none⟩)) := fun x => (HRS.out.below (hW x)).rb.cell 0
      clear hW
      simp only [List.take, opsAt, List.drop, List.cons_append, List.nil_append]
      repeat (go_big_quiet_step (fail))
      exact rfl
    simp only [List.take, List.drop, opsAt, List.cons_append, List.nil_append, wpHvK]
    have HB0 : Hid (Below w6.heap.size w6 w6.drew) := hid (Drew.below ⟨1, rfl⟩ _)
    generalize w6.drew = wd at HB0 ⊢
    have HCf := hid (config_walk (HRS.out.below HB0.out).em)
    go_wp2_with fail
    refine HCf.out.mono ?_
    rintro y wI ⟨rfl, hbI⟩
    have HBI := hid (HB0.out.trans (hbI.mono HB0.out.size))
    clear hbI HCf
    go_wp2_with fail
    refine ⟨HBI.out, ?_⟩
    have HEw := hid (expected_walk (a3 := a3) (n3 := n3) (c3 := c3) (HRow.out.1.below HBI.out) (HRow.out.2.below HBI.out) (by have := Hn.out; omega) (by have := Hn.out; omega) (s'.slots : Int) (s'.kin : Int) (s'.kout : Int) (s'.kneg : Int))
    rw [HEx.out, slotO_victim, Option.isSome_map] at HEw
    go_wp2_with fail
    refine HEw.out.mono ?_
    rintro y wJ ⟨rfl, hbJ⟩
    have HBJ := hid (HBI.out.trans (hbJ.mono HBI.out.size))
    clear hbJ HEw
    go_wp2_with fail
    refine ⟨HBJ.out, ?_⟩
    apply Exists.intro
    refine ⟨?_, ?_⟩
    · intro W hW
      clear hW
      try simp only [List.take, opsAt, List.drop, List.cons_append, List.nil_append]
      repeat (go_big_quiet_step (fail))
      exact rfl
    simp only [List.take, List.drop, opsAt, List.cons_append, List.nil_append, wpHv, QN]
    have z1 : wJ.cell? ⟨ab, 1, none⟩ = some (.bool ov0.isSome) := (HBA.out.below HBJ.out).cell 1
    have z2 : wJ.cell? ⟨ab, 2, none⟩ = some (.int .i64 (ovV ov0)) := (HBA.out.below HBJ.out).cell 2
    have z3 : wJ.cell? ⟨r, 0, none⟩ = some (.pointer (some ⟨e', 0, none⟩)) := (HRS.out.below HBJ.out).rb.cell 0
    cases ov0 with
    | none =>
      as_aux_lemma =>
      simp only [ovV, Option.isSome] at z1 z2 ⊢
      clear HBI HB0 HRow HBw HBA HWh HEx
      go_wp2
      go_meet
      case rel => exact HBJ
    | some iv =>
      as_aux_lemma =>
      simp only [ovV, Option.isSome] at z1 z2 ⊢
      obtain ⟨hw1, hw2⟩ := HWh.out iv rfl
      have HWn := hid (where_none (HRS.out.below HBJ.out).em HRS.out.ei.sn (by rw [Hsl.out]; exact hw2) hw1)
      clear HBI HB0 HRow HBw HBA HWh HEx hw1 hw2
      go_wp2_with fail
      refine HWn.out.mono ?_
      rintro y wK ⟨rfl, hwK⟩
      have hwK' := hwK.symm
      clear hwK
      subst hwK'
      go_wp2
      go_meet
      case rel => exact HBJ
  case rest =>
  as_aux_lemma =>
  have HBc := hcut
  clear hcut HBv HBa HB8 HStp HVV HEI
  have HR7 := hid (HRS.out.below HBc.out)
  have HVw := hid (view_walk HR7.out.em HR7.out.ei HPB2.out)
  have r0 : wc.cell? ⟨r, 0, none⟩ = some (.pointer (some ⟨e', 0, none⟩)) := HR7.out.rb.cell 0
  clear hvl
  go_upto_region 13 with fail
  go_wp2_with fail
  refine HVw.out.mono ?_
  rintro y w8 ⟨a1, n1, c1, a2, n2, c2, a3, n3, c3, rfl, HV⟩
  clear HVw r0
  obtain ⟨vb2, hvb⟩ : ∃ p, w8.heap.size = p := ⟨_, rfl⟩
  go_upto_region 15 with fail
  obtain ⟨w9, hw9⟩ : ∃ w9, w8.alloc (.cells #[.slice a1 n1 c1, .slice a2 n2 c2, .slice a3 n3 c3] 41) = w9 := ⟨_, rfl⟩
  obtain ⟨V1, hV1⟩ : ∃ V, (L' 1).map (entOf s') = V := ⟨_, rfl⟩
  obtain ⟨V2, hV2⟩ : ∃ V, (L' 2).map (entOf s') = V := ⟨_, rfl⟩
  rw [hV1, hV2] at HV
  have HEx : Hid (expP V1 V2 s'.kin s'.kneg = (victimS s' L').map (entOf s') ∧ (victimS s' L').isSome = decide (0 < (V1 ++ V2).countP (fun t => decide (t.pins = 0)))) := hid (by
    rw [← hV1, ← hV2]
    exact ⟨exp_victim HR7.out.ei, free_victim HR7.out.ei⟩)
  have hvl : V1.length ≤ 131072 ∧ V2.length ≤ 131072 := by
    have h1 := HR7.out.ei.viewLen (q := 1) (by omega)
    have h2 := HR7.out.ei.viewLen (q := 2) (by omega)
    rw [← hV1, ← hV2, List.length_map, List.length_map]
    exact ⟨h1, h2⟩
  have HB9 : Hid (Below w6.heap.size w6 w9) := hid (by
    rw [← hw9]
    exact (HBc.out.trans (HV.out.1.mono HBc.out.size)).trans ((nbel w8 _).mono (Nat.le_trans HBc.out.size HV.out.1.size)))
  have HVb : Hid (Blk w9 vb2 41 [.slice a1 n1 c1, .slice a2 n2 c2, .slice a3 n3 c3]) := hid (by
    have k1 := Blk.new w8 [.slice a1 n1 c1, .slice a2 n2 c2, .slice a3 n3 c3] 41
    rw [hvb] at k1
    rw [← hw9]
    exact k1)
  have HRow : Hid (RowOf w9 4 entC a1 n1 c1 V1 ∧ RowOf w9 4 entC a2 n2 c2 V2) := hid (by
    rw [← hw9]
    exact ⟨(HV.out.2.1.below (nbel w8 _)).row' (by decide) (fun _ => rfl) (by omega), (HV.out.2.2.1.below (nbel w8 _)).row' (by decide) (fun _ => rfl) (by omega)⟩)
  have hl1 : V1.length = n1 := HRow.out.1.1
  have hl2 : V2.length = n2 := HRow.out.2.1
  try simp only [hw9]
  clear hw9 hvb HV hV1 hV2 HR7 HBc
  have hn1 : n1 ≤ 131072 := by omega
  have hn2 : n2 ≤ 131072 := by omega
  have Hl := hid (And.intro hl1 hl2)
  clear hl1 hl2 hvl
  obtain ⟨ie, hie, hze, hsz1, hby1⟩ := info_entz
  have IE := hid (And.intro hie (And.intro hze (And.intro hsz1 hby1)))
  clear hie hze hsz1 hby1
  refine wp_region_heavy (fun w3 => Below w9.heap.size w9 w3) 8 [0, 1, 3, 4, 7] [2, 5, 6] rfl (by kernel_rfl) (by kernel_rfl) (fun d _ _ _ _ h => by cases d <;> exact h) (Drew.below ⟨1, rfl⟩ _) ?_
  apply Exists.intro
  refine ⟨?_, ?_⟩
  · intro W hW
    have d0 : ∀ x, (W x).cell? ⟨vb2, 0, none⟩ = some (.slice a1 n1 c1) := fun x => (HVb.out.below (hW x)).cell 0
    have d1 : ∀ x, (W x).cell? ⟨vb2, 1, none⟩ = some (.slice a2 n2 c2) := fun x => (HVb.out.below (hW x)).cell 1
    clear hW
    simp only [List.take, opsAt, List.drop, List.cons_append, List.nil_append]
    repeat (go_big_quiet_step (fail))
    exact rfl
  simp only [List.take, List.drop, opsAt, List.cons_append, List.nil_append, wpHv]
  have HBd : Hid (Below w9.heap.size w9 w9.drew) := hid (Drew.below ⟨1, rfl⟩ _)
  generalize w9.drew = wd at HBd ⊢
  have HRd := hid (And.intro (HRow.out.1.below HBd.out) (HRow.out.2.below HBd.out))
  refine wpList_append_row _ rfl (.const (.slice none 0 0)) (.tmp 79) 38 rfl wd.heap.size 64 ie (.agg #[.int .i64 0, .int .u64 0, .int .i64 0, .bool false]) 4 32 Tryd.underlying38 IE.out.1 IE.out.2.1 IE.out.2.2.1 IE.out.2.2.2 rfl (by decide) (.slice none 0 0) 0 [] rfl (World.ownsRow_nil _ _ _ _) a1 n1 c1 (V1.flatMap entC) (by simp [Act.eval, Act.put]; done) (by rw [length_flatMap_const (f := entC) (sz := 4) V1 (fun x _ => rfl), Hl.out.1]) (fun h => HRd.out.1.nil h) (HRd.out.1.cells (by omega) (fun _ => rfl)) (ents_one V1) (by omega) (by decide) (Nat.le_refl _) ?_
  intro v7 wA hownA hbA hkA hgA
  have HOA : Hid (OR wA wd.heap.size 64 4 entC v7 V1) := hid (by
    rw [Nat.zero_add, List.nil_append, ← Hl.out.1] at hownA
    exact hownA)
  have HBA := hid hbA
  clear hownA hbA hkA hgA
  obtain ⟨a7, n7, c7, h7⟩ := HOA.out.shape
  subst h7
  have HBA2 := hid (HBd.out.trans (HBA.out.mono HBd.out.size))
  go_wp2_with fail
  refine ⟨HBA2.out, ?_⟩
  have HRA := hid (HRow.out.2.below HBA2.out)
  refine wpList_append_row _ rfl (.tmp 80) (.tmp 82) 38 rfl wd.heap.size 64 ie (.agg #[.int .i64 0, .int .u64 0, .int .i64 0, .bool false]) 4 32 Tryd.underlying38 IE.out.1 IE.out.2.1 IE.out.2.2.1 IE.out.2.2.2 rfl (by decide) (.slice a7 n7 c7) _ _ (by simp [Act.eval, Act.put]; done) HOA.out a2 n2 c2 (V2.flatMap entC) (by simp [Act.eval, Act.put]; done) (by rw [length_flatMap_const (f := entC) (sz := 4) V2 (fun x _ => rfl), Hl.out.2]) (fun h => HRA.out.nil h) (HRA.out.cells (by omega) (fun _ => rfl)) (ents_one V2) (by have := Hl.out; omega) (by decide) HBA.out.size ?_
  intro v8 wB hownB hbB hkB hgB
  have HOB : Hid (OR wB wd.heap.size 64 4 entC v8 (V1 ++ V2)) := hid (by
    rw [← Hl.out.2, ← List.flatMap_append, ← List.length_append] at hownB
    exact hownB)
  have HBB := hid (HBA.out.trans hbB)
  clear hownB hbB hkB hgB
  obtain ⟨a8, n8, c8, h8⟩ := HOB.out.shape
  subst h8
  have HBB2 := hid (HBd.out.trans (HBB.out.mono HBd.out.size))
  go_wp2_with fail
  refine ⟨HBB2.out, ?_⟩
  have HRB : Hid (RowOf wB 4 entC a8 n8 c8 (V1 ++ V2)) := hid (HOB.out.row' (by decide) (fun _ => rfl) (by rw [List.length_append]; have := Hl.out; omega))
  have hn8 : n8 ≤ 262144 := by
    have h1 := HRB.out.1
    rw [List.length_append] at h1
    have := Hl.out
    omega
  clear HOA HBA HBA2 HRA HRd HBd HOB HBB
  go_wp2_with fail
  refine ⟨HBB2.out, ?_⟩
  simp only [QN]
  obtain ⟨VV, hVV⟩ : ∃ VV, V1 ++ V2 = VV := ⟨_, rfl⟩
  rw [hVV] at HRB HEx
  have HlV : Hid (VV.length = n8) := hid HRB.out.1
  clear hVV
  have HBf : Hid (∀ wz, Below wB.heap.size wB wz → Below w9.heap.size w9 wz) := hid (fun wz hz => HBB2.out.trans (hz.mono HBB2.out.size))
  go_upto_region 16 with fail
  go_loopw [11, 85] (fun v11 v wr => ∃ j : Nat, j ≤ n8 ∧ v = .int .i64 (j : Int) ∧ ∃ z : Nat, z ≤ j ∧ v11 = .int .i64 (z : Int) ∧ Hid (z = (VV.take j).countP (fun t => decide (t.pins = 0)) ∧ Below wB.heap.size wB wr)) (fun _ v _ => n8 - (intOf v).toNat)
  case atStart => exact ⟨0, by omega, rfl, 0, by omega, rfl, hid ⟨rfl, Below.refl _ _⟩⟩
  case round =>
  obtain ⟨j, hj, rfl, z, hz, rfl, HQ⟩ := hrel
  by_cases hjn : j < n8
  · as_aux_lemma =>
    have di2 : decide ((j : Int) < (n8 : Int)) = true := decide_eq_true (by omega)
    have hii2 : (j : Int) < (n8 : Int) := by omega
    obtain ⟨t, ht, b', off', rfl, hb', hc⟩ := (HRB.out.below HQ.out.2).cell hjn
    have q0 : wr.cell? ⟨b', off' + j * 4, none⟩ = some (.int .i64 t.slot) := by simpa [entC] using hc 0 (by omega)
    have q1 : wr.cell? ⟨b', off' + j * 4 + 1, none⟩ = some (.int .u64 t.key) := by simpa [entC] using hc 1 (by omega)
    have q2 : wr.cell? ⟨b', off' + j * 4 + 2, none⟩ = some (.int .i64 t.pins) := by simpa [entC] using hc 2 (by omega)
    have q3 : wr.cell? ⟨b', off' + j * 4 + 3, none⟩ = some (.bool t.neg) := by simpa [entC] using hc 3 (by omega)
    have hcn := take_count ht (fun t => decide (t.pins = 0))
    rw [← HQ.out.1] at hcn
    obtain ⟨p9, hp9⟩ : ∃ p, wr.heap.size = p := ⟨_, rfl⟩
    obtain ⟨wx, hwx⟩ : ∃ w9, wr.alloc (.cells #[.int .i64 t.slot, .int .u64 t.key, .int .i64 t.pins, .bool t.neg] 64) = w9 := ⟨_, rfl⟩
    have HB9x : Hid (Below wB.heap.size wB wx ∧ Blk wx p9 64 [.int .i64 t.slot, .int .u64 t.key, .int .i64 t.pins, .bool t.neg]) := hid (by
      have k1 := Blk.new wr [.int .i64 t.slot, .int .u64 t.key, .int .i64 t.pins, .bool t.neg] 64
      rw [hp9] at k1
      rw [← hwx]
      exact ⟨HQ.out.2.trans ((nbel wr _).mono HQ.out.2.size), k1⟩)
    clear hc ht hb'
    go_upto_region 18 with fail
    try simp only [hwx]
    clear hwx hp9 q0 q1 q2 q3
    have m2 : wx.cell? ⟨p9, 2, none⟩ = some (.int .i64 t.pins) := HB9x.out.2.cell 2
    by_cases hp : t.pins = 0
    · have HF : Hid (z + 1 = (VV.take (j + 1)).countP (fun t => decide (t.pins = 0)) ∧ Below wB.heap.size wB wx) := hid ⟨by rw [hcn, if_pos (by simpa using hp)], HB9x.out.1⟩
      have dp : (t.pins == 0) = true := by rw [hp]; rfl
      clear hp HB9x HQ hcn
      go_wp2
      exact ⟨⟨j + 1, by omega, by go_num, z + 1, by omega, by go_num, HF⟩, by simp [intOf]; omega⟩
    · have HF : Hid (z = (VV.take (j + 1)).countP (fun t => decide (t.pins = 0)) ∧ Below wB.heap.size wB wx) := hid ⟨by rw [hcn, if_neg (by simpa using hp), Nat.add_zero], HB9x.out.1⟩
      have dp : (t.pins == 0) = false := by simpa using hp
      clear hp HB9x HQ hcn
      go_wp2
      exact ⟨⟨j + 1, by omega, by go_num, z, by omega, rfl, HF⟩, by simp [intOf]; omega⟩
  have di2 : decide ((j : Int) < (n8 : Int)) = false := decide_eq_false (by omega)
  have HBr := hid (HBf.out wr HQ.out.2)
  obtain ⟨ov0, hov⟩ : ∃ o, victimS s' L' = o := ⟨_, rfl⟩
  have HEv : Hid (ov0.isSome = decide (0 < z) ∧ expP V1 V2 s'.kin s'.kneg = ov0.map (entOf s')) := hid (by
    have h1 := HQ.out.1
    rw [List.take_of_length_le (by have := HlV.out; omega)] at h1
    rw [h1, ← hov]
    exact ⟨HEx.out.2, HEx.out.1⟩)
  obtain ⟨wr2, hwr2⟩ : ∃ wr2, wr2 = wr := ⟨_, rfl⟩
  subst hwr2
  clear HQ HEx HRB HlV HBf HBB2
  have HR8 := hid ((HRS.out.below HB9.out).below HBr.out)
  have HVc := hid (victim_ee HR8.out.ee)
  rw [hov] at HVc
  have Hov := hid hov
  have r0 : wr2.cell? ⟨r, 0, none⟩ = some (.pointer (some ⟨e', 0, none⟩)) := HR8.out.rb.cell 0
  clear hov
  go_upto_region 21 with fail
  go_wp2_with fail
  refine HVc.out.mono ?_
  rintro y wV ⟨rfl, _, hbV⟩
  clear HVc r0
  have HBV := hid (HBr.out.trans (hbV.mono HBr.out.size))
  clear hbV HBr HR8
  unfold ov
  obtain ⟨Bv, hBv⟩ : ∃ B, decide ((z : Int) > 0) = B := ⟨_, rfl⟩
  have hBv2 : decide ((0 : Int) < (z : Int)) = Bv := hBv
  have hBv3 : decide (0 < z) = Bv := by rw [← hBv]; exact decide_eq_decide.2 (by omega)
  have hBo : ov0.isSome = Bv := by
    rw [HEv.out.1, ← hBv]
    exact decide_eq_decide.2 (by omega)
  rw [hBo]
  have HFin := hid (HLn.out wV (HB9.out.trans (HBV.out.mono HB9.out.size)))
  have HRV := hid ((HRS.out.below HB9.out).below HBV.out)
  cases ov0 with
  | none =>
    as_aux_lemma =>
    have hB : Bv = false := hBo.symm
    clear hBo
    subst hB
    simp only [ovV]
    clear HRV HEv HVb HRow HLn
    go_wp2
    exact ⟨⟨i + 1, by omega, by go_num, HFin⟩, by simp [intOf]; omega⟩
  | some iv =>
  as_aux_lemma =>
  have hB : Bv = true := hBo.symm
  clear hBo
  subst hB
  simp only [ovV]
  obtain ⟨hv1, hv2, hv3⟩ := HRV.out.ei.victim Hov.out
  have HEn := hid (entry_live HRV.out.em HRV.out.ei hv1 (by omega) (HPB2.out iv hv1))
  rw [hv3] at HEn
  have HV1 := hid hv1
  obtain ⟨ky, hky⟩ : ∃ k, (s'.key iv : Int) = k := ⟨_, rfl⟩
  obtain ⟨ng, hng⟩ : ∃ k, s'.neg iv = k := ⟨_, rfl⟩
  rw [hky, hng] at HEn
  have r0 : wV.cell? ⟨r, 0, none⟩ = some (.pointer (some ⟨e', 0, none⟩)) := HRV.out.rb.cell 0
  clear hv1 hv2 hv3 hky hng HFin
  go_upto_region 25 with fail
  go_wp2_with fail
  refine HEn.out.mono ?_
  rintro y wE ⟨rfl, hbE⟩
  have HBE := hid (HBV.out.trans (hbE.mono HBV.out.size))
  clear hbE HEn r0 HBV HRV
  obtain ⟨p16, hp16⟩ : ∃ p, wE.heap.size = p := ⟨_, rfl⟩
  go_upto_region 26 with fail
  obtain ⟨wG, hwG⟩ : ∃ w9, wE.alloc (.cells #[.int .i64 (iv : Int), .int .u64 ky, .int .i64 0, .bool ng] 64) = w9 := ⟨_, rfl⟩
  have HBG : Hid (Below w9.heap.size w9 wG ∧ Blk wG p16 64 [.int .i64 (iv : Int), .int .u64 ky, .int .i64 0, .bool ng]) := hid (by
    have k1 := Blk.new wE [.int .i64 (iv : Int), .int .u64 ky, .int .i64 0, .bool ng] 64
    rw [hp16] at k1
    rw [← hwG]
    exact ⟨HBE.out.trans ((nbel wE _).mono HBE.out.size), k1⟩)
  try simp only [hwG]
  clear hwG hp16 HBE
  have m2 : wG.cell? ⟨p16, 2, none⟩ = some (.int .i64 0) := HBG.out.2.cell 2
  go_upto_region 28 with fail
  clear m2
  have HBH := hid HBG.out.1
  clear HBG
  refine wp_region_hlh (fun w3 => Below w9.heap.size w9 w3) 11 [0, 1, 2, 3, 4] [5, 6] [7, 8, 9, 10] [] rfl (by kernel_rfl) (by kernel_rfl) (fun d _ _ _ _ h => by cases d <;> exact h) (HBH.out.trans ((Drew.below ⟨1, rfl⟩ _ : Below wG.heap.size wG wG.drew).mono HBH.out.size)) ?_
  apply Exists.intro
  refine ⟨?_, ?_⟩
  · intro W hW
    have d0 : ∀ x, (W x).cell? ⟨vb2, 0, none⟩ = some (.slice a1 n1 c1) := fun x => (HVb.out.below (hW x)).cell 0
    have d1 : ∀ x, (W x).cell? ⟨vb2, 1, none⟩ = some (.slice a2 n2 c2) := fun x => (HVb.out.below (hW x)).cell 1
    have d2 : ∀ x, (W x).cell? ⟨vb2, 2, none⟩ = some (.slice a3 n3 c3) := fun x => (HVb.out.below (hW x)).cell 2
    have d3 : ∀ x, (W x).cell? ⟨r, 0, none⟩ = some (.pointer (some ⟨e', 0, none⟩)) := fun x => ((HRS.out.below HB9.out).below (hW x)).rb.cell 0
    clear hW
    simp only [List.take, opsAt, List.drop, List.cons_append, List.nil_append]
    repeat (go_big_quiet_step (fail))
    exact rfl
  simp only [List.take, List.drop, opsAt, List.cons_append, List.nil_append, wpHvK]
  have HB0 : Hid (Below w9.heap.size w9 wG.drew) := hid (HBH.out.trans ((Drew.below ⟨1, rfl⟩ _ : Below wG.heap.size wG wG.drew).mono HBH.out.size))
  generalize wG.drew = wd2 at HB0 ⊢
  have HCf := hid (config_walk ((HRS.out.below HB9.out).below HB0.out).em)
  go_wp2_with fail
  refine HCf.out.mono ?_
  rintro y wI ⟨rfl, hbI⟩
  have HBI := hid (HB0.out.trans (hbI.mono HB0.out.size))
  clear hbI HCf
  go_wp2_with fail
  refine ⟨HBI.out, ?_⟩
  have HEw := hid (expected_walk (a3 := a3) (n3 := n3) (c3 := c3) (HRow.out.1.below HBI.out) (HRow.out.2.below HBI.out) hn1 hn2 (s'.slots : Int) (s'.kin : Int) (s'.kout : Int) (s'.kneg : Int))
  rw [HEv.out.2, slotO_victim, Option.isSome_map] at HEw
  go_wp2_with fail
  refine HEw.out.mono ?_
  rintro y wJ ⟨rfl, hbJ⟩
  have HBJ := hid (HBI.out.trans (hbJ.mono HBI.out.size))
  clear hbJ HEw
  go_wp2_with fail
  refine ⟨HBJ.out, ?_⟩
  apply Exists.intro
  refine ⟨?_, ?_⟩
  · intro W hW
    clear hW
    try simp only [List.take, opsAt, List.drop, List.cons_append, List.nil_append]
    repeat (go_big_quiet_step (fail))
    exact rfl
  simp only [List.take, List.drop, opsAt, List.cons_append, List.nil_append, wpHv, QN]
  have HFin := hid (HLn.out wJ (HB9.out.trans (HBJ.out.mono HB9.out.size)))
  simp only [ovV, Option.isSome]
  clear HBI HB0 HRow HVb HEv HLn HBJ HBH
  go_wp2
  exact ⟨⟨i + 1, by omega, by go_num, HFin⟩, by simp [intOf]; omega⟩
end Go.Proofs.Qxb6500892aDoor
