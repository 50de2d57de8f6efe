/- PinnedStay: the walk. -/
import Derived.Test.Qxb6500892aDoorTqPinM
namespace Go.Proofs.Qxb6500892aDoor
open Go.RowKit
set_option linter.unusedSimpArgs false
set_option linter.unusedVariables false

/-- The machine at the start of a round. -/
def LI (w0 : World) (r i : Nat) (w : World) : Prop := ∃ e gn gb s L C, RS w0 r e gn gb s L C w ∧ ∀ j, j < s.slots → s.pin j ≤ (i : Int)
theorem NewS.pinB {a b c d : Int} {s : ES} {L : Nat → List Nat} (h : NewS a b c d s L) (i : Nat) : ∀ j, j < s.slots → s.pin j ≤ (i : Int) := fun j _ => by rw [h.pin]; omega
set_option maxRecDepth 100000 in
set_option maxHeartbeats 4000000 in
theorem pinned_walk (a : Option Addr) (n c : Nat) (l : List TOp) (w : World) (hs : Script w a n c l) (hd : Dflt w) :
    Calls Tryd.prog 6 #[.slice a n c] w fun e w' => e = .returned (.bool true) ∧ Below w.heap.size w w' := by
  have hn := hs.1.2.2.1.1
  have HSm := hid (fun w => small_walk a n c (by unfold maxLen; omega) w)
  have HS := hid hs
  have HD := hid (newReal_walk hd)
  clear hs hd
  by_cases hsm : n ≤ 65536
  rotate_left
  · as_aux_lemma =>
    rw [decide_eq_false hsm] at HSm
    go_enter Tryd.func6, Tryd.ntmps6
    go_wp2_with (go_at_call 7; refine (HSm.out _).mono ?_; rintro e w' ⟨rfl, rfl⟩)
    go_ret
    exact ⟨rfl, Below.refl _ _⟩
  rw [decide_eq_true hsm] at HSm
  go_enter Tryd.func6, Tryd.ntmps6
  go_wp2_with (go_at_call 7; refine (HSm.out _).mono ?_; rintro e w' ⟨rfl, rfl⟩)
  refine HD.out.mono ?_
  rintro y w1 ⟨r, rfl, HR⟩
  have HLI : Hid (LI w' r 0 w1) := hid (by
    obtain ⟨e, gn, gb, s, L, C, h1, h2⟩ := HR.out
    exact ⟨e, gn, gb, s, L, C, h1, h2.pinB 0⟩)
  clear HR HD HSm
  go_upto_region 5 with fail
  go_loopw [22] (fun v wr => ∃ i : Nat, i ≤ n ∧ v = .int .i64 (i : Int) ∧ Hid (LI w' r i wr)) (fun v _ => n - (intOf v).toNat)
  case atStart => exact ⟨0, by omega, rfl, HLI⟩
  case round =>
  clear HLI
  obtain ⟨i, hi, rfl, HLI⟩ := hrel
  obtain ⟨e, gn, gb, s, L, C, hrs, hpb⟩ := HLI.out
  have HRS := hid hrs
  have HPB := hid hpb
  clear hrs hpb HLI
  obtain ⟨wo, hwo⟩ : ∃ wo, wo = wr := ⟨_, rfl⟩
  subst hwo
  by_cases hin : i < n
  rotate_left
  · as_aux_lemma =>
    have di : decide ((i : Int) < (n : Int)) = false := decide_eq_false (by omega)
    go_wp2
    go_ret
    exact ⟨rfl, HRS.out.bel⟩
  have di : decide ((i : Int) < (n : Int)) = true := decide_eq_true (by omega)
  have hii : (i : Int) < (n : Int) := by omega
  obtain ⟨o, ho, hok, b, off, rfl, hb, c0, c1, c2, c3, c4, c5, c6, c7⟩ := (HS.out.below HRS.out.bel).at hin
  have HOk := hid hok
  have Ho := hid ho
  clear ho hok
  obtain ⟨ob, hob⟩ : ∃ p, wo.heap.size = p := ⟨_, rfl⟩
  go_upto_region 7 with fail
  obtain ⟨w2, hw2⟩ : ∃ w2, wo.alloc (.cells #[.int .u8 (o.kind : Int), .int .i64 o.x, .int .u64 (o.k : Int), .bool o.B, .int .i64 o.a, .int .i64 o.b, .int .i64 o.c, .int .i64 o.d] 33) = w2 := ⟨_, rfl⟩
  have HW2 : Hid (RS w' r e gn gb s L C w2 ∧ Blk w2 ob 33 (opCells o)) := hid (by
    rw [← hw2]
    have hbk := Blk.new wo (opCells o) 33
    rw [hob] at hbk
    exact ⟨HRS.out.below (nbel wo _), hbk⟩)
  simp only [hw2]
  clear hw2 hob c0 c1 c2 c3 c4 c5 c6 c7 HRS
  obtain ⟨N, hN⟩ : ∃ N, s.slots = N := ⟨_, rfl⟩
  have HN := hid hN
  have HC := hid (config_walk HW2.out.1.em)
  rw [hN] at HC
  have hN1 : N ≤ 100000000 := by have := HW2.out.1.ei.s1; omega
  clear hN
  have r0 : w2.cell? ⟨r, 0, none⟩ = some (.pointer (some ⟨e, 0, none⟩)) := HW2.out.1.rb.cell 0
  go_wp2_with fail
  refine HC.out.mono ?_
  rintro y w3 ⟨rfl, hb3⟩
  have HW3 : Hid (RS w' r e gn gb s L C w3 ∧ Blk w3 ob 33 (opCells o)) := hid ⟨HW2.out.1.below hb3, HW2.out.2.below hb3⟩
  clear hb3 HW2 r0 HC
  have FC := fun w => field_cfg0 (N : Int) (s.kin : Int) (s.kout : Int) (s.kneg : Int) w
  have M1 := fun w => make_ent N hN1 w
  have M2 := fun w => make_was N hN1 w
  obtain ⟨Z1, hZ1⟩ : ∃ Z, madeCells #[.int .i64 0, .int .u64 0, .int .i64 0, .bool false] (N * 4) = Z := ⟨_, rfl⟩
  obtain ⟨Z2, hZ2⟩ : ∃ Z, madeCells #[.bool false] N = Z := ⟨_, rfl⟩
  rw [hZ1] at M1
  rw [hZ2] at M2
  have HZ := hid (And.intro hZ1 hZ2)
  clear hZ1 hZ2
  obtain ⟨bf, hbf⟩ : ∃ p, w3.heap.size = p := ⟨_, rfl⟩
  go_upto_region 10 with fail
  obtain ⟨wb, hwb⟩ : ∃ q, bf + 1 = q := ⟨_, rfl⟩
  obtain ⟨w4, hw4⟩ : ∃ w4, (w3.alloc (.cells Z1 64)).alloc (.cells Z2 4) = w4 := ⟨_, rfl⟩
  have HP0 : Hid (PB w' r e gn gb s L C o s ob bf wb 0 N w4) := hid (by
    have s1 : ∀ (x : World) (o : Obj), (x.alloc o).heap.size = x.heap.size + 1 := fun x o => by simp
    have z1 := HZ.out.1
    have z2 := HZ.out.2
    rw [made_ent s] at z1
    rw [made_was s] at z2
    subst z1 z2
    have hb : Below w3.heap.size w3 w4 := by rw [← hw4]; exact ((Below.refl _ w3).alloc (Nat.le_refl _) _).alloc (by rw [s1]; omega) _
    have k1 := (Blk.new w3 (bfL s 0 N) 64).alloc (.cells (wsL s 0 N).toArray 4)
    have k2 := Blk.new (w3.alloc (.cells (bfL s 0 N).toArray 64)) (wsL s 0 N) 4
    rw [s1, hbf, hwb, hw4] at k2
    rw [hbf, hw4] at k1
    have hl := HW3.out.1.bel.size
    exact ⟨HW3.out.1.below hb, HW3.out.2.below hb, k1, k2, by omega, by omega⟩)
  simp only [hw4, hwb]
  clear hw4 hwb hbf HZ M1 M2 HW3 FC
  go_upto_region 11 with fail
  go_loopw [38] (fun v wx => ∃ j : Nat, j ≤ N ∧ v = .int .i64 (j : Int) ∧ Hid (PB w' r e gn gb s L C o s ob bf wb j N wx)) (fun v _ => N - (intOf v).toNat)
  case atStart => exact ⟨0, by omega, rfl, HP0⟩
  case round =>
  clear HP0
  obtain ⟨j, hj, rfl, HP⟩ := hrel
  by_cases hjN : j < N
  · as_aux_lemma =>
    have dj : decide ((j : Int) < (N : Int)) = true := decide_eq_true (by omega)
    have hjj : (j : Int) < (N : Int) := by omega
    have hjs : j < s.slots := by rw [HN.out]; exact hjN
    obtain ⟨a0, a1, a2, a3, e0, e1, e2, e3⟩ : ∃ a0 a1 a2 a3, enC s j 0 = .int .i64 a0 ∧ enC s j 1 = .int .u64 a1 ∧ enC s j 2 = .int .i64 a2 ∧ enC s j 3 = .bool a3 := ⟨_, _, _, _, rfl, rfl, rfl, rfl⟩
    obtain ⟨a4, e4⟩ : ∃ v, lv s j = v := ⟨_, rfl⟩
    have HE := hid (entry_walk HP.out.rs.ee (i := j) hjs (by have := HPB.out j hjs; omega))
    rw [e0, e1, e2, e3, e4] at HE
    have EV := hid (And.intro e0 (And.intro e1 (And.intro e2 (And.intro e3 e4))))
    have r0 : wr.cell? ⟨r, 0, none⟩ = some (.pointer (some ⟨e, 0, none⟩)) := HP.out.rs.rb.cell 0
    clear e0 e1 e2 e3 e4 hjs
    go_wp2_with fail
    refine HE.out.mono ?_
    rintro y w5 ⟨rfl, hb5⟩
    have HP5 := hid (HP.out.below hb5)
    obtain ⟨z0, z1, z2, z3, z4, f0, f1, f2, f3, f4⟩ := HP5.out.putC hjN a0 a1 a2 a3 a4
    have HPut := hid (HP5.out.put hjN)
    rw [EV.out.1, EV.out.2.1, EV.out.2.2.1, EV.out.2.2.2.1, EV.out.2.2.2.2] at HPut
    clear EV HE HP HP5 hb5 r0
    go_wp2
    exact ⟨⟨j + 1, by omega, by go_num, HPut⟩, by simp [intOf]; omega⟩
  have dj : decide ((j : Int) < (N : Int)) = false := decide_eq_false (by omega)
  have HPN : Hid (PB w' r e gn gb s L C o s ob bf wb N N wr) := hid (by
    have := HP.out
    have hjn : j = N := by omega
    rw [hjn] at this
    exact this)
  clear HP
  obtain ⟨w5, hw5⟩ : ∃ w5, w5 = wr := ⟨_, rfl⟩
  subst hw5
  have HST := hid (step_walk HPN.out.rs o.kind o.x o.k o.B o.a o.b o.c o.d (fun j hj => by have := HPB.out j hj; omega))
  have k0 : w5.cell? ⟨ob, 0, none⟩ = some (.int .u8 (o.kind : Int)) := HPN.out.ko.cell 0
  have k1 : w5.cell? ⟨ob, 1, none⟩ = some (.int .i64 o.x) := HPN.out.ko.cell 1
  have k2 : w5.cell? ⟨ob, 2, none⟩ = some (.int .u64 (o.k : Int)) := HPN.out.ko.cell 2
  have k3 : w5.cell? ⟨ob, 3, none⟩ = some (.bool o.B) := HPN.out.ko.cell 3
  have k4 : w5.cell? ⟨ob, 4, none⟩ = some (.int .i64 o.a) := HPN.out.ko.cell 4
  have k5 : w5.cell? ⟨ob, 5, none⟩ = some (.int .i64 o.b) := HPN.out.ko.cell 5
  have k6 : w5.cell? ⟨ob, 6, none⟩ = some (.int .i64 o.c) := HPN.out.ko.cell 6
  have k7 : w5.cell? ⟨ob, 7, none⟩ = some (.int .i64 o.d) := HPN.out.ko.cell 7
  go_upto_region 15 with fail
  go_wp2_with fail
  refine HST.out.mono ?_
  rintro y w6 ⟨err, som, slt, hy, HX⟩
  unfold ansV at hy
  subst hy
  clear k0 k1 k2 k3 k4 k5 k6 k7 HST
  obtain ⟨qb, hqb⟩ : ∃ p, w6.heap.size = p := ⟨_, rfl⟩
  go_upto_region 16 with fail
  obtain ⟨w7, hw7⟩ : ∃ w7, w6.alloc (.cells #[.int .u8 (err : Int), .bool som, .int .i64 slt] 36) = w7 := ⟨_, rfl⟩
  have HY : Hid (∃ e' gn' gb' s' L' C', PB w' r e' gn' gb' s' L' C' o s ob bf wb N N w7 ∧ Blk w7 qb 36 [.int .u8 (err : Int), .bool som, .int .i64 slt] ∧ StpS o.x o.k o.B o.a o.b o.c o.d s L o.kind err som slt s' L') := hid (by
    obtain ⟨e', gn', gb', s', L', C', h1, h2, h3⟩ := HX.out
    have hb : Below w6.heap.size w6 w7 := by rw [← hw7]; exact nbel w6 _
    have k1 := Blk.new w6 [.int .u8 (err : Int), .bool som, .int .i64 slt] 36
    rw [hqb, hw7] at k1
    exact ⟨e', gn', gb', s', L', C', (HPN.out.step h1 h2).below hb, k1, h3⟩)
  simp only [hw7]
  clear hw7 hqb HX
  have HEI := hid HPN.out.rs.ei
  clear HPN
  obtain ⟨e', gn', gb', s', L', C', hp7, hq7, hst⟩ := HY.out
  have HP7 := hid hp7
  have HQ7 := hid hq7
  have HStp := hid hst
  clear hp7 hq7 hst HY
  have HLn : Hid (∀ wz, PB w' r e' gn' gb' s' L' C' o s ob bf wb N N wz → LI w' r (i + 1) wz) := hid (fun wz hz => ⟨e', gn', gb', s', L', C', hz.rs, fun j hj => by
    have := HStp.out.pinU HEI.out (N := (i : Int)) (by omega) HPB.out j hj
    omega⟩)
  have k0 : w7.cell? ⟨ob, 0, none⟩ = some (.int .u8 (o.kind : Int)) := HP7.out.ko.cell 0
  have q0 : w7.cell? ⟨qb, 0, none⟩ = some (.int .u8 (err : Int)) := HQ7.out.cell 0
  by_cases hk0 : o.kind = 0
  · as_aux_lemma =>
    have dk : ((o.kind : Int) == 0) = true := by rw [hk0]; rfl
    have r0 : w7.cell? ⟨r, 0, none⟩ = some (.pointer (some ⟨e', 0, none⟩)) := HP7.out.rs.rb.cell 0
    by_cases he : err = 0
    · as_aux_lemma =>
      have de : ((err : Int) == 0) = true := by rw [he]; rfl
      have HLen := hid (len_bel HP7.out.rs.ee)
      have hl : ((L' 1).length + (L' 2).length : Int) = 0 := by
        obtain ⟨h1, h2⟩ := HStp.out.len0 hk0 he
        rw [h1, h2]; rfl
      rw [hl] at HLen
      clear hl hk0 he
      go_upto_region 17 with fail
      go_wp2_with fail
      refine HLen.out.mono ?_
      rintro y w8 ⟨rfl, hb8⟩
      have HF := hid (HLn.out w8 (HP7.out.below hb8))
      clear hb8 HLen HP7 HQ7 HStp HLn
      go_wp2
      exact ⟨⟨i + 1, by omega, by go_num, HF⟩, by simp [intOf]; omega⟩
    · as_aux_lemma =>
      have de : ((err : Int) == 0) = false := by simp; omega
      have HF := hid (HLn.out w7 HP7.out)
      clear hk0 he HP7 HQ7 HStp HLn
      go_wp2
      exact ⟨⟨i + 1, by omega, by go_num, HF⟩, by simp [intOf]; omega⟩
  have dk : ((o.kind : Int) == 0) = false := by simp; omega
  have HEff := hid (HStp.out.eff HEI.out hk0)
  go_upto_region 20 with fail
  clear k0 q0
  go_loopw [76] (fun v wx => ∃ j : Nat, j ≤ N ∧ v = .int .i64 (j : Int) ∧ Hid (PB w' r e' gn' gb' s' L' C' o s ob bf wb N N wx ∧ Blk wx qb 36 [.int .u8 (err : Int), .bool som, .int .i64 slt])) (fun v _ => N - (intOf v).toNat)
  case atStart => exact ⟨0, by omega, rfl, hid ⟨HP7.out, HQ7.out⟩⟩
  case round =>
  clear HP7 HQ7
  obtain ⟨m, hm, rfl, HP⟩ := hrel
  by_cases hmN : m < N
  rotate_left
  · as_aux_lemma =>
    have dm : decide ((m : Int) < (N : Int)) = false := decide_eq_false (by omega)
    have HF := hid (HLn.out wr HP.out.1)
    clear HLn HP HEff HStp HEI
    go_wp2
    exact ⟨⟨i + 1, by omega, by go_num, HF⟩, by simp [intOf]; omega⟩
  have dm : decide ((m : Int) < (N : Int)) = true := decide_eq_true (by omega)
  have hmm : (m : Int) < (N : Int) := by omega
  have hms : m < s.slots := by rw [HN.out]; exact hmN
  have hms' : m < s'.slots := by rw [HEff.out.sl]; exact hms
  obtain ⟨a1, a2, e1, e2⟩ : ∃ a1 a2, enC s m 1 = .int .u64 a1 ∧ enC s m 2 = .int .i64 a2 := ⟨_, _, rfl, rfl⟩
  obtain ⟨a4, e4⟩ : ∃ v, lv s m = v := ⟨_, rfl⟩
  obtain ⟨b0, b1, b2, b3, g0, g1, g2, g3⟩ : ∃ a0 a1 a2 a3, enC s' m 0 = .int .i64 a0 ∧ enC s' m 1 = .int .u64 a1 ∧ enC s' m 2 = .int .i64 a2 ∧ enC s' m 3 = .bool a3 := ⟨_, _, _, _, rfl, rfl, rfl, rfl⟩
  obtain ⟨b4, g4⟩ : ∃ v, lv s' m = v := ⟨_, rfl⟩
  have HA := hid ((HEff.out.at_ m hms).cells e1 e2 e4 g1 g2 g4)
  have ha2 : 0 ≤ a2 ∧ a2 ≤ 100000 := by
    have h1 := HPB.out m hms
    have h2 := (HEI.out.pn m (by have := HEI.out.nn; omega)).1
    simp only [enC, Value.int.injEq, true_and] at e2
    split at e2 <;> omega
  have HE := hid (entry_walk HP.out.1.rs.ee (i := m) hms' (by have := HStp.out.pinU HEI.out (N := (i : Int)) (by omega) HPB.out m hms'; omega))
  rw [g0, g1, g2, g3, g4] at HE
  have HCel : Hid (∀ wz, PB w' r e' gn' gb' s' L' C' o s ob bf wb N N wz → wz.cell? ⟨bf, m * 4 + 1, none⟩ = some (.int .u64 a1) ∧ wz.cell? ⟨bf, m * 4 + 2, none⟩ = some (.int .i64 a2) ∧ wz.cell? ⟨wb, m, none⟩ = some (.bool a4) ∧ wz.cell? ⟨ob, 0, none⟩ = some (.int .u8 (o.kind : Int)) ∧ wz.cell? ⟨ob, 1, none⟩ = some (.int .i64 o.x)) := hid (fun wz hz => ⟨by rw [hz.kf.cell, bfL_get s hmN (by omega), e1], by rw [hz.kf.cell, bfL_get s hmN (by omega), e2], by rw [hz.kw.cell, wsL_get s hmN, e4], hz.ko.cell 0, hz.ko.cell 1⟩)
  have r0 : wr.cell? ⟨r, 0, none⟩ = some (.pointer (some ⟨e', 0, none⟩)) := HP.out.1.rs.rb.cell 0
  clear e1 e2 e4 g0 g1 g2 g3 g4 hms hms' HEff HStp HEI
  go_upto_region 22 with fail
  go_wp2_with fail
  refine HE.out.mono ?_
  rintro y w8 ⟨rfl, hb8⟩
  have HP8 := hid (And.intro (HP.out.1.below hb8) (HP.out.2.below hb8))
  clear hb8 HE HP r0
  obtain ⟨nb, hnb⟩ : ∃ p, w8.heap.size = p := ⟨_, rfl⟩
  go_upto_region 23 with fail
  obtain ⟨w9, hw9⟩ : ∃ w9, w8.alloc (.cells #[.int .i64 b0, .int .u64 b1, .int .i64 b2, .bool b3] 64) = w9 := ⟨_, rfl⟩
  have HP9 : Hid (PB w' r e' gn' gb' s' L' C' o s ob bf wb N N w9 ∧ Blk w9 qb 36 [.int .u8 (err : Int), .bool som, .int .i64 slt] ∧ Blk w9 nb 64 [.int .i64 b0, .int .u64 b1, .int .i64 b2, .bool b3]) := hid (by
    have hb : Below w8.heap.size w8 w9 := by rw [← hw9]; exact nbel w8 _
    have k1 := Blk.new w8 [.int .i64 b0, .int .u64 b1, .int .i64 b2, .bool b3] 64
    rw [hnb, hw9] at k1
    exact ⟨HP8.out.1.below hb, HP8.out.2.below hb, k1⟩)
  simp only [hw9]
  clear hw9 hnb HP8
  go_cut [76, 113] from 76 to 174 (fun v76 v wc => v76 = .int .i64 (m : Int) ∧ v = .bool false ∧ Hid (PB w' r e' gn' gb' s' L' C' o s ob bf wb N N wc ∧ Blk wc qb 36 [.int .u8 (err : Int), .bool som, .int .i64 slt] ∧ Blk wc nb 64 [.int .i64 b0, .int .u64 b1, .int .i64 b2, .bool b3]))
  case first =>
    as_aux_lemma =>
    have HD : Hid (∀ nn, PB w' r e' gn' gb' s' L' C' o s ob bf wb N N (w9.drewN nn) ∧ Blk (w9.drewN nn) qb 36 [.int .u8 (err : Int), .bool som, .int .i64 slt] ∧ Blk (w9.drewN nn) nb 64 [.int .i64 b0, .int .u64 b1, .int .i64 b2, .bool b3]) := hid (fun nn => ⟨HP9.out.1.below (Drew.below ⟨nn, rfl⟩ _), HP9.out.2.1.drewN nn, HP9.out.2.2.drewN nn⟩)
    obtain ⟨c1, c2, c4, k0, k1⟩ := HCel.out w9 HP9.out.1
    have m1 : w9.cell? ⟨nb, 1, none⟩ = some (.int .u64 b1) := HP9.out.2.2.cell 1
    obtain ⟨h1, _⟩ := HA.out
    clear HP9 HA HCel HLn
    cases ha4 : a4 with
    | false =>
      subst ha4
      go_region
      all_goals (go_wp2_with fail)
      all_goals go_meet
      all_goals exact ⟨rfl, rfl, hid (HD.out 1)⟩
    | true =>
      subst ha4
      by_cases h0 : 0 < a2
      · obtain ⟨hb4, hb1⟩ := h1 rfl h0
        subst hb4 hb1
        have d1 : decide (a2 > 0) = true := decide_eq_true h0
        have d2 : decide (0 < a2) = true := decide_eq_true h0
        clear h1
        go_region
        all_goals (go_wp2_with fail)
        all_goals go_meet
        all_goals exact ⟨rfl, rfl, hid (HD.out 1)⟩
      · have d1 : decide (a2 > 0) = false := decide_eq_false h0
        have d2 : decide (0 < a2) = false := decide_eq_false h0
        clear h1
        go_region
        all_goals (go_wp2_with fail)
        all_goals go_meet
        all_goals exact ⟨rfl, rfl, hid (HD.out 1)⟩
  case rest =>
  as_aux_lemma =>
  obtain ⟨rfl, rfl, HP10⟩ := hcut
  clear HP9
  obtain ⟨c1, c2, c4, k0, k1⟩ := HCel.out wc HP10.out.1
  have m2 : wc.cell? ⟨nb, 2, none⟩ = some (.int .i64 b2) := HP10.out.2.2.cell 2
  have q0 : wc.cell? ⟨qb, 0, none⟩ = some (.int .u8 (err : Int)) := HP10.out.2.1.cell 0
  have HPe := hid (And.intro HP10.out.1 HP10.out.2.1)
  clear HP10 HCel HLn
  cases hb4 : b4 with
  | false =>
    as_aux_lemma =>
    subst hb4
    clear HA
    go_wp2
    exact ⟨⟨m + 1, by omega, by go_num, HPe⟩, by simp [intOf]; omega⟩
  | true =>
    as_aux_lemma =>
    subst hb4
    obtain ⟨_, h2, h3⟩ := HA.out
    replace h2 := h2 rfl
    replace h3 := h3 rfl
    by_cases hx : (m : Int) = o.x
    · as_aux_lemma =>
      by_cases he : err = 0
      · by_cases hk1 : o.kind = 1
        · as_aux_lemma =>
          have hf : freshP o.kind o.x err m := ⟨hx, he, .inl hk1⟩
          have hd : dltP o.kind o.x err m = 0 := by unfold dltP; rw [if_pos ⟨hx, he⟩, if_neg (by omega), if_neg (by omega)]
          have hb2 : b2 = 0 := by rw [h3, if_pos hf, hd]; rfl
          subst hb2
          have dx : ((m : Int) == o.x) = true := by simp; omega
          have de : ((err : Int) == 0) = true := by simp; omega
          have dk1 : ((o.kind : Int) == 1) = true := by simp; omega
          have dk9 : ((o.kind : Int) == 9) = false := by simp; omega
          have dk4 : ((o.kind : Int) == 4) = false := by simp; omega
          have dk5 : ((o.kind : Int) == 5) = false := by simp; omega
          clear h2 h3 hf hd hk0 hx he HA hk1
          go_wp2
          exact ⟨⟨m + 1, by omega, by go_num, HPe⟩, by simp [intOf]; omega⟩
        by_cases hk9 : o.kind = 9
        · as_aux_lemma =>
          have hf : freshP o.kind o.x err m := ⟨hx, he, .inr hk9⟩
          have hd : dltP o.kind o.x err m = 0 := by unfold dltP; rw [if_pos ⟨hx, he⟩, if_neg (by omega), if_neg (by omega)]
          have hb2 : b2 = 0 := by rw [h3, if_pos hf, hd]; rfl
          subst hb2
          have dx : ((m : Int) == o.x) = true := by simp; omega
          have de : ((err : Int) == 0) = true := by simp; omega
          have dk1 : ((o.kind : Int) == 1) = false := by simp; omega
          have dk9 : ((o.kind : Int) == 9) = true := by simp; omega
          have dk4 : ((o.kind : Int) == 4) = false := by simp; omega
          have dk5 : ((o.kind : Int) == 5) = false := by simp; omega
          clear h2 h3 hf hd hk0 hx he HA hk1 hk9
          go_wp2
          exact ⟨⟨m + 1, by omega, by go_num, HPe⟩, by simp [intOf]; omega⟩
        by_cases hk4 : o.kind = 4
        · as_aux_lemma =>
          have hf : ¬ freshP o.kind o.x err m := fun h => by obtain ⟨z1, z2, z3⟩ := h; omega
          have hd : dltP o.kind o.x err m = 1 := by unfold dltP; rw [if_pos ⟨hx, he⟩, if_pos hk4]
          have hb2 : b2 = a2 + 1 := by rw [h3, if_neg hf, hd]
          have ha4 := h2 hf
          subst ha4
          subst hb2
          have dx : ((m : Int) == o.x) = true := by simp; omega
          have de : ((err : Int) == 0) = true := by simp; omega
          have dk1 : ((o.kind : Int) == 1) = false := by simp; omega
          have dk9 : ((o.kind : Int) == 9) = false := by simp; omega
          have dk4 : ((o.kind : Int) == 4) = true := by simp; omega
          have dk5 : ((o.kind : Int) == 5) = false := by simp; omega
          have hw64 : wrap64 (a2 + 1) = a2 + 1 := by unfold wrap64; omega
          clear h2 h3 hf hd hk0 hx he HA hk1 hk9 hk4
          go_wp2
          exact ⟨⟨m + 1, by omega, by go_num, HPe⟩, by simp [intOf]; omega⟩
        by_cases hk5 : o.kind = 5
        · as_aux_lemma =>
          have hf : ¬ freshP o.kind o.x err m := fun h => by obtain ⟨z1, z2, z3⟩ := h; omega
          have hd : dltP o.kind o.x err m = -1 := by unfold dltP; rw [if_pos ⟨hx, he⟩, if_neg (by omega), if_pos hk5]
          have hb2 : b2 = a2 - 1 := by rw [h3, if_neg hf, hd]; rfl
          have ha4 := h2 hf
          subst ha4
          subst hb2
          have dx : ((m : Int) == o.x) = true := by simp; omega
          have de : ((err : Int) == 0) = true := by simp; omega
          have dk1 : ((o.kind : Int) == 1) = false := by simp; omega
          have dk9 : ((o.kind : Int) == 9) = false := by simp; omega
          have dk4 : ((o.kind : Int) == 4) = false := by simp; omega
          have dk5 : ((o.kind : Int) == 5) = true := by simp; omega
          have hw64 : wrap64 (a2 - 1) = a2 - 1 := by unfold wrap64; omega
          clear h2 h3 hf hd hk0 hx he HA hk1 hk9 hk4 hk5
          go_wp2
          exact ⟨⟨m + 1, by omega, by go_num, HPe⟩, by simp [intOf]; omega⟩
        · as_aux_lemma =>
          have hf : ¬ freshP o.kind o.x err m := fun h => by obtain ⟨z1, z2, z3⟩ := h; omega
          have hd : dltP o.kind o.x err m = 0 := by unfold dltP; rw [if_pos ⟨hx, he⟩, if_neg hk4, if_neg hk5]
          have hb2 : b2 = a2 := by rw [h3, if_neg hf, hd]; omega
          have ha4 := h2 hf
          subst ha4
          subst hb2
          have dx : ((m : Int) == o.x) = true := by simp; omega
          have de : ((err : Int) == 0) = true := by simp; omega
          have dk1 : ((o.kind : Int) == 1) = false := by simp; omega
          have dk9 : ((o.kind : Int) == 9) = false := by simp; omega
          have dk4 : ((o.kind : Int) == 4) = false := by simp; omega
          have dk5 : ((o.kind : Int) == 5) = false := by simp; omega
          clear h2 h3 hf hd hk0 hx he HA hk1 hk9 hk4 hk5
          go_wp2
          exact ⟨⟨m + 1, by omega, by go_num, HPe⟩, by simp [intOf]; omega⟩
      · as_aux_lemma =>
        have hf : ¬ freshP o.kind o.x err m := fun h => by obtain ⟨z1, z2, z3⟩ := h; omega
        have hd : dltP o.kind o.x err m = 0 := by unfold dltP; rw [if_neg (by omega)]
        have hb2 : b2 = a2 := by rw [h3, if_neg hf, hd]; omega
        have ha4 := h2 hf
        subst ha4
        subst hb2
        have dx : ((m : Int) == o.x) = true := by simp; omega
        have de : ((err : Int) == 0) = false := by simp; omega
        clear h2 h3 hf hd hk0 hx he HA
        go_wp2
        exact ⟨⟨m + 1, by omega, by go_num, HPe⟩, by simp [intOf]; omega⟩
    · as_aux_lemma =>
      have hf : ¬ freshP o.kind o.x err m := fun h => by obtain ⟨z1, z2, z3⟩ := h; omega
      have hd : dltP o.kind o.x err m = 0 := by unfold dltP; rw [if_neg (by omega)]
      have hb2 : b2 = a2 := by rw [h3, if_neg hf, hd]; omega
      have ha4 := h2 hf
      subst ha4
      subst hb2
      have dx : ((m : Int) == o.x) = false := by simp; omega
      clear h2 h3 hf hd hk0 hx HA
      go_wp2
      exact ⟨⟨m + 1, by omega, by go_num, HPe⟩, by simp [intOf]; omega⟩
end Go.Proofs.Qxb6500892aDoor
