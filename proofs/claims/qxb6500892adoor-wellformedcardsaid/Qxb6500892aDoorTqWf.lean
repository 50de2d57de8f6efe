/- wellFormed. -/
import Derived.Test.Qxb6500892aDoorTqSet
namespace Go.Proofs.Qxb6500892aDoor
open Go.RowKit
set_option linter.unusedSimpArgs false
set_option linter.unusedVariables false

/-- The whole of a well-formed Raw, to be read: the struct in p1, the rows. -/
structure RX (s : ES) (V : Nat → Value) (g cp : Nat → Nat) (p1 : Nat) (w : World) : Prop where
  rr : RR s V g cp w
  b1 : Blk w p1 56 (rwC s 5 V)
theorem RX.below {s : ES} {V : Nat → Value} {g cp : Nat → Nat} {p1 : Nat} {w w' : World} (h : RX s V g cp p1 w) (hb : Below w.heap.size w w') : RX s V g cp p1 w' := ⟨h.rr.below hb, h.b1.below hb⟩
theorem RX.upd {s : ES} {V : Nat → Value} {g cp : Nat → Nat} {p1 : Nat} {w w' : World} {sb : Nat} (h : RX s V g cp p1 w) (hu : Upd sb w w') (hne : ∀ j, j < 8 → g j ≠ sb) (hp : p1 ≠ sb) : RX s V g cp p1 w' := ⟨h.rr.upd hu hne, h.b1.upd hu hp⟩
section
variable {s : ES} {L C : Nat → List Nat} {V : Nat → Value} {g cp : Nat → Nat} {w : World}
theorem RX.row {p1 : Nat} (h : RX s V g cp p1 w) {j : Nat} (hj : j < 7) : w.cell? ⟨p1, 19 + j, none⟩ = some (.slice (some ⟨g j, 0, none⟩) s.n (cp j)) := by
  rw [h.b1.cell, rwC_row s 5 V (by omega), h.rr.v j hj]
theorem RX.prv {p1 : Nat} (h : RX s V g cp p1 w) {i : Nat} (hi : i < s.n) : w.cell? ⟨g 0, i, none⟩ = some (.int .i64 (cv (s.prv i))) := by
  rw [h.rr.c 0 i (by omega) hi]; exact fnL_get _ hi
theorem RX.nxt {p1 : Nat} (h : RX s V g cp p1 w) {i : Nat} (hi : i < s.n) : w.cell? ⟨g 1, i, none⟩ = some (.int .i64 (cv (s.nxt i))) := by
  rw [h.rr.c 1 i (by omega) hi]; exact fnL_get _ hi
theorem RX.chn {p1 : Nat} (h : RX s V g cp p1 w) {i : Nat} (hi : i < s.n) : w.cell? ⟨g 2, i, none⟩ = some (.int .i64 (cv (s.chn i))) := by
  rw [h.rr.c 2 i (by omega) hi]; exact fnL_get _ hi
theorem RX.whr {p1 : Nat} (h : RX s V g cp p1 w) {i : Nat} (hi : i < s.n) : w.cell? ⟨g 3, i, none⟩ = some (.int .u8 (s.whr i : Int)) := by
  rw [h.rr.c 3 i (by omega) hi]; exact fnL_get _ hi
theorem RX.key {p1 : Nat} (h : RX s V g cp p1 w) {i : Nat} (hi : i < s.n) : w.cell? ⟨g 4, i, none⟩ = some (.int .u64 (s.key i : Int)) := by
  rw [h.rr.c 4 i (by omega) hi]; exact fnL_get _ hi
theorem RX.pin {p1 : Nat} (h : RX s V g cp p1 w) {i : Nat} (hi : i < s.n) : w.cell? ⟨g 5, i, none⟩ = some (.int .i64 (cv (s.pin i))) := by
  rw [h.rr.c 5 i (by omega) hi]; exact fnL_get _ hi
theorem RX.neg {p1 : Nat} (h : RX s V g cp p1 w) {i : Nat} (hi : i < s.n) : w.cell? ⟨g 6, i, none⟩ = some (.bool (s.neg i)) := by
  rw [h.rr.c 6 i (by omega) hi]; exact fnL_get _ hi
theorem seen_get (n : Nat) (f : Nat → Int) {i : Nat} (hi : i < n) : (seenL n f)[i]? = some (.int .i64 (f i)) := fnL_get _ hi
set_option maxRecDepth 100000 in
set_option maxHeartbeats 4000000 in
theorem wellFormed_walk (hI : EI s L C) (hR : RR s V g cp w) (hpb : ∀ i, i < s.slots → s.pin i ≤ 1000000) :
    Calls Tryd.prog 15 #[.agg (rwC s 5 V).toArray] w fun y w' => y = .returned (.bool true) ∧ Below w.heap.size w w' := by
  have HI := hid hI
  have HR := hid hR
  have HPB := hid hpb
  obtain ⟨N, hN⟩ : ∃ N, s.n = N := ⟨_, rfl⟩
  have hNb : N ≤ 131072 := by rw [← hN]; exact hI.q.nb
  have hsk : (s.slots : Int) + (s.kout : Int) = (N : Int) := by have := hI.nn; omega
  obtain ⟨SL, hSL⟩ : ∃ x, s.slots = x := ⟨_, rfl⟩
  obtain ⟨KO, hKO⟩ : ∃ x, s.kout = x := ⟨_, rfl⟩
  rw [hSL, hKO] at hsk
  have hSLb : SL ≤ 65536 := by have := hI.s1; omega
  have hKOb : KO ≤ 65536 := by have := hI.s1; omega
  have HN := hid (And.intro hN (And.intro hSL hKO))
  obtain ⟨RC, hRC⟩ : ∃ l, rwC s 5 V = l := ⟨_, rfl⟩
  have HRC := hid hRC
  rw [hRC]
  clear hI hR hpb hN hSL hKO hRC
  obtain ⟨p1, hp1⟩ : ∃ p, w.heap.size = p := ⟨_, rfl⟩
  go_enter Tryd.func15, Tryd.ntmps15
  go_upto_region 1 with fail
  obtain ⟨w1, hw1⟩ : ∃ w1, w.alloc (.cells RC.toArray 56) = w1 := ⟨_, rfl⟩
  have HX1 : Hid (RX s V g cp p1 w1 ∧ Below w.heap.size w w1) := hid (by
    have hb : Below w.heap.size w w1 := by rw [← hw1]; exact nbel w _
    have k1 := Blk.new w RC 56
    rw [hp1] at k1
    have k2 : Blk w1 p1 56 RC := by rw [← hw1]; exact k1
    exact ⟨⟨HR.out.below hb, by rw [HRC.out]; exact k2⟩, hb⟩)
  have Hgp : Hid (∀ j, j < 8 → g j < p1) := hid (fun j hj => by have := HR.out.lt j hj; omega)
  have hlp1 : w.heap.size ≤ p1 := by omega
  try simp only [hw1]
  clear hw1 hp1 HR
  have HCl : Hid (∀ wz, RX s V g cp p1 wz → wz.cell? ⟨p1, 0, none⟩ = some (.int .i64 (SL : Int)) ∧ wz.cell? ⟨p1, 2, none⟩ = some (.int .i64 (KO : Int)) ∧ wz.cell? ⟨p1, 19, none⟩ = some (.slice (some ⟨g 0, 0, none⟩) N (cp 0)) ∧ wz.cell? ⟨p1, 20, none⟩ = some (.slice (some ⟨g 1, 0, none⟩) N (cp 1)) ∧ wz.cell? ⟨p1, 21, none⟩ = some (.slice (some ⟨g 2, 0, none⟩) N (cp 2)) ∧ wz.cell? ⟨p1, 22, none⟩ = some (.slice (some ⟨g 3, 0, none⟩) N (cp 3)) ∧ wz.cell? ⟨p1, 23, none⟩ = some (.slice (some ⟨g 4, 0, none⟩) N (cp 4)) ∧ wz.cell? ⟨p1, 24, none⟩ = some (.slice (some ⟨g 5, 0, none⟩) N (cp 5)) ∧ wz.cell? ⟨p1, 25, none⟩ = some (.slice (some ⟨g 6, 0, none⟩) N (cp 6))) := hid (fun wz hz => by
    obtain ⟨h1, h2, h3⟩ := HN.out
    rw [← h1, ← h2, ← h3]
    refine ⟨?_, ?_, hz.row (j := 0) (by omega), hz.row (j := 1) (by omega), hz.row (j := 2) (by omega), hz.row (j := 3) (by omega), hz.row (j := 4) (by omega), hz.row (j := 5) (by omega), hz.row (j := 6) (by omega)⟩
    · rw [hz.b1.cell, rwC_get _ _ _ (by omega)]; rfl
    · rw [hz.b1.cell, rwC_get _ _ _ (by omega)]; rfl)
  obtain ⟨t0, t2, t19, t20, t21, t22, t23, t24, t25⟩ := HCl.out w1 HX1.out.1
  have hM1 := fun w => make_seen N (by omega) w
  rw [made_seen] at hM1
  obtain ⟨ZS, hZS⟩ : ∃ z, (seenL N fun _ => 0) = z := ⟨_, rfl⟩
  rw [hZS] at hM1
  have HZS := hid hZS
  clear hZS
  obtain ⟨sb, hsb⟩ : ∃ p, w1.heap.size = p := ⟨_, rfl⟩
  go_upto_region 6 with fail
  obtain ⟨w2, hw2⟩ : ∃ w2, w1.alloc (.cells ZS.toArray 3) = w2 := ⟨_, rfl⟩
  have HS2 : Hid (RX s V g cp p1 w2 ∧ Blk w2 sb 3 (seenL N (seenF L 0)) ∧ Below w.heap.size w w2) := hid (by
    have hb : Below w1.heap.size w1 w2 := by rw [← hw2]; exact nbel w1 _
    have k1 := Blk.new w1 ZS 3
    rw [hsb] at k1
    have k2 : Blk w2 sb 3 ZS := by rw [← hw2]; exact k1
    exact ⟨HX1.out.1.below hb, by rw [← HZS.out] at k2; exact k2, HX1.out.2.trans (hb.mono HX1.out.2.size)⟩)
  have hlsb : w.heap.size ≤ sb := by have := HX1.out.2.size; omega
  have hps : p1 < sb := by have := HX1.out.1.b1.lt; omega
  have Hgs : Hid (∀ j, j < 8 → g j ≠ sb) := hid (fun j hj => by have := Hgp.out j hj; omega)
  try simp only [hw2]
  clear hw2 hsb HX1 t0 t2 t19 t20 t21 t22 t23 t24 t25 hM1 HZS
  go_loopw [5] (fun v wr => ∃ q : Nat, q ≤ 5 ∧ v = .int .u8 (q : Int) ∧ Hid (RX s V g cp p1 wr ∧ Blk wr sb 3 (seenL N (seenF L q)) ∧ Below w.heap.size w wr)) (fun v _ => 5 - (intOf v).toNat)
  case atStart => exact ⟨0, by omega, rfl, HS2⟩
  case round =>
  clear HS2
  obtain ⟨q, hq, rfl, HS⟩ := hrel
  by_cases hq5 : q < 5
  · as_aux_lemma =>
    have dq : decide ((q : Int) < 5) = true := decide_eq_true (by omega)
    have hqi : (q : Int) < 5 := by omega
    have HBx : Hid (Blk wr p1 56 RC) := hid (by rw [← HRC.out]; exact HS.out.1.b1)
    have HRl : Hid (RC.length = 29) := hid (by rw [← HRC.out]; exact fnL_len _ _)
    have hD := HI.out.q.dl q hq5
    have HLk := hid (listOK_walk (f := seenF L q) HS.out.1.rr hD HI.out.q.nb hq5 (by rw [HN.out.1]; exact HS.out.2.1) Hgs.out (fun c => by have := seenF_bd L q c; omega) (fun i hi => by
      obtain ⟨A, B, hAB⟩ := List.append_of_mem hi
      rw [hD.pr A i B hAB]
      exact lastI_bd (fun j hj => hD.lt j (by rw [hAB]; simp [hj])) HI.out.q.nb))
    rw [HN.out.1, HRC.out] at HLk
    clear hD
    go_wp2_with (refine wpList_load_blk rfl 56 (.tmp 1) rfl p1 (by simp [Act.eval, Act.put]; done) RC HBx.out _ Tryd.underlying56 rfl (by rw [HRl.out]; exact size_raw) ?_)
    refine HLk.out.mono ?_
    rintro y w5 ⟨rfl, HP⟩
    have HF : Hid (RX s V g cp p1 w5 ∧ Blk w5 sb 3 (seenL N (seenF L (q + 1))) ∧ Below w.heap.size w w5) := hid ⟨HS.out.1.upd HP.out.2 Hgs.out (by omega), HP.out.1, HS.out.2.2.trans (HP.out.2.below hlsb HS.out.2.2.size)⟩
    clear HLk HP HS HBx
    go_wp2
    exact ⟨⟨q + 1, by omega, by go_num, HF⟩, by simp [intOf]; omega⟩
  have dq : decide ((q : Int) < 5) = false := decide_eq_false (by omega)
  have HS5 : Hid (RX s V g cp p1 wr ∧ Blk wr sb 3 (seenL N (seenF L 5)) ∧ Below w.heap.size w wr) := hid (by
    have h1 : q = 5 := by omega
    rw [← h1]
    exact HS.out)
  clear HS
  obtain ⟨w3, hw3⟩ : ∃ wa, wa = wr := ⟨_, rfl⟩
  subst hw3
  have z14 : w3.cell? ⟨p1, 14, none⟩ = some (.int .i64 0) := by
    rw [HS5.out.1.b1.cell, show (14 : Nat) = 14 + 0 from rfl, rw_sz s V (by omega), (HI.out.q.dl 0 (by omega)).sz, HI.out.q.l0]
    rfl
  have hmk := @run_makeMap Tryd.prog
  obtain ⟨mb, hmb⟩ : ∃ p, w3.heap.size = p := ⟨_, rfl⟩
  go_upto_region 15 with fail
  clear hmk z14
  obtain ⟨w4, hw4⟩ : ∃ w4, w3.alloc (.map #[] 0) = w4 := ⟨_, rfl⟩
  have HS6 : Hid (RX s V g cp p1 w4 ∧ Blk w4 sb 3 (seenL N (seenF L 5)) ∧ Below w.heap.size w w4 ∧ PSt w4 mb (keysB s 0)) := hid (by
    have hb : Below w3.heap.size w3 w4 := by rw [← hw4]; exact nbel w3 _
    exact ⟨HS5.out.1.below hb, HS5.out.2.1.below hb, HS5.out.2.2.trans (hb.mono HS5.out.2.2.size), by rw [← hw4]; exact PSt.new w3 hmb⟩)
  have hlmb : w.heap.size ≤ mb := by have := HS5.out.2.2.size; omega
  have Hgm : Hid (∀ j, j < 8 → g j ≠ mb) := hid (fun j hj => by have := HS5.out.1.rr.lt j hj; omega)
  have hpm : p1 ≠ mb := by have := HS5.out.1.b1.lt; omega
  have hsm : sb ≠ mb := by have := HS5.out.2.1.lt; omega
  try simp only [hw4]
  clear hw4 hmb HS5 dq hq hq5
  go_loopw [6, 7, 9] (fun v6 v7 v wr => ∃ i : Nat, i ≤ N ∧ v = .int .i64 (i : Int) ∧ ∃ a b : Nat, a ≤ i ∧ b ≤ i ∧ v6 = .int .i64 (a : Int) ∧ v7 = .int .i64 (b : Int) ∧ Hid (a = cntR i (fun j => lvB s j && s.neg j) ∧ b = cntR i (fun j => lvB s j && decide (0 < s.pin j)) ∧ RX s V g cp p1 wr ∧ Blk wr sb 3 (seenL N (seenF L 5)) ∧ Below w.heap.size w wr ∧ PSt wr mb (keysB s i))) (fun _ _ v _ => N - (intOf v).toNat)
  case atStart => exact ⟨0, by omega, rfl, 0, 0, by omega, by omega, rfl, rfl, hid ⟨rfl, rfl, HS6.out⟩⟩
  case round =>
  clear HS6
  obtain ⟨i, hi, rfl, a, b, ha, hb, rfl, rfl, HS⟩ := hrel
  by_cases hin : i < N
  · as_aux_lemma =>
    have di : decide ((i : Int) < (N : Int)) = true := decide_eq_true (by omega)
    have hii : (i : Int) < (N : Int) := by omega
    have hisn : i < s.n := by rw [HN.out.1]; exact hin
    obtain ⟨t0, t2, t19, t20, t21, t22, t23, t24, t25⟩ := HCl.out wr HS.out.2.2.1
    obtain ⟨ca, hca⟩ : ∃ x, cntR (i + 1) (fun j => lvB s j && s.neg j) = x := ⟨_, rfl⟩
    obtain ⟨cb, hcb⟩ : ∃ x, cntR (i + 1) (fun j => lvB s j && decide (0 < s.pin j)) = x := ⟨_, rfl⟩
    rw [cntR_succ, ← HS.out.1] at hca
    rw [cntR_succ, ← HS.out.2.1] at hcb
    have hks := keysB_succ s i
    have hw5 := HI.out.q.w5 i hisn
    have sn := seen5 HI.out hisn
    have zs : wr.cell? ⟨sb, i, none⟩ = some (.int .i64 (seenF L 5 i)) := by rw [HS.out.2.2.2.1.cell]; exact seen_get N _ hin
    have y0 := HS.out.2.2.1.prv hisn
    have y1 := HS.out.2.2.1.nxt hisn
    have y3 := HS.out.2.2.1.whr hisn
    have y4 := HS.out.2.2.1.key hisn
    have y5 := HS.out.2.2.1.pin hisn
    have y6 := HS.out.2.2.1.neg hisn
    obtain ⟨hp0, hp1'⟩ := HI.out.pn i hisn
    have hng := HI.out.ng i hisn
    have hslot : i < s.slots → s.whr i ≤ 2 := HI.out.slot i
    have hgho : s.slots ≤ i → s.whr i = 3 ∨ s.whr i = 4 := fun h => HI.out.gho i h hisn
    rw [HN.out.2.1] at hslot hgho
    rcases (by omega : s.whr i = 0 ∨ s.whr i = 1 ∨ s.whr i = 2 ∨ s.whr i = 3 ∨ s.whr i = 4) with e | e | e | e | e
    · as_aux_lemma =>
      have hlt : i < SL := by rcases Nat.lt_or_ge i SL with h | h; exact h; have := hgho h; omega
      have d1 : decide ((i : Int) < (SL : Int)) = true := decide_eq_true (by omega)
      have hpin : s.pin i = 0 := by rcases Decidable.em (s.pin i = 0) with h | h; exact h; have := hp1' h; omega
      have hneg : s.neg i = false := by cases h : s.neg i with | false => rfl | true => have := hng h; omega
      obtain ⟨hz1, hz2⟩ := HI.out.q.z i hisn e
      rw [hz1, cv_of (by omega) (by omega)] at y0
      rw [hz2, cv_of (by omega) (by omega)] at y1
      rw [e] at y3
      rw [hpin, cv_of (by omega) (by omega)] at y5
      rw [hneg] at y6
      rw [sn, if_pos e] at zs
      have hlb : lvB s i = false := decide_eq_false (by omega)
      have hhb : hsB s i = false := decide_eq_false (by omega)
      have HF : Hid (a = cntR (i + 1) (fun j => lvB s j && s.neg j) ∧ b = cntR (i + 1) (fun j => lvB s j && decide (0 < s.pin j)) ∧ RX s V g cp p1 wr ∧ Blk wr sb 3 (seenL N (seenF L 5)) ∧ Below w.heap.size w wr ∧ PSt wr mb (keysB s (i + 1))) := hid ⟨by rw [cntR_succ, hlb, ← HS.out.1]; rfl, by rw [cntR_succ, hlb, ← HS.out.2.1]; rfl, HS.out.2.2.1, HS.out.2.2.2.1, HS.out.2.2.2.2.1, by rw [hks, if_neg (by rw [hhb]; simp)]; exact HS.out.2.2.2.2.2⟩
      clear HS hca hcb hks sn hp0 hp1' hng hslot hgho e hlb hhb hpin hneg hz1 hz2 hw5
      go_wp2
      exact ⟨⟨i + 1, by omega, by go_num, a, b, by omega, by omega, rfl, rfl, HF⟩, by simp [intOf]; omega⟩
    · as_aux_lemma =>
      have hlt : i < SL := by rcases Nat.lt_or_ge i SL with h | h; exact h; have := hgho h; omega
      have d1 : decide ((i : Int) < (SL : Int)) = true := decide_eq_true (by omega)
      have hpbd := HPB.out i (by rw [HN.out.2.1]; exact hlt)
      have hlb : lvB s i = true := decide_eq_true (by omega)
      have hhb : hsB s i = true := decide_eq_true (by omega)
      rw [e] at y3
      rw [sn, if_neg (by omega)] at zs
      rw [cv_of (by omega) (by omega)] at y5
      have hnk := key_new HI.out hisn hhb
      have hlook := HS.out.2.2.2.2.2.look (s.key i)
      rw [decide_eq_false hnk] at hlook
      obtain ⟨wm, hrun, hpm2, hum⟩ := HS.out.2.2.2.2.2.put (s.key i) hnk
      obtain ⟨pn, hpn⟩ : ∃ x, s.pin i = x := ⟨_, rfl⟩
      obtain ⟨nb, hnb⟩ : ∃ x, s.neg i = x := ⟨_, rfl⟩
      rw [hpn] at y5 hp0 hpbd
      rw [hnb] at y6
      have dp0 : decide (pn < 0) = false := decide_eq_false (by omega)
      cases nb with
      | true =>
        by_cases hpp : 0 < pn
        · as_aux_lemma =>
          have dp1 : decide (pn > 0) = true := decide_eq_true hpp
          have dp2 : decide (0 < pn) = true := decide_eq_true hpp
          have HF : Hid (a + 1 = cntR (i + 1) (fun j => lvB s j && s.neg j) ∧ b + 1 = cntR (i + 1) (fun j => lvB s j && decide (0 < s.pin j)) ∧ RX s V g cp p1 wm ∧ Blk wm sb 3 (seenL N (seenF L 5)) ∧ Below w.heap.size w wm ∧ PSt wm mb (keysB s (i + 1))) := hid ⟨by rw [cntR_succ, hlb, ← HS.out.1, hnb]; rfl, by rw [cntR_succ, hlb, ← HS.out.2.1, hpn, dp2]; rfl, HS.out.2.2.1.upd hum Hgm.out hpm, HS.out.2.2.2.1.upd hum hsm, HS.out.2.2.2.2.1.trans (hum.below hlmb HS.out.2.2.2.2.1.size), by rw [hks, if_pos hhb]; exact hpm2⟩
          clear HS hca hcb hks sn hp1' hng hslot hgho e hlb hhb hw5 hpn hnb hnk hpm2 hum hpp hp0 hpbd
          go_wp2
          exact ⟨⟨i + 1, by omega, by go_num, a + 1, b + 1, by omega, by omega, by go_num, by go_num, HF⟩, by simp [intOf]; omega⟩
        · as_aux_lemma =>
          have dp1 : decide (pn > 0) = false := decide_eq_false hpp
          have dp2 : decide (0 < pn) = false := decide_eq_false hpp
          have HF : Hid (a + 1 = cntR (i + 1) (fun j => lvB s j && s.neg j) ∧ b = cntR (i + 1) (fun j => lvB s j && decide (0 < s.pin j)) ∧ RX s V g cp p1 wm ∧ Blk wm sb 3 (seenL N (seenF L 5)) ∧ Below w.heap.size w wm ∧ PSt wm mb (keysB s (i + 1))) := hid ⟨by rw [cntR_succ, hlb, ← HS.out.1, hnb]; rfl, by rw [cntR_succ, hlb, ← HS.out.2.1, hpn, dp2]; rfl, HS.out.2.2.1.upd hum Hgm.out hpm, HS.out.2.2.2.1.upd hum hsm, HS.out.2.2.2.2.1.trans (hum.below hlmb HS.out.2.2.2.2.1.size), by rw [hks, if_pos hhb]; exact hpm2⟩
          clear HS hca hcb hks sn hp1' hng hslot hgho e hlb hhb hw5 hpn hnb hnk hpm2 hum hpp hp0 hpbd
          go_wp2
          exact ⟨⟨i + 1, by omega, by go_num, a + 1, b, by omega, by omega, by go_num, by go_num, HF⟩, by simp [intOf]; omega⟩
      | false =>
        by_cases hpp : 0 < pn
        · as_aux_lemma =>
          have dp1 : decide (pn > 0) = true := decide_eq_true hpp
          have dp2 : decide (0 < pn) = true := decide_eq_true hpp
          have HF : Hid (a = cntR (i + 1) (fun j => lvB s j && s.neg j) ∧ b + 1 = cntR (i + 1) (fun j => lvB s j && decide (0 < s.pin j)) ∧ RX s V g cp p1 wm ∧ Blk wm sb 3 (seenL N (seenF L 5)) ∧ Below w.heap.size w wm ∧ PSt wm mb (keysB s (i + 1))) := hid ⟨by rw [cntR_succ, hlb, ← HS.out.1, hnb]; rfl, by rw [cntR_succ, hlb, ← HS.out.2.1, hpn, dp2]; rfl, HS.out.2.2.1.upd hum Hgm.out hpm, HS.out.2.2.2.1.upd hum hsm, HS.out.2.2.2.2.1.trans (hum.below hlmb HS.out.2.2.2.2.1.size), by rw [hks, if_pos hhb]; exact hpm2⟩
          clear HS hca hcb hks sn hp1' hng hslot hgho e hlb hhb hw5 hpn hnb hnk hpm2 hum hpp hp0 hpbd
          go_wp2
          exact ⟨⟨i + 1, by omega, by go_num, a, b + 1, by omega, by omega, by go_num, by go_num, HF⟩, by simp [intOf]; omega⟩
        · as_aux_lemma =>
          have dp1 : decide (pn > 0) = false := decide_eq_false hpp
          have dp2 : decide (0 < pn) = false := decide_eq_false hpp
          have HF : Hid (a = cntR (i + 1) (fun j => lvB s j && s.neg j) ∧ b = cntR (i + 1) (fun j => lvB s j && decide (0 < s.pin j)) ∧ RX s V g cp p1 wm ∧ Blk wm sb 3 (seenL N (seenF L 5)) ∧ Below w.heap.size w wm ∧ PSt wm mb (keysB s (i + 1))) := hid ⟨by rw [cntR_succ, hlb, ← HS.out.1, hnb]; rfl, by rw [cntR_succ, hlb, ← HS.out.2.1, hpn, dp2]; rfl, HS.out.2.2.1.upd hum Hgm.out hpm, HS.out.2.2.2.1.upd hum hsm, HS.out.2.2.2.2.1.trans (hum.below hlmb HS.out.2.2.2.2.1.size), by rw [hks, if_pos hhb]; exact hpm2⟩
          clear HS hca hcb hks sn hp1' hng hslot hgho e hlb hhb hw5 hpn hnb hnk hpm2 hum hpp hp0 hpbd
          go_wp2
          exact ⟨⟨i + 1, by omega, by go_num, a, b, by omega, by omega, by go_num, by go_num, HF⟩, by simp [intOf]; omega⟩
    · as_aux_lemma =>
      have hlt : i < SL := by rcases Nat.lt_or_ge i SL with h | h; exact h; have := hgho h; omega
      have d1 : decide ((i : Int) < (SL : Int)) = true := decide_eq_true (by omega)
      have hpbd := HPB.out i (by rw [HN.out.2.1]; exact hlt)
      have hlb : lvB s i = true := decide_eq_true (by omega)
      have hhb : hsB s i = true := decide_eq_true (by omega)
      rw [e] at y3
      rw [sn, if_neg (by omega)] at zs
      rw [cv_of (by omega) (by omega)] at y5
      have hnk := key_new HI.out hisn hhb
      have hlook := HS.out.2.2.2.2.2.look (s.key i)
      rw [decide_eq_false hnk] at hlook
      obtain ⟨wm, hrun, hpm2, hum⟩ := HS.out.2.2.2.2.2.put (s.key i) hnk
      obtain ⟨pn, hpn⟩ : ∃ x, s.pin i = x := ⟨_, rfl⟩
      obtain ⟨nb, hnb⟩ : ∃ x, s.neg i = x := ⟨_, rfl⟩
      rw [hpn] at y5 hp0 hpbd
      rw [hnb] at y6
      have dp0 : decide (pn < 0) = false := decide_eq_false (by omega)
      have hnb0 : nb = false := by cases nb with | false => rfl | true => have := hng hnb; omega
      subst hnb0
      by_cases hpp : 0 < pn
      · as_aux_lemma =>
        have dp1 : decide (pn > 0) = true := decide_eq_true hpp
        have dp2 : decide (0 < pn) = true := decide_eq_true hpp
        have HF : Hid (a = cntR (i + 1) (fun j => lvB s j && s.neg j) ∧ b + 1 = cntR (i + 1) (fun j => lvB s j && decide (0 < s.pin j)) ∧ RX s V g cp p1 wm ∧ Blk wm sb 3 (seenL N (seenF L 5)) ∧ Below w.heap.size w wm ∧ PSt wm mb (keysB s (i + 1))) := hid ⟨by rw [cntR_succ, hlb, ← HS.out.1, hnb]; rfl, by rw [cntR_succ, hlb, ← HS.out.2.1, hpn, dp2]; rfl, HS.out.2.2.1.upd hum Hgm.out hpm, HS.out.2.2.2.1.upd hum hsm, HS.out.2.2.2.2.1.trans (hum.below hlmb HS.out.2.2.2.2.1.size), by rw [hks, if_pos hhb]; exact hpm2⟩
        clear HS hca hcb hks sn hp1' hng hslot hgho e hlb hhb hw5 hpn hnb hnk hpm2 hum hpp hp0 hpbd
        go_wp2
        exact ⟨⟨i + 1, by omega, by go_num, a, b + 1, by omega, by omega, by go_num, by go_num, HF⟩, by simp [intOf]; omega⟩
      · as_aux_lemma =>
        have dp1 : decide (pn > 0) = false := decide_eq_false hpp
        have dp2 : decide (0 < pn) = false := decide_eq_false hpp
        have HF : Hid (a = cntR (i + 1) (fun j => lvB s j && s.neg j) ∧ b = cntR (i + 1) (fun j => lvB s j && decide (0 < s.pin j)) ∧ RX s V g cp p1 wm ∧ Blk wm sb 3 (seenL N (seenF L 5)) ∧ Below w.heap.size w wm ∧ PSt wm mb (keysB s (i + 1))) := hid ⟨by rw [cntR_succ, hlb, ← HS.out.1, hnb]; rfl, by rw [cntR_succ, hlb, ← HS.out.2.1, hpn, dp2]; rfl, HS.out.2.2.1.upd hum Hgm.out hpm, HS.out.2.2.2.1.upd hum hsm, HS.out.2.2.2.2.1.trans (hum.below hlmb HS.out.2.2.2.2.1.size), by rw [hks, if_pos hhb]; exact hpm2⟩
        clear HS hca hcb hks sn hp1' hng hslot hgho e hlb hhb hw5 hpn hnb hnk hpm2 hum hpp hp0 hpbd
        go_wp2
        exact ⟨⟨i + 1, by omega, by go_num, a, b, by omega, by omega, by go_num, by go_num, HF⟩, by simp [intOf]; omega⟩
    · as_aux_lemma =>
      have hlt : ¬ i < SL := fun h => by have := hslot h; omega
      have d1 : decide ((i : Int) < (SL : Int)) = false := decide_eq_false (by omega)
      have hlb : lvB s i = false := decide_eq_false (by omega)
      have hhb : hsB s i = true := decide_eq_true (by omega)
      have hpin : s.pin i = 0 := by rcases Decidable.em (s.pin i = 0) with h | h; exact h; have := hp1' h; omega
      have hneg : s.neg i = false := by cases h : s.neg i with | false => rfl | true => have := hng h; omega
      rw [e] at y3
      rw [sn, if_neg (by omega)] at zs
      rw [hpin, cv_of (by omega) (by omega)] at y5
      rw [hneg] at y6
      have hnk := key_new HI.out hisn hhb
      have hlook := HS.out.2.2.2.2.2.look (s.key i)
      rw [decide_eq_false hnk] at hlook
      obtain ⟨wm, hrun, hpm2, hum⟩ := HS.out.2.2.2.2.2.put (s.key i) hnk
      have HF : Hid (a = cntR (i + 1) (fun j => lvB s j && s.neg j) ∧ b = cntR (i + 1) (fun j => lvB s j && decide (0 < s.pin j)) ∧ RX s V g cp p1 wm ∧ Blk wm sb 3 (seenL N (seenF L 5)) ∧ Below w.heap.size w wm ∧ PSt wm mb (keysB s (i + 1))) := hid ⟨by rw [cntR_succ, hlb, ← HS.out.1]; rfl, by rw [cntR_succ, hlb, ← HS.out.2.1]; rfl, HS.out.2.2.1.upd hum Hgm.out hpm, HS.out.2.2.2.1.upd hum hsm, HS.out.2.2.2.2.1.trans (hum.below hlmb HS.out.2.2.2.2.1.size), by rw [hks, if_pos hhb]; exact hpm2⟩
      clear HS hca hcb hks sn hp0 hp1' hng hslot hgho e hlb hhb hw5 hnk hpm2 hum hpin hneg
      go_wp2
      exact ⟨⟨i + 1, by omega, by go_num, a, b, by omega, by omega, by go_num, by go_num, HF⟩, by simp [intOf]; omega⟩
    · as_aux_lemma =>
      have hlt : ¬ i < SL := fun h => by have := hslot h; omega
      have d1 : decide ((i : Int) < (SL : Int)) = false := decide_eq_false (by omega)
      have hlb : lvB s i = false := decide_eq_false (by omega)
      have hhb : hsB s i = false := decide_eq_false (by omega)
      rw [e] at y3
      rw [sn, if_neg (by omega)] at zs
      have HF : Hid (a = cntR (i + 1) (fun j => lvB s j && s.neg j) ∧ b = cntR (i + 1) (fun j => lvB s j && decide (0 < s.pin j)) ∧ RX s V g cp p1 wr ∧ Blk wr sb 3 (seenL N (seenF L 5)) ∧ Below w.heap.size w wr ∧ PSt wr mb (keysB s (i + 1))) := hid ⟨by rw [cntR_succ, hlb, ← HS.out.1]; rfl, by rw [cntR_succ, hlb, ← HS.out.2.1]; rfl, HS.out.2.2.1, HS.out.2.2.2.1, HS.out.2.2.2.2.1, by rw [hks, if_neg (by rw [hhb]; simp)]; exact HS.out.2.2.2.2.2⟩
      clear HS hca hcb hks sn hp0 hp1' hng hslot hgho e hlb hhb hw5
      go_wp2
      exact ⟨⟨i + 1, by omega, by go_num, a, b, by omega, by omega, by go_num, by go_num, HF⟩, by simp [intOf]; omega⟩
  have di : decide ((i : Int) < (N : Int)) = false := decide_eq_false (by omega)
  have hiN : i = N := by omega
  have hsn : s.n = N := HN.out.1
  have ha' : (a : Int) = s.negs := by rw [wf_negs HI.out, hsn, ← hiN, ← HS.out.1]
  have hb' : (b : Int) = s.pinned := by rw [wf_pinned HI.out, hsn, ← hiN, ← HS.out.2.1]
  have HS7 : Hid (RX s V g cp p1 wr ∧ Below w.heap.size w wr) := hid ⟨HS.out.2.2.1, HS.out.2.2.2.2.1⟩
  clear HS
  obtain ⟨w5, hw5⟩ : ∃ wa, wa = wr := ⟨_, rfl⟩
  subst hw5
  have z27 : w5.cell? ⟨p1, 27, none⟩ = some (.int .i64 (a : Int)) := by rw [HS7.out.1.b1.cell, rwC_get _ _ _ (by omega), ha']; rfl
  have z28 : w5.cell? ⟨p1, 28, none⟩ = some (.int .i64 (b : Int)) := by rw [HS7.out.1.b1.cell, rwC_get _ _ _ (by omega), hb']; rfl
  obtain ⟨l1, hl1⟩ : ∃ l, (L 1).length = l := ⟨_, rfl⟩
  obtain ⟨l2, hl2⟩ : ∃ l, (L 2).length = l := ⟨_, rfl⟩
  obtain ⟨l3, hl3⟩ : ∃ l, (L 3).length = l := ⟨_, rfl⟩
  obtain ⟨l4, hl4⟩ : ∃ l, (L 4).length = l := ⟨_, rfl⟩
  have z15 : w5.cell? ⟨p1, 15, none⟩ = some (.int .i64 (l1 : Int)) := by
    rw [HS7.out.1.b1.cell, ← hl1, ← (HI.out.q.dl 1 (by omega)).sz]; exact rw_sz s V (q := 1) (by omega)
  have z16 : w5.cell? ⟨p1, 16, none⟩ = some (.int .i64 (l2 : Int)) := by
    rw [HS7.out.1.b1.cell, ← hl2, ← (HI.out.q.dl 2 (by omega)).sz]; exact rw_sz s V (q := 2) (by omega)
  have z17 : w5.cell? ⟨p1, 17, none⟩ = some (.int .i64 (l3 : Int)) := by
    rw [HS7.out.1.b1.cell, ← hl3, ← (HI.out.q.dl 3 (by omega)).sz]; exact rw_sz s V (q := 3) (by omega)
  have z18 : w5.cell? ⟨p1, 18, none⟩ = some (.int .i64 (l4 : Int)) := by
    rw [HS7.out.1.b1.cell, ← hl4, ← (HI.out.q.dl 4 (by omega)).sz]; exact rw_sz s V (q := 4) (by omega)
  have hs12 : l1 + l2 ≤ SL := by
    have h1 := nodup_len (app_nodup HI.out) (n := s.slots) (fun j hj => by
      rcases List.mem_append.1 hj with h | h
      · exact (HI.out.live_of (.inl rfl) h).1
      · exact (HI.out.live_of (.inr rfl) h).1)
    rw [List.length_append, hl1, hl2, HN.out.2.1] at h1
    exact h1
  have hs34 : l3 + l4 = KO := by have := HI.out.gl; rw [hl3, hl4, HN.out.2.2] at this; exact this
  have hs34i : (l3 : Int) + (l4 : Int) = (KO : Int) := by omega
  have d1 : decide ((l1 : Int) + (l2 : Int) > (SL : Int)) = false := decide_eq_false (by omega)
  have d1' : decide ((SL : Int) < (l1 : Int) + (l2 : Int)) = false := decide_eq_false (by omega)
  have d2 : decide ((l3 : Int) > (KO : Int)) = false := decide_eq_false (by omega)
  have d2' : decide ((KO : Int) < (l3 : Int)) = false := decide_eq_false (by omega)
  have d2'' : ¬ (KO : Int) < (l3 : Int) := by omega
  obtain ⟨t0, t2, t19, t20, t21, t22, t23, t24, t25⟩ := HCl.out w5 HS7.out.1
  obtain ⟨M, hM⟩ : ∃ M, s.m = M := ⟨_, rfl⟩
  have hMb : M ≤ 131072 := by rw [← hM]; exact HI.out.c.bw.mb
  have HM := hid hM
  have hM1 := fun w => make_seen N (by omega) w
  rw [made_seen] at hM1
  obtain ⟨ZS, hZS⟩ : ∃ z, (seenL N fun _ => 0) = z := ⟨_, rfl⟩
  rw [hZS] at hM1
  have HZS := hid hZS
  clear hZS hM hl1 hl2 hl3 hl4 ha' hb' hsn hiN
  obtain ⟨cb, hcb⟩ : ∃ p, w5.heap.size = p := ⟨_, rfl⟩
  go_upto_region 48 with fail
  clear z27 z28 z15 z16 z17 z18 t0 t2 t19 t20 t21 t22 t23 t24 t25 d1 d1' d2 d2' d2'' hM1
  obtain ⟨w6, hw6⟩ : ∃ w2, w5.alloc (.cells ZS.toArray 3) = w2 := ⟨_, rfl⟩
  have HS8 : Hid (RX s V g cp p1 w6 ∧ Blk w6 cb 3 (seenL N (chF s 0)) ∧ Below w.heap.size w w6) := hid (by
    have hb : Below w5.heap.size w5 w6 := by rw [← hw6]; exact nbel w5 _
    have k1 := Blk.new w5 ZS 3
    rw [hcb] at k1
    have k2 : Blk w6 cb 3 ZS := by rw [← hw6]; exact k1
    have h0 : seenL N (chF s 0) = seenL N fun _ => 0 := by
      unfold seenL
      refine fnL_ext fun c hc => ?_
      unfold chF chB
      simp
    exact ⟨HS7.out.1.below hb, by rw [h0, HZS.out]; exact k2, HS7.out.2.trans (hb.mono HS7.out.2.size)⟩)
  have hlcb : w.heap.size ≤ cb := by have := HS7.out.2.size; omega
  have Hgc : Hid (∀ j, j < 8 → g j ≠ cb) := hid (fun j hj => by have := HS7.out.1.rr.lt j hj; omega)
  have hpc : p1 ≠ cb := by have := HS7.out.1.b1.lt; omega
  try simp only [hw6]
  clear hw6 hcb HS7 HZS di hi hin
  have z26 : w6.cell? ⟨p1, 26, none⟩ = some (.slice (some ⟨g 7, 0, none⟩) M (cp 7)) := by
    rw [HS8.out.1.b1.cell, ← HM.out, ← HS8.out.1.rr.v7]; exact rwC_row s 5 V (j := 7) (by omega)
  go_upto_region 49 with fail
  clear z26
  go_loopw [12, 262] (fun v12 v wr => ∃ bi : Nat, bi ≤ M ∧ v = .int .i64 (bi : Int) ∧ ∃ ct : Nat, ct ≤ N ∧ v12 = .int .i64 (ct : Int) ∧ Hid (ct = cntR N (chB s bi) ∧ RX s V g cp p1 wr ∧ Blk wr cb 3 (seenL N (chF s bi)) ∧ Below w.heap.size w wr)) (fun _ v _ => M - (intOf v).toNat)
  case atStart => exact ⟨0, by omega, rfl, 0, by omega, rfl, hid ⟨by
    have : cntR N (chB s 0) = 0 := by
      unfold cntR
      rw [List.countP_eq_zero]
      intro c _
      unfold chB
      simp
    rw [this], HS8.out⟩⟩
  case round =>
  clear HS8
  obtain ⟨bi, hbi, rfl, ct, hct, rfl, HS⟩ := hrel
  by_cases hbM : bi < M
  · as_aux_lemma =>
    have dM : decide ((bi : Int) < (M : Int)) = true := decide_eq_true (by omega)
    have hbi2 : (bi : Int) < (M : Int) := by omega
    have hbm : bi < s.m := by rw [HM.out]; exact hbM
    obtain ⟨hh1, hh2, hh3⟩ := (HI.out.c.ch bi hbm).head
    have hhb := headI_bd hh2 HI.out.q.nb
    obtain ⟨x0, hx0⟩ : ∃ x, headI (C bi) = x := ⟨_, rfl⟩
    have zb : wr.cell? ⟨g 7, bi, none⟩ = some (.int .i64 x0) := by
      rw [HS.out.2.1.rr.c7 bi hbm, hh1, cv_of hhb.1 hhb.2, hx0]
    have HC2 := hid (And.intro hh2 hh3)
    have HX0 := hid hx0
    obtain ⟨Z, hZ⟩ : ∃ Z, (C bi).length = Z := ⟨_, rfl⟩
    have hcc := ch_count HI.out hbm
    rw [HN.out.1, hZ, ← HS.out.1] at hcc
    have hle := cntR_le N (chB s (bi + 1))
    have hZb : ct + Z ≤ N := by omega
    have HZ := hid (And.intro hZ hcc)
    have Hnd := hid (HI.out.c.nd bi hbm)
    clear hh1 hh2 hh3 hhb hx0 hZ hcc hle
    go_upto_region 52 with fail
    clear zb
    obtain ⟨w7, hw7⟩ : ∃ wa, wa = wr := ⟨_, rfl⟩
    subst hw7
    go_loopw [12, 15] (fun v12 v15 wr => ∃ (x : Int) (k : Nat), k ≤ Z ∧ v15 = .int .i64 x ∧ v12 = .int .i64 ((ct + k : Nat) : Int) ∧ Hid (x = headI ((C bi).drop k) ∧ RX s V g cp p1 wr ∧ Blk wr cb 3 (seenL N (inc ((C bi).take k) (chF s bi))) ∧ Below w.heap.size w wr)) (fun _ v _ => sufL (C bi) (intOf v))
    case atStart => exact ⟨x0, 0, by omega, rfl, rfl, hid ⟨HX0.out.symm, HS.out.2.1, by
      have h1 : seenL N (inc ((C bi).take 0) (chF s bi)) = seenL N (chF s bi) := by
        unfold seenL
        refine fnL_ext fun c hc => ?_
        unfold inc
        rw [List.take_zero, if_neg (by simp), Int.add_zero]
      rw [h1]
      exact HS.out.2.2.1, HS.out.2.2.2⟩⟩
    case round =>
    clear HS
    obtain ⟨x, k, hk, rfl, rfl, HK⟩ := hrel
    by_cases hkZ : k < Z
    · as_aux_lemma =>
      have hkC : k < (C bi).length := by rw [HZ.out.1]; exact hkZ
      obtain ⟨i, hi⟩ : ∃ i, (C bi)[k] = i := ⟨_, rfl⟩
      have hin : i ∈ C bi := by rw [← hi]; exact List.getElem_mem hkC
      have hx : x = (i : Int) := by rw [HK.out.1, headI_drop hkC, hi]
      subst hx
      have hisn : i < s.n := HC2.out.1 i hin
      have hiN : i < N := by rw [← HN.out.1]; exact hisn
      have hch := HC2.out.2 k hkC
      rw [hi] at hch
      obtain ⟨y, hy⟩ : ∃ y, headI ((C bi).drop (k + 1)) = y := ⟨_, rfl⟩
      have hyb := headI_bd (M := (C bi).drop (k + 1)) (n := s.n) (fun j hj => HC2.out.1 j (List.mem_of_mem_drop hj)) HI.out.q.nb
      obtain ⟨z, hz⟩ : ∃ z, inc ((C bi).take k) (chF s bi) i = z := ⟨_, rfl⟩
      have hzb : 0 ≤ z ∧ z ≤ 2 := by
        rw [← hz]
        unfold inc chF
        split <;> split <;> omega
      have zc : wr.cell? ⟨cb, i, none⟩ = some (.int .i64 z) := by rw [HK.out.2.2.1.cell, ← hz]; exact seen_get N _ hiN
      have zf : wr.frozen? ⟨cb, i, none⟩ = false := HK.out.2.2.1.frozen i
      have hu : Upd cb wr (wr.setCell ⟨cb, i, none⟩ (.int .i64 (z + 1))) := (Upd.refl cb wr).setCell rfl _
      have hX := HK.out.2.1.upd hu Hgc.out hpc
      have e2 : (wr.setCell ⟨cb, i, none⟩ (.int .i64 (z + 1))).cell? ⟨g 2, i, none⟩ = some (.int .i64 y) := by
        rw [hX.chn hisn, hch, cv_of hyb.1 hyb.2, hy]
      obtain ⟨_, _, _, _, t21, _, _, _, _⟩ := HCl.out _ hX
      have HF : Hid (y = headI ((C bi).drop (k + 1)) ∧ RX s V g cp p1 (wr.setCell ⟨cb, i, none⟩ (.int .i64 (z + 1))) ∧ Blk (wr.setCell ⟨cb, i, none⟩ (.int .i64 (z + 1))) cb 3 (seenL N (inc ((C bi).take (k + 1)) (chF s bi))) ∧ Below w.heap.size w (wr.setCell ⟨cb, i, none⟩ (.int .i64 (z + 1)))) := hid ⟨hy.symm, hX, by
        have h1 := HK.out.2.2.1.set i (.int .i64 (z + 1))
        have h2 := seen_set N (chF s bi) hkC Hnd.out (by rw [hi]; exact hiN)
        rw [hi, hz] at h2
        rw [h2] at h1
        exact h1, HK.out.2.2.2.trans (hu.below hlcb HK.out.2.2.2.size)⟩
      have HSuf : Hid (sufL (C bi) y < sufL (C bi) (i : Int)) := hid (by
        rw [← hy]
        have hM : C bi = (C bi).take k ++ (C bi)[k] :: (C bi).drop (k + 1) := by simp
        have hnd := Hnd.out
        rw [hM, hi] at hnd
        have h2 := sufL_at hnd
        rw [← hi, ← hM] at h2
        rw [← hi, h2]
        rcases hD : (C bi).drop (k + 1) with _ | ⟨j, D⟩
        · show sufL (C bi) (-1) < _
          rw [sufL_end]; omega
        · show sufL (C bi) (j : Int) < _
          have hM2 : C bi = ((C bi).take k ++ [(C bi)[k]]) ++ j :: D := by rw [List.append_assoc]; show C bi = (C bi).take k ++ ((C bi)[k] :: j :: D); rw [← hD]; exact hM
          have hnd2 := Hnd.out
          rw [hM2] at hnd2
          have h3 := sufL_at hnd2
          rw [← hM2] at h3
          rw [h3]
          simp)
      have dx : ((i : Int) != -1) = true := bne_iff_ne.2 (by omega)
      have d1 : decide ((i : Int) < 0) = false := decide_eq_false (by omega)
      have d2 : decide ((i : Int) ≥ (N : Int)) = false := decide_eq_false (by omega)
      have d3 : decide ((N : Int) ≤ (i : Int)) = false := decide_eq_false (by omega)
      have d4 : decide (N ≤ i) = false := decide_eq_false (by omega)
      obtain ⟨cs, hcs⟩ : ∃ c, ct + k = c := ⟨_, rfl⟩
      have hcsN : cs < N := by omega
      have d5 : decide ((cs : Int) ≥ (N : Int)) = false := decide_eq_false (by omega)
      have d6 : decide ((N : Int) ≤ (cs : Int)) = false := decide_eq_false (by omega)
      have d7 : decide (N ≤ cs) = false := decide_eq_false (by omega)
      have hcs1 : cs + 1 = ct + (k + 1) := by omega
      have HCs := hid hcs1
      rw [hcs]
      have hii : (i : Int) < (N : Int) := by omega
      clear hX hu hch hyb hy hz hin hi hisn HK hkC hcs hcs1
      go_wp2
      exact ⟨⟨y, k + 1, by omega, rfl, by rw [← HCs.out]; go_num, HF⟩, HSuf.out⟩
    as_aux_lemma =>
    have hkz : k = (C bi).length := by have := HZ.out.1; omega
    have hx : x = -1 := by rw [HK.out.1, List.drop_eq_nil_of_le (by omega)]; rfl
    subst hx
    have dx : ((-1 : Int) != -1) = false := by decide
    obtain ⟨cs, hcs⟩ : ∃ c, ct + k = c := ⟨_, rfl⟩
    have hcsN : cs ≤ N := by omega
    have HF : Hid (cs = cntR N (chB s (bi + 1)) ∧ RX s V g cp p1 wr ∧ Blk wr cb 3 (seenL N (chF s (bi + 1))) ∧ Below w.heap.size w wr) := hid ⟨by
      have h1 := HZ.out.2
      have h2 := HZ.out.1
      omega, HK.out.2.1, by
      have h1 : seenL N (inc (C bi) (chF s bi)) = seenL N (chF s (bi + 1)) := by
        unfold seenL
        refine fnL_ext fun c hc => ?_
        rw [chF_succ HI.out hbm (by rw [HN.out.1]; exact hc)]
      rw [← h1]
      have := HK.out.2.2.1
      rw [List.take_of_length_le (by omega)] at this
      exact this, HK.out.2.2.2⟩
    rw [hcs]
    clear HK hkz hcs HZ HC2 Hnd HX0
    go_wp2
    exact ⟨⟨bi + 1, by omega, by go_num, cs, by omega, rfl, HF⟩, by simp [intOf]; omega⟩
  have dM : decide ((bi : Int) < (M : Int)) = false := decide_eq_false (by omega)
  have HS9 : Hid (RX s V g cp p1 wr ∧ Blk wr cb 3 (seenL N (chF s s.m)) ∧ Below w.heap.size w wr) := hid (by
    have h1 : bi = M := by omega
    rw [HM.out, ← h1]
    exact HS.out.2)
  clear HS
  go_upto_region 60 with fail
  obtain ⟨w8, hw8⟩ : ∃ wa, wa = wr := ⟨_, rfl⟩
  subst hw8
  clear dM hbi hbM
  go_loopw [16] (fun v wr => wr = w8 ∧ ∃ i : Nat, i ≤ N ∧ v = .int .i64 (i : Int)) (fun v _ => N - (intOf v).toNat)
  case atStart => exact ⟨rfl, 0, by omega, rfl⟩
  case round =>
  obtain ⟨hwr, i, hi, rfl⟩ := hrel
  have hwr' := hwr.symm
  clear hwr
  subst hwr'
  by_cases hin : i < N
  · as_aux_lemma =>
    have di : decide ((i : Int) < (N : Int)) = true := decide_eq_true (by omega)
    have hii : (i : Int) < (N : Int) := by omega
    have hisn : i < s.n := by rw [HN.out.1]; exact hin
    obtain ⟨_, _, _, _, _, t22, _, _, _⟩ := HCl.out w8 HS9.out.1
    have y3 := HS9.out.1.whr hisn
    have zc : w8.cell? ⟨cb, i, none⟩ = some (.int .i64 (chF s s.m i)) := by rw [HS9.out.2.1.cell]; exact seen_get N _ hin
    rw [chF_all HI.out hisn] at zc
    have hw5 := HI.out.q.w5 i hisn
    rcases (by omega : s.whr i = 0 ∨ s.whr i = 1 ∨ s.whr i = 2 ∨ s.whr i = 3 ∨ s.whr i = 4) with e | e | e | e | e
    · as_aux_lemma =>
      rw [if_neg (by unfold hsB; simp [e])] at zc
      rw [e] at y3
      clear e hw5 HS9
      go_wp2
      exact ⟨⟨by trivial, i + 1, by omega, by go_num⟩, by simp [intOf]; omega⟩
    · as_aux_lemma =>
      rw [if_pos (by unfold hsB; simp [e])] at zc
      rw [e] at y3
      clear e hw5 HS9
      go_wp2
      exact ⟨⟨by trivial, i + 1, by omega, by go_num⟩, by simp [intOf]; omega⟩
    · as_aux_lemma =>
      rw [if_pos (by unfold hsB; simp [e])] at zc
      rw [e] at y3
      clear e hw5 HS9
      go_wp2
      exact ⟨⟨by trivial, i + 1, by omega, by go_num⟩, by simp [intOf]; omega⟩
    · as_aux_lemma =>
      rw [if_pos (by unfold hsB; simp [e])] at zc
      rw [e] at y3
      clear e hw5 HS9
      go_wp2
      exact ⟨⟨by trivial, i + 1, by omega, by go_num⟩, by simp [intOf]; omega⟩
    · as_aux_lemma =>
      rw [if_neg (by unfold hsB; simp [e])] at zc
      rw [e] at y3
      clear e hw5 HS9
      go_wp2
      exact ⟨⟨by trivial, i + 1, by omega, by go_num⟩, by simp [intOf]; omega⟩
  as_aux_lemma =>
  have di : decide ((i : Int) < (N : Int)) = false := decide_eq_false (by omega)
  have HBe := hid HS9.out.2.2
  clear HS9
  go_wp2
  go_ret
  exact ⟨rfl, HBe.out⟩
end
end Go.Proofs.Qxb6500892aDoor
