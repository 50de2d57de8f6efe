/- number (written by tools/mk_scj.py). -/
import Derived.Test.Qxb6500883aGreatDoorScI
namespace Go.Proofs.Qxb6500883aGreatDoor
open Go.RowKit
set_option linter.unusedSimpArgs false
set_option linter.unusedVariables false
/-- Digits read on: how many, and the value, or none where it passes 64 bits. -/
def numL (base : Nat) : Nat → List UInt8 → Nat × Option Nat
  | v, [] => (0, some v)
  | v, b :: r => match dvN b.toNat base with
    | none => (0, some v)
    | some d => if v * base + d < 18446744073709551616 then ((numL base (v * base + d) r).1 + 1, (numL base (v * base + d) r).2) else (0, none)
def numP (bs : List UInt8) (base i v : Nat) : Nat × Option Nat := (i + (numL base v (bs.drop i)).1, (numL base v (bs.drop i)).2)
section
variable (bs : List UInt8) {base i v d : Nat}
theorem nm_end (h : bs.length ≤ i) : numP bs base i v = (i, some v) := by unfold numP; rw [drop_end bs h]; rfl
theorem nm_stop (h : i < bs.length) (hd : dvN (cN bs i) base = none) : numP bs base i v = (i, some v) := by
  obtain ⟨b, h1, h2⟩ := drop_cons bs h
  unfold numP
  rw [h1, numL, ← h2, hd]
  rfl
theorem nm_over (h : i < bs.length) (hd : dvN (cN bs i) base = some d) (hf : ¬ (v * base + d < 18446744073709551616)) : numP bs base i v = (i, none) := by
  obtain ⟨b, h1, h2⟩ := drop_cons bs h
  unfold numP
  rw [h1, numL, ← h2, hd]
  dsimp only
  rw [if_neg hf]
  rfl
theorem nm_on (h : i < bs.length) (hd : dvN (cN bs i) base = some d) (hf : v * base + d < 18446744073709551616) : numP bs base i v = numP bs base (i + 1) (v * base + d) := by
  obtain ⟨b, h1, h2⟩ := drop_cons bs h
  unfold numP
  rw [h1, numL, ← h2, hd]
  dsimp only
  rw [if_pos hf]
  ext <;> (try dsimp only) <;> (try omega)
  rfl
end
def numEnd (bs : List UInt8) (n st e v : Nat) : Tk := if e < n ∧ wdB (cN bs e) = true then spoT n st e else ⟨5, st, e, 0, v⟩
def numFin (bs : List UInt8) (n st base i v : Nat) : Tk := match numP bs base i v with
  | (e, none) => spoT n st e
  | (e, some v) => numEnd bs n st e v
/-- The number that begins at a place. -/
def numT (bs : List UInt8) (n st : Nat) : Tk :=
  if cN bs st = 48 then
    if st + 1 < n ∧ cN bs (st + 1) = 120 then
      if st + 2 < n ∧ (dvN (cN bs (st + 2)) 16).isSome = true then numFin bs n st 16 (st + 2) 0 else spoT n st (st + 2)
    else if st + 1 < n ∧ wdB (cN bs (st + 1)) = true then spoT n st (st + 1)
    else numFin bs n st 10 (st + 1) 0
  else numFin bs n st 10 st 0
section
variable {w w' : World} {g : Nat} {t : TypeId} {cs : List Value} {a : Option Addr} {n c : Nat} {bs : List UInt8} {i k : Nat}
set_option maxRecDepth 100000 in
set_option maxHeartbeats 4000000 in
theorem numberW (h : LxM w g t cs a n c bs i k) (st : Nat) (hs : st < n) : Calls Tryz.prog 109 #[.pointer (some ⟨g, 0, none⟩), .int .i64 (st : Int)] w fun e w' => e = .returned (.agg (tkC (numT bs n st)).toArray) ∧ Hid (LxP w g t cs a n c bs (numT bs n st).en k w') := by
  have I0 := hid info_tk
  obtain ⟨hcap, hn, hcm⟩ := h.src.cap
  have hnl := h.src.len
  have hg := h.blk.lt
  obtain ⟨b, off, ha, _, _⟩ := h.src.cell hs
  subst ha
  obtain ⟨p, hp⟩ : ∃ p, w.heap.size = p := ⟨_, rfl⟩
  have H1 := hid (TkU.start h [.int .u8 0, .int .i64 0, .int .i64 0, .int .i64 0, .int .u64 0] rfl)
  rw [hp] at H1
  obtain ⟨X, hX⟩ : ∃ X, numT bs n st = X := ⟨_, rfl⟩
  have HX := hid hX
  rw [hX]
  have Hn := hid hnl
  clear h hX hnl
  go_enter Tryz.func109, Tryz.ntmps109
  go_upto_region 1 with fail
  (try simp only [hp])
  generalize hw1 : w.alloc _ = w1 at H1 ⊢
  clear hw1 hp
  obtain ⟨c0, _, _⟩ := H1.out.lx.cells
  have f1 := H1.out.lx.fz 1
  obtain ⟨b0, off0, e0, _, hc0⟩ := H1.out.lx.src.cell hs
  cases e0
  obtain ⟨x0, hx0⟩ : ∃ x, cN bs st = x := ⟨_, rfl⟩
  rw [hx0] at hc0
  have Hx0 := hid hx0
  have hx02 : x0 < 256 := by rw [← hx0]; exact cN_lt _ _
  clear hx0
  obtain ⟨z0, hz0⟩ : ∃ z, ((x0 : Int) == 48) = z := ⟨_, rfl⟩
  have Hz0 := hid hz0
  go_upto_if 24 with fail
  clear hz0
  go_cut [6, 7, 8, 9] from 15 to 77 (fun v u _ _ wc => wc = w1 ∧ ∃ base i0 : Nat, v = .int .u64 (base : Int) ∧ u = .int .i64 (i0 : Int) ∧ (base = 10 ∨ base = 16) ∧ i0 ≤ n ∧ st ≤ i0 ∧ Hid (numFin bs n st base i0 0 = X))
  case first =>
    cases z0 with
    | false =>
      as_aux_lemma =>
      have HE : Hid (numFin bs n st 10 st 0 = X) := hid (by
        have hne : x0 ≠ 48 := by have := Hz0.out; simp at this; omega
        rw [← HX.out]; unfold numT; rw [if_neg (by rw [Hx0.out]; exact hne)])
      go_wp2
      go_meet
      exact ⟨rfl, 10, st, rfl, rfl, .inl rfl, by omega, Nat.le_refl _, HE⟩
    | true =>
      have he48 : Hid (cN bs st = 48) := hid (by have := Hz0.out; rw [Hx0.out]; simp at this; omega)
      by_cases h1 : st + 1 < n
      rotate_left
      · as_aux_lemma =>
        have d1 : decide ((st : Int) + 1 < (n : Int)) = false := decide_eq_false (by omega)
        have HE : Hid (numFin bs n st 10 (st + 1) 0 = X) := hid (by
          rw [← HX.out]; unfold numT; rw [if_pos he48.out, if_neg (fun h => h1 h.1), if_neg (fun h => h1 h.1)])
        go_wp2
        go_meet
        exact ⟨rfl, 10, st + 1, rfl, by go_num, .inl rfl, by omega, by omega, HE⟩
      have d1 : decide ((st : Int) + 1 < (n : Int)) = true := decide_eq_true (by omega)
      obtain ⟨b1, off1, e1, _, hc1⟩ := H1.out.lx.src.cell h1
      cases e1
      obtain ⟨x1, hx1⟩ : ∃ x, cN bs (st + 1) = x := ⟨_, rfl⟩
      have HW1 := hid (isWordW (cN bs (st + 1)) (cN_lt _ _))
      rw [hx1] at hc1 HW1
      have Hx1 := hid hx1
      have hx12 : x1 < 256 := by rw [← hx1]; exact cN_lt _ _
      clear hx1
      have hc1' : w1.cell? ⟨b, off + st + 1, none⟩ = some (.int .u8 (x1 : Int)) := by rw [Nat.add_assoc]; exact hc1
      by_cases h2 : x1 = 120
      · have d2 : ((x1 : Int) == 120) = true := by simp; omega
        have H12 : Hid (st + 1 < n ∧ cN bs (st + 1) = 120) := hid ⟨h1, by rw [Hx1.out]; exact h2⟩
        clear h2
        by_cases h3 : st + 2 < n
        rotate_left
        · as_aux_lemma =>
          have d3 : decide ((st : Int) + 1 + 1 < (n : Int)) = false := decide_eq_false (by omega)
          have d4 : decide ((n : Int) ≤ (st : Int) + 1 + 1) = true := decide_eq_true (by omega)
          have d5 : decide ((st : Int) + 1 + 1 ≥ (n : Int)) = true := d4
          have ec : ((st + 2 : Nat) : Int) = (st : Int) + 1 + 1 := by omega
          have HS_ := hid (spoiledW H1.out.lx st (st + 2) (by omega) (by omega))
          rw [ec] at HS_
          have HX_ : Hid (spoT n st (st + 2) = X) := hid (by rw [← HX.out]; unfold numT; rw [if_pos he48.out, if_pos H12.out, if_neg (fun h => h3 h.1)])
          go_wp2_with fail
          refine HS_.out.mono ?_
          rintro e w7 ⟨rfl, hp7⟩
          have H7 := hid (H1.out.call hp7.out)
          clear hp7 HS_
          obtain rfl := HX_.out
          obtain ⟨ds, hd1, hd2⟩ := H7.out.b
          go_wp2_with (refine wpList_store_blk rfl 112 _ _ rfl p rfl (tkC (spoT n st (st + 2))) rfl hd2 hd1 I0.out (tkC_one _) ?_; intro w9 HB9 HU9)
          refine bodyPost_ret (results_blk (cs := tkC (spoT n st (st + 2))) Tryz.results109 rfl agg_tk HB9.out) rfl ?_
          exact ⟨rfl, hid (H7.out.done HU9.out)⟩
        have d3 : decide ((st : Int) + 1 + 1 < (n : Int)) = true := decide_eq_true (by omega)
        have d4 : decide ((n : Int) ≤ (st : Int) + 1 + 1) = false := decide_eq_false (by omega)
        have d5 : decide ((st : Int) + 1 + 1 ≥ (n : Int)) = false := d4
        obtain ⟨b2, off2, e2, _, hc2⟩ := H1.out.lx.src.cell h3
        cases e2
        obtain ⟨x2, hx2⟩ : ∃ x, cN bs (st + 2) = x := ⟨_, rfl⟩
        have HD2 := hid (digitValueW (cN bs (st + 2)) 16 (cN_lt _ _) (.inr rfl))
        rw [hx2] at hc2 HD2
        have Hx2 := hid hx2
        have hx22 : x2 < 256 := by rw [← hx2]; exact cN_lt _ _
        clear hx2
        have hc2' : w1.cell? ⟨b, off + st + 1 + 1, none⟩ = some (.int .u8 (x2 : Int)) := by rw [Nat.add_assoc, Nat.add_assoc]; exact hc2
        obtain ⟨q, hq⟩ : ∃ q, (dvN x2 16).isSome = q := ⟨_, rfl⟩
        rw [hq] at HD2
        have Hq := hid hq
        clear hq
        generalize (dvN x2 16).getD 0 = dv at HD2
        cases q with
        | true =>
          as_aux_lemma =>
          have HE : Hid (numFin bs n st 16 (st + 2) 0 = X) := hid (by rw [← HX.out]; unfold numT; rw [if_pos he48.out, if_pos H12.out, if_pos ⟨h3, by rw [Hx2.out]; exact Hq.out⟩])
          go_wp2_with fail
          refine (HD2.out _).mono ?_
          rintro e w6 ⟨rfl, rfl⟩
          go_wp2
          go_meet
          exact ⟨rfl, 16, st + 2, rfl, by go_num, .inr rfl, by omega, by omega, HE⟩
        | false =>
          as_aux_lemma =>
          have ec : ((st + 2 : Nat) : Int) = (st : Int) + 1 + 1 := by omega
          have HS_ := hid (spoiledW H1.out.lx st (st + 2) (by omega) (by omega))
          rw [ec] at HS_
          have HX_ : Hid (spoT n st (st + 2) = X) := hid (by rw [← HX.out]; unfold numT; rw [if_pos he48.out, if_pos H12.out, if_neg (fun h => by have h9 := h.2; rw [Hx2.out, Hq.out] at h9; cases h9)])
          go_wp2_with fail
          refine (HD2.out _).mono ?_
          rintro e w6 ⟨rfl, rfl⟩
          go_wp2_with fail
          refine HS_.out.mono ?_
          rintro e w7 ⟨rfl, hp7⟩
          have H7 := hid (H1.out.call hp7.out)
          clear hp7 HS_
          obtain rfl := HX_.out
          obtain ⟨ds, hd1, hd2⟩ := H7.out.b
          go_wp2_with (refine wpList_store_blk rfl 112 _ _ rfl p rfl (tkC (spoT n st (st + 2))) rfl hd2 hd1 I0.out (tkC_one _) ?_; intro w9 HB9 HU9)
          refine bodyPost_ret (results_blk (cs := tkC (spoT n st (st + 2))) Tryz.results109 rfl agg_tk HB9.out) rfl ?_
          exact ⟨rfl, hid (H7.out.done HU9.out)⟩
      · have d2 : ((x1 : Int) == 120) = false := by simp; omega
        have H12 : Hid (¬ (st + 1 < n ∧ cN bs (st + 1) = 120)) := hid (fun h => h2 (by rw [← Hx1.out]; exact h.2))
        obtain ⟨q, hq⟩ : ∃ q, wdB x1 = q := ⟨_, rfl⟩
        rw [hq] at HW1
        have Hq := hid hq
        clear hq h2
        cases q with
        | true =>
          as_aux_lemma =>
          have ec : ((st + 1 : Nat) : Int) = (st : Int) + 1 := by omega
          have HS_ := hid (spoiledW H1.out.lx st (st + 1) (by omega) (by omega))
          rw [ec] at HS_
          have HX_ : Hid (spoT n st (st + 1) = X) := hid (by rw [← HX.out]; unfold numT; rw [if_pos he48.out, if_neg H12.out, if_pos ⟨h1, by rw [Hx1.out]; exact Hq.out⟩])
          go_wp2_with fail
          refine (HW1.out _).mono ?_
          rintro e w6 ⟨rfl, rfl⟩
          go_wp2_with fail
          refine HS_.out.mono ?_
          rintro e w7 ⟨rfl, hp7⟩
          have H7 := hid (H1.out.call hp7.out)
          clear hp7 HS_
          obtain rfl := HX_.out
          obtain ⟨ds, hd1, hd2⟩ := H7.out.b
          go_wp2_with (refine wpList_store_blk rfl 112 _ _ rfl p rfl (tkC (spoT n st (st + 1))) rfl hd2 hd1 I0.out (tkC_one _) ?_; intro w9 HB9 HU9)
          refine bodyPost_ret (results_blk (cs := tkC (spoT n st (st + 1))) Tryz.results109 rfl agg_tk HB9.out) rfl ?_
          exact ⟨rfl, hid (H7.out.done HU9.out)⟩
        | false =>
          as_aux_lemma =>
          have HE : Hid (numFin bs n st 10 (st + 1) 0 = X) := hid (by rw [← HX.out]; unfold numT; rw [if_pos he48.out, if_neg H12.out, if_neg (fun h => by have h9 := h.2; rw [Hx1.out, Hq.out] at h9; cases h9)])
          go_wp2_with fail
          refine (HW1.out _).mono ?_
          rintro e w6 ⟨rfl, rfl⟩
          go_wp2
          go_meet
          exact ⟨rfl, 10, st + 1, rfl, by go_num, .inl rfl, by omega, by omega, HE⟩
  case rest =>
  obtain ⟨rfl, base, i0, rfl, rfl, hbase, hi0, hsi, HE⟩ := hcut
  clear HX Hx0 hc0 hx02 Hz0 f1 c0
  have hb16 : base ≤ 16 := by omega
  go_upto_region 17 with fail
  go_loopw [7, 10] (fun u y wr => ∃ j v : Nat, u = .int .i64 (j : Int) ∧ y = .int .u64 (v : Int) ∧ j ≤ n ∧ st ≤ j ∧ v < 18446744073709551616 ∧ Hid (numFin bs n st base j v = X) ∧ Hid (TkU w p g t cs (some ⟨b, off, none⟩) n c bs i k wr)) (fun u _ _ => n - (intOf u).toNat)
  case atStart => exact ⟨i0, 0, rfl, rfl, hi0, hsi, by decide, HE, H1⟩
  case round =>
  clear HE H1 hi0 hsi
  obtain ⟨j, v, rfl, rfl, hj, hsj, hv, HF0, HK⟩ := hrel
  by_cases hjn : j < n
  rotate_left
  · have d1 : decide ((j : Int) < (n : Int)) = false := decide_eq_false (by omega)
    have HF : Hid (numEnd bs n st j v = X) := hid (by rw [← HF0.out]; unfold numFin; rw [nm_end bs (by rw [Hn.out]; omega)])
    clear HF0
    as_aux_lemma =>
    have hz := hjn
    have HX_ : Hid ((⟨5, st, j, 0, v⟩ : Tk) = X) := hid (by rw [← HF.out]; unfold numEnd; rw [if_neg (fun h => hz h.1)])
    have f1 := HK.out.lx.fz 1
    obtain ⟨_, c1z, _⟩ := HK.out.lx.cells
    obtain rfl := HX_.out
    have H7 := hid (HK.out.pos (j := j) (by omega))
    go_upto_region 30 with fail
    generalize hw7 : World.setCell _ (⟨g, 1, none⟩ : Addr) _ = w7 at H7 ⊢
    clear hw7
    obtain ⟨ds, hd1, hd2⟩ := H7.out.b
    go_wp2_with (refine wpList_store_blk rfl 112 _ _ rfl p rfl (tkC ⟨5, st, j, 0, v⟩) rfl hd2 hd1 I0.out (tkC_one _) ?_; intro w9 HB9 HU9)
    refine bodyPost_ret (results_blk (cs := tkC ⟨5, st, j, 0, v⟩) Tryz.results109 rfl agg_tk HB9.out) rfl ?_
    exact ⟨rfl, hid (H7.out.done HU9.out)⟩
  have d1 : decide ((j : Int) < (n : Int)) = true := decide_eq_true (by omega)
  obtain ⟨b3, off3, e3, _, hc3⟩ := HK.out.lx.src.cell hjn
  cases e3
  obtain ⟨x3, hx3⟩ : ∃ x, cN bs j = x := ⟨_, rfl⟩
  have HD3 := hid (digitValueW (cN bs j) base (cN_lt _ _) hbase)
  rw [hx3] at hc3 HD3
  have Hx3 := hid hx3
  have hx32 : x3 < 256 := by rw [← hx3]; exact cN_lt _ _
  clear hx3
  cases hdv : dvN x3 base with
  | none =>
    have Hdv := hid hdv
    rw [hdv] at HD3
    have HF : Hid (numEnd bs n st j v = X) := hid (by rw [← HF0.out]; unfold numFin; rw [nm_stop bs (by rw [Hn.out]; exact hjn) (by rw [Hx3.out]; exact Hdv.out)])
    clear hdv HF0
    go_wp2_with fail
    refine (HD3.out _).mono ?_
    rintro e w5 ⟨rfl, rfl⟩
    clear HD3
    go_upto_region 27 with fail
    have HW_ := hid (isWordW x3 hx32)
    obtain ⟨q, hq⟩ : ∃ q, wdB x3 = q := ⟨_, rfl⟩
    rw [hq] at HW_
    have Hq := hid hq
    clear hq
    cases q with
    | true =>
      as_aux_lemma =>
      go_wp2_with fail
      refine (HW_.out _).mono ?_
      rintro e w6 ⟨rfl, rfl⟩
      have HS_ := hid (spoiledW HK.out.lx st (j) (by omega) (by omega))
      have HX_ : Hid (spoT n st (j) = X) := hid (by rw [← HF.out]; unfold numEnd; rw [if_pos ⟨hjn, by rw [Hx3.out]; exact Hq.out⟩])
      go_wp2_with fail
      refine HS_.out.mono ?_
      rintro e w7 ⟨rfl, hp7⟩
      have H7 := hid (HK.out.call hp7.out)
      clear hp7 HS_
      obtain rfl := HX_.out
      obtain ⟨ds, hd1, hd2⟩ := H7.out.b
      go_wp2_with (refine wpList_store_blk rfl 112 _ _ rfl p rfl (tkC (spoT n st (j))) rfl hd2 hd1 I0.out (tkC_one _) ?_; intro w9 HB9 HU9)
      refine bodyPost_ret (results_blk (cs := tkC (spoT n st (j))) Tryz.results109 rfl agg_tk HB9.out) rfl ?_
      exact ⟨rfl, hid (H7.out.done HU9.out)⟩
    | false =>
      as_aux_lemma =>
      go_wp2_with fail
      refine (HW_.out _).mono ?_
      rintro e w6 ⟨rfl, rfl⟩
      have HX_ : Hid ((⟨5, st, j, 0, v⟩ : Tk) = X) := hid (by rw [← HF.out]; unfold numEnd; rw [if_neg (fun h => by have h2 := h.2; rw [Hx3.out, Hq.out] at h2; cases h2)])
      have f1 := HK.out.lx.fz 1
      obtain ⟨_, c1z, _⟩ := HK.out.lx.cells
      obtain rfl := HX_.out
      have H7 := hid (HK.out.pos (j := j) (by omega))
      go_upto_region 30 with fail
      generalize hw7 : World.setCell _ (⟨g, 1, none⟩ : Addr) _ = w7 at H7 ⊢
      clear hw7
      obtain ⟨ds, hd1, hd2⟩ := H7.out.b
      go_wp2_with (refine wpList_store_blk rfl 112 _ _ rfl p rfl (tkC ⟨5, st, j, 0, v⟩) rfl hd2 hd1 I0.out (tkC_one _) ?_; intro w9 HB9 HU9)
      refine bodyPost_ret (results_blk (cs := tkC ⟨5, st, j, 0, v⟩) Tryz.results109 rfl agg_tk HB9.out) rfl ?_
      exact ⟨rfl, hid (H7.out.done HU9.out)⟩
  | some d =>
    have Hdv : Hid (dvN (cN bs j) base = some d) := hid (by rw [Hx3.out]; exact hdv)
    have hd16 := dvN_lt hdv
    rw [hdv] at HD3
    clear hdv
    have HM := hid (mulCheckedW v base hv (by omega) wr)
    by_cases hm : v * base < 18446744073709551616
    rotate_left
    · as_aux_lemma =>
      rw [decide_eq_false hm] at HM
      generalize v * base % 18446744073709551616 = y at HM
      go_wp2_with fail
      refine (HD3.out _).mono ?_
      rintro e w5 ⟨rfl, rfl⟩
      go_wp2_with fail
      refine HM.out.mono ?_
      rintro e w6 ⟨rfl, hd6⟩
      have HK6 := hid (HK.out.below (hd6.below _))
      clear hd6 HM HD3 HK
      have HS_ := hid (spoiledW HK6.out.lx st (j) (by omega) (by omega))
      have HX_ : Hid (spoT n st (j) = X) := hid (by rw [← HF0.out]; unfold numFin; rw [nm_over bs (by rw [Hn.out]; exact hjn) Hdv.out (fun h => hm (by omega))])
      go_wp2_with fail
      refine HS_.out.mono ?_
      rintro e w7 ⟨rfl, hp7⟩
      have H7 := hid (HK6.out.call hp7.out)
      clear hp7 HS_
      obtain rfl := HX_.out
      obtain ⟨ds, hd1, hd2⟩ := H7.out.b
      go_wp2_with (refine wpList_store_blk rfl 112 _ _ rfl p rfl (tkC (spoT n st (j))) rfl hd2 hd1 I0.out (tkC_one _) ?_; intro w9 HB9 HU9)
      refine bodyPost_ret (results_blk (cs := tkC (spoT n st (j))) Tryz.results109 rfl agg_tk HB9.out) rfl ?_
      exact ⟨rfl, hid (H7.out.done HU9.out)⟩
    rw [decide_eq_true hm, Nat.mod_eq_of_lt hm] at HM
    obtain ⟨y, hy⟩ : ∃ y, v * base = y := ⟨_, rfl⟩
    rw [hy] at HM hm
    have Hy := hid hy
    clear hy
    have HA := hid (addCheckedW y d hm (by omega))
    by_cases hf : y + d < 18446744073709551616
    · as_aux_lemma =>
      rw [decide_eq_true hf, Nat.mod_eq_of_lt hf] at HA
      have HF : Hid (numFin bs n st base (j + 1) (y + d) = X) := hid (by
        rw [← HF0.out]
        unfold numFin
        rw [nm_on bs (i := j) (v := v) (by rw [Hn.out]; exact hjn) Hdv.out (by rw [Hy.out]; exact hf), Hy.out])
      obtain ⟨v2, hv2⟩ : ∃ v2, y + d = v2 := ⟨_, rfl⟩
      rw [hv2] at HA HF hf
      clear hv2 HF0
      go_wp2_with fail
      refine (HD3.out _).mono ?_
      rintro e w5 ⟨rfl, rfl⟩
      go_wp2_with fail
      refine HM.out.mono ?_
      rintro e w6 ⟨rfl, hd6⟩
      have HK6 := hid (HK.out.below (hd6.below _))
      clear hd6 HM HD3 HK
      go_wp2_with fail
      refine (HA.out _).mono ?_
      rintro e w7 ⟨rfl, rfl⟩
      clear HA
      go_wp2
      exact ⟨⟨j + 1, v2, by go_num, rfl, by omega, by omega, hf, HF, HK6⟩, by simp [intOf]; omega⟩
    · as_aux_lemma =>
      rw [decide_eq_false hf] at HA
      generalize (y + d) % 18446744073709551616 = y2 at HA
      go_wp2_with fail
      refine (HD3.out _).mono ?_
      rintro e w5 ⟨rfl, rfl⟩
      go_wp2_with fail
      refine HM.out.mono ?_
      rintro e w6 ⟨rfl, hd6⟩
      have HK6 := hid (HK.out.below (hd6.below _))
      clear hd6 HM HD3 HK
      go_wp2_with fail
      refine (HA.out _).mono ?_
      rintro e w8 ⟨rfl, rfl⟩
      clear HA
      have HS_ := hid (spoiledW HK6.out.lx st (j) (by omega) (by omega))
      have HX_ : Hid (spoT n st (j) = X) := hid (by rw [← HF0.out]; unfold numFin; rw [nm_over bs (by rw [Hn.out]; exact hjn) Hdv.out (fun h => hf (by rw [← Hy.out]; exact h))])
      go_wp2_with fail
      refine HS_.out.mono ?_
      rintro e w7 ⟨rfl, hp7⟩
      have H7 := hid (HK6.out.call hp7.out)
      clear hp7 HS_
      obtain rfl := HX_.out
      obtain ⟨ds, hd1, hd2⟩ := H7.out.b
      go_wp2_with (refine wpList_store_blk rfl 112 _ _ rfl p rfl (tkC (spoT n st (j))) rfl hd2 hd1 I0.out (tkC_one _) ?_; intro w9 HB9 HU9)
      refine bodyPost_ret (results_blk (cs := tkC (spoT n st (j))) Tryz.results109 rfl agg_tk HB9.out) rfl ?_
      exact ⟨rfl, hid (H7.out.done HU9.out)⟩
end
end Go.Proofs.Qxb6500883aGreatDoor
