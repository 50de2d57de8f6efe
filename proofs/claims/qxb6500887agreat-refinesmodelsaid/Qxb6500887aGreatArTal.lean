/- The arena with its tallies: New, touch, Tally. -/
import Derived.Test.Qxb6500887aGreatArRng3
import Derived.Test.Qxb6500887aGreatArExt3
import Derived.Test.Qxb6500887aGreatArNew
namespace Go.Proofs.Qxb6500887aGreat
open Go.RowKit
set_option linter.unusedSimpArgs false
set_option linter.unusedVariables false

def oj (j : Nat) : Nat := (16 ^ j - 1) / 15
theorem T4.zero {w : World} {t b : Nat} (h : Tab w t b 2048 4 16 15 (ones4 : Int) (List.replicate 128 0)) (hne : t ≠ b) : T4 t b (fun _ => 0) w :=
  ⟨⟨_, h, by simp, fun q hq => ⟨0, by rw [List.getElem?_replicate, if_pos hq], by decide, fun j _ => by unfold nib; simp⟩⟩, hne⟩
theorem oj_step (j : Nat) (hj : j < 16) : bits .or .u64 ((oj j : Nat) : Int) (IntKind.u64.wrap (1 * 2 ^ (4 * j))) = ((oj (j + 1) : Nat) : Int) := by
  rcases (by omega : j = 0 ∨ j = 1 ∨ j = 2 ∨ j = 3 ∨ j = 4 ∨ j = 5 ∨ j = 6 ∨ j = 7 ∨ j = 8 ∨ j = 9 ∨ j = 10 ∨ j = 11 ∨ j = 12 ∨ j = 13 ∨ j = 14 ∨ j = 15) with rfl | rfl | rfl | rfl | rfl | rfl | rfl | rfl | rfl | rfl | rfl | rfl | rfl | rfl | rfl | rfl <;> rfl
set_option maxRecDepth 100000 in
set_option maxHeartbeats 1000000 in
theorem tabNewO_walk (n wd per len : Nat) (h4 : wd = 4) (h : wd = 1 ∨ wd = 2 ∨ wd = 4) (hpd : 64 / wd = per) (hn : n ≤ 32768) (hlen : (n + per - 1) / per = len) (w : World) :
    Calls Tryz.prog 166 #[.int .i64 n, .int .u64 wd] w fun e w' => ∃ t b, e = .returned (.tuple #[.pointer (some ⟨t, 0, none⟩), .bool true]) ∧ Below w.heap.size w w' ∧ w.heap.size ≤ t ∧ w.heap.size ≤ b ∧ t ≠ b ∧ Tab w' t b n wd per (2 ^ wd - 1) ((oj per : Nat) : Int) (List.replicate len 0) := by
  have HOj : Hid (∀ j, j < per → bits .or .u64 ((oj j : Nat) : Int) (IntKind.u64.wrap (1 * 2 ^ (wd * j))) = ((oj (j + 1) : Nat) : Int)) := hid (fun j hj => by
    subst h4
    exact oj_step j (by omega))
  clear h4
  have HV := hid (fun w => validWidth_walk wd h w)
  have HL := hid (fun w => lowBits_walk wd h w)
  have hw1 : 1 ≤ wd := by omega
  have hw4 : wd ≤ 4 := by omega
  have hp : wd * per = 64 := by rcases h with rfl | rfl | rfl <;> omega
  have hp1 : 1 ≤ per := by rcases h with rfl | rfl | rfl <;> omega
  have hp2 : per ≤ 64 := by rcases h with rfl | rfl | rfl <;> omega
  have hq : 64 / (wd : Int) = (per : Int) := by
    rcases h with rfl | rfl | rfl <;> (subst hpd; omega)
  have hl2 : ((n : Int) + per - 1) / per = (len : Int) := by
    rw [← hlen]
    have : ((n : Int) + per - 1) = ((n + per - 1 : Nat) : Int) := by omega
    rw [this]
    simp
  have hll : len ≤ 32768 := by
    rw [← hlen]
    refine Nat.div_le_of_le_mul ?_
    rcases Nat.lt_or_ge per 2 with e | e
    · have : per = 1 := by omega
      rw [this]; omega
    · have := Nat.mul_le_mul_right 32768 e
      omega
  have hmk := run_make_row' (P := Tryz.prog) 53 29 (.int .u64 0) 8 (by kernel_rfl) info_u64 rfl .i64 .i64 len (by omega) (by omega)
  have hz : (wd == 0) = false := by simp; omega
  have Hh := hid h
  have Hlen := hid hlen
  generalize hM : 2 ^ wd - 1 = mask at *
  clear h hpd hlen
  go_enter Tryz.func166, Tryz.ntmps166
  go_wp2_with (go_at_call 218; refine (HV.out _).mono ?_; rintro e w1 ⟨rfl, rfl⟩)
  go_loopw [7, 8] (fun v u wr => wr = w1 ∧ ∃ j : Nat, j ≤ per ∧ v = .int .u64 ((oj j : Nat) : Int) ∧ u = .int .u64 ((wd * j : Nat) : Int)) (fun _ u _ => 64 - (intOf u).toNat)
  case atStart => exact ⟨rfl, 0, by omega, rfl, rfl⟩
  case round =>
    obtain ⟨rfl, j, hj, rfl, rfl⟩ := hrel
    have hjj : wd * j ≤ 64 := by rw [← hp]; exact Nat.mul_le_mul_left _ hj
    by_cases hlt : j < per
    · have h1 : wd * j + wd ≤ 64 := by
        have := Nat.mul_le_mul_left wd hlt
        rw [Nat.succ_eq_add_one, Nat.mul_add] at this
        omega
      have e : wd * (j + 1) = wd * j + wd := by rw [Nat.mul_add]; omega
      have dj : decide (((wd * j : Nat) : Int) < 64) = true := decide_eq_true (by omega)
      have Hn : Hid (wd * (j + 1) = wd * j + wd) := hid e
      have HO := hid (HOj.out j hlt)
      clear HOj
      generalize wd * j = sj at *
      generalize oj j = o at *
      clear e
      go_wp2
      refine ⟨⟨trivial, j + 1, by omega, ?_, by rw [Hn.out]; simp⟩, by simp [intOf]; omega⟩
      rw [← HO.out]
      first | rfl | simp
    · have hje : j = per := by omega
      subst hje
      have dj : decide (((wd * j : Nat) : Int) < 64) = false := decide_eq_false (by omega)
      have dp : (j == 0) = false := by simp; omega
      have dp' : ((j : Int) == 0) = false := by simp; omega
      clear HOj
      go_wp2_with fail
      go_region_with (go_at_call 219; refine (HL.out _).mono ?_; rintro e wq ⟨rfl, rfl⟩)
      all_goals go_wp2
      all_goals
        refine bodyPost_ret (v := .tuple #[.pointer (some ⟨wr.heap.size + 1, 0, none⟩), .bool true]) (by simp [results, Tryz.results166, go_sem]) rfl ⟨wr.heap.size + 1, wr.heap.size, rfl, ?_⟩
        exact tab_new wr n wd j mask len ((oj j : Nat) : Int)

theorem tabNew4_walk (w : World) :
    Calls Tryz.prog 166 #[.int .i64 2048, .int .u64 4] w fun e w' => ∃ t b, e = .returned (.tuple #[.pointer (some ⟨t, 0, none⟩), .bool true]) ∧ Below w.heap.size w w' ∧ w.heap.size ≤ t ∧ w.heap.size ≤ b ∧ T4 t b (fun _ => 0) w' := by
  have h := tabNewO_walk 2048 4 16 128 rfl (by omega) (by omega) (by omega) (by omega) w
  refine Calls.mono (show Calls Tryz.prog 166 #[.int .i64 2048, .int .u64 4] w _ from h) ?_
  rintro e w1 ⟨t, b, rfl, h1, h2, h3, h4, h5⟩
  exact ⟨t, b, rfl, h1, h2, h3, T4.zero h5 h4⟩
set_option maxRecDepth 100000 in
theorem mustTable4_walk (w : World) :
    Calls Tryz.prog 55 #[.int .i64 2048, .int .u64 4] w fun e w' => ∃ t b, e = .returned (.pointer (some ⟨t, 0, none⟩)) ∧ Below w.heap.size w w' ∧ w.heap.size ≤ t ∧ w.heap.size ≤ b ∧ T4 t b (fun _ => 0) w' := by
  have H := hid (tabNew4_walk w)
  go_enter Tryz.func55, Tryz.ntmps55
  go_wp2_with fail
  refine H.out.mono ?_
  rintro e w1 ⟨t, b, rfl, h1, h2, h3, h4⟩
  have HH := hid (And.intro h1 (And.intro h2 (And.intro h3 h4)))
  clear h1 h2 h3 h4 H
  go_wp2
  go_ret
  exact ⟨t, b, rfl, HH.out⟩
/-- The arena, as far as its tallies go. -/
structure AT (A t b : Nat) (f : Nat → Nat) (w : World) : Prop where
  ar : ∃ (v0 v1 v2 v3 : Value) (ver : Int), Blk w A 105 [v0, v1, v2, v3, .pointer (some ⟨t, 0, none⟩), .int .u64 ver]
  t4 : T4 t b f w
theorem T4.blks {t b : Nat} {f : Nat → Nat} {w : World} (h : T4 t b f w) : (∃ cs, Blk w t 216 cs) ∧ ∃ cs, Blk w b 29 cs := by
  obtain ⟨l, k1, _⟩ := h.ws
  exact ⟨⟨_, k1.tb⟩, ⟨_, k1.wb⟩⟩
theorem Blk.tneA {w : World} {g g' : Nat} {t t' : TypeId} {ds ds' : List Value} (h : Blk w g t ds) (h' : Blk w g' t' ds') (ht : t ≠ t') : g ≠ g' := fun e => by
  subst e
  unfold Blk at h h'
  rw [h] at h'
  simp only [Option.some.injEq, Obj.cells.injEq] at h'
  exact ht h'.2.1
theorem AT.below {A t b : Nat} {f : Nat → Nat} {w w' : World} (h : AT A t b f w) (hb : Below w.heap.size w w') : AT A t b f w' := by
  obtain ⟨v0, v1, v2, v3, ver, k⟩ := h.ar
  exact ⟨⟨v0, v1, v2, v3, ver, k.below hb⟩, h.t4.below hb⟩
theorem AT.ptr {A t b : Nat} {f : Nat → Nat} {w : World} (h : AT A t b f w) : w.cell? ⟨A, 4, none⟩ = some (.pointer (some ⟨t, 0, none⟩)) := by
  obtain ⟨v0, v1, v2, v3, ver, k⟩ := h.ar
  exact k.cell 4
/-- All but the blocks A and b are as they were. -/
structure UA (A b : Nat) (w w' : World) : Prop where
  os : w'.os = w.os
  tape : w'.tape = w.tape
  output : w'.output = w.output
  size : w.heap.size ≤ w'.heap.size
  block : ∀ k, k < w.heap.size → k ≠ A → k ≠ b → w'.heap[k]? = w.heap[k]?
theorem UA.refl (A b : Nat) (w : World) : UA A b w w := ⟨rfl, rfl, rfl, Nat.le_refl _, fun _ _ _ _ => rfl⟩
theorem UA.trans {A b : Nat} {x y z : World} (h : UA A b x y) (k : UA A b y z) : UA A b x z := ⟨k.os.trans h.os, k.tape.trans h.tape, k.output.trans h.output, Nat.le_trans h.size k.size, fun i hi h1 h2 => (k.block i (Nat.lt_of_lt_of_le hi h.size) h1 h2).trans (h.block i hi h1 h2)⟩
theorem UA.ofBelow {A b : Nat} {w w' : World} (h : Below w.heap.size w w') : UA A b w w' := ⟨h.os, h.tape, h.output, h.size, fun k hk _ _ => h.block k hk⟩
theorem UA.ofA {A b : Nat} {w w' : World} (h : Upd A w w') : UA A b w w' := ⟨h.os, h.tape, h.output, h.size, fun k hk h1 _ => h.block k hk h1⟩
theorem UA.ofb {A b : Nat} {w w' : World} (h : Upd b w w') : UA A b w w' := ⟨h.os, h.tape, h.output, h.size, fun k hk _ h2 => h.block k hk h2⟩
theorem UA.blk {A b g : Nat} {t : TypeId} {cs : List Value} {w w' : World} (h : UA A b w w') (hb : Blk w g t cs) (h1 : g ≠ A) (h2 : g ≠ b) : Blk w' g t cs := by
  have := h.block g hb.lt h1 h2
  unfold Blk at hb ⊢
  rw [this]
  exact hb
set_option maxRecDepth 100000 in
set_option maxHeartbeats 1000000 in
theorem touchT_walk {A t b : Nat} {f : Nat → Nat} {w : World} (h : AT A t b f w) :
    Calls Tryz.prog 137 #[.pointer (some ⟨A, 0, none⟩)] w fun e w' => e = .returned (.tuple #[]) ∧ AT A t b f w' ∧ Upd A w w' := by
  obtain ⟨v0, v1, v2, v3, ver, k⟩ := h.ar
  have c5 : w.cell? ⟨A, 5, none⟩ = some (.int .u64 ver) := k.cell 5
  have f5 : w.frozen? ⟨A, 5, none⟩ = false := k.frozen 5
  have HF : Hid (∀ x : Int, AT A t b f (w.setCell ⟨A, 5, none⟩ (.int .u64 x)) ∧ Upd A w (w.setCell ⟨A, 5, none⟩ (.int .u64 x))) := hid (fun x => by
    have hu : Upd A w (w.setCell ⟨A, 5, none⟩ (.int .u64 x)) := (Upd.refl A w).setCell rfl _
    obtain ⟨⟨c1, b1⟩, ⟨c2, b2⟩⟩ := h.t4.blks
    exact ⟨⟨⟨v0, v1, v2, v3, x, k.set 5 _⟩, h.t4.upd hu (b1.tneA k (by decide)) (b2.tneA k (by decide))⟩, hu⟩)
  clear h k
  go_enter Tryz.func137, Tryz.ntmps137
  go_wp2
  exact bodyPost_end (v := .tuple #[]) (by simp [results, Tryz.results137, go_sem]) rfl ⟨rfl, HF.out _⟩
set_option maxRecDepth 100000 in
theorem validLn_walk (x : Int) (w : World) : Calls Tryz.prog 207 #[.int .i64 x] w fun e w' => e = .returned (.bool (decide (0 ≤ x) && decide (x < 2048))) ∧ w' = w := by
  cases h1 : decide (0 ≤ x) with
  | false =>
    have d1 : decide (x ≥ 0) = false := h1
    go_enter Tryz.func207, Tryz.ntmps207
    go_wp2
    go_ret
    exact ⟨rfl, rfl⟩
  | true =>
    have d1 : decide (x ≥ 0) = true := h1
    cases h2 : decide (x < 2048) with
    | false =>
      go_enter Tryz.func207, Tryz.ntmps207
      go_wp2
      go_ret
      exact ⟨rfl, rfl⟩
    | true =>
      go_enter Tryz.func207, Tryz.ntmps207
      go_wp2
      go_ret
      exact ⟨rfl, rfl⟩
theorem T4.get {t b : Nat} {f : Nat → Nat} {w : World} (h : T4 t b f w) (i : Nat) (hi : i < 2048) : Calls Tryz.prog 153 #[.pointer (some ⟨t, 0, none⟩), .int .i64 (i : Int)] w fun e w' => e = .returned (.tuple #[.int .u64 ((f i : Nat) : Int), .bool true]) ∧ Drew w w' := by
  obtain ⟨l, k1, k2, k3⟩ := h.ws
  obtain ⟨x, g1, g2, g3⟩ := k3 (i / 16) (by omega)
  have hw := tabGet_walk k1 i hi (by omega) (by omega) (by omega) (by omega) (by omega) x g1 (by omega) g2 (by decide)
  rw [nib_ent, g3 (i % 16) (by omega), show 16 * (i / 16) + i % 16 = i by omega] at hw
  exact hw
set_option maxRecDepth 100000 in
set_option maxHeartbeats 1000000 in
theorem tally_in {A t b : Nat} {f : Nat → Nat} {w : World} (h : AT A t b f w) (i : Nat) (hi : i < 2048) : Calls Tryz.prog 131 #[.pointer (some ⟨A, 0, none⟩), .int .i64 (i : Int)] w fun e w' => e = .returned (.tuple #[.int .i64 ((f i : Nat) : Int), .int .u8 0]) ∧ Below w.heap.size w w' := by
  have HV := hid (validLn_walk (i : Int) w)
  rw [decide_eq_true (show (0 : Int) ≤ (i : Int) by omega), decide_eq_true (show (i : Int) < 2048 by omega)] at HV
  have HG := hid (h.t4.get i hi)
  have hf := h.t4.lt16 hi
  have c4 := h.ptr
  clear h
  generalize f i = v at *
  go_enter Tryz.func131, Tryz.ntmps131
  go_wp2_with fail
  refine HV.out.mono ?_
  rintro e w1 ⟨rfl, hw1⟩
  have hw1' := hw1.symm
  clear hw1
  subst hw1'
  clear HV
  go_wp2_with fail
  refine HG.out.mono ?_
  rintro e w2 ⟨rfl, hd2⟩
  have HB : Hid (Below w.heap.size w w2) := hid (hd2.below _)
  clear hd2 HG c4
  go_wp2
  refine bodyPost_ret (results_tmp2 Tryz.results131 _ _ _) rfl ?_
  exact ⟨rfl, HB.out⟩
set_option maxRecDepth 100000 in
theorem tally_out (A : Nat) (x : Int) (hx : ¬ (0 ≤ x ∧ x < 2048)) (w : World) : Calls Tryz.prog 131 #[.pointer (some ⟨A, 0, none⟩), .int .i64 x] w fun e w' => e = .returned (.tuple #[.int .i64 0, .int .u8 1]) ∧ w' = w := by
  have HV := hid (validLn_walk x w)
  rw [show (decide (0 ≤ x) && decide (x < 2048)) = false by
    rw [Bool.and_eq_false_iff]
    by_cases h : 0 ≤ x
    · exact .inr (decide_eq_false (by omega))
    · exact .inl (decide_eq_false h)] at HV
  go_enter Tryz.func131, Tryz.ntmps131
  go_wp2_with fail
  refine HV.out.mono ?_
  rintro e w1 ⟨rfl, hw1⟩
  have hw1' := hw1.symm
  clear hw1
  subst hw1'
  clear HV
  go_wp2
  refine bodyPost_ret (results_tmp2 Tryz.results131 _ _ _) rfl ?_
  exact ⟨rfl, rfl⟩
structure N4 (w : World) (t b : Nat) (x : World) : Prop where
  n0 : N0 w x
  t4 : T4 t b (fun _ => 0) x
  lo : w.heap.size ≤ t ∧ w.heap.size ≤ b
theorem N4.step {w x y : World} {t b : Nat} (q : N0 w x) (hb : Below x.heap.size x y) (h1 : x.heap.size ≤ t) (h2 : x.heap.size ≤ b) (h : T4 t b (fun _ => 0) y) : N4 w t b y := ⟨q.below hb, h, ⟨Nat.le_trans q.bel.size h1, Nat.le_trans q.bel.size h2⟩⟩
theorem N4.below {w x y : World} {t b : Nat} (h : N4 w t b x) (hb : Below x.heap.size x y) : N4 w t b y := ⟨h.n0.below hb, h.t4.below hb, h.lo⟩
theorem N4.arena {w x : World} {t b : Nat} (h : N4 w t b x) (v0 v1 v2 v3 : Value) : Below w.heap.size w (x.alloc (.cells #[v0, v1, v2, v3, .pointer (some ⟨t, 0, none⟩), .int .u64 0] 105)) ∧ AT x.heap.size t b (fun _ => 0) (x.alloc (.cells #[v0, v1, v2, v3, .pointer (some ⟨t, 0, none⟩), .int .u64 0] 105)) ∧ w.heap.size ≤ x.heap.size ∧ w.heap.size ≤ t ∧ w.heap.size ≤ b :=
  ⟨(h.n0.below (bel_alloc x _)).bel, ⟨⟨v0, v1, v2, v3, 0, Blk.new x [v0, v1, v2, v3, .pointer (some ⟨t, 0, none⟩), .int .u64 0] _⟩, h.t4.below (bel_alloc x _)⟩, h.n0.bel.size, h.lo.1, h.lo.2⟩
set_option maxRecDepth 100000 in
set_option maxHeartbeats 2000000 in
theorem arenaNew4_walk (w : World) :
    Calls Tryz.prog 11 #[] w fun e w' => ∃ A t b, e = .returned (.pointer (some ⟨A, 0, none⟩)) ∧ Below w.heap.size w w' ∧ AT A t b (fun _ => 0) w' ∧ w.heap.size ≤ A ∧ w.heap.size ≤ t ∧ w.heap.size ≤ b := by
  have hmk : ∀ w : World, (Instr.makeSlice 53 (.int .i64 32768) (.int .i64 32768)).run Tryz.prog w = .ok (.slice (some ⟨w.heap.size, 0, none⟩) 32768 32768) (w.alloc (.cells (madeCells #[.int .u64 0] 32768) 29)) := run_make_row' (P := Tryz.prog) 53 29 (.int .u64 0) 8 (by kernel_rfl) info_u64 rfl .i64 .i64 32768 (by omega) (by omega)
  have H1 : Hid (∀ w, Calls Tryz.prog 55 #[.int .i64 16384, .int .u64 2] w fun e w' => ∃ t b, e = .returned (.pointer (some ⟨t, 0, none⟩)) ∧ Below w.heap.size w w' ∧ w.heap.size ≤ t ∧ w.heap.size ≤ b ∧ TabR w' t b 16384 2 32 (List.replicate 16384 0)) := hid (fun w => mustTable_walk 16384 2 32 512 (by omega) (by omega) (by omega) (by omega) w)
  have H2 : Hid (∀ w, Calls Tryz.prog 55 #[.int .i64 16384, .int .u64 1] w fun e w' => ∃ t b, e = .returned (.pointer (some ⟨t, 0, none⟩)) ∧ Below w.heap.size w w' ∧ w.heap.size ≤ t ∧ w.heap.size ≤ b ∧ TabR w' t b 16384 1 64 (List.replicate 16384 0)) := hid (fun w => mustTable_walk 16384 1 64 256 (by omega) (by omega) (by omega) (by omega) w)
  have H3 : Hid (∀ w, Calls Tryz.prog 55 #[.int .i64 32768, .int .u64 1] w fun e w' => ∃ t b, e = .returned (.pointer (some ⟨t, 0, none⟩)) ∧ Below w.heap.size w w' ∧ w.heap.size ≤ t ∧ w.heap.size ≤ b ∧ TabR w' t b 32768 1 64 (List.replicate 32768 0)) := hid (fun w => mustTable_walk 32768 1 64 512 (by omega) (by omega) (by omega) (by omega) w)
  have H4 : Hid (∀ w, Calls Tryz.prog 55 #[.int .i64 2048, .int .u64 4] w fun e w' => ∃ t b, e = .returned (.pointer (some ⟨t, 0, none⟩)) ∧ Below w.heap.size w w' ∧ w.heap.size ≤ t ∧ w.heap.size ≤ b ∧ T4 t b (fun _ => 0) w') := hid (fun w => mustTable4_walk w)
  have P0 := hid (N0.mk (Below.refl w.heap.size w))
  go_enter Tryz.func11, Tryz.ntmps11
  go_upto_region 1 with fail
  go_region_with (go_at_call 55; first
    | (with_reducible refine (H1.out _).mono ?_; rintro e x1 ⟨t1, b1, rfl, hb1, ht1, hbb1, hr1⟩; have P1 := hid ((show N0 w _ by first | exact P0.out | exact P0.out.below (bel_drew _) | exact P0.out.below (bel_alloc _ _) | exact (P0.out.below (bel_drew _)).below (bel_alloc _ _) | exact (P0.out.below (bel_alloc _ _)).below (bel_drew _)).below hb1); clear hb1 ht1 hbb1 hr1)
    | (with_reducible refine (H2.out _).mono ?_; rintro e x2 ⟨t2, b2, rfl, hb2, ht2, hbb2, hr2⟩; have P2 := hid ((show N0 w _ by first | exact P1.out | exact P1.out.below (bel_alloc _ _)).below hb2); clear hb2 ht2 hbb2 hr2)
    | (with_reducible refine (H3.out _).mono ?_; rintro e x3 ⟨t3, b3, rfl, hb3, ht3, hbb3, hr3⟩; have P3 := hid ((show N0 w _ by first | exact P2.out | exact P2.out.below (bel_alloc _ _)).below hb3); clear hb3 ht3 hbb3 hr3)
    | (with_reducible refine (H4.out _).mono ?_; rintro e x4 ⟨t4, b4, rfl, hb4, ht4, hbb4, hr4⟩; have P4 := hid (N4.step (w := w) (by first | exact P3.out | exact P3.out.below (bel_alloc _ _)) hb4 ht4 hbb4 hr4); clear hb4 ht4 hbb4 hr4))
  all_goals go_wp2
  all_goals first
    | (refine bodyPost_ret (v := .pointer (some ⟨x4.heap.size, 0, none⟩)) (by simp [results, Tryz.results11, go_sem]) rfl ⟨x4.heap.size, t4, b4, rfl, ?_⟩
       exact P4.out.arena _ _ _ _)
    | (refine bodyPost_ret (v := .pointer (some ⟨x4.heap.size + 1, 0, none⟩)) (by simp [results, Tryz.results11, go_sem]) rfl ⟨x4.heap.size + 1, t4, b4, rfl, ?_⟩
       have h5 := (P4.out.below (bel_alloc x4 (.cells (madeCells #[.int .u64 0] 32768) 29))).arena (.slice (some ⟨x4.heap.size, 0, none⟩) 32768 32768) (.pointer (some ⟨t1, 0, none⟩)) (.pointer (some ⟨t2, 0, none⟩)) (.pointer (some ⟨t3, 0, none⟩))
       rw [show (x4.alloc (.cells (madeCells #[.int .u64 0] 32768) 29)).heap.size = x4.heap.size + 1 by simp] at h5
       exact h5)
end Go.Proofs.Qxb6500887aGreat
