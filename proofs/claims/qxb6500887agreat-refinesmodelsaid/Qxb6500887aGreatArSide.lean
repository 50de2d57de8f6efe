/- The arena's side tables: Count, SetCount, Marked, SetMarked, Logged, SetLogged. -/
import Derived.Test.Qxb6500887aGreatArTabNew
import Derived.Test.Qxb6500887aGreatArAddr3
namespace Go.Proofs.Qxb6500887aGreat
open Go.RowKit
set_option linter.unusedSimpArgs false
set_option linter.unusedVariables false

structure Ar (w : World) (A tc bc tm bm tl bl : Nat) (cs ms ls : List Nat) : Prop where
  ar : ∃ (wa tt : Value) (ver : Int), Blk w A 105 [wa, .pointer (some ⟨tc, 0, none⟩), .pointer (some ⟨tm, 0, none⟩), .pointer (some ⟨tl, 0, none⟩), tt, .int .u64 ver]
  rc : TabR w tc bc 16384 2 32 cs
  rm : TabR w tm bm 16384 1 64 ms
  rl : TabR w tl bl 32768 1 64 ls
  nd : [A, tc, bc, tm, bm, tl, bl].Nodup
section
variable {w w' : World} {A tc bc tm bm tl bl : Nat} {cs ms ls : List Nat}
theorem Ar.below (h : Ar w A tc bc tm bm tl bl cs ms ls) (hb : Below w.heap.size w w') : Ar w' A tc bc tm bm tl bl cs ms ls := by
  obtain ⟨wa, tt, ver, h1⟩ := h.ar
  exact ⟨⟨wa, tt, ver, h1.below hb⟩, h.rc.below hb, h.rm.below hb, h.rl.below hb, h.nd⟩
theorem Ar.drew (h : Ar w A tc bc tm bm tl bl cs ms ls) (hd : Drew w w') : Ar w' A tc bc tm bm tl bl cs ms ls := h.below (hd.below _)
theorem Ar.upd {g : Nat} (h : Ar w A tc bc tm bm tl bl cs ms ls) (hu : Upd g w w') (hg : g ∉ [A, tc, bc, tm, bm, tl, bl]) : Ar w' A tc bc tm bm tl bl cs ms ls := by
  obtain ⟨wa, tt, ver, h1⟩ := h.ar
  simp only [List.mem_cons, List.not_mem_nil, or_false, not_or] at hg
  obtain ⟨g1, g2, g3, g4, g5, g6, g7⟩ := hg
  exact ⟨⟨wa, tt, ver, h1.upd hu (Ne.symm g1)⟩, h.rc.upd hu (Ne.symm g2) (Ne.symm g3), h.rm.upd hu (Ne.symm g4) (Ne.symm g5), h.rl.upd hu (Ne.symm g6) (Ne.symm g7), h.nd⟩
theorem Ar.ver (h : Ar w A tc bc tm bm tl bl cs ms ls) (v : Int) : Ar (w.setCell ⟨A, 5, none⟩ (.int .u64 v)) A tc bc tm bm tl bl cs ms ls := by
  obtain ⟨wa, tt, ver, h1⟩ := h.ar
  have hu : Upd A w (w.setCell ⟨A, 5, none⟩ (.int .u64 v)) := (Upd.refl A w).setCell rfl _
  have hn := h.nd
  simp only [List.nodup_cons, List.mem_cons, List.not_mem_nil, or_false, not_or] at hn
  obtain ⟨⟨g2, g3, g4, g5, g6, g7⟩, _⟩ := hn
  refine ⟨⟨wa, tt, v, ?_⟩, h.rc.upd hu (Ne.symm g2) (Ne.symm g3), h.rm.upd hu (Ne.symm g4) (Ne.symm g5), h.rl.upd hu (Ne.symm g6) (Ne.symm g7), h.nd⟩
  have := h1.set 5 (.int .u64 v)
  simpa using this
theorem Ar.setc {cs' : List Nat} (h : Ar w A tc bc tm bm tl bl cs ms ls) (hu : Upd bc w w') (ht : TabR w' tc bc 16384 2 32 cs') : Ar w' A tc bc tm bm tl bl cs' ms ls := by
  obtain ⟨wa, tt, ver, h1⟩ := h.ar
  have hn := h.nd
  simp only [List.nodup_cons, List.mem_cons, List.not_mem_nil, or_false, not_or] at hn
  obtain ⟨⟨a2, a3, a4, a5, a6, a7⟩, ⟨b3, b4, b5, b6, b7⟩, ⟨c4, c5, c6, c7⟩, _⟩ := hn
  exact ⟨⟨wa, tt, ver, h1.upd hu a3⟩, ht, h.rm.upd hu (Ne.symm c4) (Ne.symm c5), h.rl.upd hu (Ne.symm c6) (Ne.symm c7), h.nd⟩
theorem Ar.setm {ms' : List Nat} (h : Ar w A tc bc tm bm tl bl cs ms ls) (hu : Upd bm w w') (ht : TabR w' tm bm 16384 1 64 ms') : Ar w' A tc bc tm bm tl bl cs ms' ls := by
  obtain ⟨wa, tt, ver, h1⟩ := h.ar
  have hn := h.nd
  simp only [List.nodup_cons, List.mem_cons, List.not_mem_nil, or_false, not_or] at hn
  obtain ⟨⟨a2, a3, a4, a5, a6, a7⟩, ⟨b3, b4, b5, b6, b7⟩, ⟨c4, c5, c6, c7⟩, ⟨d5, d6, d7⟩, ⟨e6, e7⟩, _⟩ := hn
  exact ⟨⟨wa, tt, ver, h1.upd hu a5⟩, h.rc.upd hu b5 c5, ht, h.rl.upd hu (Ne.symm e6) (Ne.symm e7), h.nd⟩
theorem Ar.setl {ls' : List Nat} (h : Ar w A tc bc tm bm tl bl cs ms ls) (hu : Upd bl w w') (ht : TabR w' tl bl 32768 1 64 ls') : Ar w' A tc bc tm bm tl bl cs ms ls' := by
  obtain ⟨wa, tt, ver, h1⟩ := h.ar
  have hn := h.nd
  simp only [List.nodup_cons, List.mem_cons, List.not_mem_nil, or_false, not_or] at hn
  obtain ⟨⟨a2, a3, a4, a5, a6, a7⟩, ⟨b3, b4, b5, b6, b7⟩, ⟨c4, c5, c6, c7⟩, ⟨d5, d6, d7⟩, ⟨e6, e7⟩, f7, _⟩ := hn
  exact ⟨⟨wa, tt, ver, h1.upd hu a7⟩, h.rc.upd hu b7 c7, h.rm.upd hu d7 e7, ht, h.nd⟩
theorem Ar.cells (h : Ar w A tc bc tm bm tl bl cs ms ls) : w.cell? ⟨A, 1, none⟩ = some (.pointer (some ⟨tc, 0, none⟩)) ∧ w.cell? ⟨A, 2, none⟩ = some (.pointer (some ⟨tm, 0, none⟩)) ∧ w.cell? ⟨A, 3, none⟩ = some (.pointer (some ⟨tl, 0, none⟩)) := by
  obtain ⟨wa, tt, ver, h1⟩ := h.ar
  exact ⟨h1.cell 1, h1.cell 2, h1.cell 3⟩

set_option maxRecDepth 100000 in
theorem touch_walk (h : Ar w A tc bc tm bm tl bl cs ms ls) :
    Calls Tryz.prog 137 #[.pointer (some ⟨A, 0, none⟩)] w fun e w' => e = .returned (.tuple #[]) ∧ Upd A w w' ∧ Ar w' A tc bc tm bm tl bl cs ms ls := by
  obtain ⟨wa, tt, ver, h1⟩ := h.ar
  have c5 : w.cell? ⟨A, 5, none⟩ = some (.int .u64 ver) := h1.cell 5
  have f5 : w.frozen? ⟨A, 5, none⟩ = false := h1.frozen 5
  have H := hid h
  clear h h1
  go_enter Tryz.func137, Tryz.ntmps137
  go_wp2
  exact bodyPost_end (v := .tuple #[]) (by simp [results, Tryz.results137, go_sem]) rfl ⟨rfl, (Upd.refl A w).setCell rfl _, H.out.ver _⟩

def onB (v : Nat) : Bool := !(v == 0)
theorem granule_at (g : Nat) (hg : g < 16384) (w : World) : Calls Tryz.prog 139 #[.int .u64 (65536 + 2 * (g : Int))] w fun e w' => e = .returned (.tuple #[.int .i64 (g : Int), .int .u8 0]) ∧ w' = w := by
  have := granule_ok (65536 + 2 * (g : Int)) ⟨by omega, by omega⟩ (by omega) w
  rw [show (65536 + 2 * (g : Int) - 65536) / 2 = (g : Int) by omega] at this
  exact this
theorem granule_bad (x : Int) (h : wantO x ≠ 0) (w : World) : Calls Tryz.prog 139 #[.int .u64 x] w fun e w' => e = .returned (.tuple #[.int .i64 0, .int .u8 (wantO x)]) ∧ w' = w := by
  unfold wantO at *
  by_cases hi : InH x
  · rw [if_pos hi] at h ⊢
    by_cases he : x % 2 = 0
    · rw [if_pos he] at h; exact absurd rfl h
    · rw [if_neg he]; exact granule_odd x hi he w
  · rw [if_neg hi]; exact granule_out x hi w

set_option maxRecDepth 100000 in
theorem count_at (h : Ar w A tc bc tm bm tl bl cs ms ls) (g v : Nat) (hg : g < 16384) (hv : cs[g]? = some v) (hv3 : v ≤ 255) :
    Calls Tryz.prog 73 #[.pointer (some ⟨A, 0, none⟩), .int .u64 (65536 + 2 * (g : Int))] w fun e w' => e = .returned (.tuple #[.int .u8 (v : Int), .int .u8 0]) ∧ Drew w w' := by
  have HG := hid (fun w => granule_at g hg w)
  have HT := hid (tabR_get h.rc g hg (by omega) (by omega) (by omega) (by omega) (by omega) v hv)
  obtain ⟨c1, c2, c3⟩ := h.cells
  clear h hv
  go_enter Tryz.func73, Tryz.ntmps73
  go_wp2_with (go_at_call 139; refine (HG.out _).mono ?_; rintro e w1 ⟨rfl, rfl⟩)
  refine (HT.out).mono ?_
  rintro e w2 ⟨rfl, hd⟩
  go_wp2
  exact bodyPost_ret (v := .tuple #[.int .u8 (v : Int), .int .u8 0]) (by simp [results, Tryz.results73, go_sem]) rfl ⟨rfl, hd⟩

theorem word_at (g : Nat) (hg : g < 32768) (w : World) : Calls Tryz.prog 141 #[.int .u64 (65536 + (g : Int))] w fun e w' => e = .returned (.tuple #[.int .i64 (g : Int), .int .u8 0]) ∧ w' = w := by
  have := wordIndex_in (65536 + (g : Int)) ⟨by omega, by omega⟩ w
  rw [show 65536 + (g : Int) - 65536 = (g : Int) by omega] at this
  exact this
def wantW (x : Int) : Int := if InH x then 0 else 1
theorem word_bad (x : Int) (h : wantW x ≠ 0) (w : World) : Calls Tryz.prog 141 #[.int .u64 x] w fun e w' => e = .returned (.tuple #[.int .i64 0, .int .u8 (wantW x)]) ∧ w' = w := by
  unfold wantW at *
  by_cases hi : InH x
  · rw [if_pos hi] at h; exact absurd rfl h
  · rw [if_neg hi]; exact wordIndex_out x hi w
set_option maxRecDepth 100000 in
theorem bit_walk (on : Bool) (w : World) : Calls Tryz.prog 173 #[.bool on] w fun e w' => e = .returned (.int .u64 (((if on then 1 else 0 : Nat)) : Int)) ∧ w' = w := by
  cases on
  all_goals
    go_enter Tryz.func173, Tryz.ntmps173
    go_wp2
    go_ret
    exact ⟨rfl, rfl⟩
def smallV (x : Int) : Int := if 255 < x then 255 else x
set_option maxRecDepth 100000 in
theorem smallV_walk (x : Int) (h : U64 x) (w : World) : Calls Tryz.prog 75 #[.int .u64 x] w fun e w' => e = .returned (.int .u8 (smallV x)) ∧ w' = w := by
  obtain ⟨h0, h1⟩ := h
  unfold smallV
  by_cases d : 255 < x
  · have dd : decide (255 < x) = true := decide_eq_true d
    rw [if_pos d]
    go_enter Tryz.func75, Tryz.ntmps75
    go_wp2
    go_ret
    exact ⟨rfl, rfl⟩
  · have dd : decide (255 < x) = false := decide_eq_false d
    rw [if_neg d]
    go_enter Tryz.func75, Tryz.ntmps75
    go_wp2
    go_ret
    exact ⟨ret_i (by go_num), rfl⟩

set_option maxRecDepth 100000 in
theorem count_bad (x : Int) (h : wantO x ≠ 0) (w : World) (A : Nat) :
    Calls Tryz.prog 73 #[.pointer (some ⟨A, 0, none⟩), .int .u64 x] w fun e w' => e = .returned (.tuple #[.int .u8 0, .int .u8 (wantO x)]) ∧ w' = w := by
  have HG := hid (fun w => granule_bad x h w)
  have d : ((wantO x) != 0) = true := by simpa using h
  generalize wantO x = c at *
  clear h
  go_enter Tryz.func73, Tryz.ntmps73
  go_wp2_with (go_at_call 139; refine (HG.out _).mono ?_; rintro e w1 ⟨rfl, rfl⟩)
  exact bodyPost_ret (v := .tuple #[.int .u8 0, .int .u8 c]) (by simp [results, Tryz.results73, go_sem]) rfl ⟨rfl, rfl⟩

set_option maxRecDepth 100000 in
theorem marked_bad (x : Int) (h : wantO x ≠ 0) (w : World) (A : Nat) :
    Calls Tryz.prog 76 #[.pointer (some ⟨A, 0, none⟩), .int .u64 x] w fun e w' => e = .returned (.tuple #[.bool false, .int .u8 (wantO x)]) ∧ w' = w := by
  have HG := hid (fun w => granule_bad x h w)
  have d : ((wantO x) != 0) = true := by simpa using h
  generalize wantO x = c at *
  clear h
  go_enter Tryz.func76, Tryz.ntmps76
  go_wp2_with (go_at_call 139; refine (HG.out _).mono ?_; rintro e w1 ⟨rfl, rfl⟩)
  exact bodyPost_ret (v := .tuple #[.bool false, .int .u8 c]) (by simp [results, Tryz.results76, go_sem]) rfl ⟨rfl, rfl⟩

set_option maxRecDepth 100000 in
theorem logged_bad (x : Int) (h : wantW x ≠ 0) (w : World) (A : Nat) :
    Calls Tryz.prog 81 #[.pointer (some ⟨A, 0, none⟩), .int .u64 x] w fun e w' => e = .returned (.tuple #[.bool false, .int .u8 (wantW x)]) ∧ w' = w := by
  have HG := hid (fun w => word_bad x h w)
  have d : ((wantW x) != 0) = true := by simpa using h
  generalize wantW x = c at *
  clear h
  go_enter Tryz.func81, Tryz.ntmps81
  go_wp2_with (go_at_call 141; refine (HG.out _).mono ?_; rintro e w1 ⟨rfl, rfl⟩)
  exact bodyPost_ret (v := .tuple #[.bool false, .int .u8 c]) (by simp [results, Tryz.results81, go_sem]) rfl ⟨rfl, rfl⟩

set_option maxRecDepth 100000 in
theorem marked_at (h : Ar w A tc bc tm bm tl bl cs ms ls) (g v : Nat) (hg : g < 16384) (hv : ms[g]? = some v) :
    Calls Tryz.prog 76 #[.pointer (some ⟨A, 0, none⟩), .int .u64 (65536 + 2 * (g : Int))] w fun e w' => e = .returned (.tuple #[.bool (onB v), .int .u8 0]) ∧ Drew w w' := by
  have HG := hid (fun w => granule_at g hg w)
  have HT := hid (tabR_get h.rm g hg (by omega) (by omega) (by omega) (by omega) (by omega) v hv)
  obtain ⟨c1, c2, c3⟩ := h.cells
  have hb : (((v : Nat) : Int) != 0) = onB v := by
    unfold onB
    rw [Bool.eq_iff_iff]
    simp
  clear h hv
  go_enter Tryz.func76, Tryz.ntmps76
  go_wp2_with (go_at_call 139; refine (HG.out _).mono ?_; rintro e w1 ⟨rfl, rfl⟩)
  refine (HT.out).mono ?_
  rintro e w2 ⟨rfl, hd⟩
  go_wp2
  exact bodyPost_ret (v := .tuple #[.bool (onB v), .int .u8 0]) (by simp [results, Tryz.results76, go_sem]) rfl ⟨rfl, hd⟩

set_option maxRecDepth 100000 in
theorem logged_at (h : Ar w A tc bc tm bm tl bl cs ms ls) (g v : Nat) (hg : g < 32768) (hv : ls[g]? = some v) :
    Calls Tryz.prog 81 #[.pointer (some ⟨A, 0, none⟩), .int .u64 (65536 + (g : Int))] w fun e w' => e = .returned (.tuple #[.bool (onB v), .int .u8 0]) ∧ Drew w w' := by
  have HG := hid (fun w => word_at g hg w)
  have HT := hid (tabR_get h.rl g hg (by omega) (by omega) (by omega) (by omega) (by omega) v hv)
  obtain ⟨c1, c2, c3⟩ := h.cells
  have hb : (((v : Nat) : Int) != 0) = onB v := by
    unfold onB
    rw [Bool.eq_iff_iff]
    simp
  clear h hv
  go_enter Tryz.func81, Tryz.ntmps81
  go_wp2_with (go_at_call 141; refine (HG.out _).mono ?_; rintro e w1 ⟨rfl, rfl⟩)
  refine (HT.out).mono ?_
  rintro e w2 ⟨rfl, hd⟩
  go_wp2
  exact bodyPost_ret (v := .tuple #[.bool (onB v), .int .u8 0]) (by simp [results, Tryz.results81, go_sem]) rfl ⟨rfl, hd⟩

set_option maxRecDepth 100000 in
theorem setCount_bad (x : Int) (h : wantO x ≠ 0) (w : World) (A : Nat) (v : Int) :
    Calls Tryz.prog 74 #[.pointer (some ⟨A, 0, none⟩), .int .u64 x, .int .u8 v] w fun e w' => e = .returned (.int .u8 (wantO x)) ∧ w' = w := by
  have HG := hid (fun w => granule_bad x h w)
  have d : ((wantO x) != 0) = true := by simpa using h
  generalize wantO x = c at *
  clear h
  go_enter Tryz.func74, Tryz.ntmps74
  go_wp2_with (go_at_call 139; refine (HG.out _).mono ?_; rintro e w1 ⟨rfl, rfl⟩)
  go_ret
  exact ⟨rfl, rfl⟩

set_option maxRecDepth 100000 in
theorem setMarked_bad (x : Int) (h : wantO x ≠ 0) (w : World) (A : Nat) (v : Bool) :
    Calls Tryz.prog 77 #[.pointer (some ⟨A, 0, none⟩), .int .u64 x, .bool v] w fun e w' => e = .returned (.int .u8 (wantO x)) ∧ w' = w := by
  have HG := hid (fun w => granule_bad x h w)
  have d : ((wantO x) != 0) = true := by simpa using h
  generalize wantO x = c at *
  clear h
  go_enter Tryz.func77, Tryz.ntmps77
  go_wp2_with (go_at_call 139; refine (HG.out _).mono ?_; rintro e w1 ⟨rfl, rfl⟩)
  go_ret
  exact ⟨rfl, rfl⟩

set_option maxRecDepth 100000 in
theorem setLogged_bad (x : Int) (h : wantW x ≠ 0) (w : World) (A : Nat) (v : Bool) :
    Calls Tryz.prog 82 #[.pointer (some ⟨A, 0, none⟩), .int .u64 x, .bool v] w fun e w' => e = .returned (.int .u8 (wantW x)) ∧ w' = w := by
  have HG := hid (fun w => word_bad x h w)
  have d : ((wantW x) != 0) = true := by simpa using h
  generalize wantW x = c at *
  clear h
  go_enter Tryz.func82, Tryz.ntmps82
  go_wp2_with (go_at_call 141; refine (HG.out _).mono ?_; rintro e w1 ⟨rfl, rfl⟩)
  go_ret
  exact ⟨rfl, rfl⟩

set_option maxRecDepth 100000 in
set_option maxHeartbeats 1000000 in
theorem setMarked_at (h : Ar w A tc bc tm bm tl bl cs ms ls) (g : Nat) (hg : g < 16384) (on : Bool) :
    Calls Tryz.prog 77 #[.pointer (some ⟨A, 0, none⟩), .int .u64 (65536 + 2 * (g : Int)), .bool on] w fun e w' => e = .returned (.int .u8 0) ∧ ∃ wm, Upd A w wm ∧ Upd bm wm w' ∧ Ar w' A tc bc tm bm tl bl cs (ms.set g (if on then 1 else 0)) ls := by
  have HG := hid (fun w => granule_at g hg w)
  have HB := hid (fun w => bit_walk on w)
  have hv : (if on then 1 else 0) ≤ 2 ^ 1 - 1 := by cases on <;> decide
  have HS := hid (fun (w : World) (h : Ar w A tc bc tm bm tl bl cs ms ls) => tabR_set h.rm g (if on then 1 else 0) hv hg (by omega) (by omega) (by omega) (by omega) (by omega))
  have HH := hid h
  generalize (if on then 1 else 0) = v at *
  clear h hv
  go_enter Tryz.func77, Tryz.ntmps77
  go_wp2_with (go_at_call 139; refine (HG.out _).mono ?_; rintro e w1 ⟨rfl, rfl⟩)
  refine (touch_walk HH.out).mono ?_
  rintro e w2 ⟨rfl, hu2, ha2⟩
  have HU2 := hid hu2
  have HA2 := hid ha2
  clear hu2 ha2 HH
  have cc : w2.cell? ⟨A, 2, none⟩ = some (.pointer (some ⟨tm, 0, none⟩)) := HA2.out.cells.2.1
  go_upto_region 5 with fail
  go_region_with (first
    | (go_at_call 173; refine (HB.out _).mono ?_; rintro e wq ⟨rfl, rfl⟩)
    | (go_at_call 172; refine (HS.out _ (HA2.out.drew ⟨1, rfl⟩)).mono ?_; rintro e w3 ⟨rfl, hu3, ht3⟩))
  all_goals
    have HA3 := hid ((HA2.out.drew ⟨1, rfl⟩).setm hu3 ht3)
    have HUz : Hid (Upd A w1 w2.drew) := hid (HU2.out.drew ⟨1, rfl⟩)
    go_wp2
    go_ret
    exact ⟨rfl, _, HUz.out, hu3, HA3.out⟩

set_option maxRecDepth 100000 in
set_option maxHeartbeats 1000000 in
theorem setLogged_at (h : Ar w A tc bc tm bm tl bl cs ms ls) (g : Nat) (hg : g < 32768) (on : Bool) :
    Calls Tryz.prog 82 #[.pointer (some ⟨A, 0, none⟩), .int .u64 (65536 + (g : Int)), .bool on] w fun e w' => e = .returned (.int .u8 0) ∧ ∃ wm, Upd A w wm ∧ Upd bl wm w' ∧ Ar w' A tc bc tm bm tl bl cs ms (ls.set g (if on then 1 else 0)) := by
  have HG := hid (fun w => word_at g hg w)
  have HB := hid (fun w => bit_walk on w)
  have hv : (if on then 1 else 0) ≤ 2 ^ 1 - 1 := by cases on <;> decide
  have HS := hid (fun (w : World) (h : Ar w A tc bc tm bm tl bl cs ms ls) => tabR_set h.rl g (if on then 1 else 0) hv hg (by omega) (by omega) (by omega) (by omega) (by omega))
  have HH := hid h
  generalize (if on then 1 else 0) = v at *
  clear h hv
  go_enter Tryz.func82, Tryz.ntmps82
  go_wp2_with (go_at_call 141; refine (HG.out _).mono ?_; rintro e w1 ⟨rfl, rfl⟩)
  refine (touch_walk HH.out).mono ?_
  rintro e w2 ⟨rfl, hu2, ha2⟩
  have HU2 := hid hu2
  have HA2 := hid ha2
  clear hu2 ha2 HH
  have cc : w2.cell? ⟨A, 3, none⟩ = some (.pointer (some ⟨tl, 0, none⟩)) := HA2.out.cells.2.2
  go_upto_region 5 with fail
  go_region_with (first
    | (go_at_call 173; refine (HB.out _).mono ?_; rintro e wq ⟨rfl, rfl⟩)
    | (go_at_call 172; refine (HS.out _ (HA2.out.drew ⟨1, rfl⟩)).mono ?_; rintro e w3 ⟨rfl, hu3, ht3⟩))
  all_goals
    have HA3 := hid ((HA2.out.drew ⟨1, rfl⟩).setl hu3 ht3)
    have HUz : Hid (Upd A w1 w2.drew) := hid (HU2.out.drew ⟨1, rfl⟩)
    go_wp2
    go_ret
    exact ⟨rfl, _, HUz.out, hu3, HA3.out⟩

set_option maxRecDepth 100000 in
theorem setCount_at (h : Ar w A tc bc tm bm tl bl cs ms ls) (g v : Nat) (hg : g < 16384) (hv : v ≤ 3) :
    Calls Tryz.prog 74 #[.pointer (some ⟨A, 0, none⟩), .int .u64 (65536 + 2 * (g : Int)), .int .u8 (v : Int)] w fun e w' => e = .returned (.int .u8 0) ∧ ∃ wm, Upd A w wm ∧ Upd bc wm w' ∧ Ar w' A tc bc tm bm tl bl (cs.set g v) ms ls := by
  have HG := hid (fun w => granule_at g hg w)
  have HS := hid (fun (w : World) (h : Ar w A tc bc tm bm tl bl cs ms ls) => tabR_set h.rc g v hv hg (by omega) (by omega) (by omega) (by omega) (by omega))
  have HH := hid h
  have dv : decide (3 < (v : Int)) = false := decide_eq_false (by omega)
  clear h
  go_enter Tryz.func74, Tryz.ntmps74
  go_wp2_with (go_at_call 139; refine (HG.out _).mono ?_; rintro e w1 ⟨rfl, rfl⟩)
  refine (touch_walk HH.out).mono ?_
  rintro e w2 ⟨rfl, hu2, ha2⟩
  have HU2 := hid hu2
  have HA2 := hid ha2
  have c1 := ha2.cells.1
  clear hu2 ha2 HH
  go_wp2_with fail
  refine (HS.out _ HA2.out).mono ?_
  rintro e w3 ⟨rfl, hu3, ht3⟩
  have HA3 := hid (HA2.out.setc hu3 ht3)
  clear c1
  go_wp2
  go_ret
  exact ⟨rfl, _, HU2.out, hu3, HA3.out⟩
set_option maxRecDepth 100000 in
theorem setCount_big (g : Nat) (v : Int) (hg : g < 16384) (hv : 3 < v) (w : World) (A : Nat) :
    Calls Tryz.prog 74 #[.pointer (some ⟨A, 0, none⟩), .int .u64 (65536 + 2 * (g : Int)), .int .u8 v] w fun e w' => e = .returned (.int .u8 3) ∧ w' = w := by
  have HG := hid (fun w => granule_at g hg w)
  have dv : decide (3 < v) = true := decide_eq_true hv
  go_enter Tryz.func74, Tryz.ntmps74
  go_wp2_with (go_at_call 139; refine (HG.out _).mono ?_; rintro e w1 ⟨rfl, rfl⟩)
  go_ret
  exact ⟨rfl, rfl⟩
end
end Go.Proofs.Qxb6500887aGreat
