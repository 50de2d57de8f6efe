/- HolesAreTheFreeLines: free, holesOf. -/
import Derived.Test.Qxb6500887aGreatAzHa
import Derived.Test.Qxb6500887aGreatAzLa
import Derived.Deep.DeepCutAuto
namespace Go.Proofs.Qxb6500887aGreat
open Go.RowKit
set_option linter.unusedSimpArgs false
set_option linter.unusedVariables false
/-- The next hole, or none. -/
structure NxH (P : Nat → Bool) (lo : Nat) (f : Nat → Nat) (row s m : Nat) : Prop where
  le : row ≤ s
  top : s + m ≤ 32
  z : m = 0 → s = 32 ∧ HlI P lo f 32
  n : 1 ≤ m → HlI P lo (fup f s m) (s + m)
  no : ∀ i, row ≤ i → i < s → P (lo + i) = false
  yes : ∀ i, s ≤ i → i < s + m → P (lo + i) = true
  nx : s + m < 32 → P (lo + s + m) = false
theorem HlI.next {P : Nat → Bool} {lo : Nat} {f : Nat → Nat} {row : Nat} {r n : Int} (h : HlI P lo f row) (hh : HoP (Zr P (lo + row) (lo + 32)) lo r n) : ∃ s m : Nat, r = (s : Int) ∧ n = (m : Int) ∧ NxH P lo f row s m := by
  obtain ⟨s, k, hz, hc⟩ := hh
  have hle := h.le
  rcases hc with ⟨rfl, rfl, rfl⟩ | ⟨c1, rfl, rfl⟩
  · refine ⟨32, 0, rfl, rfl, ⟨hle, by omega, fun _ => ⟨rfl, h.done hz⟩, fun h => by omega, ?_, fun i h1 h2 => by omega, fun h => by omega⟩⟩
    rcases hz with ⟨_, _, g⟩ | ⟨k2, m2, e1, _⟩
    · exact fun i h1 h2 => g (lo + i) (by omega) (by omega)
    · omega
  · have hz2 := hz
    rcases hz2 with ⟨e, _⟩ | ⟨k2, m2, rfl, rfl, g1, g2, g3, g4, g5, g6⟩
    · omega
    obtain ⟨s, rfl⟩ : ∃ s, k2 = lo + s := ⟨k2 - lo, by omega⟩
    obtain ⟨h1, h2, h3⟩ := h.step hz (by omega)
    refine ⟨s, m2, by omega, rfl, ⟨by omega, h2, fun h => by omega, fun _ => h3, fun i c1 c2 => g4 _ (by omega) (by omega), fun i c1 c2 => g5 _ (by omega) (by omega), fun c => g6 (by omega)⟩⟩
def lnC (f : Nat → Nat) : List Value := fnC 32 (fun r => .int .i64 ((f r : Nat) : Int))
theorem lnC_len (f : Nat → Nat) : (lnC f).length = 32 := fnC_len _ _
theorem lnC_one (f : Nat → Nat) : ∀ u ∈ lnC f, u.oneCell' = true := by
  intro u hu
  obtain ⟨r, _, rfl⟩ := List.mem_map.1 hu
  rfl
theorem info_ln : (Tryz.prog.info? 89).map (·.size) = some 32 := by kernel_rfl
theorem agg_ln (f : Nat → Nat) : AggOf Tryz.prog 89 (lnC f).length := by rw [lnC_len]; exact AggOf.array Tryz.underlying89 (by kernel_rfl)
/-- Inside holesOf: the arena, the lengths. -/
structure HX (w0 : World) (l : AL) (S : AS) (g : Nat) (f : Nat → Nat) (w : World) : Prop where
  am : AM l S w
  bel : Below w0.heap.size w0 w
  bk : Blk w g 89 (lnC f)
  lo : w0.heap.size ≤ g
section
variable {l : AL} {S : AS} {w w' w0 : World} {g : Nat} {f : Nat → Nat}
theorem HX.below (h : HX w0 l S g f w) (hb : Below w.heap.size w w') : HX w0 l S g f w' := ⟨h.am.below hb, h.bel.trans (hb.mono h.bel.size), h.bk.below hb, h.lo⟩
theorem HX.upd {f' : Nat → Nat} (h : HX w0 l S g f w) (hu : Upd g w w') (hb : Blk w' g 89 (lnC f')) : HX w0 l S g f' w' := by
  refine ⟨?_, h.bel.trans (hu.below h.lo h.bel.size), hb, h.lo⟩
  refine h.am.upd hu (fun k hk e => ?_)
  subst e
  exact h.am.neT h.bk (by decide) (by decide) (by decide) hk
theorem HX.put {s m : Nat} (h : HX w0 l S g f w) (hs : s < 32) : HX w0 l S g (fup f s m) (w.setCell ⟨g, s, none⟩ (.int .i64 (m : Int))) := by
  refine h.upd ((Upd.refl g w).setCell rfl _) ?_
  have := h.bk.set s (.int .i64 (m : Int))
  unfold lnC at this ⊢
  rw [fnC_set _ hs, fup_map (fun y : Nat => Value.int .i64 (y : Int)) f s m] at this
  exact this
theorem freeZ (h : AM l S w) {i : Nat} (hi : i < 2048) : Calls Tryz.prog 158 #[.pointer (some ⟨l.a, 0, none⟩), .int .i64 (i : Int)] w fun e w' => e = .returned (.bool (zrP 4 16 S.T i)) ∧ Below w.heap.size w w' := by
  have HC := hid (tallyZ h (i : Int))
  rw [if_pos (by omega), if_pos (by omega), show (i : Int).toNat = i by omega] at HC
  have e0 : ((((eN 4 16 S.T i : Nat) : Int)) == 0) = zrP 4 16 S.T i := by
    unfold zrP
    generalize eN 4 16 S.T i = y
    cases y with
    | zero => rfl
    | succ m => simp; omega
  generalize ((eN 4 16 S.T i : Nat) : Int) = y at HC e0
  go_enter Tryz.func158, Tryz.ntmps158
  go_wp2_with fail
  refine HC.out.mono ?_
  rintro e w1 ⟨rfl, hd⟩
  clear HC
  go_wp2
  go_ret
  exact ⟨by first | rfl | (rw [← e0]; rfl) | simp [← e0], hd.below _⟩
set_option maxRecDepth 100000 in
set_option maxHeartbeats 4000000 in
theorem holesOfZ (h : AM l S w) {b : Nat} (hb : b < 64) : Calls Tryz.prog 49 #[.pointer (some ⟨l.a, 0, none⟩), .int .i64 (b : Int)] w fun e w' => ∃ f : Nat → Nat, e = .returned (.tuple #[.agg (lnC f).toArray, .bool true]) ∧ Hid (HlI (zrP 4 16 S.T) (32 * b) f 32 ∧ Below w.heap.size w w') := by
  obtain ⟨P, hP⟩ : ∃ P, zrP 4 16 S.T = P := ⟨_, rfl⟩
  obtain ⟨lo, hlo⟩ : ∃ lo, 32 * b = lo := ⟨_, rfl⟩
  have hlo2 : lo + 32 ≤ 2048 := by omega
  obtain ⟨g, hg⟩ : ∃ g, w.heap.size = g := ⟨_, rfl⟩
  have I0 := hid info_ln
  have HF := hid (fun wz (hz : AM l S wz) (i : Nat) (hi : i < 2048) => freeZ hz hi)
  have HN := hid (fun wz (hz : AM l S wz) (row : Nat) (hr : row ≤ 32) => show Calls Tryz.prog 157 #[.pointer (some ⟨l.a, 0, none⟩), .int .i64 (b : Int), .int .i64 (row : Int)] wz (fun e w' => ∃ r n : Int, e = .returned (.tuple #[.int .i64 r, .int .i64 n, .int .u8 0]) ∧ Hid (HoP (Zr P (lo + row) (lo + 32)) lo r n ∧ Below wz.heap.size wz w')) from (nextHoleZ hz (b : Int) (row : Int)).mono (by
    rintro e w' ⟨r, n, c, rfl, H⟩
    obtain ⟨h1, h2⟩ := H.out
    rcases h1 with ⟨h1, _⟩ | ⟨_, rfl, h1⟩
    · exact absurd ⟨⟨by omega, by omega⟩, by omega, by omega⟩ h1
    · refine ⟨r, n, rfl, hid ⟨?_, h2⟩⟩
      rw [hP, show (b : Int).toNat = b by omega, show (row : Int).toNat = row by omega, hlo] at h1
      exact h1))
  rw [hP] at HF ⊢
  rw [hlo]
  have H0 : Hid (HX w l S g (fun _ => 0) (w.alloc (.cells (lnC (fun _ => 0)).toArray 89))) := hid (by
    have kk := Blk.new w (lnC (fun _ => 0)) 89
    rw [hg] at kk
    exact ⟨h.below (nbel _ _), nbel _ _, kk, by omega⟩)
  rw [show (lnC (fun _ => 0)).toArray = #[.int .i64 0, .int .i64 0, .int .i64 0, .int .i64 0, .int .i64 0, .int .i64 0, .int .i64 0, .int .i64 0, .int .i64 0, .int .i64 0, .int .i64 0, .int .i64 0, .int .i64 0, .int .i64 0, .int .i64 0, .int .i64 0, .int .i64 0, .int .i64 0, .int .i64 0, .int .i64 0, .int .i64 0, .int .i64 0, .int .i64 0, .int .i64 0, .int .i64 0, .int .i64 0, .int .i64 0, .int .i64 0, .int .i64 0, .int .i64 0, .int .i64 0, .int .i64 0] from rfl] at H0
  clear h hP
  go_enter Tryz.func49, Tryz.ntmps49
  go_upto_region 1 with fail
  (try simp only [hg])
  generalize hwa : World.alloc w _ = wa at H0 ⊢
  clear hwa hg
  have e0 : (b : Int) * 32 = (lo : Int) := by omega
  go_wp2_with fail
  go_loopw [7] (fun u wr => ∃ (row : Nat), u = .int .i64 (row : Int) ∧ row ≤ 32 ∧ Hid (∃ f, HX w l S g f wr ∧ HlI P lo f row)) (fun u _ => 33 - (intOf u).toNat)
  case atStart => exact ⟨0, rfl, by omega, hid ⟨_, H0.out, HlI.start P lo⟩⟩
  case round =>
  clear H0
  obtain ⟨wq, hwq⟩ : ∃ x, x = wr := ⟨_, rfl⟩
  subst hwq
  obtain ⟨row, rfl, hrow, HR⟩ := hrel
  obtain ⟨f, hx, hl⟩ := HR.out
  have H1 := hid hx
  have HL := hid hl
  clear HR hx hl
  go_wp2_with fail
  refine (HN.out _ H1.out.am row hrow).mono ?_
  rintro e w1 ⟨r, n, rfl, HB⟩
  have H2 := hid (H1.out.below HB.out.2)
  obtain ⟨s, m, rfl, rfl, hnx⟩ := HL.out.next HB.out.1
  have HX' := hid hnx
  have s1 := hnx.le
  have s2 := hnx.top
  clear hnx HB H1 HL
  obtain ⟨t, ht⟩ : ∃ t, s + m = t := ⟨_, rfl⟩
  have et : (s : Int) + (m : Int) = (t : Int) := by omega
  have d0 : decide ((s : Int) < (row : Int)) = false := decide_eq_false (by omega)
  have d0n : decide (s < row) = false := decide_eq_false (by omega)
  have d1n : decide (32 < t) = false := decide_eq_false (by omega)
  have d1 : decide ((t : Int) > 32) = false := decide_eq_false (by omega)
  have d1' : decide ((32 : Int) < (t : Int)) = false := decide_eq_false (by omega)
  obtain ⟨zb, hzb⟩ : ∃ zb, ((m : Int) == 0) = zb := ⟨_, rfl⟩
  have hz : Hid (zb = true → m = 0) := hid (fun e => by rw [← hzb] at e; simpa using e)
  have hz' : Hid (zb = false → 1 ≤ m) := hid (fun e => by
    rw [← hzb] at e
    have : ¬ (m : Int) = 0 := by simpa using e
    omega)
  go_upto_region 6 with fail
  go_cut [42] from 37 to 42 (fun v wd => v = .bool false ∧ wd = w1)
  case first =>
    cases zb with
    | true =>
      have hs32 := (HX'.out.z (hz.out rfl)).1
      have d3 : ((s : Int) != 32) = false := by simp; omega
      have d4 : ((s : Int) == 32) = true := by simp; omega
      clear hs32
      go_wp2
      go_meet
      case rel => exact ⟨rfl, rfl⟩
    | false =>
      go_wp2
      go_meet
      case rel => exact ⟨rfl, rfl⟩
  case rest =>
  obtain ⟨rfl, hwd⟩ := hcut
  have hwd' := hwd.symm
  clear hwd
  subst hwd'
  go_wp2_with fail
  go_loopw [11] (fun u wr => ∃ (i : Nat), u = .int .i64 (i : Int) ∧ row ≤ i ∧ i ≤ s ∧ Hid (HX w l S g f wr)) (fun u _ => s - (intOf u).toNat)
  case atStart => exact ⟨row, rfl, Nat.le_refl _, s1, H2⟩
  case round =>
  clear H2
  obtain ⟨w2, hw2⟩ : ∃ x, x = wr := ⟨_, rfl⟩
  subst hw2
  obtain ⟨i, rfl, hi1, hi2, H3⟩ := hrel
  by_cases his : i < s
  · have dis : decide ((i : Int) < (s : Int)) = true := decide_eq_true (by omega)
    obtain ⟨x, hx⟩ : ∃ x, lo + i = x := ⟨_, rfl⟩
    have ex : (lo : Int) + (i : Int) = (x : Int) := by omega
    have hP : P x = false := by rw [← hx]; exact HX'.out.no i hi1 his
    have HC := hid (HF.out _ H3.out.am x (by omega))
    rw [hP] at HC
    clear hP hx
    go_wp2_with fail
    refine HC.out.mono ?_
    rintro e w3 ⟨rfl, hb3⟩
    have H4 := hid (H3.out.below hb3)
    clear hb3 HC H3
    go_wp2
    exact ⟨⟨i + 1, by go_num, by omega, by omega, H4⟩, by simp [intOf]; omega⟩
  have dis : decide ((i : Int) < (s : Int)) = false := decide_eq_false (by omega)
  go_wp2_with fail
  go_loopw [12] (fun u wr => ∃ (i : Nat), u = .int .i64 (i : Int) ∧ s ≤ i ∧ i ≤ t ∧ Hid (HX w l S g f wr)) (fun u _ => t - (intOf u).toNat)
  case atStart => exact ⟨s, rfl, Nat.le_refl _, by omega, H3⟩
  case round =>
  clear H3
  obtain ⟨w3, hw3⟩ : ∃ x, x = wr := ⟨_, rfl⟩
  subst hw3
  obtain ⟨j, rfl, hj1, hj2, H4⟩ := hrel
  by_cases hjt : j < t
  · have djt : decide ((j : Int) < (t : Int)) = true := decide_eq_true (by omega)
    obtain ⟨x, hx⟩ : ∃ x, lo + j = x := ⟨_, rfl⟩
    have ex : (lo : Int) + (j : Int) = (x : Int) := by omega
    have hP : P x = true := by rw [← hx]; exact HX'.out.yes j hj1 (by omega)
    have HC := hid (HF.out _ H4.out.am x (by omega))
    rw [hP] at HC
    clear hP hx
    go_wp2_with fail
    refine HC.out.mono ?_
    rintro e w5 ⟨rfl, hb5⟩
    have H5 := hid (H4.out.below hb5)
    clear hb5 HC H4
    go_wp2
    exact ⟨⟨j + 1, by go_num, by omega, by omega, H5⟩, by simp [intOf]; omega⟩
  have djt : decide ((j : Int) < (t : Int)) = false := decide_eq_false (by omega)
  cases zb with
  | true =>
    as_aux_lemma =>
    have HE : Hid (HlI P lo f 32 ∧ Below w.heap.size w w3) := hid ⟨(HX'.out.z (hz.out rfl)).2, H4.out.bel⟩
    go_wp2_with (first | (refine wpList_load_blk rfl 89 _ rfl g rfl (lnC f) H4.out.bk _ Tryz.underlying89 rfl (by rw [lnC_len]; exact I0.out) ?_) | (refine wpList_store_blk rfl 89 _ _ rfl g rfl (lnC f) rfl H4.out.bk rfl (by rw [lnC_len]; exact I0.out) (lnC_one f) ?_; intro w9 HB9 HU9))
    refine bodyPost_ret (results_cell_tmp (cs := lnC f) Tryz.results49 rfl (agg_ln f) HB9.out) rfl ?_
    exact ⟨f, rfl, hid ⟨HE.out.1, HE.out.2.trans (HU9.out.below H4.out.lo HE.out.2.size)⟩⟩
  | false =>
  have hm1 := hz'.out rfl
  go_upto_region 20 with fail
  go_cut [86] from 74 to 86 (fun v wd => v = .bool false ∧ Hid (HX w l S g f wd))
  case first =>
    by_cases ht32 : t < 32
    · have dt : decide ((t : Int) < 32) = true := decide_eq_true (by omega)
      have dtn : decide (t < 32) = true := decide_eq_true ht32
      obtain ⟨y, hy⟩ : ∃ y, lo + s = y := ⟨_, rfl⟩
      obtain ⟨x, hx⟩ : ∃ x, y + m = x := ⟨_, rfl⟩
      have ey : (lo : Int) + (s : Int) = (y : Int) := by omega
      have ex : (y : Int) + (m : Int) = (x : Int) := by omega
      have hP : P x = false := by rw [← hx, ← hy]; exact HX'.out.nx (by omega)
      have HC := hid (HF.out _ H4.out.am x (by omega))
      rw [hP] at HC
      clear hP
      go_wp2_with fail
      refine HC.out.mono ?_
      rintro e w5 ⟨rfl, hb5⟩
      have H5 := hid (H4.out.below hb5)
      clear hb5 HC H4
      go_wp2
      go_meet
      case rel => exact ⟨rfl, H5⟩
    · have dt : decide ((t : Int) < 32) = false := decide_eq_false (by omega)
      have dtn : decide (t < 32) = false := decide_eq_false ht32
      go_wp2
      go_meet
      case rel => exact ⟨rfl, H4⟩
  case rest =>
  obtain ⟨rfl, H5⟩ := hcut
  have hs32 : s < 32 := by omega
  have is32 : (s : Int) < 32 := by omega
  have HFn : Hid (∃ f, HX w l S g f (wc.setCell ⟨g, s, none⟩ (.int .i64 (m : Int))) ∧ HlI P lo f t) := hid ⟨fup f s m, H5.out.put hs32, by rw [← ht]; exact HX'.out.n hm1⟩
  have hfz := H5.out.bk.frozen s
  have hcl : wc.cell? ⟨g, s, none⟩ = some (.int .i64 ((f s : Nat) : Int)) := by rw [H5.out.bk.cell s]; exact fnC_get _ hs32
  clear H4 H5 HX' HF HN
  go_wp2
  exact ⟨⟨t, by go_num, by omega, HFn⟩, by simp [intOf]; omega⟩
end
end Go.Proofs.Qxb6500887aGreat
