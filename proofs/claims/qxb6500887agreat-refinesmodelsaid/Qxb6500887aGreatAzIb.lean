/- Images: tables, ImageWords, Sound, checksum, AppendImage. -/
import Derived.Test.Qxb6500887aGreatAzIa
import Derived.Deep.DeepCutAuto
import Derived.Great.BuildSlice
namespace Go.Proofs.Qxb6500887aGreat
open Go.RowKit
set_option linter.unusedSimpArgs false
set_option linter.unusedVariables false
/-- The checksum of the first n words. -/
def ckN (X : Nat → Nat) : Nat → Nat
  | 0 => 11160318154034397263
  | n + 1 => ((ckN X n ^^^ X n) * 1099511628211) % 18446744073709551616
theorem ckN_lt (X : Nat → Nat) (n : Nat) : ckN X n < 18446744073709551616 := by
  cases n with
  | zero => exact (by decide : (11160318154034397263 : Nat) < 18446744073709551616)
  | succ n => exact Nat.mod_lt _ (by decide)
section
variable {w w' w0 : World} {t b n wd per len g off cap : Nat} {X Y : Nat → Nat} {l : AL} {S : AS}
theorem info_pt4 : (Tryz.prog.info? 158).map (·.size) = some 4 := by kernel_rfl
theorem agg_pt4 : AggOf Tryz.prog 158 4 := AggOf.array Tryz.underlying158 (by kernel_rfl)
def ptL (l : AL) : List Value := [.pointer (some ⟨l.tc, 0, none⟩), .pointer (some ⟨l.tm, 0, none⟩), .pointer (some ⟨l.tl, 0, none⟩), .pointer (some ⟨l.tt, 0, none⟩)]
theorem ptL_one (l : AL) : ∀ u ∈ ptL l, u.oneCell' = true := by
  intro u hu
  simp only [ptL, List.mem_cons, List.not_mem_nil, or_false] at hu
  rcases hu with rfl | rfl | rfl | rfl <;> rfl
theorem idx_pt (l : AL) (j : Nat) (hj : j < 4) (w : World) : (Instr.index 158 (.agg (ptL l).toArray) (.int .i64 (j : Int))).run Tryz.prog w = .ok (.pointer (some ⟨l.tT j, 0, none⟩)) w := by
  have hc : (ptL l).toArray[j]? = some (.pointer (some ⟨l.tT j, 0, none⟩)) := by
    rw [List.getElem?_toArray]
    match j, hj with
    | 0, _ => rfl
    | 1, _ => rfl
    | 2, _ => rfl
    | 3, _ => rfl
  have h2 : (j : Int) < 4 := by omega
  generalize (ptL l).toArray = cs at hc
  simp [Instr.index, asIntOf, go_sem, part, hj, h2, hc]
set_option maxRecDepth 100000 in
theorem tablesZ (h : AM l S w) : Calls Tryz.prog 132 #[.pointer (some ⟨l.a, 0, none⟩)] w fun e w' => e = .returned (.agg (ptL l).toArray) ∧ Below w.heap.size w w' := by
  obtain ⟨p, hp⟩ : ∃ p, w.heap.size = p := ⟨_, rfl⟩
  have I0 := hid info_pt4
  have H0 : Hid (AM l S (w.alloc (.cells #[.pointer none, .pointer none, .pointer none, .pointer none] 158)) ∧ Blk (w.alloc (.cells #[.pointer none, .pointer none, .pointer none, .pointer none] 158)) p 158 [.pointer none, .pointer none, .pointer none, .pointer none] ∧ Below w.heap.size w (w.alloc (.cells #[.pointer none, .pointer none, .pointer none, .pointer none] 158))) := hid (by
    have kk := Blk.new w [.pointer none, .pointer none, .pointer none, .pointer none] 158
    rw [hp] at kk
    exact ⟨h.below (nbel _ _), kk, nbel _ _⟩)
  clear h
  go_enter Tryz.func132, Tryz.ntmps132
  go_upto_region 1 with fail
  (try simp only [hp])
  generalize hwa : World.alloc w _ = wa at H0 ⊢
  clear hwa
  obtain ⟨X', W, HTT, HH0, hne, HCl⟩ := class_below wa
  have HY := hid (fun y => H0.out.1.below (HTT.out y))
  have a1 : ∀ y, (W y).cell? ⟨l.a, 1, none⟩ = some (.pointer (some ⟨l.tc, 0, none⟩)) := fun y => (HY.out y).cells.2.1
  have a2 : ∀ y, (W y).cell? ⟨l.a, 2, none⟩ = some (.pointer (some ⟨l.tm, 0, none⟩)) := fun y => (HY.out y).cells.2.2.1
  have a3 : ∀ y, (W y).cell? ⟨l.a, 3, none⟩ = some (.pointer (some ⟨l.tl, 0, none⟩)) := fun y => (HY.out y).cells.2.2.2.1
  have a4 : ∀ y, (W y).cell? ⟨l.a, 4, none⟩ = some (.pointer (some ⟨l.tt, 0, none⟩)) := fun y => (HY.out y).cells.2.2.2.2.1
  refine wp_region_class_lastT W rfl (by kernel_rfl) (by kernel_rfl) (by kernel_rfl) HH0.out ?_
  dsimp only [List.dropLast, List.getLast]
  repeat (go_big_quiet_step (fail))
  refine wpQuiet_nil ?_
  intro z
  have HZ : Hid (Blk (W z) p 158 [.pointer none, .pointer none, .pointer none, .pointer none] ∧ Below w.heap.size w (W z)) := hid ⟨H0.out.2.1.below (HTT.out z), H0.out.2.2.trans ((HTT.out z).mono H0.out.2.2.size)⟩
  generalize W z = wz at HZ ⊢
  clear a1 a2 a3 a4 HH0 HTT HCl hne HY H0
  refine wpList_store_blk rfl 158 _ _ rfl p rfl (ptL l) rfl HZ.out.1 rfl I0.out (ptL_one l) ?_
  intro w9 HB9 HU9
  go_wp2
  refine bodyPost_ret (results_blk (cs := ptL l) Tryz.results132 rfl agg_pt4 HB9.out) rfl ?_
  exact ⟨rfl, HZ.out.2.trans (HU9.out.below (by omega) HZ.out.2.size)⟩
/-- Where a table's words begin behind the heap words. -/
def tO : Nat → Nat | 0 => 0 | 1 => 512 | 2 => 768 | 3 => 1280 | _ => 1408
theorem tO_step {j : Nat} (hj : j < 4) : tO j + tLn j = tO (j + 1) := by
  match j, hj with | 0, _ => rfl | 1, _ => rfl | 2, _ => rfl | 3, _ => rfl
theorem tO_le {j : Nat} (hj : j ≤ 4) : tO j ≤ 1408 := by
  match j, hj with | 0, _ => decide | 1, _ => decide | 2, _ => decide | 3, _ => decide | 4, _ => decide
theorem tLn_b {j : Nat} (hj : j < 4) : 1 ≤ tLn j ∧ tLn j ≤ 512 := by
  match j, hj with | 0, _ => decide | 1, _ => decide | 2, _ => decide | 3, _ => decide
set_option maxRecDepth 100000 in
set_option maxHeartbeats 1000000 in
theorem imageWordsZ (h : AM l S w) : Calls Tryz.prog 20 #[.pointer (some ⟨l.a, 0, none⟩)] w fun e w' => e = .returned (.int .i64 34180) ∧ Below w.heap.size w w' := by
  have H0 := hid h
  obtain ⟨a0, _, _, _, _, _⟩ := h.cells
  clear h
  have HC := hid (tablesZ H0.out)
  go_enter Tryz.func20, Tryz.ntmps20
  go_wp2_with fail
  refine HC.out.mono ?_
  rintro e w1 ⟨rfl, hb1⟩
  have H1 : Hid (AM l S w1 ∧ Below w.heap.size w w1) := hid ⟨H0.out.below hb1, hb1⟩
  clear HC hb1 H0 a0
  have Hix := hid (fun j hj wz => idx_pt l j hj wz)
  generalize (ptL l).toArray = ar at Hix ⊢
  go_wp2_with fail
  go_loopw [3, 15] (fun v u wr => ∃ (j m : Nat), v = .int .i64 (m : Int) ∧ u = .int .i64 (j : Int) ∧ j ≤ 4 ∧ m ≤ 40000 ∧ Hid (m = 32772 + tO j) ∧ wr = w1) (fun _ u _ => 4 - (intOf u).toNat)
  case atStart => exact ⟨0, 32772, rfl, rfl, by omega, by omega, hid rfl, rfl⟩
  case round =>
  obtain ⟨j, m, rfl, rfl, hj, hm, HM, hw_⟩ := hrel
  have hs_ := hw_.symm
  clear hw_
  subst hs_
  by_cases hlt : j < 4
  · have dj : decide ((j : Int) < 4) = true := decide_eq_true (by omega)
    have djn : decide (j < 4) = true := decide_eq_true hlt
    have hix := Hix.out j hlt
    have HC := hid (tabImageWordsZ (H1.out.1.tbj hlt))
    obtain ⟨ln, hln⟩ : ∃ x, tLn j = x := ⟨_, rfl⟩
    have hlb := tLn_b hlt
    have hst := tO_step hlt
    have hto := tO_le (show j + 1 ≤ 4 by omega)
    rw [hln] at HC hlb hst
    have hm2 : m + ln ≤ 40000 := by have := HM.out; omega
    have HF : Hid (m + ln = 32772 + tO (j + 1)) := hid (by have := HM.out; omega)
    clear HM hst hto hln
    go_wp2_with fail
    refine HC.out.mono ?_
    rintro e_ w_ ⟨rfl, hw_⟩
    have hs_ := hw_.symm
    clear hw_ HC
    subst hs_
    go_wp2
    exact ⟨⟨j + 1, m + ln, by go_num, by go_num, by omega, by omega, HF, trivial⟩, by simp [intOf]; omega⟩
  · have dj : decide ((j : Int) < 4) = false := decide_eq_false (by omega)
    have djn : decide (j < 4) = false := decide_eq_false hlt
    have hje : j = 4 := by omega
    have hmm : m = 34180 := by rw [HM.out, hje]; rfl
    have HF := hid H1.out.2
    clear HM H1
    go_wp2
    go_ret
    exact ⟨by rw [hmm]; rfl, HF.out⟩
set_option maxRecDepth 100000 in
set_option maxHeartbeats 1000000 in
theorem soundZ (h : AM l S w) : Calls Tryz.prog 15 #[.pointer (some ⟨l.a, 0, none⟩)] w fun e w' => e = .returned (.bool true) ∧ Below w.heap.size w w' := by
  have H0 : Hid (AM l S w ∧ Below w.heap.size w w) := hid ⟨h, Below.refl _ _⟩
  obtain ⟨a0, a1, a2, a3, a4, _⟩ := h.cells
  have HC := hid (h.tc.sound (by decide))
  clear h
  go_enter Tryz.func15, Tryz.ntmps15
  go_wp2_with fail
  refine HC.out.mono ?_
  rintro e w1 ⟨rfl, hb1⟩
  have H1 : Hid (AM l S w1 ∧ Below w.heap.size w w1) := hid ⟨H0.out.1.below hb1, hb1⟩
  clear HC hb1 H0 a0 a1 a2 a3 a4
  obtain ⟨a0, a1, a2, a3, a4, _⟩ := H1.out.1.cells
  have HC := hid (H1.out.1.tm.sound (by decide))
  go_wp2_with fail
  refine HC.out.mono ?_
  rintro e w2 ⟨rfl, hb1⟩
  have H2 : Hid (AM l S w2 ∧ Below w.heap.size w w2) := hid ⟨H1.out.1.below hb1, H1.out.2.trans (hb1.mono H1.out.2.size)⟩
  clear HC hb1 H1 a0 a1 a2 a3 a4
  obtain ⟨a0, a1, a2, a3, a4, _⟩ := H2.out.1.cells
  have HC := hid (H2.out.1.tl.sound (by decide))
  go_wp2_with fail
  refine HC.out.mono ?_
  rintro e w3 ⟨rfl, hb1⟩
  have H3 : Hid (AM l S w3 ∧ Below w.heap.size w w3) := hid ⟨H2.out.1.below hb1, H2.out.2.trans (hb1.mono H2.out.2.size)⟩
  clear HC hb1 H2 a0 a1 a2 a3 a4
  obtain ⟨a0, a1, a2, a3, a4, _⟩ := H3.out.1.cells
  have HC := hid (H3.out.1.tt.sound (by decide))
  go_wp2_with fail
  refine HC.out.mono ?_
  rintro e w4 ⟨rfl, hb1⟩
  have H4 := hid (H3.out.2.trans (hb1.mono H3.out.2.size))
  clear HC hb1 H3 a0 a1 a2 a3 a4
  go_wp2
  go_ret
  exact ⟨rfl, H4.out⟩
theorem ck_step (h x : Nat) (hh : h < 18446744073709551616) (hx : x < 18446744073709551616) : IntKind.u64.wrap (bits .xor .u64 (h : Int) (x : Int) * 1099511628211) = ((((h ^^^ x) * 1099511628211) % 18446744073709551616 : Nat) : Int) := by
  rw [u64_xor_nat h x hh hx, IntKind.wrap_u64]
  omega
set_option maxRecDepth 100000 in
set_option maxHeartbeats 1000000 in
theorem checksumZ (hn : n ≤ 1000000) (hw : WSl w g off n X) (hX : ∀ i, X i < 18446744073709551616) : Calls Tryz.prog 134 #[.slice (some ⟨g, off, none⟩) n cap] w fun e w' => e = .returned (.int .u64 ((ckN X n : Nat) : Int)) ∧ w' = w := by
  have HW := hid hw
  have HX := hid hX
  clear hw hX
  go_enter Tryz.func134, Tryz.ntmps134
  go_wp2_with fail
  go_loopw [3, 8] (fun v u wr => ∃ (k h : Nat), v = .int .u64 (h : Int) ∧ u = .int .i64 (k : Int) ∧ k ≤ n ∧ Hid (h = ckN X k) ∧ wr = w) (fun _ u _ => n - (intOf u).toNat)
  case atStart => exact ⟨0, 11160318154034397263, rfl, rfl, Nat.zero_le _, hid rfl, rfl⟩
  case round =>
  obtain ⟨k, h, rfl, rfl, hk, HK, hw_⟩ := hrel
  have hs_ := hw_.symm
  clear hw_
  subst hs_
  by_cases hlt : k < n
  · have c0 := HW.out k hlt
    obtain ⟨x, hx⟩ : ∃ x, X k = x := ⟨_, rfl⟩
    rw [hx] at c0
    have HE := hid (ck_step h x (by rw [HK.out]; exact ckN_lt _ _) (by rw [← hx]; exact HX.out k))
    have HF : Hid ((((h ^^^ x) * 1099511628211) % 18446744073709551616) = ckN X (k + 1)) := hid (by rw [HK.out, ← hx]; rfl)
    clear HK hx
    go_wp2
    exact ⟨⟨k + 1, ((h ^^^ x) * 1099511628211) % 18446744073709551616, by rw [← HE.out], by go_num, by omega, HF, trivial⟩, by simp [intOf]; omega⟩
  · have hke : k = n := by omega
    subst hke
    have hf := HK.out
    clear HK
    go_wp2
    go_ret
    exact ⟨by rw [← hf]; rfl, rfl⟩
end
end Go.Proofs.Qxb6500887aGreat
