/- What the laws read: roots, allRoots, refsOf. -/
import Derived.Test.Qxb6500888aBaQ1
import Derived.Test.Qxb6500888aBaN2
namespace Go.Proofs.Qxb6500888a
open Go.RowKit
set_option linter.unusedSimpArgs false
set_option linter.unusedVariables false

theorem info_sh : (Try.prog.info? 73).map (·.size) = some 2 := by kernel_rfl
def OwP (w : World) (xs : List Nat) (e : Ending) (w' : World) : Prop := ∃ v, e = .returned v ∧ OwR rtA w.heap.size w' v xs ∧ Below w.heap.size w w'
theorem make_A (n : Nat) (hn : n ≤ 1000000000) (w : World) : (Instr.makeSlice 34 (.int .i64 (n : Int)) (.int .i64 (n : Int))).run Try.prog w = .ok (.slice (some ⟨w.heap.size, 0, none⟩) n n) (w.alloc (.cells (fnC n fun _ => .int .u64 0).toArray 48)) := by
  have h := run_make_row' (P := Try.prog) 34 48 (.int .u64 0) 8 Try.underlying34 (by kernel_rfl) rfl .i64 .i64 n (by omega) (by omega) w
  rw [made_1] at h
  exact h
/-- The list under way: its last k entries are there. -/
def rtF (xs : List Nat) (k : Nat) : Nat → Value := fun j => .int .u64 ((if xs.length - k ≤ j then xs.getD j 0 else 0 : Nat) : Int)
theorem rtF_s (xs : List Nat) {k : Nat} (hk : k < xs.length) : fup (rtF xs k) (xs.length - 1 - k) (.int .u64 ((xs.getD (xs.length - 1 - k) 0 : Nat) : Int)) = rtF xs (k + 1) := by
  funext j
  unfold rtF fup
  dsimp only
  by_cases e : j = xs.length - 1 - k
  · subst e
    rw [if_pos rfl, if_pos (by omega)]
  · rw [if_neg e]
    by_cases e2 : xs.length - k ≤ j
    · rw [if_pos e2, if_pos (by omega)]
    · rw [if_neg e2, if_neg (by omega)]
theorem flatA (l : List Nat) : l.flatMap rtA.f = l.map fun (x : Nat) => (.int .u64 (x : Int) : Value) := by
  induction l with
  | nil => rfl
  | cons a l ih => rw [List.flatMap_cons, ih]; rfl
theorem OwR.made {n0 : Nat} {w : World} {g : Nat} {xs : List Nat} (hb : Blk w g 48 (fnC xs.length (rtF xs xs.length))) (hg : n0 ≤ g) (hl : xs.length ≤ 1000000000) : OwR rtA n0 w (.slice (some ⟨g, 0, none⟩) xs.length xs.length) xs := by
  refine ⟨?_, .inr ⟨g, xs.length, (fnC xs.length (rtF xs xs.length)).toArray, rfl, hg, hb, Nat.le_refl _, by unfold maxLen; omega, ?_, ?_⟩⟩
  · rw [flatA]; simp [rtA]
  · show (fnC xs.length (rtF xs xs.length)).toArray.size = xs.length * 1
    rw [List.size_toArray, fnC_len]
    omega
  · show (fnC xs.length (rtF xs xs.length)).toArray.toList.take (xs.length * 1) = _
    rw [flatA, List.take_of_length_le (by rw [List.toList_toArray, fnC_len]; omega), List.toList_toArray]
    apply List.ext_getElem?
    intro i
    by_cases e : i < xs.length
    · rw [fnC_get _ e, List.getElem?_map, List.getElem?_eq_getElem e]
      unfold rtF
      rw [if_pos (by omega), List.getD_eq_getElem?_getD, List.getElem?_eq_getElem e]
      rfl
    · rw [List.getElem?_eq_none (by rw [fnC_len]; omega), List.getElem?_eq_none (by rw [List.length_map]; omega)]
section
variable {w w' : World} {wB : Nat} {ρ ρ' : Rl} {L : GL} {T : BL} {G : GS} {B : BS}
theorem WM.cells (h : WM w ρ L T G B wB) : w.cell? ⟨wB, 0, none⟩ = some (.pointer (some ⟨L.hB, 0, none⟩)) ∧ w.cell? ⟨wB, 1, none⟩ = some (.pointer (some ⟨L.sB, 0, none⟩)) ∧ w.cell? ⟨wB, 2, none⟩ = some (.pointer (some ⟨L.cB, 0, none⟩)) ∧ w.cell? ⟨wB, 3, none⟩ = some (.pointer (some ⟨T.bB, 0, none⟩)) := ⟨h.wb.cell 0, h.wb.cell 1, h.wb.cell 2, h.wb.cell 3⟩
/-- The list of roots under way. -/
structure RtI (w : World) (g : Nat) (xs : List Nat) (k : Nat) (wr : World) : Prop where
  blk : Blk wr g 48 (fnC xs.length (rtF xs k))
  bel : Below w.heap.size w wr
  lo : w.heap.size ≤ g
set_option maxRecDepth 1000000 in
set_option maxHeartbeats 2000000 in
theorem roots_walk (h : WM w ρ L T G B wB) {m : Nat} (hm : m < 4) :
    Calls Try.prog 19 #[.pointer (some ⟨wB, 0, none⟩), .int .i64 (m : Int)] w fun e w' => OwP w (B.roots m) e w' := by
  have HH := hid h
  have hl := h.bm.rl m
  obtain ⟨n, hn⟩ : ∃ n, (B.roots m).length = n := ⟨_, rfl⟩
  have HD := hid (depth_walk h.bm hm)
  rw [hn] at HD hl
  have c1 := h.cells.2.2.2
  obtain ⟨bB, hbB⟩ : ∃ x, T.bB = x := ⟨_, rfl⟩
  rw [hbB] at HD c1
  have HbB := hid hbB
  have Hn := hid hn
  have Hm := hid hm
  have hmk := make_A n (by omega) w
  obtain ⟨g, hg⟩ : ∃ g, w.heap.size = g := ⟨_, rfl⟩
  have hil : (n : Int) ≤ 64 := by omega
  have Hl := hid hl
  clear h hbB hn hm hl
  go_enter Try.func19, Try.ntmps19
  go_wp2_with (go_at_call 48; refine HD.out.mono ?_; rintro e1 w1 ⟨rfl, rfl⟩; clear HD)
  try rw [hg]
  have HI0 : Hid (RtI w1 g (B.roots m) 0 (w1.alloc (.cells (fnC n fun _ => .int .u64 0).toArray 48))) := hid (by
    refine ⟨?_, nbel w1 _, by omega⟩
    have := Blk.new w1 (fnC n fun _ => .int .u64 0) 48
    rw [hg] at this
    have e : fnC (B.roots m).length (rtF (B.roots m) 0) = fnC n fun _ => .int .u64 0 := by
      rw [Hn.out]
      apply fnC_congr
      intro i hi
      unfold rtF
      rw [Hn.out, if_neg (by omega)]
      rfl
    rw [e]
    exact this)
  generalize w1.alloc (.cells (fnC n fun _ => .int .u64 0).toArray 48) = wz at HI0 ⊢
  clear hmk hg c1
  go_loopw [22] (fun v wr => ∃ k : Nat, k ≤ n ∧ v = .int .i64 (k : Int) ∧ Hid (RtI w1 g (B.roots m) k wr)) (fun v _ => n - (intOf v).toNat)
  case atStart => exact ⟨0, by omega, rfl, HI0⟩
  case round =>
  clear HI0
  obtain ⟨k, hk, rfl, HI⟩ := hrel
  by_cases hkn : k < n
  · as_aux_lemma =>
    have dk : decide ((k : Int) < (n : Int)) = true := decide_eq_true (by omega)
    have ik : (k : Int) < (n : Int) := by omega
    have HW := hid (HH.out.below HI.out.bel)
    have c1 : wr.cell? ⟨wB, 3, none⟩ = some (.pointer (some ⟨bB, 0, none⟩)) := by rw [HW.out.cells.2.2.2, HbB.out]
    have HR := hid (root_walk HW.out.bm (m : Int) (k : Int))
    have hr : rootS B (m : Int) (k : Int) = ((B.roots m).getD (n - 1 - k) 0, 0) := by
      have := Hm.out
      unfold rootS
      rw [if_neg (by unfold badM; omega), if_neg (by rw [Int.toNat_natCast, Hn.out]; omega), Int.toNat_natCast, Int.toNat_natCast, Hn.out]
    rw [hr, HbB.out] at HR
    obtain ⟨j, hj⟩ : ∃ j, n - 1 - k = j := ⟨_, rfl⟩
    have hj1 : (n : Int) - 1 - (k : Int) = (j : Int) := by omega
    have hj2 : (j : Int) < (n : Int) := by omega
    rw [hj] at HR
    obtain ⟨x, hx⟩ : ∃ x, (B.roots m).getD j 0 = x := ⟨_, rfl⟩
    rw [hx] at HR
    have Hjx := hid (And.intro hj hx)
    clear hr hj hx
    go_wp2_with fail
    refine HR.out.mono ?_
    rintro e1 w2 ⟨rfl, hb2⟩
    have HI2 : Hid (RtI w1 g (B.roots m) k w2) := hid ⟨HI.out.blk.below hb2, HI.out.bel.trans (hb2.mono HI.out.bel.size), HI.out.lo⟩
    clear HI HW HR hb2 c1
    have hc : ∃ z, w2.cell? ⟨g, j, none⟩ = some z := by
      have := HI2.out.blk.cell j
      rw [fnC_get _ (by rw [Hn.out]; omega)] at this
      exact ⟨_, this⟩
    obtain ⟨z, c2⟩ := hc
    have f2 : w2.frozen? ⟨g, j, none⟩ = false := HI2.out.blk.frozen j
    have HI3 : Hid (RtI w1 g (B.roots m) (k + 1) (w2.setCell ⟨g, j, none⟩ (.int .u64 (x : Int)))) := hid (by
      refine ⟨?_, HI2.out.bel.trans ((upd1 g j _ w2).below HI2.out.lo HI2.out.bel.size), HI2.out.lo⟩
      have h1 := HI2.out.blk.set j (.int .u64 (x : Int))
      have h2 := rtF_s (B.roots m) (k := k) (by rw [Hn.out]; exact hkn)
      rw [fnC_set _ (by rw [Hn.out]; omega), ← Hjx.out.2, ← Hjx.out.1] at h1
      rw [← Hn.out] at h1
      rw [h2] at h1
      rw [← Hjx.out.2, ← Hjx.out.1, ← Hn.out]
      exact h1)
    clear HI2
    go_wp2
    exact ⟨⟨k + 1, by omega, by go_num, HI3⟩, by simp [intOf]; omega⟩
  · as_aux_lemma =>
    have dk : decide ((k : Int) < (n : Int)) = false := decide_eq_false (by omega)
    obtain rfl : k = n := by omega
    have HR : Hid (OwP w1 (B.roots m) (.returned (.slice (some ⟨g, 0, none⟩) k k)) wr) := hid (by
      have h1 := HI.out.blk
      rw [← Hn.out] at h1
      have h2 := OwR.made h1 HI.out.lo (by rw [Hn.out]; have := Hl.out; omega)
      rw [Hn.out] at h2
      exact ⟨_, rfl, h2, HI.out.bel⟩)
    clear HI
    go_wp2
    go_ret
    exact HR.out
/-- All roots under way. -/
structure RaI (w : World) (B : BS) (k : Nat) (v : Value) (wr : World) : Prop where
  row : OwR rtA w.heap.size wr v (rootsK B k)
  bel : Below w.heap.size w wr
set_option maxRecDepth 1000000 in
set_option maxHeartbeats 2000000 in
theorem allRoots_walk (h : WM w ρ L T G B wB) :
    Calls Try.prog 30 #[.pointer (some ⟨wB, 0, none⟩)] w fun e w' => OwP w (rootsK B 4) e w' := by
  have HH := hid h
  have Hrl := hid h.bm.rl
  clear h
  have HI0 : Hid (RaI w B 0 (.slice none 0 0) w) := hid ⟨OwR.nil _ _ _, Below.refl _ _⟩
  go_enter Try.func30, Try.ntmps30
  go_wp2_with fail
  go_loopw [3, 4] (fun v3 v4 wr => ∃ (k n c : Nat) (a : Option Addr), k ≤ 4 ∧ v4 = .int .i64 (k : Int) ∧ v3 = .slice a n c ∧ Hid (RaI w B k (.slice a n c) wr)) (fun _ v _ => 4 - (intOf v).toNat)
  case atStart => exact ⟨0, 0, 0, none, by omega, rfl, rfl, HI0⟩
  case round =>
  clear HI0
  obtain ⟨k, n, c, a, hk, rfl, rfl, HI⟩ := hrel
  by_cases hk4 : k < 4
  · as_aux_lemma =>
    have dk : decide ((k : Int) < 4) = true := decide_eq_true (by omega)
    have ik : (k : Int) < 4 := by omega
    have HR := hid (roots_walk (HH.out.below HI.out.bel) hk4)
    go_wp2_with fail
    refine HR.out.mono ?_
    rintro e2 w2 ⟨v2, rfl, h2, hb2⟩
    obtain ⟨a2, q2, rfl⟩ := h2.shape
    have HI2 : Hid (RaI w B k (.slice a n c) w2) := hid ⟨HI.out.row.below hb2, HI.out.bel.trans (hb2.mono HI.out.bel.size)⟩
    have hsrc := h2.rx.src
    clear HI HR
    go_wp2_with (at_builtin; refine stopHere ?_)
    intro _
    refine wpList_app_l okA rfl _ _ HI2.out.row rfl (B.roots k) rfl a2 (B.roots k).length q2 rfl rfl (fun h => hsrc.2.1 h) hsrc.1 (by
      have := Hrl.out k
      have := rootsK_len Hrl.out k
      show ((rootsK B k).length + (B.roots k).length) * 8 ≤ _
      omega) HI2.out.bel.size ?_
    intro v3 w3 hr3 hk3 hg3
    obtain ⟨a3, q3, rfl⟩ := hr3.out.shape
    have HI3 : Hid (RaI w B (k + 1) (.slice a3 (rootsK B k ++ B.roots k).length q3) w3) := hid (by
      refine ⟨by rw [rootsK_s]; exact hr3.out, HI2.out.bel.trans (hk3.out.below HI2.out.row.hi HI2.out.bel.size)⟩)
    generalize (rootsK B k ++ B.roots k).length = n3 at HI3 ⊢
    clear HI2 hr3 hk3 hg3 hsrc h2 hb2
    go_wp2
    exact ⟨⟨k + 1, n3, q3, a3, by omega, by go_num, rfl, HI3⟩, by simp [intOf]; omega⟩
  · as_aux_lemma =>
    have dk : decide ((k : Int) < 4) = false := decide_eq_false (by omega)
    obtain rfl : k = 4 := by omega
    go_wp2
    go_ret
    exact ⟨_, rfl, HI.out.row, HI.out.bel⟩
/-- The fields of an object under way. -/
structure RfI (w : World) (G : GS) (o sB n q k : Nat) (v : Value) (wr : World) : Prop where
  row : OwR rtA w.heap.size wr v (refP G o k)
  sh : Blk wr sB 73 [.int .i64 (n : Int), .int .i64 (q : Int)]
  bel : Below w.heap.size w wr
  lo : w.heap.size ≤ sB
theorem RfI.below {sB n q k o : Nat} {v : Value} {wr : World} (h : RfI w G o sB n q k v wr) (hb : Below wr.heap.size wr w') : RfI w G o sB n q k v w' := ⟨h.row.below hb, h.sh.below hb, h.bel.trans (hb.mono h.bel.size), h.lo⟩
set_option maxRecDepth 1000000 in
set_option maxHeartbeats 4000000 in
theorem refsOf_walk (h : WM w ρ L T G B wB) (ok : GOk G) {o : Nat} (ho : (G.head o).isSome = true) :
    Calls Try.prog 31 #[.pointer (some ⟨wB, 0, none⟩), .int .u64 (o : Int)] w fun e w' => OwP w (refL G o) e w' := by
  have HH := hid h
  obtain ⟨⟨n, q⟩, hp⟩ := Option.isSome_iff_exists.1 ho
  have hin := ok.hd o n q hp
  have Hin := hid hin
  have hrf : rfOf G o = q := by unfold rfOf; rw [hp]; rfl
  have HS := hid (shapeOf_walk h.bm.gm o)
  rw [hp] at HS
  have e0 : shV ((some (n, q)).getD (0, 0)) = .agg #[.int .i64 (n : Int), .int .i64 (q : Int)] := rfl
  rw [e0] at HS
  have Hp := hid (And.intro hp hrf)
  have c1 := h.cells.1
  clear h ho hp hrf e0 hin
  have I0 : Hid ((Try.prog.info? 73).map (·.size) = some 2) := hid info_sh
  have HOne : Hid (∀ u ∈ [(.int .i64 (n : Int) : Value), .int .i64 (q : Int)], u.oneCell' = true) := hid (fun u hu => by
    simp only [List.mem_cons, List.not_mem_nil, or_false] at hu
    rcases hu with rfl | rfl <;> rfl)
  go_enter Try.func31, Try.ntmps31
  go_upto_region 2 with fail
  go_wp2_with fail
  refine HS.out.mono ?_
  rintro e1 w1 ⟨rfl, hb1⟩
  obtain ⟨sB, hsB⟩ : ∃ x, w1.heap.size = x := ⟨_, rfl⟩
  have HB1 := hid hb1
  have hbz := Blk.new w1 [.int .i64 0, .int .i64 0] 73
  rw [hsB] at hbz
  have HZ := hid hbz
  clear hb1 HS c1 hbz
  go_upto_region 3 with (refine wpList_store_blk rfl 73 _ _ rfl sB rfl [.int .i64 (n : Int), .int .i64 (q : Int)] rfl HZ.out rfl I0.out HOne.out ?_; intro w9 HB9 HU9)
  have HI0 : Hid (RfI w G o sB n q 0 (.slice none 0 0) w9) := hid (by
    have h1 := nbel w1 (.cells #[.int .i64 0, .int .i64 0] 73)
    have h2 := HB1.out.trans (h1.mono HB1.out.size)
    have h3 : w.heap.size ≤ sB := by rw [← hsB]; exact HB1.out.size
    exact ⟨OwR.nil _ _ _, HB9.out, h2.trans (HU9.out.below h3 h2.size), h3⟩)
  clear HB9 HU9 HZ HB1 hsB HOne I0
  go_wp2_with fail
  go_loopw [5, 8] (fun v5 v8 wr => ∃ (k m c : Nat) (a : Option Addr), k ≤ q ∧ v8 = .int .i64 (k : Int) ∧ v5 = .slice a m c ∧ Hid (RfI w G o sB n q k (.slice a m c) wr)) (fun _ v _ => q - (intOf v).toNat)
  case atStart => exact ⟨0, 0, 0, none, by omega, rfl, rfl, HI0⟩
  case round =>
  clear HI0
  obtain ⟨i, m, c, a, hk, rfl, rfl, HI⟩ := hrel
  have cq : wr.cell? ⟨sB, 1, none⟩ = some (.int .i64 (q : Int)) := HI.out.sh.cell 1
  by_cases hkq : i < q
  · as_aux_lemma =>
    have dk : decide ((i : Int) < (q : Int)) = true := decide_eq_true (by omega)
    have ik : (i : Int) < (q : Int) := by omega
    have iq : (q : Int) ≤ 8192 := by have := Hin.out; omega
    go_upto_region 6 with fail
    clear cq dk
    obtain ⟨X, W, HTT, H0, hne, HC⟩ := class_below wr
    have HM6 := hid (HH.out.below HI.out.bel)
    have c1 : ∀ y, (W y).cell? ⟨wB, 0, none⟩ = some (.pointer (some ⟨L.hB, 0, none⟩)) := fun y => (HM6.out.below (HTT.out y)).cells.1
    obtain ⟨s, hs⟩ : ∃ s, offA o = s := ⟨_, rfl⟩
    have hin := Hin.out
    have hsp := offA_in hin.1
    rw [hs] at hsp hin
    obtain ⟨fa, hfa⟩ : ∃ fa, o + 1 + i = fa := ⟨_, rfl⟩
    have HFA : Hid (∀ w, Calls Try.prog 35 #[.int .u64 (o : Int), .int .i64 (i : Int)] w fun e w' => e = .returned (.int .u64 (fa : Int)) ∧ w' = w) := hid (fun w => field_walk hfa (by omega) (by omega) w)
    have HRA : Hid (∀ y, Calls Try.prog 26 #[.pointer (some ⟨L.hB, 0, none⟩), .int .u64 (fa : Int)] (W y) fun e w' => e = .returned (.int .u64 (G.word (s + 1 + i) : Int)) ∧ Below (W y).heap.size (W y) w') := hid (fun y => refAt_walk (HM6.out.below (HTT.out y)).bm.gm (a := fa) (s := s + 1 + i) (by omega) (by omega))
    have HRp : Hid (refP G o (i + 1) = refP G o i ++ (if G.word (s + 1 + i) = 0 then [] else [G.word (s + 1 + i)])) := hid (by rw [refP_s, hs])
    clear hsp hfa hs hin
    generalize G.word (s + 1 + i) = v at HRA HRp
    refine wp_region_class W (by kernel_rfl) (by kernel_rfl) H0.out ?_
    repeat (go_big_quiet_step (first
      | (go_at_call 35; exact Calls.class_same (HFA.out _))
      | (go_at_call 26; exact Calls.class_of HC.out (HRA.out _))))
    refine wpQuiet_nil ?_
    intro z
    have HI7 := hid (HI.out.below (HTT.out z))
    generalize W z = wz at HI7 ⊢
    clear c1 H0 HTT HC hne HFA HRA HM6 HI
    by_cases hv : v = 0
    · subst hv
      rw [if_pos rfl, List.append_nil] at HRp
      have HI8 : Hid (RfI w G o sB n q (i + 1) (.slice a m c) wz) := hid ⟨by rw [HRp.out]; exact HI7.out.row, HI7.out.sh, HI7.out.bel, HI7.out.lo⟩
      clear HI7
      go_wp2
      exact ⟨⟨i + 1, m, c, a, by omega, by go_num, rfl, HI8⟩, by simp [intOf]; omega⟩
    · rw [if_neg hv] at HRp
      have dv : (!((v : Int) == 0)) = true := by simp; omega
      have dv2 : ((v : Int) == 0) = false := by simp; omega
      go_upto_region 8 with fail
      go_wp2_with (at_builtin; refine stopHere ?_)
      intro _
      obtain ⟨k, hk8⟩ : ∃ k, wz.heap.size = k := ⟨_, rfl⟩
      obtain ⟨wf, hwf⟩ : ∃ wf, wz.alloc (.cells #[.int .u64 (v : Int)] 48) = wf := ⟨_, rfl⟩
      have HI8 : Hid (RfI w G o sB n q i (.slice a m c) wf) := hid (by rw [← hwf]; exact HI7.out.below (nbel wz _))
      have HNw : Hid (∀ ad, some (⟨k, 0, none⟩ : Addr) = some ad → ∀ j u, ([v].flatMap rtA.f)[j]? = some u → wf.cell? (ad.add j) = some u) := hid (by rw [← hwf]; exact newX rtA wz v _ hk8.symm)
      (try simp only [hwf, hk8])
      clear hwf hk8 HI7
      refine wpList_app_l okA rfl _ _ HI8.out.row rfl [v] rfl (some ⟨k, 0, none⟩) 1 1 rfl rfl (fun h => by cases h) HNw.out (by
        have h1 := refP_len G o i
        have := Hin.out
        show ((refP G o i).length + 1) * 8 ≤ _
        omega) HI8.out.bel.size ?_
      intro v9 w9 hr9 hk9 hg9
      obtain ⟨a9, q9, rfl⟩ := hr9.out.shape
      have HI9 : Hid (RfI w G o sB n q (i + 1) (.slice a9 (refP G o i ++ [v]).length q9) w9) := hid (by
        refine ⟨by rw [HRp.out]; exact hr9.out, ?_, HI8.out.bel.trans (hk9.out.below HI8.out.row.hi HI8.out.bel.size), HI8.out.lo⟩
        exact hk9.out.keep HI8.out.sh (HI8.out.row.ne HI8.out.sh (by decide)))
      generalize (refP G o i ++ [v]).length = n9 at HI9 ⊢
      clear HI8 hr9 hk9 hg9 HNw HRp
      go_wp2
      exact ⟨⟨i + 1, n9, q9, a9, by omega, by go_num, rfl, HI9⟩, by simp [intOf]; omega⟩
  · as_aux_lemma =>
    have dk : decide ((i : Int) < (q : Int)) = false := decide_eq_false (by omega)
    obtain rfl : i = q := by omega
    have HR : Hid (OwP w (refL G o) (.returned (.slice a m c)) wr) := hid (by
      refine ⟨_, rfl, ?_, HI.out.bel⟩
      unfold refL
      rw [Hp.out.2]
      exact HI.out.row)
    clear HI
    go_wp2
    go_ret
    exact HR.out
end
end Go.Proofs.Qxb6500888a
