/- The barrier: increment. -/
import Derived.Test.Qxb6500888aBaP4
namespace Go.Proofs.Qxb6500888a
open Go.RowKit
set_option linter.unusedSimpArgs false
set_option linter.unusedVariables false

theorem incG_word (G : GS) (o : Nat) : (incG G o).word = G.word := rfl
theorem incG_head (G : GS) (o : Nat) : (incG G o).head = G.head := rfl
theorem refP_inc (G : GS) (o a i : Nat) : refP (incG G o) a i = refP G a i := rfl
/-- A world of the pause; the lists but 4 and 5 lie where they lay. -/
def PiP (w : World) (ρ : Rl) (L : GL) (T : BL) (hB : Nat) (V : Nat → Value) (G : GS) (B : BS) (hv : Nat → List Nat) (w' : World) : Prop := ∃ L' V' ρ', L.Same L' ∧ PMx 5 w' ρ' L' T hB V' G B hv ∧ Fr zX ρ w ρ' w' ∧ ∀ i, i ≠ 4 → i ≠ 5 → V' i = V i
section
variable {x : Nat} {w w' : World} {ρ ρ' : Rl} {L L' : GL} {T T' : BL} {hB : Nat} {V : Nat → Value} {G G' : GS} {B B' : BS} {hv : Nat → List Nat}
theorem PMx.ground (h : PMx x w ρ L T hB V G B hv) (hg : GM w' ρ' L' G') (hL : L.Same L') (hf : Fr gX ρ w ρ' w') : PMx x w' ρ' L' T hB V G' B hv := h.mach (h.bm.ground hg hL hf) (hf.mono (fun c => bX_g))
set_option maxRecDepth 1000000 in
set_option maxHeartbeats 8000000 in
theorem increment_walk (h : PMx 5 w ρ L T hB V G B hv) (hok : GOk G) {obj : Nat} (ho1 : 65536 ≤ obj) (ho2 : obj < 98304) (hc : G.calls.length ≤ 1000000000000) (hl : ∀ i, (hv i).length ≤ 1000000000000) :
    Calls Try.prog 94 #[.pointer (some ⟨T.bB, 0, none⟩), .int .u64 (obj : Int), .pointer (some ⟨hB, 0, none⟩)] w fun e w' => e = .returned (.tuple #[]) ∧ PiP w ρ L T hB V (incG G obj) B (incH G hv obj) w' := by
  have HH := hid h
  have HO := hid hok
  have Hl := hid hl
  have Hin := hid (And.intro ho1 ho2)
  have c0 := h.bm.gcells.2.2
  have HI := hid (inc_walk h.bm.gm obj hc (hok.ct obj))
  obtain ⟨cn, hcn⟩ : ∃ c, G.cnt obj = c := ⟨_, rfl⟩
  rw [hcn] at HI
  have Hcn := hid hcn
  clear h hok hl ho1 ho2 hc hcn
  go_enter Try.func94, Try.ntmps94
  go_wp2_with fail
  refine HI.out.mono ?_
  rintro e1 w1 ⟨rfl, L1, ρ1, hm1, hs1, hf1⟩
  have HM1 := hid (HH.out.ground hm1 hs1 hf1)
  have HS1 := hid hs1
  have HF1 := hid (hf1.mono (fun c => zX_g))
  clear HI hm1 hs1 hf1 c0 HH
  by_cases hc0 : cn = 0
  rotate_left
  · as_aux_lemma =>
    have dc : ((cn : Int) != 0) = true := by simp; omega
    have HR : Hid (PiP w ρ L T hB V (incG G obj) B (incH G hv obj) w1) := hid ⟨L1, V, ρ1, HS1.out, by unfold incH; rw [if_neg (by rw [Hcn.out]; exact hc0)]; exact HM1.out, HF1.out, fun _ _ _ => rfl⟩
    go_wp2
    exact bodyPost_ret (v := .tuple #[]) (by simp [results, Try.results94, go_sem]) rfl ⟨rfl, HR.out⟩
  subst hc0
  obtain ⟨a5, q5, hV5⟩ := (HM1.out.hm.rw 5 (by decide)).shape
  obtain ⟨n5, hn5⟩ : ∃ n, (hv 5).length = n := ⟨_, rfl⟩
  have c5 := HM1.out.hcell (i := 5) (by decide)
  rw [hV5, hn5] at c5
  have HV5 := hid hV5
  have Hn5 := hid hn5
  rw [hn5] at HV5
  clear hV5 hn5
  go_wp2_with (at_builtin; refine stopHere ?_)
  intro _
  obtain ⟨wf, hwf⟩ : ∃ wf, w1.alloc (.cells #[.int .u64 (obj : Int)] 48) = wf := ⟨_, rfl⟩
  have HBf : Hid (Below w1.heap.size w1 wf) := hid (by rw [← hwf]; exact nbel w1 _)
  have HNw : Hid (∀ ad, some (⟨w1.heap.size, 0, none⟩ : Addr) = some ad → ∀ j u, ([obj].flatMap rtA.f)[j]? = some u → wf.cell? (ad.add j) = some u) := hid (by rw [← hwf]; exact newX rtA w1 obj _ rfl)
  (try simp only [hwf])
  clear hwf c5
  have HHf := hid (HM1.out.below HBf.out)
  have hrf := HHf.out.hm.rw 5 (by decide)
  rw [HV5.out] at hrf
  refine wpList_app_x okA rfl _ _ hrf rfl [obj] rfl (some ⟨w1.heap.size, 0, none⟩) 1 1 rfl rfl (fun h => by cases h) HNw.out (by have := Hl.out 5; show ((hv 5).length + 1) * 8 ≤ _; omega) ?_
  intro v8 w8 ρ8 hr8 hf8 _ _
  obtain ⟨a8, k8, h8⟩ := hr8.out.shape
  rw [List.length_append, List.length_singleton, Hn5.out] at h8
  subst h8
  have HM8 := hid (HHf.out.app (by decide) hf8.out hr8.out)
  have hk8 : w8.heap[hB]? = wf.heap[hB]? := hf8.out.blk _ HHf.out.hm.bl.lt (by rw [HHf.out.hm.ro]; rfl)
  have c8 : w8.cell? ⟨hB, 5, none⟩ = some (.slice a5 n5 q5) := by rw [World.cell?_of_block hk8, ← HV5.out]; exact HHf.out.hcell (by decide)
  have f8 : w8.frozen? ⟨hB, 5, none⟩ = false := by rw [World.frozen?_of_block hk8]; exact HHf.out.hm.bl.frozen _
  have HF8 : Hid (Fr zX ρ w ρ8 _) := hid ((HF1.out.trans (Fr.below HBf.out)).trans (HM8.out.2.mono (fun c => zX_app (by decide))))
  clear hrf hr8 hf8 hk8 HNw HHf HBf HM1 HF1
  go_upto_region 2 with fail
  have HM9 := hid HM8.out.1
  generalize w8.setCell ⟨hB, 5, none⟩ (.slice a8 (n5 + 1) k8) = w9 at HM9 HF8 ⊢
  obtain ⟨V9, hV9⟩ : ∃ V9, fup V 5 (.slice a8 (n5 + 1) k8) = V9 := ⟨_, rfl⟩
  rw [hV9] at HM9
  have HVk : Hid (∀ i, i ≠ 4 → i ≠ 5 → V9 i = V i) := hid (fun i _ h5 => by rw [← hV9]; exact fup_ne _ _ h5)
  clear c8 f8 HM8 hV9
  have hhv : fup hv 5 (hv 5 ++ [obj]) = hput hv 5 obj := rfl
  rw [hhv] at HM9
  clear hhv
  have hsz := HO.out.sz Hin.out.1 Hin.out.2
  obtain ⟨n, hn⟩ : ∃ n, szOf G obj = n := ⟨_, rfl⟩
  obtain ⟨q, hq⟩ : ∃ q, rfOf G obj = q := ⟨_, rfl⟩
  have Hnq := hid (And.intro hn hq)
  have hsh : (G.head obj).getD (0, 0) = (n, q) := Prod.ext hn hq
  rw [hn, hq] at hsz
  have Hsz := hid hsz
  have H1 := hid (shapeOf_walk HM9.out.bm.gm obj)
  rw [incG_head, hsh] at H1
  unfold shV at H1
  dsimp only at H1
  generalize (G.head obj).isSome = bb at H1
  have c0 := HM9.out.bm.gcells.1
  have hq1 : q ≤ 8192 := by omega
  clear hsz hn hq hsh
  go_wp2_with fail
  refine H1.out.mono ?_
  rintro e4 w4 ⟨rfl, hb4⟩
  have HM4 := hid (HM9.out.below hb4)
  have HF4 : Hid (Fr zX ρ w ρ8 w4) := hid (HF8.out.trans (Fr.below hb4))
  clear H1 c0 hb4 HM9 HF8
  obtain ⟨g, hg⟩ : ∃ g, w4.heap.size = g := ⟨_, rfl⟩
  go_upto_region 3 with fail
  obtain ⟨w5, hw5⟩ : ∃ w5, w4.alloc (.cells #[.int .i64 (n : Int), .int .i64 (q : Int)] 73) = w5 := ⟨_, rfl⟩
  have HN5 : Hid (Blk w5 g 73 [.int .i64 (n : Int), .int .i64 (q : Int)]) := hid (by
    rw [← hw5, ← hg]
    exact Blk.new w4 [.int .i64 (n : Int), .int .i64 (q : Int)] 73)
  have HB5 : Hid (Below w4.heap.size w4 w5) := hid (by
    rw [← hw5]
    exact nbel w4 _)
  (try simp only [hw5])
  have Hg0 : Hid (ρ8 g = 0) := hid (by
    by_cases e : ρ8 g = 0
    · exact e
    · have := HM4.out.bm.gm.dom g e
      omega)
  have HM5 := hid (HM4.out.below HB5.out)
  have HF5 : Hid (Fr zX ρ w ρ8 w5) := hid (HF4.out.trans (Fr.below HB5.out))
  clear hw5 hg HM4 HF4 HB5
  go_wp2_with fail
  go_loopw [8] (fun v wr => ∃ i : Nat, i ≤ q ∧ v = .int .i64 (i : Int) ∧ Hid (∃ V' ρ', PMx 5 wr ρ' L1 T hB V' (incG G obj) B (fup (hput hv 5 obj) 4 (hv 4 ++ refP G obj i)) ∧ Fr zX ρ w ρ' wr ∧ Blk wr g 73 [.int .i64 (n : Int), .int .i64 (q : Int)] ∧ ρ' g = 0 ∧ ∀ i, i ≠ 4 → i ≠ 5 → V' i = V i)) (fun v _ => q - (intOf v).toNat)
  case atStart =>
    refine ⟨0, by omega, rfl, hid ⟨V9, ρ8, ?_, HF5.out, HN5.out, Hg0.out, HVk.out⟩⟩
    have e : fup (hput hv 5 obj) 4 (hv 4 ++ refP G obj 0) = hput hv 5 obj := by
      rw [refP_0, List.append_nil]
      have : hv 4 = hput hv 5 obj 4 := by unfold hput; rw [fup_ne _ _ (by decide)]
      rw [this, fup_same]
    rw [e]
    exact HM5.out
  case round =>
    obtain ⟨i, hi, rfl, HX⟩ := hrel
    obtain ⟨V6, ρ6, hm6, hf6, hn6, hg6, hv6⟩ := HX.out
    have Hv6 := hid hv6
    have HM6 := hid hm6
    have HF6 := hid hf6
    have HN6 := hid hn6
    have Hg6 := hid hg6
    clear HM5 HF5 HN5 HX hm6 hf6 hn6 hg6 hv6
    have cq := HN6.out.cell 1
    simp only [List.getElem?_cons_zero, List.getElem?_cons_succ] at cq
    by_cases hlt : i < q
    · have dk : decide ((i : Int) < (q : Int)) = true := decide_eq_true (by omega)
      go_upto_region 6 with fail
      clear cq dk
      obtain ⟨X, W, HTT, H0, hne, HC⟩ := class_below wr
      have c1 : ∀ y, (W y).cell? ⟨T.bB, 0, none⟩ = some (.pointer (some ⟨L1.hB, 0, none⟩)) := fun y => (HM6.out.below (HTT.out y)).bm.gcells.1
      obtain ⟨s, hs⟩ : ∃ s, offA obj = s := ⟨_, rfl⟩
      have hsp := offA_in Hin.out.1
      have hb1 : s + n < 32768 := by rw [← hs]; exact Hsz.out.1
      have hb2 : q ≤ n := Hsz.out.2.1
      rw [hs] at hsp
      obtain ⟨fa, hfa⟩ : ∃ fa, obj + 1 + i = fa := ⟨_, rfl⟩
      have HFA : Hid (∀ w, Calls Try.prog 35 #[.int .u64 (obj : Int), .int .i64 (i : Int)] w fun e w' => e = .returned (.int .u64 (fa : Int)) ∧ w' = w) := hid (fun w => field_walk hfa (by omega) (by omega) w)
      have HRA : Hid (∀ y, Calls Try.prog 26 #[.pointer (some ⟨L1.hB, 0, none⟩), .int .u64 (fa : Int)] (W y) fun e w' => e = .returned (.int .u64 (G.word (s + 1 + i) : Int)) ∧ Below (W y).heap.size (W y) w') := hid (fun y => refAt_walk (HM6.out.below (HTT.out y)).bm.gm (a := fa) (s := s + 1 + i) (by omega) (by omega))
      have HRp : Hid (refP G obj (i + 1) = refP G obj i ++ (if G.word (s + 1 + i) = 0 then [] else [G.word (s + 1 + i)])) := hid (by rw [refP_s, hs])
      clear hsp hfa hs
      generalize G.word (s + 1 + i) = v at HRA HRp
      refine wp_region_class W (by kernel_rfl) (by kernel_rfl) H0.out ?_
      repeat (go_big_quiet_step (first
        | (go_at_call 35; exact Calls.class_same (HFA.out _))
        | (go_at_call 26; exact Calls.class_of HC.out (HRA.out _))))
      refine wpQuiet_nil ?_
      intro z
      have HZ := hid (HTT.out z)
      generalize W z = wz at HZ ⊢
      have HM7 := hid (HM6.out.below HZ.out)
      have HF7 : Hid (Fr zX ρ w ρ6 wz) := hid (HF6.out.trans (Fr.below HZ.out))
      have HN7 := hid (HN6.out.below HZ.out)
      clear c1 H0 HTT HC hne HFA HRA HM6 HF6 HN6
      by_cases hv0 : v = 0
      · as_aux_lemma =>
        subst hv0
        rw [if_pos rfl, List.append_nil] at HRp
        rw [← HRp.out] at HM7
        have HE : Hid (∃ V' ρ', PMx 5 wz ρ' L1 T hB V' (incG G obj) B (fup (hput hv 5 obj) 4 (hv 4 ++ refP G obj (i + 1))) ∧ Fr zX ρ w ρ' wz ∧ Blk wz g 73 [.int .i64 (n : Int), .int .i64 (q : Int)] ∧ ρ' g = 0 ∧ ∀ i, i ≠ 4 → i ≠ 5 → V' i = V i) := hid ⟨V6, ρ6, HM7.out, HF7.out, HN7.out, Hg6.out, Hv6.out⟩
        go_wp2
        exact ⟨⟨i + 1, by omega, by go_num, HE⟩, by simp [intOf]; omega⟩
      · as_aux_lemma =>
        have dv : ((v : Int) != 0) = true := by simp; omega
        rw [if_neg hv0] at HRp
        have h44 : fup (hput hv 5 obj) 4 (hv 4 ++ refP G obj i) 4 = hv 4 ++ refP G obj i := fup_self _ _ _
        obtain ⟨a4, q4, hV4⟩ := (HM7.out.hm.rw 4 (by decide)).shape
        rw [h44] at hV4
        obtain ⟨n4, hn4⟩ : ∃ n, (hv 4 ++ refP G obj i).length = n := ⟨_, rfl⟩
        rw [hn4] at hV4
        have c4 := HM7.out.hcell (i := 4) (by decide)
        rw [hV4] at c4
        have HV4 := hid hV4
        have Hn4 := hid hn4
        have H44 := hid h44
        clear hV4 hn4 h44
        go_wp2_with (at_builtin; refine stopHere ?_)
        intro _
        obtain ⟨wf, hwf⟩ : ∃ wf, wz.alloc (.cells #[.int .u64 (v : Int)] 48) = wf := ⟨_, rfl⟩
        have HBf : Hid (Below wz.heap.size wz wf) := hid (by rw [← hwf]; exact nbel wz _)
        have HNw : Hid (∀ ad, some (⟨wz.heap.size, 0, none⟩ : Addr) = some ad → ∀ j u, ([v].flatMap rtA.f)[j]? = some u → wf.cell? (ad.add j) = some u) := hid (by rw [← hwf]; exact newX rtA wz v _ rfl)
        (try simp only [hwf])
        clear hwf c4
        have HHf := hid (HM7.out.below HBf.out)
        have hrf := HHf.out.hm.rw 4 (by decide)
        rw [HV4.out, H44.out] at hrf
        refine wpList_app_x okA rfl _ _ hrf rfl [v] rfl (some ⟨wz.heap.size, 0, none⟩) 1 1 rfl rfl (fun h => by cases h) HNw.out (by have h1 := Hl.out 4; have h2 := refP_len G obj i; show ((hv 4 ++ refP G obj i).length + 1) * 8 ≤ _; rw [List.length_append]; omega) ?_
        intro v8 w8 ρ9 hr8 hf8 _ _
        obtain ⟨a8, k8, h8⟩ := hr8.out.shape
        rw [List.length_append, List.length_singleton, Hn4.out] at h8
        subst h8
        have HM8 := hid (HHf.out.app (by decide) hf8.out hr8.out)
        have hk8 : w8.heap[hB]? = wf.heap[hB]? := hf8.out.blk _ HHf.out.hm.bl.lt (by rw [HHf.out.hm.ro]; rfl)
        have c8 : w8.cell? ⟨hB, 4, none⟩ = some (.slice a4 n4 q4) := by rw [World.cell?_of_block hk8, ← HV4.out]; exact HHf.out.hcell (by decide)
        have f8 : w8.frozen? ⟨hB, 4, none⟩ = false := by rw [World.frozen?_of_block hk8]; exact HHf.out.hm.bl.frozen _
        have HE : Hid (∃ V' ρ', PMx 5 (w8.setCell ⟨hB, 4, none⟩ (.slice a8 (n4 + 1) k8)) ρ' L1 T hB V' (incG G obj) B (fup (hput hv 5 obj) 4 (hv 4 ++ refP G obj (i + 1))) ∧ Fr zX ρ w ρ' (w8.setCell ⟨hB, 4, none⟩ (.slice a8 (n4 + 1) k8)) ∧ Blk (w8.setCell ⟨hB, 4, none⟩ (.slice a8 (n4 + 1) k8)) g 73 [.int .i64 (n : Int), .int .i64 (q : Int)] ∧ ρ' g = 0 ∧ ∀ i, i ≠ 4 → i ≠ 5 → V' i = V i) := hid (by
          have hfz := (Fr.below HBf.out : Fr zX ρ6 wz ρ6 wf).trans (HM8.out.2.mono (fun c => zX_app (by decide)))
          have this := HM8.out.1
          rw [fup_fup] at this
          rw [HRp.out, ← List.append_assoc]
          exact ⟨_, ρ9, this, HF7.out.trans hfz, hfz.keep HN7.out Hg6.out rfl, by rw [hfz.old _ HN7.out.lt]; exact Hg6.out, fun i h4 h5 => by rw [fup_ne _ _ h4]; exact Hv6.out i h4 h5⟩)
        clear hrf hr8 hf8 hk8 HNw HHf HBf HM7 HF7 HM8 HN7
        go_wp2
        exact ⟨⟨i + 1, by omega, by go_num, HE⟩, by simp [intOf]; omega⟩
    · as_aux_lemma =>
      have dk : decide ((i : Int) < (q : Int)) = false := decide_eq_false (by omega)
      rw [show i = q by omega] at HM6
      have HR : Hid (PiP w ρ L T hB V (incG G obj) B (incH G hv obj) wr) := hid ⟨L1, V6, ρ6, HS1.out, by
        unfold incH refL
        rw [if_pos Hcn.out, Hnq.out.2]
        exact HM6.out, HF6.out, Hv6.out⟩
      clear HM6 HF6 HN6
      go_wp2
      exact bodyPost_end (v := .tuple #[]) (by simp [results, Try.results94, go_sem]) rfl ⟨rfl, HR.out⟩
end
end Go.Proofs.Qxb6500888a
