/- SortStable over strings. -/
import Derived.Test.Qxb6500890aDoorTextMrg
import Derived.Deep.OwnRows
import Derived.Deep.DeepCutAuto
namespace Go.Proofs.Qxb6500890aDoor
open Go.RowKit
set_option linter.unusedSimpArgs false
set_option linter.unusedVariables false

theorem Upd.new {g g2 : Nat} {a w w' : World} (h : Upd g a w) (k : Upd g2 w w') (hg : a.heap.size ≤ g2) : Upd g a w' :=
  ⟨k.os.trans h.os, k.tape.trans h.tape, k.output.trans h.output, Nat.le_trans h.size k.size, fun i hi hne => (k.block i (Nat.lt_of_lt_of_le hi h.size) (by omega)).trans (h.block i hi hne)⟩

theorem info_str2 : (Tryd.prog.info? 9).map (fun i => (i.zero, i.size, i.bytes)) = some (some (.string ByteArray.empty), 1, 16) := by kernel_rfl

theorem Part.split {α : Type} {lt : α → α → Bool} {w lo : Nat} {x y : List α} (h : Part lt w lo x y) : y = y.take lo ++ ((x.drop lo).take w ++ x.drop (lo + w)) := by
  have e : (x.drop lo).take w ++ x.drop (lo + w) = x.drop lo := by rw [← List.drop_drop]; exact List.take_append_drop w _
  rw [e, ← h.2.2]
  exact (List.take_append_drop lo y).symm

theorem made_str (n : Nat) : madeCells #[Value.string ByteArray.empty] n = ((List.replicate n ByteArray.empty).map Value.string).toArray := by
  apply Array.ext
  · simp [madeCells]
  · intro i h1 h2
    simp [madeCells, Nat.mod_one]

theorem merge_at (gs gd lo mid hi wd n nd nl nr cr : Nat) (hnd : hi - lo = nd) (hnl : mid - lo = nl) (hnr : hi - mid = nr) (hcr : n - mid = cr) (Y Z : List ByteArray) (ra : Option Addr) (hne : gd ≠ gs) (hw : 0 < wd) (hmid : min (lo + wd) n = mid) (hhi : min (lo + 2 * wd) n = hi) (hlo : lo < n) (hn : n ≤ 1000000) (hY : Y.length = n) (hZ : Z.length = n)
    (hra : mid < hi → ra = some ⟨gs, mid, none⟩) (hok : ∀ s ∈ Y, s.size ≤ 140737488351232) (w : World) (hb2 : Blk w gs 9 (Y.map .string)) (hb1 : Blk w gd 9 (Z.map .string)) :
    Calls Tryd.prog 83 #[.slice (some ⟨gd, lo, none⟩) nd (n - lo), .slice (some ⟨gs, lo, none⟩) nl (n - lo), .slice ra nr cr, .func (.func 20) #[] #[]] w fun e w' =>
      e = .returned (.tuple #[]) ∧ Upd gd w w' ∧ Blk w' gd 9 ((Z.take lo ++ (mrg ltS ((Y.drop lo).take wd) ((Y.drop (lo + wd)).take wd) ++ Z.drop (lo + 2 * wd))).map .string) := by
  subst hnd hnl hnr hcr
  have hA : (Z.take lo).length = lo := by rw [List.length_take]; omega
  have hA2 : (Y.take lo).length = lo := by rw [List.length_take]; omega
  have hL : ((Y.drop lo).take wd).length = mid - lo := by rw [List.length_take, List.length_drop]; omega
  have hR : ((Y.drop (lo + wd)).take wd).length = hi - mid := by rw [List.length_take, List.length_drop]; omega
  have hM : ((Z.drop lo).take (2 * wd)).length = hi - lo := by rw [List.length_take, List.length_drop]; omega
  have eZ : Z.take lo ++ ((Z.drop lo).take (2 * wd) ++ Z.drop (lo + 2 * wd)) = Z := by
    rw [← List.drop_drop, List.take_append_drop, List.take_append_drop]
  have eY : Y.take lo ++ ((Y.drop lo).take wd ++ ((Y.drop (lo + wd)).take wd ++ Y.drop (lo + wd + wd))) = Y := by
    rw [← List.drop_drop (i := wd) (j := lo + wd), List.take_append_drop, ← List.drop_drop, List.take_append_drop, List.take_append_drop]
  have := merge_walk gd gs (n - lo) (n - lo) (n - mid) 9 9 (Z.take lo) ((Z.drop lo).take (2 * wd)) (Z.drop (lo + 2 * wd)) (Y.take lo) ((Y.drop lo).take wd) ((Y.drop (lo + wd)).take wd) (Y.drop (lo + wd + wd)) ra hne
    (by omega) (by omega) (by omega) (by omega) (by omega) (fun h => by rw [hA2, hL]; rw [hR] at h; rw [hra (by omega)]; congr 2; omega) (by omega) (by omega)
    (fun s hs => hok s (by rcases List.mem_append.1 hs with h | h <;> exact List.mem_of_mem_drop (List.mem_of_mem_take h))) w (by rw [eZ]; exact hb1) (by rw [eY]; exact hb2)
  rw [hA, hA2, hL, hR, show mid - lo + (hi - mid) = hi - lo by omega] at this
  exact this

theorem step_pre {q wd lo : Nat} {X Y Z : List ByteArray} (hlo : q * (2 * wd) = lo) (hR : Runs ltS wd X Y) (hP : Pre ltS (2 * wd) lo X Z) (hw : 0 < wd) (hl : lo ≤ X.length) :
    Pre ltS (2 * wd) ((q + 1) * (2 * wd)) X (Z.take lo ++ (mrg ltS ((Y.drop lo).take wd) ((Y.drop (lo + wd)).take wd) ++ Z.drop (lo + 2 * wd))) := by
  subst hlo
  rw [hR.two ltS_ord q]
  exact Pre.next (by omega) hP rfl (by rw [List.length_drop, hP.1]) hl

theorem upd_step {g h gs gd : Nat} {b : Bool} {w wr w1 : World} (hO : gs = g ∧ gd = h ∧ b = true ∨ gs = h ∧ gd = g ∧ b = false) (hWh : w.heap.size ≤ h) (hU : Upd g w wr) (hu : Upd gd wr w1) : Upd g w w1 := by
  rcases hO with ⟨rfl, rfl, _⟩ | ⟨rfl, rfl, _⟩
  · exact hU.new hu hWh
  · exact hU.trans hu

theorem ne_step {g h gs gd : Nat} {b : Bool} (hO : gs = g ∧ gd = h ∧ b = true ∨ gs = h ∧ gd = g ∧ b = false) (hg : g < h) : gd ≠ gs := by omega

theorem insSort_at (g m c lo : Nat) (X Y : List ByteArray) (hp : Part ltS 12 lo X Y) (hm : min 12 (X.length - lo) = m) (hlo : lo ≤ X.length) (hX : X.length ≤ 1000000) (hok : ∀ s ∈ X, s.size ≤ 140737488351232) (w : World) (hb : Blk w g 9 (Y.map .string)) :
    Calls Tryd.prog 82 #[.slice (some ⟨g, lo, none⟩) m c, .func (.func 20) #[] #[]] w fun e w' => e = .returned (.tuple #[]) ∧ Upd g w w' ∧ Blk w' g 9 ((Y.take lo ++ (ssort ltS ((X.drop lo).take 12) ++ X.drop (lo + 12))).map .string) := by
  have hA : (Y.take lo).length = lo := by rw [List.length_take, hp.1]; omega
  have := insSort_walk g m c 9 (Y.take lo) ((X.drop lo).take 12) (X.drop (lo + 12)) (by simp; omega) (by omega) (by omega) (fun s hs => hok s (List.mem_of_mem_drop (List.mem_of_mem_take hs))) w (by rw [← hp.split]; exact hb)
  rw [hA] at this
  exact this

set_option maxRecDepth 100000 in
set_option maxHeartbeats 4000000 in
theorem stable_walk (g n : Nat) (X : List ByteArray) (hX : X.length = n) (hn : n ≤ 65536) (hok : ∀ s ∈ X, s.size ≤ 140737488351232) (w : World) (hb : Blk w g 9 (X.map .string)) :
    Calls Tryd.prog 61 #[.slice (some ⟨g, 0, none⟩) n n, .func (.func 20) #[] #[]] w fun e w' => e = .returned (.tuple #[]) ∧ Upd g w w' ∧ Blk w' g 9 ((ssort ltS X).map .string) := by
  have HB0 := hid hb
  have HOk := hid hok
  have HXl := hid hX
  clear hb hok hX
  go_enter Tryd.func61, Tryd.ntmps61
  go_wp2
  go_loopw [5] (fun i wr => ∃ (q : Nat) (Y : List ByteArray), q * 12 ≤ n + 12 ∧ i = .int .i64 ((q * 12 : Nat) : Int) ∧ Part ltS 12 (q * 12) X Y ∧ Upd g w wr ∧ Blk wr g 9 (Y.map .string)) (fun i _ => n + 12 - (intOf i).toNat)
  case atStart => exact ⟨0, X, by omega, rfl, Part.start, Upd.refl _ _, HB0.out⟩
  case round =>
    obtain ⟨q, Y, hq1, rfl, hp, hu, hb⟩ := hrel
    have HP := hid hp
    have HU := hid hu
    have HB := hid hb
    clear hp hu hb
    obtain ⟨lo, hlo⟩ : ∃ lo, q * 12 = lo := ⟨_, rfl⟩
    rw [hlo] at hq1 HP ⊢
    have HLo := hid hlo
    clear hlo
    by_cases hlt : lo < n
    · have n1 : ¬ n = lo := by omega
      by_cases hfull : lo + 12 ≤ n
      · go_wp2_with fail
        refine (insSort_at g 12 (n - lo) lo X Y HP.out (by have := HXl.out; omega) (by have := HXl.out; omega) (by have := HXl.out; omega) HOk.out _ HB.out).mono ?_
        rintro e w1 ⟨rfl, hu1, hb1⟩
        have HU1 := hid hu1
        have HB1 := hid hb1
        clear hu1 hb1
        go_wp2_with fail
        have e := HLo.out
        refine ⟨⟨q + 1, _, by omega, by go_num, ?_, HU.out.trans HU1.out, HB1.out⟩, by simp [intOf]; omega⟩
        have := HP.out
        rw [← e] at this ⊢
        exact Part.next (by omega) this rfl (by have := HXl.out; omega)
      · go_wp2_with fail
        refine (insSort_at g (n - lo) (n - lo) lo X Y HP.out (by have := HXl.out; omega) (by have := HXl.out; omega) (by have := HXl.out; omega) HOk.out _ HB.out).mono ?_
        rintro e w1 ⟨rfl, hu1, hb1⟩
        have HU1 := hid hu1
        have HB1 := hid hb1
        clear hu1 hb1
        go_wp2_with fail
        have e := HLo.out
        refine ⟨⟨q + 1, _, by omega, by go_num, ?_, HU.out.trans HU1.out, HB1.out⟩, by simp [intOf]; omega⟩
        have := HP.out
        rw [← e] at this ⊢
        exact Part.next (by omega) this rfl (by have := HXl.out; omega)
    · have HR : Hid (Runs ltS 12 X Y) := HP.out.runs (by have := HXl.out; omega)
      clear HP HLo
      by_cases hsm : n ≤ 12
      · go_wp2_with fail
        exact bodyPost_ret (v := .tuple #[]) (by simp [results, Tryd.results61, go_sem]) rfl ⟨rfl, HU.out, by rw [← HR.out.all (by have := HXl.out; omega)]; exact HB.out⟩
      · have hmk := run_make_row' (P := Tryd.prog) 33 9 (.string ByteArray.empty) 16 (by kernel_rfl) info_str2 rfl .i64 .i64 n (by omega) (by omega)
        go_wp2_with fail
        go_region
        obtain ⟨h, hh⟩ : ∃ h, wr.heap.size = h := ⟨_, rfl⟩
        obtain ⟨wx, hwx⟩ : ∃ wx, (wr.alloc (Obj.cells (madeCells #[Value.string ByteArray.empty] n) 9)).drew = wx := ⟨_, rfl⟩
        have HGh : Hid (g < h) := by have := HB.out.lt; unfold Hid; omega
        have HWh : Hid (w.heap.size ≤ h) := by have := HU.out.size; unfold Hid; omega
        have HUx : Hid (Upd g w wx) := by subst hwx; exact (HU.out.alloc _).drewN 1
        have HBx : Hid (Blk wx g 9 (Y.map .string)) := by subst hwx; exact (HB.out.alloc _).drewN 1
        have HBy : Hid (Blk wx h 9 ((List.replicate n ByteArray.empty).map .string)) := by
          subst hwx hh
          have e := Blk.new wr ((List.replicate n ByteArray.empty).map .string) 9
          rw [← made_str] at e
          exact e.drewN 1
        rw [hwx, hh]
        clear hh hwx HU HB hmk
        clear wr
        go_wp2
        go_loopw [6, 7, 8, 9] (fun s d fl i wr => ∃ (gs gd wd : Nat) (b : Bool) (Y Z : List ByteArray), wd ≤ 2 * n ∧ 12 ≤ wd ∧ s = .slice (some ⟨gs, 0, none⟩) n n ∧ d = .slice (some ⟨gd, 0, none⟩) n n ∧ fl = .bool b ∧ i = .int .i64 (wd : Int) ∧ Hid (gs = g ∧ gd = h ∧ b = true ∨ gs = h ∧ gd = g ∧ b = false) ∧ Hid (Runs ltS wd X Y) ∧ Hid (Z.length = n) ∧ Hid (Upd g w wr) ∧ Hid (Blk wr gs 9 (Y.map .string)) ∧ Hid (Blk wr gd 9 (Z.map .string))) (fun _ _ _ i _ => 2 * n - (intOf i).toNat)
        case atStart => exact ⟨g, h, 12, true, Y, _, by omega, by omega, rfl, rfl, rfl, rfl, hid (.inl ⟨rfl, rfl, rfl⟩), HR, hid List.length_replicate, HUx, HBx, HBy⟩
        case round =>
          obtain ⟨gs, gd, wd, b, Y, Z, hwd2, hwd1, rfl, rfl, rfl, rfl, HO, HR, HZ, HU, HB, HD⟩ := hrel
          by_cases hlt : wd < n
          · go_wp2_with fail
            go_loopw [10] (fun i wr => ∃ (q : Nat) (Z : List ByteArray), q * (2 * wd) ≤ n + 2 * wd ∧ i = .int .i64 ((q * (2 * wd) : Nat) : Int) ∧ Hid (Pre ltS (2 * wd) (q * (2 * wd)) X Z) ∧ Hid (Upd g w wr) ∧ Hid (Blk wr gs 9 (Y.map .string)) ∧ Hid (Blk wr gd 9 (Z.map .string))) (fun i _ => n + 2 * wd - (intOf i).toNat)
            case atStart => exact ⟨0, Z, by omega, by simp, hid (by simpa using Pre.start (by rw [HZ.out, HXl.out])), HU, HB, HD⟩
            case round =>
              obtain ⟨q, Z, hq, rfl, HP, HU, HB, HD⟩ := hrel
              obtain ⟨lo, hlo⟩ : ∃ lo, q * (2 * wd) = lo := ⟨_, rfl⟩
              rw [hlo] at hq HP ⊢
              have HLo := hid hlo
              clear hlo
              by_cases hlt2 : lo < n
              · have n1 : ¬ n = lo := by omega
                obtain ⟨mid, hmid⟩ : ∃ mid, min (lo + wd) n = mid := ⟨_, rfl⟩
                obtain ⟨hi, hhi⟩ : ∃ hi, min (lo + 2 * wd) n = hi := ⟨_, rfl⟩
                have b1 : lo < mid := by omega
                have b2 : mid ≤ hi := by omega
                have b3 : hi ≤ n := by omega
                have HMid := hid hmid
                have HHi := hid hhi
                clear hmid hhi
                go_upto_region 14 with fail
                go_cut [11] (fun v wc => v = .int .i64 (mid : Int) ∧ wc = wr)
                case first =>
                  go_wp2
                  all_goals go_meet
                  all_goals (case rel => exact ⟨congrArg (Value.int .i64) (by have := HMid.out; omega), rfl⟩)
                case rest =>
                  obtain ⟨rfl, rfl⟩ := hcut
                  go_upto_region 15 with fail
                  go_cut [12] (fun v wc' => v = .int .i64 (hi : Int) ∧ wc' = wc)
                  case first =>
                    go_wp2
                    all_goals go_meet
                    all_goals (case rel => exact ⟨congrArg (Value.int .i64) (by have := HHi.out; omega), rfl⟩)
                  case rest =>
                    obtain ⟨rfl, rfl⟩ := hcut
                    have c1 : (lo : Int) ≤ (mid : Int) := by omega
                    have c2 : (mid : Int) ≤ (hi : Int) := by omega
                    have c3 : (hi : Int) ≤ (n : Int) := by omega
                    obtain ⟨ra, hra⟩ : ∃ ra, (if n = mid then some (⟨gs, 0, none⟩ : Addr) else some ⟨gs, mid, none⟩) = ra := ⟨_, rfl⟩
                    have HRa : Hid (mid < hi → ra = some ⟨gs, mid, none⟩) := hid (fun h => by rw [← hra, if_neg (by omega)])
                    go_wp2_with fail
                    go_region_with (go_at_call 83; refine (merge_at gs gd lo mid hi wd n (hi - lo) (mid - lo) (hi - mid) (n - mid) rfl rfl rfl rfl Y Z ra (ne_step HO.out HGh.out) (by omega) HMid.out HHi.out hlt2 (by omega) (HR.out.1.trans HXl.out) (HP.out.1.trans HXl.out) HRa.out (fun s hs => HOk.out s (HR.out.mem (by omega) hs)) _ (HB.out.drewN 1) (HD.out.drewN 1)).mono ?_; rintro e w1 ⟨rfl, hu1, hb1⟩; have HU1 := hid hu1; have HB1 := hid hb1; clear hu1 hb1)
                    all_goals (
                      clear hra
                      go_wp2_with fail
                      have e := HLo.out
                      have e2 : (q + 1) * (2 * wd) = lo + 2 * wd := by rw [Nat.add_mul, e]; omega
                      exact ⟨⟨q + 1, _, by omega, congrArg (Value.int .i64) (by rw [e2]; omega), hid (step_pre HLo.out HR.out HP.out (by omega) (by have := HXl.out; omega)), hid (upd_step HO.out HWh.out (HU.out.drewN 1) HU1.out), hid ((HB.out.drewN 1).upd HU1.out (ne_step HO.out HGh.out).symm), HB1⟩, by simp [intOf]; omega⟩)
              · go_wp2_with fail
                have HR2 : Hid (Runs ltS (2 * wd) X Z) := hid (HP.out.runs (by have := HXl.out; omega))
                refine ⟨⟨gd, gs, 2 * wd, !b, Z, Y, by omega, by omega, rfl, rfl, rfl, by go_num, hid ?_, HR2, hid (HR.out.1.trans HXl.out), HU, HD, HB⟩, by simp [intOf]; omega⟩
                have := HO.out
                cases b <;> simp at this ⊢ <;> omega
          · have e := HR.out.all (by have := HXl.out; omega)
            cases b with
            | true =>
              go_wp2_with fail
              go_end0
              have ho := HO.out
              simp at ho
              rw [ho.1] at HB
              exact ⟨rfl, HU.out, by rw [← e]; exact HB.out⟩
            | false =>
              have ho := HO.out
              simp at ho
              have HO2 := hid ho
              clear ho
              obtain ⟨i0, hi, hz0, hz1, hz2⟩ := info_parts info_str
              have HI : Hid (Tryd.prog.info? 9 = some i0 ∧ i0.size = 1) := ⟨hi, hz1⟩
              have HD2 : Hid (Blk wr g 9 (Z.map .string)) := by rw [HO2.out.2] at HD; exact HD
              have HE := hid e
              have HYl : Hid ((Y.map Value.string).length = n * 1) := hid (by rw [List.length_map, HR.out.1, HXl.out, Nat.mul_one])
              have HC : Hid (∀ j v, (Y.map Value.string)[j]? = some v → wr.cell? ((⟨gs, 0, none⟩ : Addr).add j) = some v) := hid (fun j v hv => by rw [← hv, ← HB.out.cell]; by_cases h0 : j = 0 <;> simp [Addr.add, h0])
              have HF : Hid (0 + (Y.map Value.string).length ≤ (Z.map Value.string).length) := hid (by rw [HYl.out, List.length_map, HZ.out]; omega)
              clear e hi hz0 hz1 hz2
              obtain ⟨w6, hrun, hb6, hu6⟩ := run_copy_blk (P := Tryd.prog) wr 33 33 3 9 i0 1 Tryd.underlying33 HI.out.1 HI.out.2 (some ⟨g, 0, none⟩) (some ⟨gs, 0, none⟩) n n n n g 0 9 _ (Y.map .string) HD2.out (by rw [HYl.out]; simp) (fun _ => ⟨rfl, ⟨_, rfl, HC.out⟩⟩) HF.out (str_one _)
              have HB6 := hid hb6
              have HU6 := hid hu6
              clear hb6 hu6
              go_wp2_with fail
              go_end0
              refine ⟨rfl, HU.out.trans HU6.out, ?_⟩
              rw [← HE.out]
              have e6 : splice (Z.map Value.string) 0 (Y.map Value.string) = Y.map Value.string := by
                unfold splice
                rw [List.drop_of_length_le (by have h1 := HYl.out; have h2 := HZ.out; rw [List.length_map] at h1 ⊢; rw [List.length_map]; omega)]
                simp
              have h6 := HB6.out
              rw [e6] at h6
              exact h6
end Go.Proofs.Qxb6500890aDoor
