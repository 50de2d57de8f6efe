/- AuditLines, exactly (written by tools/mk_at5.py). -/
import Derived.Test.Qxb6500887aGreatAt4
namespace Go.Proofs.Qxb6500887aGreat
open Go.RowKit
set_option linter.unusedSimpArgs false
set_option linter.unusedVariables false
/-- The steps, laid out. -/
def stL (f : Nat → Int) : List Value := (List.range 2049).map (fun i => .int .i64 (f i))
def updI (f : Nat → Int) (i : Nat) (x : Int) : Nat → Int := fun j => if j = i then x else f j
theorem stL_get (f : Nat → Int) {i : Nat} (hi : i < 2049) : (stL f)[i]? = some (.int .i64 (f i)) := by
  unfold stL
  rw [List.getElem?_map, List.getElem?_range hi]; rfl
theorem stL_set (f : Nat → Int) {i : Nat} (hi : i < 2049) (x : Int) : (stL f).set i (.int .i64 x) = stL (updI f i x) := by
  apply List.ext_getElem?
  intro j
  by_cases hj : j < 2049
  · rw [stL_get _ hj]
    by_cases e : j = i
    · subst e
      rw [List.getElem?_set_self (by unfold stL; simp; omega)]
      unfold updI; rw [if_pos rfl]
    · rw [List.getElem?_set_ne (by omega), stL_get _ hj]
      unfold updI; rw [if_neg e]
  · rw [List.getElem?_eq_none (by rw [List.length_set]; unfold stL; simp; omega), List.getElem?_eq_none (by unfold stL; simp; omega)]
theorem stL_zero : stL (fun _ => 0) = z2049 := by
  unfold stL z2049
  rw [List.map_const', List.map_replicate, List.length_range]; rfl
/-- Objects that begin at a line, less those that end before it. -/
def stp (L : List (Nat × Nat)) (i : Nat) : Int := ((L.countP (fun o => decide (o.1 / 16 = i)) : Nat) : Int) - ((L.countP (fun o => decide (o.2 / 16 + 1 = i)) : Nat) : Int)
def pS (f : Nat → Int) : Nat → Int
  | 0 => 0
  | n + 1 => pS f n + f n
theorem cP_eq {L : List (Nat × Nat)} (g : Nat × Nat → Nat) (n : Nat) : L.countP (fun o => decide (g o ≤ n + 1)) = L.countP (fun o => decide (g o ≤ n)) + L.countP (fun o => decide (g o = n + 1)) := by
  induction L with
  | nil => rfl
  | cons a L ih =>
    rw [List.countP_cons, List.countP_cons, List.countP_cons, ih]
    by_cases h1 : g a ≤ n
    · simp [h1, show g a ≤ n + 1 by omega, show ¬ g a = n + 1 by omega]; omega
    · by_cases h2 : g a = n + 1
      · rw [if_pos (by simp; omega), if_neg (by simp; omega), if_pos (by simp; omega)]; omega
      · rw [if_neg (by simp; omega), if_neg (by simp; omega), if_neg (by simp; omega)]; omega
theorem pS_stp (L : List (Nat × Nat)) : ∀ n, pS (stp L) (n + 1) = ((L.countP (fun o => decide (o.1 / 16 ≤ n)) : Nat) : Int) - ((L.countP (fun o => decide (o.2 / 16 + 1 ≤ n)) : Nat) : Int)
  | 0 => by
    show (0 : Int) + stp L 0 = _
    unfold stp
    have e1 : (fun o : Nat × Nat => decide (o.1 / 16 = 0)) = (fun o => decide (o.1 / 16 ≤ 0)) := by funext o; exact decide_eq_decide.2 (by omega)
    have e2 : (fun o : Nat × Nat => decide (o.2 / 16 + 1 = 0)) = (fun o => decide (o.2 / 16 + 1 ≤ 0)) := by funext o; exact decide_eq_decide.2 (by omega)
    rw [e1, e2]; omega
  | n + 1 => by
    show pS (stp L) (n + 1) + stp L (n + 1) = _
    rw [pS_stp L n, cP_eq (fun o => o.1 / 16), cP_eq (fun o => o.2 / 16 + 1)]
    unfold stp
    omega
theorem tch_eq {L : List (Nat × Nat)} (h : ∀ o ∈ L, o.1 ≤ o.2) (n : Nat) : pS (stp L) (n + 1) = ((L.countP (tchB n) : Nat) : Int) := by
  rw [pS_stp]
  have : L.countP (fun o => decide (o.1 / 16 ≤ n)) = L.countP (tchB n) + L.countP (fun o => decide (o.2 / 16 + 1 ≤ n)) := by
    induction L with
    | nil => rfl
    | cons a L ih =>
      rw [List.countP_cons, List.countP_cons, List.countP_cons, ih (fun o ho => h o (List.mem_cons_of_mem _ ho))]
      have ha := h a (List.mem_cons_self)
      have hd : a.1 / 16 ≤ a.2 / 16 := Nat.div_le_div_right ha
      unfold tchB
      by_cases h1 : a.1 / 16 ≤ n
      · by_cases h2 : n ≤ a.2 / 16
        · simp [h1, h2, show ¬ a.2 / 16 + 1 ≤ n by omega]; omega
        · simp [h1, h2, show a.2 / 16 + 1 ≤ n by omega]; omega
      · simp [h1, show ¬ a.2 / 16 + 1 ≤ n by omega]
  omega
theorem obsL_le (E : ES) : ∀ g, ∀ o ∈ obsL E g, o.1 ≤ o.2
  | 0, o, ho => by cases ho
  | g + 1, o, ho => by
    unfold obsL at ho
    rcases List.mem_append.1 ho with ho | ho
    · exact obsL_le E g o ho
    · split at ho
      · cases ho
      · split at ho
        · rw [List.mem_singleton] at ho
          subst ho
          show 2 * g ≤ 2 * g + szN E.W g
          omega
        · cases ho
theorem stp_b (L : List (Nat × Nat)) (i : Nat) : -((L.length : Nat) : Int) ≤ stp L i ∧ stp L i ≤ ((L.length : Nat) : Int) := by
  have h1 := List.countP_le_length (p := fun o : Nat × Nat => decide (o.1 / 16 = i)) (l := L)
  have h2 := List.countP_le_length (p := fun o : Nat × Nat => decide (o.2 / 16 + 1 = i)) (l := L)
  unfold stp
  omega
theorem stp_add (L : List (Nat × Nat)) (o : Nat × Nat) (hne : o.1 / 16 ≠ o.2 / 16 + 1) : stp (L ++ [o]) = updI (updI (stp L) (o.1 / 16) (stp L (o.1 / 16) + 1)) (o.2 / 16 + 1) (stp L (o.2 / 16 + 1) - 1) := by
  funext i
  unfold updI stp
  rw [List.countP_append, List.countP_append, List.countP_singleton, List.countP_singleton]
  by_cases h1 : i = o.2 / 16 + 1
  · rw [if_pos h1]
    subst h1
    simp [hne]; omega
  · rw [if_neg h1]
    by_cases h2 : i = o.1 / 16
    · rw [if_pos h2]
      subst h2
      simp [show ¬ o.2 / 16 + 1 = o.1 / 16 by omega]; omega
    · rw [if_neg h2]
      simp [show ¬ o.2 / 16 + 1 = i by omega, show ¬ o.1 / 16 = i by omega]
section
variable {l : AL} {S : AS} {w w' w0 : World} {p q : Nat} {cs : List Value} {o : Ob}
theorem OwV.cong {B : World → Prop} {gs gs' : List (Nat × TypeId × List Value)} (h : OwV B w0 gs w) (e : gs = gs') : OwV B w0 gs' w := by rw [← e]; exact h
/-- AuditLines' records. -/
def liG (l : AL) (gst rr bx : Nat) (f : Nat → Int) : List (Nat × TypeId × List Value) := [(gst, 251, stL f), (rr, 38, [.int .i64 0, .int .i64 0, .int .i64 0]), (bx, 24, [.pointer (some ⟨l.a, 0, none⟩)])]
set_option maxRecDepth 100000 in
set_option maxHeartbeats 8000000 in
theorem auditLines1X {gst rr bx : Nat} {f : Nat → Int} (H2 : Hid (OwV (AM l S) w0 [(gst, 251, stL f), (rr, 38, [.int .i64 0, .int .i64 0, .int .i64 0]), (bx, 24, [.pointer (some ⟨l.a, 0, none⟩)])] w)) (k : Nat) (v : Int) (hk : k < 16384) (hf : ∀ i, -(k : Int) ≤ f i ∧ f i ≤ (k : Int)) : Calls Tryz.prog 265 #[.int .i64 (k : Int), .int .u64 v, .pointer (some ⟨bx, 0, none⟩), .pointer (some ⟨gst, 0, none⟩)] w (fun e w' => e = .returned (.bool true) ∧ OwV (AM l S) w0 (liG l gst rr bx (if opC S k = 0 then updI (updI f (2 * k / 16) (f (2 * k / 16) + 1)) ((2 * k + szN S.W k) / 16 + 1) (f ((2 * k + szN S.W k) / 16 + 1) - 1) else f)) w') := by
  have I0 := hid info_ob
  have k2 : w.cell? ⟨bx, 0, none⟩ = some (.pointer (some ⟨l.a, 0, none⟩)) := H2.out.cell (k := 2) rfl 0
  have HO := hid (openGranuleZ H2.out.b k hk)
  have Hlen := hid (opL_len l S k)
  have Hone := hid (opL_one l S k)
  have HOk := hid (fun (hc : opC S k = 0) => (opC_ok hk (H2.out.b.wl _) hc).2.1)
  have Hf := hid hf
  clear hf
  obtain ⟨F, hF⟩ : ∃ F, (if opC S k = 0 then updI (updI f (2 * k / 16) (f (2 * k / 16) + 1)) ((2 * k + szN S.W k) / 16 + 1) (f ((2 * k + szN S.W k) / 16 + 1) - 1) else f) = F := ⟨_, rfl⟩
  rw [hF]
  have HF := hid hF
  clear hF
  go_enter Tryz.func265, Tryz.ntmps265
  go_wp2_with fail
  refine HO.out.mono ?_
  rintro e w3 ⟨rfl, hb3⟩
  have H3 := hid (H2.out.below hb3)
  clear hb3 H2 HO k2
  obtain ⟨q, hq⟩ : ∃ q, w3.heap.size = q := ⟨_, rfl⟩
  have HN : Hid (Blk (w3.alloc (.cells #[.pointer none, .int .i64 0, .int .u64 0, .int .i64 0, .int .i64 0] 61)) q 61 ob0) := hid (by
    have kk := Blk.new w3 ob0 61
    rw [hq] at kk
    exact kk)
  (try simp only [hq])
  go_upto_region 2 with (refine wpList_store_blk rfl 61 _ _ rfl q rfl (opL l S k) rfl HN.out (by rw [Hlen.out]; rfl) (by rw [Hlen.out]; exact I0.out) Hone.out ?_; intro w4 HB4 HU4)
  by_cases hc : opC S k = 0
  rotate_left
  · as_aux_lemma =>
    have H4 := hid ((H3.out.newSet (cs := ob0) hq HU4.out HB4.out).drop)
    have dc : (opC S k == 0) = false := by simpa using hc
    have dc2 : (opC S k != 0) = true := by simp [bne, dc]
    have HR : Hid (F = f) := hid (by rw [← HF.out, if_neg hc])
    clear HF
    generalize opC S k = c at *
    clear hc HB4 HU4 H3 HN hq
    go_wp2
    go_ret
    exact ⟨rfl, by rw [HR.out]; exact H4.out⟩
  as_aux_lemma =>
  have hob := HOk.out hc
  have e1 : opL l S k = obL l (opO S k) := by unfold opL; rw [if_pos hc]
  rw [e1] at HB4
  have HR : Hid (F = updI (updI f (loL (opO S k).k) (f (loL (opO S k).k) + 1)) (hiL (opO S k).k (1 + (opO S k).sz) + 1) (f (hiL (opO S k).k (1 + (opO S k).sz) + 1) - 1)) := hid (by
    rw [← HF.out, if_pos hc, show 2 * k / 16 = loL (opO S k).k from rfl, show (2 * k + szN S.W k) / 16 = hiL (opO S k).k (1 + (opO S k).sz) by unfold hiL; show _ = (2 * k + (1 + szN S.W k) - 1) / 16; rw [show 2 * k + (1 + szN S.W k) - 1 = 2 * k + szN S.W k by omega]])
  rw [hc]
  clear HF
  have H4 : Hid (OwV (AM l S) w0 [(q, 61, obL l (opO S k)), (gst, 251, stL f), (rr, 38, [.int .i64 0, .int .i64 0, .int .i64 0]), (bx, 24, [.pointer (some ⟨l.a, 0, none⟩)])] w4) := hid (H3.out.newSet (cs := ob0) hq HU4.out HB4.out)
  clear HB4 HU4 H3 HN hq HOk Hlen Hone e1 hc
  have HEx := hid (fun wz (hz : AM l S wz) => obExtentZ hz hob)
  have hE : EOk (opO S k).k (1 + (opO S k).sz) := ⟨by omega, by have := hob.k; omega, hob.ev⟩
  have HFl := hid (fun wz => extFirst_nat hE wz)
  have HLl := hid (fun wz => extLast_nat hE wz)
  obtain ⟨hl1, hl2⟩ := hE.lo
  clear hE hob
  generalize loL (opO S k).k = lo at *
  generalize hiL (opO S k).k (1 + (opO S k).sz) = la at *
  obtain ⟨nn, hnn⟩ : ∃ nn, 1 + (opO S k).sz = nn := ⟨_, rfl⟩
  simp only [hnn] at HEx HFl HLl
  clear hnn
  generalize hoo : opO S k = o at *
  clear hoo
  have q0 := H4.out.cell (k := 0) rfl 0
  have q1 := H4.out.cell (k := 0) rfl 1
  have q2 := H4.out.cell (k := 0) rfl 2
  have q3 := H4.out.cell (k := 0) rfl 3
  have q4 := H4.out.cell (k := 0) rfl 4
  simp only [obL, List.getElem?_cons_zero, List.getElem?_cons_succ] at q0 q1 q2 q3 q4
  go_wp2_with fail
  refine (HEx.out _ H4.out.b).mono ?_
  rintro e w5 ⟨rfl, hb5⟩
  have H5 := hid (H4.out.below hb5)
  clear hb5 H4 q0 q1 q2 q3 q4 HEx
  obtain ⟨r, hr⟩ : ∃ r, w5.heap.size = r := ⟨_, rfl⟩
  have H6 : Hid (OwV (AM l S) w0 [(r, 84, [.int .i64 (o.k : Int), .int .i64 (nn : Int)]), (q, 61, obL l o), (gst, 251, stL f), (rr, 38, [.int .i64 0, .int .i64 0, .int .i64 0]), (bx, 24, [.pointer (some ⟨l.a, 0, none⟩)])] (w5.alloc (.cells #[.int .i64 (o.k : Int), .int .i64 (nn : Int)] 84))) := hid (H5.out.new hr 84 [.int .i64 (o.k : Int), .int .i64 (nn : Int)])
  go_upto_region 4 with fail
  (try simp only [hr])
  generalize hw6 : w5.alloc _ = w6 at H6 ⊢
  clear hw6 hr H5
  have q5 : _ = some (Value.int .i64 (o.k : Int)) := H6.out.cell (k := 0) rfl 0
  have q6 : _ = some (Value.int .i64 (nn : Int)) := H6.out.cell (k := 0) rfl 1
  go_wp2_with fail
  refine (HFl.out w6).mono ?_
  rintro e w7 ⟨rfl, hb7⟩
  have H7 := hid (H6.out.below hb7)
  clear hb7 H6 q5 q6 HFl
  obtain ⟨x, hx⟩ : ∃ x, f lo = x := ⟨_, rfl⟩
  have hxb := Hf.out lo
  rw [hx] at hxb HR
  have cx_ : w7.cell? ⟨gst, lo, none⟩ = some (.int .i64 x) := by
    have := H7.out.cell (k := 2) rfl lo
    rw [stL_get f (by omega), hx] at this
    exact this
  have zx_ := H7.out.frozen (k := 2) rfl lo
  clear hx
  go_upto_region 5 with fail
  have HP_ := hid (fun y => H7.out.put (k := 2) rfl lo y)
  generalize hz_ : World.setCell _ (⟨gst, lo, none⟩ : Addr) _ = w8
  have H8 : Hid (OwV (AM l S) w0 [(r, 84, [.int .i64 (o.k : Int), .int .i64 (nn : Int)]), (q, 61, obL l o), (gst, 251, stL (updI f lo (x + 1))), (rr, 38, [.int .i64 0, .int .i64 0, .int .i64 0]), (bx, 24, [.pointer (some ⟨l.a, 0, none⟩)])] w8) := hid (by rw [← hz_]; exact (HP_.out _).cong (by rw [← stL_set f (show lo < 2049 by omega)]; rfl))
  clear hz_ HP_ cx_ zx_ H7
  have q5 : _ = some (Value.int .i64 (o.k : Int)) := H8.out.cell (k := 0) rfl 0
  have q6 : _ = some (Value.int .i64 (nn : Int)) := H8.out.cell (k := 0) rfl 1
  go_wp2_with fail
  refine (HLl.out w8).mono ?_
  rintro e w9 ⟨rfl, hb9⟩
  have H9 := hid (H8.out.below hb9)
  clear hb9 H8 q5 q6 HLl
  obtain ⟨z, hz⟩ : ∃ z, f (la + 1) = z := ⟨_, rfl⟩
  have hzb := Hf.out (la + 1)
  rw [hz] at hzb HR
  have cx_ : w9.cell? ⟨gst, la + 1, none⟩ = some (.int .i64 z) := by
    have := H9.out.cell (k := 2) rfl (la + 1)
    rw [stL_get _ (by omega), show updI f lo (x + 1) (la + 1) = z by unfold updI; rw [if_neg (by omega)]; exact hz] at this
    exact this
  have zx_ := H9.out.frozen (k := 2) rfl (la + 1)
  clear hz
  go_wp2
  go_ret
  refine ⟨rfl, ?_⟩
  rw [HR.out]
  have hs := H9.out.put (k := 2) rfl (la + 1) (.int .i64 (z - 1))
  rw [stL_set (updI f lo (x + 1)) (show la + 1 < 2049 by omega)] at hs
  exact hs.drop.drop
/-- What a visit to all counted granules keeps. -/
def LiI (l : AL) (S : AS) (w0 : World) (gst rr bx : Nat) (q : Option Nat) (w : World) : Prop := ∃ n, q = some n ∧ n ≤ 16384 ∧ OwV (AM l S) w0 (liG l gst rr bx (stp (obsL (abE S) n))) w
theorem linesEach {gst rr bx : Nat} (h : OwV (AM l S) w0 (liG l gst rr bx (stp [])) w) : Calls Tryz.prog 230 #[.pointer (some ⟨l.tc, 0, none⟩), .int .i64 ((0 : Nat) : Int), .int .i64 ((16384 : Nat) : Int), .func (.func 265) #[] #[.pointer (some ⟨bx, 0, none⟩), .pointer (some ⟨gst, 0, none⟩)]] w fun e w' => e = .returned (.bool true) ∧ OwV (AM l S) w0 (liG l gst rr bx (stp (obsL (abE S) 16384))) w' := by
  refine (TB.eachX (n := 16384) (wd := 2) (per := 32) (len := 512) (X := S.C) (b := l.bc) (t := l.tc) (w := w) 265 #[.pointer (some ⟨bx, 0, none⟩), .pointer (some ⟨gst, 0, none⟩)] (LiI l S w0 gst rr bx) 0 16384 ⟨0, rfl, Nat.zero_le _, h⟩ (fun q w1 ⟨_, _, _, h1⟩ => h1.b.tc) (fun q w1 w2 ⟨n, h1, h2, h3⟩ hb => ⟨n, h1, h2, h3.below hb⟩) (by omega) (by omega) ?_ ?_ ent_al).mono ?_
  · rintro k w1 k1 k2 k3 ⟨n, hn, h1, h2⟩
    cases hn
    have hl := (obsL_ok (abE S) k h1).1
    refine (auditLines1X (hid h2) k _ k2 (fun i => by have := stp_b (obsL (abE S) k) i; omega)).mono ?_
    rintro e w' ⟨he, h3⟩
    refine ⟨true, he, k + 1, rfl, k2, h3.cong ?_⟩
    congr 1
    show _ = stp (obsL (abE S) k ++ (if (abE S).C k = 0 then [] else if opW (abE S).W k = 0 then [(2 * k, 2 * k + szN (abE S).W k)] else []))
    rw [if_neg (show ¬ (abE S).C k = 0 from k3)]
    by_cases hc : opC S k = 0
    · rw [if_pos hc, if_pos (show opW (abE S).W k = 0 from hc), stp_add _ _ (by show 2 * k / 16 ≠ (2 * k + szN (abE S).W k) / 16 + 1; omega)]
      rfl
    · rw [if_neg hc, if_neg (show ¬ opW (abE S).W k = 0 from hc), List.append_nil]
  · rintro q w1 q1 q2 q3 ⟨n, hn, h1, h2⟩
    cases hn
    refine ⟨q + 1, rfl, q2, h2.cong ?_⟩
    congr 1
    show _ = stp (obsL (abE S) q ++ (if (abE S).C q = 0 then [] else _))
    rw [if_pos (show (abE S).C q = 0 from q3), List.append_nil]
  · rintro e w' ⟨he, q, hq, n, hn, h1, h2⟩
    rcases hq with rfl | rfl
    · cases hn
    · cases hn
      exact ⟨he, h2⟩
end
end Go.Proofs.Qxb6500887aGreat
