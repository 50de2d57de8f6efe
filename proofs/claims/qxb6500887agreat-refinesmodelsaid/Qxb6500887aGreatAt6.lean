/- AuditLines, exactly (written by tools/mk_at6.py). -/
import Derived.Test.Qxb6500887aGreatAt5
namespace Go.Proofs.Qxb6500887aGreat
open Go.RowKit
set_option linter.unusedSimpArgs false
set_option linter.unusedVariables false
def li0 (E : ES) (i : Nat) : Bool := E.T i == tchN E i
def li1 (E : ES) (i : Nat) : Bool := decide (tchN E i < E.T i)
def li2 (E : ES) (i : Nat) : Bool := decide (E.T i < tchN E i)
theorem li_step (P : Nat → Bool) (n : Nat) : cnt P (n + 1) = cnt P n + (P n).toNat := rfl
section
variable {l : AL} {S : AS} {w w' w0 : World}
theorem tchN_le (E : ES) (i : Nat) : tchN E i ≤ 16384 := Nat.le_trans List.countP_le_length (obsL_ok E 16384 (Nat.le_refl _)).1
set_option maxRecDepth 100000 in
set_option maxHeartbeats 8000000 in
theorem auditLinesX (h : AM l S w) : Calls Tryz.prog 239 #[.pointer (some ⟨l.a, 0, none⟩)] w fun e w' => ∃ xs : List Int, xs.length = 3 ∧ e = .returned (.agg (xs.map inV).toArray) ∧ Hid (xs = nI (liL (abE S)) ∧ Below w.heap.size w w') := by
  obtain ⟨bx, hbx⟩ : ∃ r, w.heap.size = r := ⟨_, rfl⟩
  obtain ⟨rr, hrr⟩ : ∃ r, bx + 1 = r := ⟨_, rfl⟩
  have H0 : Hid (OwV (AM l S) w [(rr, 38, [.int .i64 0, .int .i64 0, .int .i64 0]), (bx, 24, [.pointer (some ⟨l.a, 0, none⟩)])] ((w.alloc (.cells #[.pointer (some ⟨l.a, 0, none⟩)] 24)).alloc (.cells #[.int .i64 0, .int .i64 0, .int .i64 0] 38))) := hid (((OwV.start h AM.stays).new hbx 24 [.pointer (some ⟨l.a, 0, none⟩)]).new (by rw [World.size_alloc]; omega) 38 [.int .i64 0, .int .i64 0, .int .i64 0])
  clear h
  have en1 : ∀ args w, (callFunc 265 args).run Tryz.prog w = .ok (.enter 265 args) w := ent_al
  go_enter Tryz.func239, Tryz.ntmps239
  go_upto_region 1 with fail
  (try simp only [World.size_alloc, hbx, hrr])
  generalize hw1 : World.alloc (w.alloc _) _ = w1 at H0 ⊢
  clear hw1 hbx hrr
  obtain ⟨gst, hgst⟩ : ∃ u, w1.heap.size = u := ⟨_, rfl⟩
  have hz := zero_2049
  have hzl : z2049.length = 2049 := by unfold z2049; simp
  have H1 : Hid (OwV (AM l S) w (liG l gst rr bx (stp [])) (w1.alloc (.cells z2049.toArray 251))) := hid (by
    have := H0.out.new hgst 251 z2049
    have e : stL (stp []) = z2049 := stL_zero
    unfold liG
    rw [e]
    exact this)
  generalize z2049 = Z at hz hzl H1
  go_upto_region 2 with fail
  (try simp only [hgst])
  generalize hw2 : w1.alloc _ = w2 at H1 ⊢
  clear hw2 hgst H0 hz hzl
  have k1 := H1.out.b.cells.2.1
  have k2 : w2.cell? ⟨bx, 0, none⟩ = some (.pointer (some ⟨l.a, 0, none⟩)) := H1.out.cell (k := 2) rfl 0
  have HE := hid (linesEach H1.out)
  have HF0 : Hid (∀ n, pS (stp (obsL (abE S) 16384)) (n + 1) = ((tchN (abE S) n : Nat) : Int)) := hid (fun n => tch_eq (obsL_le (abE S) 16384) n)
  generalize stp (obsL (abE S) 16384) = f at HE HF0
  go_wp2_with fail
  refine HE.out.mono ?_
  rintro e w3 ⟨rfl, h3⟩
  have H3 := hid h3
  clear h3 H1 k1 k2 HE
  obtain ⟨gr, hgr⟩ : ∃ u, w3.heap.size = u := ⟨_, rfl⟩
  have H4 : Hid (OwV (AM l S) w [(gr, 38, [.int .i64 ((0 : Nat) : Int), .int .i64 ((0 : Nat) : Int), .int .i64 ((0 : Nat) : Int)]), (gst, 251, stL f), (rr, 38, [.int .i64 0, .int .i64 0, .int .i64 0]), (bx, 24, [.pointer (some ⟨l.a, 0, none⟩)])] (w3.alloc (.cells #[.int .i64 0, .int .i64 0, .int .i64 0] 38))) := hid (H3.out.new hgr 38 [.int .i64 0, .int .i64 0, .int .i64 0])
  go_upto_region 4 with fail
  (try simp only [hgr])
  generalize hw4 : w3.alloc _ = w4 at H4 ⊢
  clear hw4 hgr H3
  go_upto_region 6 with fail
  go_loopw [5, 6] (fun t u wr => ∃ (b x0 x1 x2 : Nat) (x : Int), u = .int .i64 (b : Int) ∧ t = .int .i64 x ∧ b ≤ 2048 ∧ (x0 ≤ b ∧ x1 ≤ b ∧ x2 ≤ b ∧ 0 ≤ x ∧ x ≤ 16384) ∧ Hid (x = pS f b) ∧ Hid (x0 = cnt (li0 (abE S)) b ∧ x1 = cnt (li1 (abE S)) b ∧ x2 = cnt (li2 (abE S)) b) ∧ Hid (OwV (AM l S) w [(gr, 38, [.int .i64 (x0 : Int), .int .i64 (x1 : Int), .int .i64 (x2 : Int)]), (gst, 251, stL f), (rr, 38, [.int .i64 0, .int .i64 0, .int .i64 0]), (bx, 24, [.pointer (some ⟨l.a, 0, none⟩)])] wr)) (fun _ u _ => 2048 - (intOf u).toNat)
  case atStart => exact ⟨0, 0, 0, 0, 0, rfl, rfl, by omega, by omega, hid rfl, hid ⟨rfl, rfl, rfl⟩, H4⟩
  case round =>
  clear H4
  obtain ⟨b, x0, x1, x2, x, rfl, rfl, hb, hxb, HZ0, HX, HK⟩ := hrel
  by_cases hbn : b < 2048
  rotate_left
  · as_aux_lemma =>
    have dq : decide ((b : Int) < 2048) = false := decide_eq_false (by omega)
    have dq' : decide (b < 2048) = false := decide_eq_false (by omega)
    have eb : b = 2048 := by omega
    go_upto_region 15 with fail
    obtain ⟨cs_, hcs⟩ : ∃ cs : List Value, (nI (liL (abE S))).map inV = cs := ⟨_, rfl⟩
    have Hx : Hid (Blk wr gr 38 cs_) := hid (by
      rw [← hcs]
      have := HK.out.blk (k := 0) rfl
      obtain ⟨e0, e1, e2⟩ := HX.out
      rw [e0, e1, e2, eb] at this
      exact this)
    have Hy := hid (HK.out.blk (k := 2) rfl)
    have Hl : Hid (cs_.length = 3) := hid (by rw [← hcs]; rfl)
    have Hone : Hid (∀ u ∈ cs_, u.oneCell' = true) := hid (by rw [← hcs]; exact inV_one _)
    have Hcs := hid hcs
    clear hcs eb
    go_wp2_with (first | (refine wpList_load_blk rfl 38 _ rfl gr rfl cs_ Hx.out _ Tryz.underlying38 rfl (by rw [Hl.out]; exact info_lr) ?_) | (refine wpList_store_blk rfl 38 _ _ rfl rr rfl cs_ rfl Hy.out (by rw [Hl.out]; rfl) (by rw [Hl.out]; exact info_lr) Hone.out ?_; intro w9 HB9 HU9))
    refine bodyPost_ret (results_blk (cs := cs_) Tryz.results239 rfl (by rw [Hl.out]; exact agg_lr) HB9.out) rfl ?_
    exact ⟨nI (liL (abE S)), rfl, by rw [Hcs.out], hid ⟨rfl, HK.out.out (k := 2) rfl HU9.out⟩⟩
  as_aux_lemma =>
  have dq : decide ((b : Int) < 2048) = true := decide_eq_true (by omega)
  have dq' : decide (b < 2048) = true := decide_eq_true (by omega)
  have k1 := HK.out.b.cells.2.2.2.2.1
  have k2 : wr.cell? ⟨bx, 0, none⟩ = some (.pointer (some ⟨l.a, 0, none⟩)) := HK.out.cell (k := 3) rfl 0
  obtain ⟨y, hy⟩ : ∃ y, f b = y := ⟨_, rfl⟩
  have cy : wr.cell? ⟨gst, b, none⟩ = some (.int .i64 y) := by
    have := HK.out.cell (k := 1) rfl b
    rw [stL_get f (by omega), hy] at this
    exact this
  have HG := hid (HK.out.b.tt.get b (by omega))
  have hlt := eN_lt 4 16 S.T b
  have hzt := tchN_le (abE S) b
  obtain ⟨t, ht⟩ : ∃ t, tchN (abE S) b = t := ⟨_, rfl⟩
  have HZ1 : Hid ((t : Int) = pS f (b + 1)) := hid (by rw [HF0.out b, ht])
  have hxy : x + y = (t : Int) := by
    rw [HZ1.out, HZ0.out, ← hy]; rfl
  rw [ht] at hzt
  obtain ⟨v, hve⟩ : ∃ v, eN 4 16 S.T b = v := ⟨_, rfl⟩
  have HT : Hid (∀ P : Nat → Nat → Bool, P ((abE S).T b) (tchN (abE S) b) = P v t) := hid (fun P => by rw [ht, show (abE S).T b = v from hve])
  rw [hve] at HG hlt
  have hv : v < 16 := hlt
  clear hy ht hve
  go_wp2_with fail
  refine HG.out.mono ?_
  rintro e w5 ⟨rfl, hd5⟩
  have H5 := hid (HK.out.below (hd5.below _))
  clear hd5 HG HK k1 k2 cy hlt HZ0
  clear hxy
  by_cases h1 : v = t
  · as_aux_lemma =>
    have d1 : ((v : Int) == (t : Int)) = true := by simp [h1]
    have d1' : (v == t) = true := by simp [h1]
    have cx_ : w5.cell? ⟨gr, 0, none⟩ = some (.int .i64 (x0 : Int)) := H5.out.cell (k := 0) rfl 0
    have zx_ := H5.out.frozen (k := 0) rfl 0
    obtain ⟨n1, hn1⟩ : ∃ n1, x0 + 1 = n1 := ⟨_, rfl⟩
    have en1 : (x0 : Int) + 1 = (n1 : Int) := by omega
    have hn1b : n1 ≤ b + 1 := by omega
    have HX2 : Hid (n1 = cnt (li0 (abE S)) (b + 1) ∧ x1 = cnt (li1 (abE S)) (b + 1) ∧ x2 = cnt (li2 (abE S)) (b + 1)) := hid (by
      obtain ⟨e0, e1, e2⟩ := HX.out
      have b0 : li0 (abE S) b = true := (HT.out (fun p q => p == q)).trans (by simp; omega)
      have b1 : li1 (abE S) b = false := (HT.out (fun p q => decide (q < p))).trans (by simp; omega)
      have b2 : li2 (abE S) b = false := (HT.out (fun p q => decide (p < q))).trans (by simp; omega)
      rw [li_step, li_step, li_step, b0, b1, b2, ← e0, ← e1, ← e2]
      exact ⟨hn1.symm, rfl, rfl⟩)
    clear hn1
    go_upto_region 7 with fail
    have HP_ := hid (fun y => H5.out.put (k := 0) rfl 0 y)
    generalize hz_ : World.setCell _ (⟨gr, 0, none⟩ : Addr) _ = w_H6
    have H6 : Hid (OwV (AM l S) w [(gr, 38, [.int .i64 (n1 : Int), .int .i64 (x1 : Int), .int .i64 (x2 : Int)]), (gst, 251, stL f), (rr, 38, [.int .i64 0, .int .i64 0, .int .i64 0]), (bx, 24, [.pointer (some ⟨l.a, 0, none⟩)])] w_H6) := hid (by rw [← hz_]; exact HP_.out _)
    clear hz_ HP_ cx_ zx_ H5 HX HT
    go_wp2
    exact ⟨⟨b + 1, n1, x1, x2, (t : Int), by go_num, rfl, by omega, by omega, HZ1, HX2, H6⟩, by simp [intOf]; omega⟩
  have d1 : ((v : Int) == (t : Int)) = false := by simp; omega
  have d1' : (v == t) = false := by simpa using h1
  by_cases h2 : t < v
  · as_aux_lemma =>
    have d2 : decide ((t : Int) < (v : Int)) = true := decide_eq_true (by omega)
    have d2' : decide (t < v) = true := decide_eq_true h2
    have cx_ : w5.cell? ⟨gr, 1, none⟩ = some (.int .i64 (x1 : Int)) := H5.out.cell (k := 0) rfl 1
    have zx_ := H5.out.frozen (k := 0) rfl 1
    obtain ⟨n1, hn1⟩ : ∃ n1, x1 + 1 = n1 := ⟨_, rfl⟩
    have en1 : (x1 : Int) + 1 = (n1 : Int) := by omega
    have hn1b : n1 ≤ b + 1 := by omega
    have HX2 : Hid (x0 = cnt (li0 (abE S)) (b + 1) ∧ n1 = cnt (li1 (abE S)) (b + 1) ∧ x2 = cnt (li2 (abE S)) (b + 1)) := hid (by
      obtain ⟨e0, e1, e2⟩ := HX.out
      have b0 : li0 (abE S) b = false := (HT.out (fun p q => p == q)).trans (by simp; omega)
      have b1 : li1 (abE S) b = true := (HT.out (fun p q => decide (q < p))).trans (by simp; omega)
      have b2 : li2 (abE S) b = false := (HT.out (fun p q => decide (p < q))).trans (by simp; omega)
      rw [li_step, li_step, li_step, b0, b1, b2, ← e0, ← e1, ← e2]
      exact ⟨rfl, hn1.symm, rfl⟩)
    clear hn1
    go_upto_region 7 with fail
    have HP_ := hid (fun y => H5.out.put (k := 0) rfl 1 y)
    generalize hz_ : World.setCell _ (⟨gr, 1, none⟩ : Addr) _ = w_H6
    have H6 : Hid (OwV (AM l S) w [(gr, 38, [.int .i64 (x0 : Int), .int .i64 (n1 : Int), .int .i64 (x2 : Int)]), (gst, 251, stL f), (rr, 38, [.int .i64 0, .int .i64 0, .int .i64 0]), (bx, 24, [.pointer (some ⟨l.a, 0, none⟩)])] w_H6) := hid (by rw [← hz_]; exact HP_.out _)
    clear hz_ HP_ cx_ zx_ H5 HX HT
    go_wp2
    exact ⟨⟨b + 1, x0, n1, x2, (t : Int), by go_num, rfl, by omega, by omega, HZ1, HX2, H6⟩, by simp [intOf]; omega⟩
  · as_aux_lemma =>
    have d2 : decide ((t : Int) < (v : Int)) = false := decide_eq_false (by omega)
    have d2' : decide (t < v) = false := decide_eq_false h2
    have cx_ : w5.cell? ⟨gr, 2, none⟩ = some (.int .i64 (x2 : Int)) := H5.out.cell (k := 0) rfl 2
    have zx_ := H5.out.frozen (k := 0) rfl 2
    obtain ⟨n1, hn1⟩ : ∃ n1, x2 + 1 = n1 := ⟨_, rfl⟩
    have en1 : (x2 : Int) + 1 = (n1 : Int) := by omega
    have hn1b : n1 ≤ b + 1 := by omega
    have HX2 : Hid (x0 = cnt (li0 (abE S)) (b + 1) ∧ x1 = cnt (li1 (abE S)) (b + 1) ∧ n1 = cnt (li2 (abE S)) (b + 1)) := hid (by
      obtain ⟨e0, e1, e2⟩ := HX.out
      have b0 : li0 (abE S) b = false := (HT.out (fun p q => p == q)).trans (by simp; omega)
      have b1 : li1 (abE S) b = false := (HT.out (fun p q => decide (q < p))).trans (by simp; omega)
      have b2 : li2 (abE S) b = true := (HT.out (fun p q => decide (p < q))).trans (by simp; omega)
      rw [li_step, li_step, li_step, b0, b1, b2, ← e0, ← e1, ← e2]
      exact ⟨rfl, rfl, hn1.symm⟩)
    clear hn1
    go_upto_region 7 with fail
    have HP_ := hid (fun y => H5.out.put (k := 0) rfl 2 y)
    generalize hz_ : World.setCell _ (⟨gr, 2, none⟩ : Addr) _ = w_H6
    have H6 : Hid (OwV (AM l S) w [(gr, 38, [.int .i64 (x0 : Int), .int .i64 (x1 : Int), .int .i64 (n1 : Int)]), (gst, 251, stL f), (rr, 38, [.int .i64 0, .int .i64 0, .int .i64 0]), (bx, 24, [.pointer (some ⟨l.a, 0, none⟩)])] w_H6) := hid (by rw [← hz_]; exact HP_.out _)
    clear hz_ HP_ cx_ zx_ H5 HX HT
    go_wp2
    exact ⟨⟨b + 1, x0, x1, n1, (t : Int), by go_num, rfl, by omega, by omega, HZ1, HX2, H6⟩, by simp [intOf]; omega⟩
end
end Go.Proofs.Qxb6500887aGreat
