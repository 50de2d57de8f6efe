/- Audit, exactly. -/
import Derived.Test.Qxb6500887aGreatAt2
namespace Go.Proofs.Qxb6500887aGreat
open Go.RowKit
set_option linter.unusedSimpArgs false
set_option linter.unusedVariables false
section
variable {l : AL} {S : AS} {w w' w0 : World}
/-- What a visit to all counted granules keeps. -/
def AuI (l : AL) (S : AS) (w0 : World) (ge gr rr bx : Nat) (q : Option Nat) (w : World) : Prop := ∃ n, q = some n ∧ n ≤ 16384 ∧ OwV (AM l S) w0 (auG l ge gr rr bx (auS (abE S) n)) w
theorem auS_skip {S : AS} {q : Nat} (h : eN 2 32 S.C q = 0) : auS (abE S) (q + 1) = auS (abE S) q := by
  show auStep (abE S) q (auS (abE S) q) = _
  unfold auStep
  rw [if_pos (show (abE S).C q = 0 from h)]
theorem auditEach {ge gr rr bx : Nat} (h : OwV (AM l S) w0 (auG l ge gr rr bx ⟨0, 0, 0, 0, 0, 0⟩) w) : Calls Tryz.prog 230 #[.pointer (some ⟨l.tc, 0, none⟩), .int .i64 ((0 : Nat) : Int), .int .i64 ((16384 : Nat) : Int), .func (.func 263) #[] #[.pointer (some ⟨gr, 0, none⟩), .pointer (some ⟨ge, 0, none⟩), .pointer (some ⟨bx, 0, none⟩)]] w fun e w' => e = .returned (.bool true) ∧ OwV (AM l S) w0 (auG l ge gr rr bx (auS (abE S) 16384)) w' := by
  refine (TB.eachX (n := 16384) (wd := 2) (per := 32) (len := 512) (X := S.C) (b := l.bc) (t := l.tc) (w := w) 263 #[.pointer (some ⟨gr, 0, none⟩), .pointer (some ⟨ge, 0, none⟩), .pointer (some ⟨bx, 0, none⟩)] (AuI l S w0 ge gr rr bx) 0 16384 ⟨0, rfl, Nat.zero_le _, h⟩ (fun q w1 ⟨_, _, _, h1⟩ => h1.b.tc) (fun q w1 w2 ⟨n, h1, h2, h3⟩ hb => ⟨n, h1, h2, h3.below hb⟩) (by omega) (by omega) ?_ ?_ ent_ad).mono ?_
  · rintro k w1 k1 k2 k3 ⟨n, hn, h1, h2⟩
    cases hn
    obtain ⟨b1, b2, b3, b4, b5, b6⟩ := auS_le (abE S) k h1
    refine (audit1X (hid h2) k _ k2 k3 b1 b2 b3 b4 b5 b6).mono ?_
    rintro e w' ⟨he, h3⟩
    exact ⟨true, he, k + 1, rfl, k2, h3⟩
  · rintro q w1 q1 q2 q3 ⟨n, hn, h1, h2⟩
    cases hn
    refine ⟨q + 1, rfl, q2, ?_⟩
    rw [auS_skip q3]
    exact h2
  · rintro e w' ⟨he, q, hq, n, hn, h1, h2⟩
    rcases hq with rfl | rfl
    · cases hn
    · cases hn
      exact ⟨he, h2⟩
set_option maxRecDepth 100000 in
set_option maxHeartbeats 8000000 in
theorem auditX (h : AM l S w) : Calls Tryz.prog 238 #[.pointer (some ⟨l.a, 0, none⟩)] w fun e w' => ∃ xs : List Int, xs.length = 5 ∧ e = .returned (.agg (xs.map inV).toArray) ∧ Hid (xs = nI (auL (abE S)) ∧ Below w.heap.size w w') := by
  obtain ⟨bx, hbx⟩ : ∃ r, w.heap.size = r := ⟨_, rfl⟩
  obtain ⟨rr, hrr⟩ : ∃ r, bx + 1 = r := ⟨_, rfl⟩
  have H0 : Hid (OwV (AM l S) w [(rr, 36, [.int .i64 0, .int .i64 0, .int .i64 0, .int .i64 0, .int .i64 0]), (bx, 24, [.pointer (some ⟨l.a, 0, none⟩)])] ((w.alloc (.cells #[.pointer (some ⟨l.a, 0, none⟩)] 24)).alloc (.cells #[.int .i64 0, .int .i64 0, .int .i64 0, .int .i64 0, .int .i64 0] 36))) := hid (((OwV.start h AM.stays).new hbx 24 [.pointer (some ⟨l.a, 0, none⟩)]).new (by rw [World.size_alloc]; omega) 36 [.int .i64 0, .int .i64 0, .int .i64 0, .int .i64 0, .int .i64 0])
  clear h
  have en1 : ∀ args w, (callFunc 263 args).run Tryz.prog w = .ok (.enter 263 args) w := ent_ad
  go_enter Tryz.func238, Tryz.ntmps238
  go_upto_region 1 with fail
  (try simp only [World.size_alloc, hbx, hrr])
  generalize hw1 : World.alloc (w.alloc _) _ = w1 at H0 ⊢
  clear hw1 hbx hrr
  obtain ⟨gr, hgr⟩ : ∃ u, w1.heap.size = u := ⟨_, rfl⟩
  have H1 : Hid (OwV (AM l S) w [(gr, 36, [.int .i64 0, .int .i64 0, .int .i64 0, .int .i64 0, .int .i64 0]), (rr, 36, [.int .i64 0, .int .i64 0, .int .i64 0, .int .i64 0, .int .i64 0]), (bx, 24, [.pointer (some ⟨l.a, 0, none⟩)])] (w1.alloc (.cells #[.int .i64 0, .int .i64 0, .int .i64 0, .int .i64 0, .int .i64 0] 36))) := hid (H0.out.new hgr 36 [.int .i64 0, .int .i64 0, .int .i64 0, .int .i64 0, .int .i64 0])
  go_upto_region 2 with fail
  (try simp only [hgr])
  generalize hw2 : w1.alloc _ = w2 at H1 ⊢
  clear hw2 hgr H0
  obtain ⟨ge, hge⟩ : ∃ u, w2.heap.size = u := ⟨_, rfl⟩
  have H2 : Hid (OwV (AM l S) w (auG l ge gr rr bx ⟨0, 0, 0, 0, 0, 0⟩) (w2.alloc (.cells #[.int .i64 0] 3))) := hid (H1.out.new hge 3 [.int .i64 0])
  go_upto_region 3 with fail
  (try simp only [hge])
  generalize hw3 : w2.alloc _ = w3 at H2 ⊢
  clear hw3 hge H1
  have k1 := H2.out.b.cells.2.1
  have k2 : w3.cell? ⟨bx, 0, none⟩ = some (.pointer (some ⟨l.a, 0, none⟩)) := H2.out.cell (k := 3) rfl 0
  have HE := hid (auditEach H2.out)
  go_wp2_with fail
  refine HE.out.mono ?_
  rintro e w4 ⟨rfl, h4⟩
  have H4 := hid h4
  clear h4 H2 k1 k2 HE
  obtain ⟨cs_, hcs⟩ : ∃ cs : List Value, (nI (auL (abE S))).map inV = cs := ⟨_, rfl⟩
  have Hx : Hid (Blk w4 gr 36 cs_) := hid (by rw [← hcs]; exact H4.out.blk (k := 1) rfl)
  have Hy := hid (H4.out.blk (k := 2) rfl)
  have Hl : Hid (cs_.length = 5) := hid (by rw [← hcs]; rfl)
  have Hone : Hid (∀ u ∈ cs_, u.oneCell' = true) := hid (by rw [← hcs]; exact inV_one _)
  have Hcs := hid hcs
  clear hcs
  go_wp2_with (first | (refine wpList_load_blk rfl 36 _ rfl gr rfl cs_ Hx.out _ Tryz.underlying36 rfl (by rw [Hl.out]; exact info_rp) ?_) | (refine wpList_store_blk rfl 36 _ _ rfl rr rfl cs_ rfl Hy.out (by rw [Hl.out]; rfl) (by rw [Hl.out]; exact info_rp) Hone.out ?_; intro w9 HB9 HU9))
  refine bodyPost_ret (results_blk (cs := cs_) Tryz.results238 rfl (by rw [Hl.out]; exact agg_rp) HB9.out) rfl ?_
  exact ⟨nI (auL (abE S)), rfl, by rw [Hcs.out], hid ⟨rfl, H4.out.out (k := 2) rfl HU9.out⟩⟩
end
end Go.Proofs.Qxb6500887aGreat
