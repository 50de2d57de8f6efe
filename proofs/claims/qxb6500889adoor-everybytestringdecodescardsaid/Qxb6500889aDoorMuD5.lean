/- Do. -/
import Derived.Test.Qxb6500889aDoorMuD4
namespace Go.Proofs.Qxb6500889aDoor
open Go.RowKit
set_option linter.unusedSimpArgs false
set_option linter.unusedVariables false
section
variable {w w' w'' : World} {ρ ρ' ρ'' : Rl} {L L' : HL} {T : XL} {H H' : HS} {X X' : XS} {q : Nat} {o : OpP} {z : Rz} {wz : World}
def DoD (w : World) (ρ : Rl) (L : HL) (T : XL) (H : HS) (X : XS) (o : OpP) (e : Ending) (w' : World) : Prop := ∃ H' X' z, e = .returned (.agg (rzC z).toArray) ∧ DoS H X o H' X' z ∧ Out w ρ L T H' (doX X' z) w'
theorem op_one (o : OpP) : ∀ v ∈ opC o, v.oneCell' = true := by
  intro v hv
  simp [opC] at hv
  rcases hv with rfl | rfl | rfl | rfl | rfl <;> rfl
theorem info_op : (Tryd.prog.info? 31).map (·.size) = some 5 := by kernel_rfl
theorem Out.trans2 (h : Out w ρ L T H X wz) (k : ∀ ρ' L' T', MM wz ρ' L' T' H X → Out wz ρ' L' T' H' X' w'') : Out w ρ L T H' X' w'' := by
  obtain ⟨ρ', L', T', h1, h2, h3, h4⟩ := h
  obtain ⟨ρ2, L2, T2, k1, k2, k3, k4⟩ := k ρ' L' T' h1
  exact ⟨ρ2, L2, T2, k1, k2.trans h2, k3.trans h3, h4.trans k4⟩
/-- While Do counts: the machine, the answer's block, the local's block. -/
structure DE (w : World) (ρ : Rl) (L : HL) (T : XL) (q r : Nat) (H : HS) (X : XS) (z z2 : Rz) (wz : World) : Prop where
  ex : ∃ ρ' L' T', MM wz ρ' L' T' H X ∧ L'.hB = L.hB ∧ T'.xB = T.xB ∧ Fx ρ w ρ' wz ∧ ρ' q = 0 ∧ ρ' r = 0
  bq : Blk wz q 36 (rzC z)
  br : Blk wz r 36 (rzC z2)
  hq : w.heap.size ≤ q
  qr : q < r
theorem DE.start (h : DB w ρ L T q o H X z wz) : DE w ρ L T (q + 1) wz.heap.size H X z (rzR 0) (wz.alloc (.cells (rzC (rzR 0)).toArray 36)) := by
  obtain ⟨⟨ρ', L', T', h1, h2, h3, h4, h5, h6⟩, h7, h8, h9⟩ := h
  have hb := nbel wz (.cells (rzC (rzR 0)).toArray 36)
  refine ⟨⟨ρ', L', T', h1.below hb, h2, h3, h4.trans (Fx.below hb), h6, ?_⟩, h8.alloc _, Blk.new wz _ _, by omega, h8.lt⟩
  cases hz : ρ' wz.heap.size with
  | zero => rfl
  | succ k => have := h1.hm.dom wz.heap.size (by omega); omega
theorem DE.setR {r : Nat} {z2 z3 : Rz} (h : DE w ρ L T q r H X z z2 wz) (hb : Blk w'' r 36 (rzC z3)) (hu : Upd r wz w'') : DE w ρ L T q r H X z z3 w'' := by
  obtain ⟨⟨ρ', L', T', h1, h2, h3, h4, h5, h6⟩, h7, h8, h9, h10⟩ := h
  exact ⟨⟨ρ', L', T', h1.other hu (.inl h6), h2, h3, h4.fresh hu (by omega), h5, h6⟩, h7.upd hu (by omega), hb, h9, h10⟩
theorem DE.setQ {r : Nat} {z2 z3 : Rz} (h : DE w ρ L T q r H X z z2 wz) (hb : Blk w'' q 36 (rzC z3)) (hu : Upd q wz w'') : DE w ρ L T q r H X z3 z2 w'' := by
  obtain ⟨⟨ρ', L', T', h1, h2, h3, h4, h5, h6⟩, h7, h8, h9, h10⟩ := h
  exact ⟨⟨ρ', L', T', h1.other hu (.inl h5), h2, h3, h4.fresh hu (by omega), h5, h6⟩, hb, h8.upd hu (by omega), h9, h10⟩
theorem DE.run {r : Nat} {z2 : Rz} (h : DE w ρ L T q r H X z z2 wz) (k : ∀ ρ' L' T', MM wz ρ' L' T' H X → T'.xB = T.xB → Out wz ρ' L' T' H' X' w'') : DE w ρ L T q r H' X' z z2 w'' := by
  obtain ⟨⟨ρ', L', T', h1, h2, h3, h4, h5, h6⟩, h7, h8, h9, h10⟩ := h
  obtain ⟨ρ2, L2, T2, k1, k2, k3, k4⟩ := k ρ' L' T' h1 h3
  have e1 := k4.old q h7.lt
  have e2 := k4.old r h8.lt
  exact ⟨⟨ρ2, L2, T2, k1, k2.trans h2, k3.trans h3, h4.trans k4, by rw [e1]; exact h5, by rw [e2]; exact h6⟩, h7.of (k4.blk q h7.lt (by rw [h5]; omega)), h8.of (k4.blk r h8.lt (by rw [h6]; omega)), h9, h10⟩
theorem DE.cells {r : Nat} {z2 : Rz} (h : DE w ρ L T q r H X z z2 wz) : wz.cell? ⟨T.xB, 270, none⟩ = some (.int .u64 (X.st : Int)) ∧ wz.cell? ⟨T.xB, 271, none⟩ = some (.int .u64 (X.rf : Int)) ∧ ∃ cs, Blk wz T.xB 113 cs := by
  obtain ⟨ρ', L', T', h1, h2, h3, _⟩ := h.ex
  have := h1.scells
  have f1 := h1.xb
  rw [h3] at this f1
  exact ⟨this.1, this.2.1, _, f1⟩
theorem DE.st {r : Nat} {z2 : Rz} (h : DE w ρ L T q r H X z z2 wz) (v : Nat) : DE w ρ L T q r H { X with st := v } z z2 (wz.setCell ⟨T.xB, 270, none⟩ (.int .u64 (v : Int))) :=
  h.run (fun ρ' L' T' hM he => by rw [← he]; have := hM.setSt v; exact ⟨ρ', L', T', this.1, rfl, rfl, this.2⟩)
theorem DE.rf {r : Nat} {z2 : Rz} (h : DE w ρ L T q r H X z z2 wz) (v : Nat) : DE w ρ L T q r H { X with rf := v } z z2 (wz.setCell ⟨T.xB, 271, none⟩ (.int .u64 (v : Int))) :=
  h.run (fun ρ' L' T' hM he => by rw [← he]; have := hM.setRf v; exact ⟨ρ', L', T', this.1, rfl, rfl, this.2⟩)
theorem DE.out {r : Nat} {z2 : Rz} (h : DE w ρ L T q r H X z z2 wz) : Out w ρ L T H X wz := by
  obtain ⟨ρ', L', T', h1, h2, h3, h4, _, _⟩ := h.ex
  exact ⟨ρ', L', T', h1, h2, h3, h4⟩
set_option maxRecDepth 1000000 in
set_option maxHeartbeats 4000000 in
theorem Do_walk (h : MM w ρ L T H X) (hi : HI H X) {n : Nat} (hn : XN X n) (hn2 : n < 100000000000) (o : OpP) (hob : OpB o) :
    Calls Tryd.prog 21 #[.pointer (some ⟨T.xB, 0, none⟩), .agg (opC o).toArray] w fun e w' => DoD w ρ L T H X o e w' := by
  have HD0 := hid (DB.start h o)
  obtain ⟨q, hq⟩ : ∃ q, w.heap.size = q := ⟨_, rfl⟩
  rw [hq] at HD0
  have Hi := hid hi
  have Hn := hid hn
  have Hob := hid hob
  have I0 : Hid ((Tryd.prog.info? 36).map (·.size) = some 8) := hid info_rz
  have I1 : Hid ((Tryd.prog.info? 31).map (·.size) = some 5) := hid info_op
  obtain ⟨xB, hxB⟩ : ∃ b, T.xB = b := ⟨_, rfl⟩
  have HxB := hid hxB
  rw [hxB]
  clear h hi hn hob hxB
  go_enter Tryd.func21, Tryd.ntmps21
  go_upto_region 1 with fail
  obtain ⟨w1, hw1⟩ : ∃ w1, (w.alloc (.cells (opC o).toArray 31)).alloc (.cells (rzC (rzR 0)).toArray 36) = w1 := ⟨_, rfl⟩
  have HD : Hid (DB w ρ L T q o H X (rzR 0) w1) := by rw [← hw1]; exact HD0
  rw [show (w.alloc (.cells (opC o).toArray 31)).alloc (.cells #[.int .u8 0, .int .u64 0, .int .u64 0, .int .u64 0, .int .u64 0, .int .u64 0, .int .i64 0, .int .i64 0] 36) = w1 from hw1]
  clear hw1 HD0
  have HC : Hid (Calls Tryd.prog 36 #[.pointer (some ⟨xB, 0, none⟩), .agg (opC o).toArray] w1 fun e w' => ∃ H' X', (∃ z, e = .returned (.agg (rzC z).toArray) ∧ DoS H X o H' X' z) ∧ DB w ρ L T q o H' X' (rzR 0) w') := hid (by
    have := HD.out.run (f := 36) (args := fun x => #[.pointer (some ⟨x, 0, none⟩), .agg (opC o).toArray]) (R := fun e H' X' => ∃ z, e = .returned (.agg (rzC z).toArray) ∧ DoS H X o H' X' z) (fun ρ' L' T' hM => (do_walk hM Hi.out Hn.out hn2 o Hob.out).mono (fun e w' ⟨H', X', z, k1, k2, k3⟩ => ⟨H', X', ⟨z, k1, k2⟩, k3⟩))
    rw [HxB.out] at this
    exact this)
  go_wp2_with (refine wpList_load_blk rfl 31 _ rfl q rfl (opC o) HD.out.bq _ Tryd.underlying31 rfl I1.out ?_)
  refine HC.out.mono ?_
  rintro e w2 ⟨H2, X2, ⟨z, rfl, hs2⟩, hD2⟩
  have HS2 := hid hs2
  have Hx2 : Hid (X2.st ≤ n ∧ X2.rf ≤ n) := hid (by
    have h1 := (hs2.xn Hn.out (by omega)).st
    have h2 := Hn.out.st
    have h3 := Hn.out.rf
    cases hs2.tbs with
    | keep _ _ => exact ⟨h2, h3⟩
    | give x q' _ _ _ _ _ _ => exact ⟨h2, h3⟩
    | safe _ _ _ => exact ⟨h2, h3⟩)
  have HE1 := hid (DE.start hD2)
  obtain ⟨r, hr⟩ : ∃ r, w2.heap.size = r := ⟨_, rfl⟩
  rw [hr] at HE1
  clear hD2 HC HD hs2
  go_upto_region 2 with (refine wpList_store_blk rfl 36 _ _ rfl r rfl (rzC z) rfl HE1.out.br rfl I0.out (rz_one _) ?_; intro w3 HB3 HU3)
  have HE3 := hid (HE1.out.setR HB3.out HU3.out)
  obtain ⟨s1, s2, cs3, s3⟩ := HE3.out.cells
  obtain ⟨st, hst⟩ : ∃ k, X2.st = k := ⟨_, rfl⟩
  obtain ⟨rf, hrf⟩ : ∃ k, X2.rf = k := ⟨_, rfl⟩
  rw [HxB.out] at s1 s2 s3
  rw [hst] at s1
  rw [hrf] at s2
  have f1 := s3.frozen 270
  have f2 := s3.frozen 271
  have b1 : st ≤ 100000000000 := by have := Hx2.out.1; omega
  have b2 : rf ≤ 100000000000 := by have := Hx2.out.2; omega
  have Hst := hid hst
  have Hrf := hid hrf
  clear HE1 HB3 HU3 s3 hst hrf
  go_upto_region 3 with fail
  have HE4 : Hid (DE w ρ L T (q + 1) r H2 { X2 with st := X2.st + 1 } (rzR 0) z (w3.setCell ⟨xB, 270, none⟩ (.int .u64 ((st : Int) + 1)))) := hid (by
    have := HE3.out.st (X2.st + 1)
    rw [HxB.out, Hst.out] at this
    rw [Hst.out]
    exact this)
  generalize w3.setCell ⟨xB, 270, none⟩ (.int .u64 ((st : Int) + 1)) = w4 at HE4 ⊢
  clear HE3 s1 s2 f1 f2
  obtain ⟨s1, s2, cs3, s3⟩ := HE4.out.cells
  rw [HxB.out] at s1 s2 s3
  have s2' : w4.cell? ⟨xB, 271, none⟩ = some (.int .u64 (rf : Int)) := by rw [← Hrf.out]; exact s2
  have f2 := s3.frozen 271
  have c0 : w4.cell? ⟨r, 0, none⟩ = some (.int .u8 (z.c : Int)) := HE4.out.br.cell 0
  clear s1 s2 s3 cs3
  by_cases hc : z.c = 0
  · as_aux_lemma =>
    have dc : ((z.c : Int) != 0) = false := by simp [hc]
    have He : Hid (({ X2 with st := X2.st + 1 } : XS) = doX X2 z) := hid (by unfold doX; rw [if_pos hc])
    clear hc
    go_wp2_with (first | (refine wpList_load_blk rfl 36 _ rfl r rfl (rzC z) HE4.out.br _ Tryd.underlying36 rfl I0.out ?_) | (refine wpList_store_blk rfl 36 _ _ rfl (q + 1) rfl (rzC z) rfl HE4.out.bq rfl I0.out (rz_one _) ?_; intro w9 HB9 HU9))
    exact bodyPost_ret (results_blk Tryd.results21 rfl (show AggOf Tryd.prog 36 (rzC z).length from AggOf.struct Tryd.underlying36 info_rz) HB9.out) rfl
      ⟨_, _, _, rfl, HS2.out, by rw [← He.out]; exact (HE4.out.setQ HB9.out HU9.out).out⟩
  · as_aux_lemma =>
    have dc : ((z.c : Int) != 0) = true := by simp [hc]
    have He : Hid (({ X2 with st := X2.st + 1, rf := X2.rf + 1 } : XS) = doX X2 z) := hid (by unfold doX; rw [if_neg hc])
    clear hc
    go_upto_region 5 with fail
    have HE5 : Hid (DE w ρ L T (q + 1) r H2 { X2 with st := X2.st + 1, rf := X2.rf + 1 } (rzR 0) z (w4.setCell ⟨xB, 271, none⟩ (.int .u64 ((rf : Int) + 1)))) := hid (by
      have := HE4.out.rf (X2.rf + 1)
      rw [HxB.out] at this
      rw [← Hrf.out]
      exact this)
    generalize w4.setCell ⟨xB, 271, none⟩ (.int .u64 ((rf : Int) + 1)) = w5 at HE5 ⊢
    clear HE4 s2' f2 c0
    go_wp2_with (first | (refine wpList_load_blk rfl 36 _ rfl r rfl (rzC z) HE5.out.br _ Tryd.underlying36 rfl I0.out ?_) | (refine wpList_store_blk rfl 36 _ _ rfl (q + 1) rfl (rzC z) rfl HE5.out.bq rfl I0.out (rz_one _) ?_; intro w9 HB9 HU9))
    exact bodyPost_ret (results_blk Tryd.results21 rfl (show AggOf Tryd.prog 36 (rzC z).length from AggOf.struct Tryd.underlying36 info_rz) HB9.out) rfl
      ⟨_, _, _, rfl, HS2.out, by rw [← He.out]; exact (HE5.out.setQ HB9.out HU9.out).out⟩
end
end Go.Proofs.Qxb6500889aDoor
