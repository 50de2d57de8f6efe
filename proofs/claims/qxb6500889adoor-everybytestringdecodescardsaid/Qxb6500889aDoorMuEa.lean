/- Scripts as bytes: Run. -/
import Derived.Test.Qxb6500889aDoorMuE9
import Derived.Test.Qxb6500889aDoorPut
namespace Go.Proofs.Qxb6500889aDoor
open Go.RowKit
set_option linter.unusedSimpArgs false
set_option linter.unusedVariables false
theorem info_rzz : ∃ i, Tryd.prog.info? 36 = some i ∧ i.zero = some (.agg #[.int .u8 0, .int .u64 0, .int .u64 0, .int .u64 0, .int .u64 0, .int .u64 0, .int .i64 0, .int .i64 0]) ∧ i.size = 8 ∧ i.bytes = 64 := by
  have h : (Tryd.prog.info? 36).map (fun i => (i.zero, i.size, i.bytes)) = some (some (.agg #[.int .u8 0, .int .u64 0, .int .u64 0, .int .u64 0, .int .u64 0, .int .u64 0, .int .i64 0, .int .i64 0]), 8, 64) := by kernel_rfl
  obtain ⟨i, hi, he⟩ := Option.map_eq_some_iff.1 h
  simp only [Prod.mk.injEq] at he
  exact ⟨i, hi, he.1, he.2.1, he.2.2⟩
def rsZ (m : Nat) : Array Value := madeCells #[.int .u8 0, .int .u64 0, .int .u64 0, .int .u64 0, .int .u64 0, .int .u64 0, .int .i64 0, .int .i64 0] (m * 8)
theorem rsZ_len (m : Nat) : (rsZ m).toList.length = m * 8 := by unfold rsZ; rw [Array.length_toList, size_madeCells]
theorem make_rs (m : Nat) (hm : m ≤ 1000000000) (w : World) : (Instr.makeSlice 104 (.int .i64 (m : Int)) (.int .i64 (m : Int))).run Tryd.prog w = .ok (.slice (some ⟨w.heap.size, 0, none⟩) m m) (w.alloc (.cells (rsZ m) 36)) := by
  obtain ⟨i0, hi, hz0, hz1, hz2⟩ := info_rzz
  have := run_make (P := Tryd.prog) w 104 36 i0 _ Tryd.underlying104 hi hz0 .i64 .i64 (m : Int) (m : Int) (by omega) (by omega) (by rw [hz2]; omega) (by omega)
  rw [hz1, Int.toNat_natCast] at this
  exact this
theorem splice_take {cs : List Value} {i : Nat} {zs : List Rz} {z : Rz} (hl : i * 8 + 8 ≤ cs.length) (hz : zs.length = i) (h : cs.take (i * 8) = zs.flatMap rzC) : (splice cs (i * 8) (rzC z)).take ((i + 1) * 8) = (zs ++ [z]).flatMap rzC := by
  unfold splice
  rw [h, List.flatMap_append, List.take_append_of_le_length]
  · rw [List.take_of_length_le]
    · simp
    · rw [List.length_append, ← h, List.length_take]
      show _ + 8 ≤ _
      omega
  · rw [List.length_append, ← h, List.length_take]
    show _ ≤ _ + 8
    omega
theorem splice_len {cs ds : List Value} {o : Nat} (h : o + ds.length ≤ cs.length) : (splice cs o ds).length = cs.length := by
  unfold splice
  simp only [List.length_append, List.length_take, List.length_drop]
  omega
/-- What Run leaves. -/
structure KpF (ρ : Rl) (w : World) (w' : World) : Prop where
  os : w'.os = w.os
  tape : w'.tape = w.tape
  output : w'.output = w.output
  size : w.heap.size ≤ w'.heap.size
  blk : ∀ g, g < w.heap.size → ¬ XR (ρ g) → w'.heap[g]? = w.heap[g]?
theorem KpF.refl (ρ : Rl) (w : World) : KpF ρ w w := ⟨rfl, rfl, rfl, Nat.le_refl _, fun _ _ _ => rfl⟩
theorem KpF.below {ρ : Rl} {w w1 w2 : World} (h : KpF ρ w w1) (hb : Below w1.heap.size w1 w2) : KpF ρ w w2 :=
  ⟨hb.os.trans h.os, hb.tape.trans h.tape, hb.output.trans h.output, Nat.le_trans h.size hb.size, fun g hg hx => (hb.block g (Nat.lt_of_lt_of_le hg h.size)).trans (h.blk g hg hx)⟩
theorem KpF.upd {ρ : Rl} {w w1 w2 : World} {j : Nat} (h : KpF ρ w w1) (hu : Upd j w1 w2) (hj : w.heap.size ≤ j) : KpF ρ w w2 :=
  ⟨hu.os.trans h.os, hu.tape.trans h.tape, hu.output.trans h.output, Nat.le_trans h.size hu.size, fun g hg hx => (hu.block g (Nat.lt_of_lt_of_le hg h.size) (by omega)).trans (h.blk g hg hx)⟩
theorem KpF.fx {ρ ρ1 ρ2 : Rl} {w w1 w2 : World} (h : KpF ρ w w1) (ho : ∀ g, g < w.heap.size → ρ1 g = ρ g) (hf : Fx ρ1 w1 ρ2 w2) : KpF ρ w w2 ∧ ∀ g, g < w.heap.size → ρ2 g = ρ g :=
  ⟨⟨hf.os.trans h.os, hf.tape.trans h.tape, hf.output.trans h.output, Nat.le_trans h.size hf.size, fun g hg hx => (hf.blk g (Nat.lt_of_lt_of_le hg h.size) (by rw [ho g hg]; exact hx)).trans (h.blk g hg hx)⟩, fun g hg => (hf.old g (Nat.lt_of_lt_of_le hg h.size)).trans (ho g hg)⟩
/-- Run under way. -/
structure RnI (w0 w : World) (xB : Nat) (H : HS) (X : XS) (k : Nat) (ρ : Rl) (s : List OpP) (m rR : Nat) (ys : List XBk) (i : Nat) (wr : World) : Prop where
  ex : ∃ zs H1 X1 ρ1 cs, MB w0 xB H1 X1 (k + i) ρ1 ((rR, 36, cs) :: ys) wr ∧ cs.length = m * 8 ∧ zs.length = i ∧ cs.take (i * 8) = zs.flatMap rzC ∧ (∀ os' zs', RunS H1 X1 os' zs' → RunS H X (s.take i ++ os') (zs ++ zs')) ∧ KpF ρ w wr ∧ ∀ g, g < w.heap.size → ρ1 g = ρ g
/-- What Run has done. -/
structure RnP (w w' : World) (ρ : Rl) (v : Value) (zs : List Rz) : Prop where
  kp : KpF ρ w w'
  own : ∃ g cs, v = .slice (some ⟨g, 0, none⟩) zs.length zs.length ∧ w.heap.size ≤ g ∧ Blk w' g 36 cs ∧ cs.take (zs.length * 8) = zs.flatMap rzC
section
variable {w0 w : World} {xB k : Nat} {H : HS} {X : XS} {ρ : Rl} {a : Option Addr} {n c : Nat} {l : List Nat}
set_option maxRecDepth 1000000 in
set_option maxHeartbeats 8000000 in
theorem run_walk (h : MB w0 xB H X k ρ [] w) (hr : Rd w a n c l) (hg : ArG w) (hn : n ≤ 1000000000) (hk : k ≤ 10000000000) :
    Calls Tryd.prog 34 #[.pointer (some ⟨xB, 0, none⟩), .slice a n c] w fun e w' => ∃ v zs, e = .returned v ∧ RunS H X (dec l) zs ∧ RnP w w' ρ v zs := by
  have HMB := hid h
  have HDc := hid (decode_walk hr hg)
  have Io : Hid ((Tryd.prog.info? 31).map (·.size) = some 5) := hid info_op
  have Iz : Hid ((Tryd.prog.info? 36).map (·.size) = some 8) := hid info_rz
  have hlen := (dec_len _ l rfl).1
  rw [hr.len] at hlen
  have HOb : Hid (∀ o ∈ dec l, OpB o) := hid (fun o ho => (dec_wf _ l rfl hr.byt o ho).b)
  obtain ⟨s, hs⟩ : ∃ s, dec l = s := ⟨_, rfl⟩
  rw [hs] at HDc HOb hlen
  rw [hs]
  obtain ⟨m, hm⟩ : ∃ m, s.length = m := ⟨_, rfl⟩
  rw [hm] at hlen
  have Hm := hid hm
  clear h hr hg hs hm
  go_enter Tryd.func34, Tryd.ntmps34
  go_wp2_with fail
  refine HDc.out.mono ?_
  rintro e w1 ⟨v5, rfl, hD⟩
  obtain ⟨a5, c5, ys, rfl, hMB1, hread⟩ : ∃ a5 c5 ys, v5 = .slice a5 m c5 ∧ MB w0 xB H X k ρ ys w1 ∧ ∀ (i : Nat) (o : OpP), s[i]? = some o → ∃ sg scs, a5 = some ⟨sg, 0, none⟩ ∧ (sg, 31, scs) ∈ ys ∧ scs.take (s.length * 5) = s.flatMap opC := by
    by_cases hm0 : 0 < m
    · obtain ⟨sg, cap, scs, q1, q2, q3, q4⟩ := own_blkS hD.own (by rw [Hm.out]; exact hm0)
      exact ⟨_, cap, _, by rw [q1, Hm.out], HMB.out.own hD.bel q3 q2, fun i o ho => ⟨sg, scs, rfl, by simp, q4⟩⟩
    · have e0 : m = 0 := by omega
      have e1 : s = [] := List.length_eq_zero_iff.1 (by rw [Hm.out]; exact e0)
      rcases hD.own.2 with ⟨q1, q2⟩ | ⟨g, cap, cur, q1, _⟩
      · exact ⟨none, 0, [], by rw [q1, e0], HMB.out.below hD.bel, fun i o ho => by rw [e1] at ho; cases ho⟩
      · exact ⟨some ⟨g, 0, none⟩, cap, [], by rw [q1, Hm.out], HMB.out.below hD.bel, fun i o ho => by rw [e1] at ho; cases ho⟩
  have HM1 := hid hMB1
  have HRd := hid hread
  have HK1 : Hid (KpF ρ w w1 ∧ w.heap.size ≤ w1.heap.size) := hid ⟨(KpF.refl ρ w).below hD.bel, hD.bel.size⟩
  clear hMB1 hread hD HDc
  have hmk := make_rs m (by omega)
  go_upto_region 3 with fail
  obtain ⟨rR, hrR⟩ : ∃ x, w1.heap.size = x := ⟨_, rfl⟩
  obtain ⟨w2, hw2⟩ : ∃ x, w1.alloc (.cells (rsZ m) 36) = x := ⟨_, rfl⟩
  have HI0 : Hid (RnI w0 w xB H X k ρ s m rR ys 0 w2 ∧ w.heap.size ≤ rR) := hid (by
    have h2 := HM1.out.alloc (rsZ m).toList 36
    rw [hrR, show w1.alloc (.cells (rsZ m).toList.toArray 36) = w2 from hw2] at h2
    have hb : Below w1.heap.size w1 w2 := by rw [← hw2]; exact nbel _ _
    exact ⟨⟨[], H, X, ρ, _, h2, rsZ_len m, rfl, by simp, fun os' zs' q => q, HK1.out.1.below hb, fun g _ => rfl⟩, by rw [← hrR]; exact HK1.out.2⟩)
  simp only [hrR, hw2]
  clear hrR hw2 hmk HM1 HK1
  have HrR := hid HI0.out.2
  go_wp2_with fail
  go_loopw [16] (fun v wr => ∃ i : Nat, i ≤ m ∧ v = .int .i64 (i : Int) ∧ Hid (RnI w0 w xB H X k ρ s m rR ys i wr)) (fun v _ => m - (intOf v).toNat)
  case atStart => exact ⟨0, by omega, rfl, hid HI0.out.1⟩
  case round =>
  clear HI0
  obtain ⟨i, hi, rfl, HI⟩ := hrel
  by_cases him : i < m
  rotate_left
  · as_aux_lemma =>
    have di : decide ((i : Int) < (m : Int)) = false := decide_eq_false (by omega)
    have di2 : decide (i < m) = false := decide_eq_false him
    have e : i = m := by omega
    subst e
    obtain ⟨zs, H1, X1, ρ1, cs, q1, q2, q3, q4, q5, q6, q7⟩ := HI.out.ex
    have HF : Hid (RunS H X s zs ∧ RnP w wr ρ (.slice (some ⟨rR, 0, none⟩) i i) zs) := hid (by
      have r := q5 [] [] (.nil _ _)
      rw [List.append_nil, List.append_nil, List.take_of_length_le (by rw [Hm.out]; exact Nat.le_refl _)] at r
      exact ⟨r, q6, rR, cs, by rw [q3], HrR.out, (q1.bl _ (List.mem_cons_self)).1, by rw [q3]; exact q4⟩)
    clear q1 q2 q3 q4 q5 q6 q7 HI
    go_wp2
    go_ret
    exact ⟨_, zs, rfl, HF.out⟩
  have di : decide ((i : Int) < (m : Int)) = true := decide_eq_true (by omega)
  have ii : (i : Int) < (m : Int) := by omega
  obtain ⟨zs, H1, X1, ρ1, cs, q1, q2, q3, q4, q5, q6, q7⟩ := HI.out.ex
  obtain ⟨o, ho⟩ : ∃ o, s[i]? = some o := ⟨_, List.getElem?_eq_getElem (by rw [Hm.out]; exact him)⟩
  obtain ⟨sg, scs, rfl, hmem, htk⟩ := HRd.out i o ho
  obtain ⟨c0, c1, c2, c3, c4⟩ := pr_cells ((q1.bl _ (List.mem_cons_of_mem _ hmem)).1) htk ho
  have HOo := hid (HOb.out o (List.mem_of_getElem? ho))
  have Hto : Hid (s.take (i + 1) = s.take i ++ [o]) := hid (by rw [List.take_add_one, ho]; rfl)
  have HQ := hid (And.intro q1 (And.intro q2 (And.intro q3 (And.intro q4 (And.intro q5 (And.intro q6 q7))))))
  clear q1 q2 q3 q4 q5 q6 q7 HI ho hmem htk
  obtain ⟨qb, hqb⟩ : ∃ x, wr.heap.size = x := ⟨_, rfl⟩
  go_upto_region 6 with fail
  obtain ⟨w5, hw5⟩ : ∃ x, wr.alloc (.cells #[.int .u8 (o.ac : Int), .int .u8 (o.k : Int), .int .u64 (o.a : Int), .int .u64 (o.b : Int), .int .u64 (o.c : Int)] 31) = x := ⟨_, rfl⟩
  have HM5 : Hid (MB w0 xB H1 X1 (k + i) ρ1 ((qb, 31, opC o) :: (rR, 36, cs) :: ys) w5 ∧ KpF ρ w w5) := hid (by
    have h2 := HQ.out.1.alloc (opC o) 31
    rw [hqb, show wr.alloc (.cells (opC o).toArray 31) = w5 from hw5] at h2
    exact ⟨h2, HQ.out.2.2.2.2.2.1.below (by rw [← hw5]; exact nbel _ _)⟩)
  simp only [hw5]
  clear hw5 hqb c0 c1 c2 c3 c4
  go_wp2_with (refine wpList_load_blk rfl 31 _ rfl qb rfl (opC o) (HM5.out.1.bl (qb, 31, opC o) (by simp)).1 _ Tryd.underlying31 rfl Io.out ?_)
  refine (HM5.out.1.do (by omega) o HOo.out).mono ?_
  rintro e w6 ⟨z, H2, X2, ρ2, rfl, hds, hM6, hFx⟩
  have HM6 := hid hM6
  have HD6 := hid hds
  have HK6 := hid (HM5.out.2.fx HQ.out.2.2.2.2.2.2 hFx)
  have hfit : i * 8 + (rzC z).length ≤ cs.length := by rw [HQ.out.2.1]; show i * 8 + 8 ≤ _; omega
  clear hds hM6 hFx HM5
  go_wp2_with (refine wpList_store_at rfl 36 _ _ rfl rR (i * 8) (by simp [Act.eval, Act.put]; done) (rzC z) rfl (HM6.out.bl (rR, 36, cs) (by simp)).1 hfit Iz.out (rz_one _) ?_; intro w9 HB9 HU9)
  have HF : Hid (RnI w0 w xB H X k ρ s m rR ys (i + 1) w9) := hid (by
    obtain ⟨q1, q2, q3, q4, q5, q6, q7⟩ := HQ.out
    refine ⟨zs ++ [z], H2, doX X2 z, ρ2, splice cs (i * 8) (rzC z), (HM6.out.set (i := 1) rfl HB9.out HU9.out).tail, by rw [splice_len hfit]; exact q2, by simp [q3], splice_take (by rw [q2]; omega) q3 q4, fun os' zs' r => ?_, HK6.out.1.upd HU9.out HrR.out, HK6.out.2⟩
    rw [Hto.out, List.append_assoc, List.append_assoc]
    exact q5 _ _ (.cons HD6.out r))
  clear HQ HM6 HD6 HK6 HB9 HU9
  go_wp2
  exact ⟨⟨i + 1, by omega, by go_num, HF⟩, by simp [intOf]; omega⟩
end
end Go.Proofs.Qxb6500889aDoor
