/- sortErrors: the walk. -/
import Derived.Test.Qxb6500883aGreatDoorScFa
namespace Go.Proofs.Qxb6500883aGreatDoor
open Go.RowKit
set_option linter.unusedSimpArgs false
set_option linter.unusedVariables false
/-- While the halves are merged: the spare holds errors from ob on. -/
structure SrG (Q : Nat → Prop) (ga na ca gb nb : Nat) (w0 : World) (ob n : Nat) (w : World) : Prop where
  m : SrM Q ga na ca gb nb w0 w
  q : ∀ i, ob ≤ i → i < ob + n → ∃ q, w.cell? ⟨gb, i, none⟩ = some (.pointer (some ⟨q, 0, none⟩)) ∧ Q q
section
variable {Q : Nat → Prop} {ga na ca gb nb : Nat} {w w0 w1 w2 : World} {ob n : Nat}
theorem SrG.below (h : SrG Q ga na ca gb nb w0 ob n w1) (hb : Below w1.heap.size w1 w2) : SrG Q ga na ca gb nb w0 ob n w2 := ⟨h.m.below hb, fun i h1 h2 => by
  obtain ⟨q, e1, e2⟩ := h.q i h1 h2
  obtain ⟨fb, b1, _⟩ := h.m.b
  exact ⟨q, by rw [keepCell i (hb.block gb b1.lt)]; exact e1, e2⟩⟩
theorem SrG.put (h : SrG Q ga na ca gb nb w0 ob n w) {i q : Nat} (hi : i < na) (hq : Q q) : SrG Q ga na ca gb nb w0 ob n (w.setCell ⟨ga, i, none⟩ (.pointer (some ⟨q, 0, none⟩))) := ⟨h.m.put hi hq, fun j h1 h2 => by
  obtain ⟨q', e1, e2⟩ := h.q j h1 h2
  obtain ⟨fb, b1, _⟩ := h.m.b
  have hu : Upd ga w (w.setCell ⟨ga, i, none⟩ (.pointer (some ⟨q, 0, none⟩))) := Upd.setCell (Upd.refl ga w) (p := ⟨ga, i, none⟩) rfl _
  exact ⟨q', by rw [keepCell j (hu.block gb b1.lt (fun e => h.m.ne e.symm))]; exact e1, e2⟩⟩
/-- The row is copied into its spare. -/
theorem SrM.copy (h : SrM Q ga na ca gb nb w0 w) {oa cA cB : Nat} (ha : oa + n ≤ na) (hb : ob + n ≤ nb) : ∃ w', (Builtin.copy_ #[33, 33] 3 #[.slice (some ⟨gb, ob, none⟩) n cB, .slice (some ⟨ga, oa, none⟩) n cA]).run Tryz.prog w = .ok (.int .i64 (n : Int)) w' ∧ SrG Q ga na ca gb nb w0 ob n w' := by
  obtain ⟨fa, a1, a2⟩ := h.a
  obtain ⟨fb, b1, b2⟩ := h.b
  have hn := h.na
  obtain ⟨i0, z0, hi, hz0, hz1, hz2, hz3⟩ := okQ.info
  have hlen : ((List.range n).map (fun j => fa (oa + j))).length = n := by simp
  have hmn : Nat.min n n = n := Nat.min_self n
  have had : ∀ j, (⟨ga, oa, none⟩ : Addr).add j = ⟨ga, oa + j, none⟩ := fun j => by unfold Addr.add; split <;> simp_all
  obtain ⟨w', k1, k2, k3⟩ := run_copy_blk (P := Tryz.prog) w 33 33 3 25 i0 1 Tryz.underlying33 hi hz1 (some ⟨gb, ob, none⟩) (some ⟨ga, oa, none⟩) n cB n cA gb ob 25 (fnC nb fb) ((List.range n).map (fun j => fa (oa + j))) b1 (by rw [hlen, hmn]; omega) (fun _ => ⟨rfl, ⟨ga, oa, none⟩, rfl, fun j v hj => by
    rw [List.getElem?_map] at hj
    obtain ⟨j', hj', e⟩ := Option.map_eq_some_iff.1 hj
    have hjn := (List.getElem?_eq_some_iff.1 hj').1
    simp at hjn
    have : j' = j := by
      have := List.getElem?_range (n := n) (i := j) hjn
      rw [this] at hj'
      exact (Option.some.inj hj').symm
    subst this
    rw [had, a1.cell, fnC_get _ (by omega), e]⟩) (by rw [hlen, fnC_len]; exact hb) (fun v hv => by
    obtain ⟨j, hj, rfl⟩ := List.mem_map.1 hv
    obtain ⟨q, e1, _⟩ := a2 (oa + j) (by have := List.mem_range.1 hj; omega)
    rw [e1]
    rfl)
  refine ⟨w', by rw [k1, hmn]; rfl, ?_⟩
  rw [splice_fn (by rw [hlen]; exact hb), hlen] at k2
  have hget : ∀ j, j < n → ((List.range n).map (fun j => fa (oa + j))).getD j undef = fa (oa + j) := fun j hj => by
    rw [List.getD_eq_getElem?_getD, List.getElem?_map, List.getElem?_range hj]
    rfl
  refine ⟨⟨⟨fa, a1.upd k3 h.ne, a2⟩, ⟨_, k2, fun i hi => ?_⟩, h.eOf ((Oth.refl ga gb w).upd k3 (.inr rfl)), h.o.upd k3 (.inr rfl), h.ne, h.na⟩, fun i h1 h2 => ?_⟩
  · show (if ob ≤ i ∧ i < ob + n then _ else fb i).oneCell' = true
    by_cases hc : ob ≤ i ∧ i < ob + n
    · rw [if_pos hc, hget _ (by omega)]
      obtain ⟨q, e1, _⟩ := a2 (oa + (i - ob)) (by omega)
      rw [e1]
      rfl
    · rw [if_neg hc]
      exact b2 i hi
  · obtain ⟨q, e1, e2⟩ := a2 (oa + (i - ob)) (by omega)
    refine ⟨q, ?_, e2⟩
    rw [k2.cell, fnC_get _ (by omega), if_pos ⟨h1, h2⟩, hget _ (by omega), e1]
set_option maxRecDepth 100000 in
set_option maxHeartbeats 8000000 in
theorem sortW : ∀ (N n : Nat), n ≤ N → ∀ (oa ob cA cB : Nat) (aA aB : Option Addr) (w : World), SrM Q ga na ca gb nb w w → oa + n ≤ na → ob + n ≤ nb → (1 ≤ n → aA = some ⟨ga, oa, none⟩ ∧ aB = some ⟨gb, ob, none⟩) → n ≤ cA → n ≤ cB → cA ≤ maxLen → cB ≤ maxLen → n ≤ 1000000000000 →
    Calls Tryz.prog 95 #[.slice aA n cA, .slice aB n cB] w fun e w' => e = .returned (.tuple #[]) ∧ Hid (SrM Q ga na ca gb nb w w') := by
  intro N
  induction N with
  | zero =>
    intro n hn oa ob cA cB aA aB w h h1 h2 h3 h4 h5 h6 h7 h8
    obtain rfl : n = 0 := by omega
    have HM := hid h
    clear h h3
    go_enter Tryz.func95, Tryz.ntmps95
    go_wp2
    exact bodyPost_ret (v := .tuple #[]) (by simp [results, Tryz.results95, go_sem]) rfl ⟨rfl, HM⟩
  | succ N ih =>
    intro n hn oa ob cA cB aA aB w h h1 h2 h3 h4 h5 h6 h7 h8
    by_cases hn2 : n < 2
    · as_aux_lemma =>
      have d1 : decide ((n : Int) < 2) = true := decide_eq_true (by omega)
      have d1n : decide (n < 2) = true := decide_eq_true hn2
      have HM := hid h
      clear h h3 ih
      go_enter Tryz.func95, Tryz.ntmps95
      go_wp2
      exact bodyPost_ret (v := .tuple #[]) (by simp [results, Tryz.results95, go_sem]) rfl ⟨rfl, HM⟩
    obtain ⟨rfl, rfl⟩ := h3 (by omega)
    have d1 : decide ((n : Int) < 2) = false := decide_eq_false (by omega)
    have d1n : decide (n < 2) = false := decide_eq_false hn2
    obtain ⟨m, hm⟩ : ∃ m, n / 2 = m := ⟨_, rfl⟩
    have hm1 : 1 ≤ m ∧ m < n ∧ m ≤ N ∧ n - m ≤ N := by omega
    have hq : ((n : Int) / 2) = (m : Int) := by rw [← hm]; simp
    have hq2 : ((n : Int).tdiv 2) = (m : Int) := by rw [← hm]; exact Int.ofNat_tdiv n 2
    have HM := hid h
    have HI := hid ih
    have HC1 := hid (fun wz hb => ih m hm1.2.2.1 oa ob cA cB (some ⟨ga, oa, none⟩) (some ⟨gb, ob, none⟩) wz (h.below hb).own (by omega) (by omega) (fun _ => ⟨rfl, rfl⟩) (by omega) (by omega) h6 h7 (by omega))
    have i1 : (m : Int) ≤ (cA : Int) := by omega
    have i2 : (m : Int) ≤ (cB : Int) := by omega
    have i3 : m ≤ cA := by omega
    have i4 : m ≤ cB := by omega
    have hsA := fun w => slice_pl (g := ga) (o := oa) (n := n) (c := cA) (lo := m) (by omega) h4 w
    have hsB := fun w => slice_pl (g := gb) (o := ob) (n := n) (c := cB) (lo := m) (by omega) h5 w
    rw [if_neg (by omega)] at hsA hsB
    obtain ⟨k, hk⟩ : ∃ k, n - m = k := ⟨_, rfl⟩
    obtain ⟨cA2, hcA2⟩ : ∃ k, cA - m = k := ⟨_, rfl⟩
    obtain ⟨cB2, hcB2⟩ : ∃ k, cB - m = k := ⟨_, rfl⟩
    rw [hk, hcA2] at hsA
    rw [hk, hcB2] at hsB
    have Hk := hid (And.intro hm (And.intro hk (And.intro hcA2 hcB2)))
    have Hh3 : Hid (1 ≤ m ∧ m < n ∧ m ≤ N ∧ n - m ≤ N) := hid hm1
    clear h ih h3 hm hk hcA2 hcB2
    go_enter Tryz.func95, Tryz.ntmps95
    go_upto_region 2 with fail
    obtain ⟨X0, W, hT, hI⟩ := class_mk (fun w' => Below w.heap.size w w')
    have H0 : Hid (∃ y, w.drew = W y) := hid (hI _ (Drew.below ⟨1, rfl⟩ _))
    have HW0 : Hid (∀ x w', Below (W x).heap.size (W x) w' → ∃ y, w' = W y) := hid (fun x w' hb => hI _ ((hT x).trans (hb.mono (hT x).size)))
    have hne : Nonempty X0 := ⟨H0.out.choose⟩
    have HTT := hid hT
    clear hT hI
    refine wp_region_class_tailT W 6 (by kernel_rfl) (by kernel_rfl) (by kernel_rfl) H0.out ?_
    dsimp only [List.take, List.drop]
    repeat (go_big_quiet_step (fail))
    refine wpQuiet_nil ?_
    intro z
    have HB := hid (HTT.out z)
    generalize W z = wz at HB  ⊢
    clear H0 HTT HW0 
    have HC := hid (HC1.out wz HB.out)
    go_wp2_with fail
    refine HC.out.mono ?_
    rintro e w4 ⟨rfl, h4q⟩
    have HM4 := hid ((HM.out.below HB.out).from h4q.out)
    clear HC h4q HB HC1
    have HC2 := hid (fun wz (hb : Below w4.heap.size w4 wz) => HI.out k (by have := Hh3.out; have := Hk.out; omega) (oa + m) (ob + m) cA2 cB2 (some ⟨ga, oa + m, none⟩) (some ⟨gb, ob + m, none⟩) wz (HM4.out.below hb).own (by have := Hk.out; have := Hh3.out; omega) (by have := Hk.out; have := Hh3.out; omega) (fun _ => ⟨rfl, rfl⟩) (by have := Hk.out; omega) (by have := Hk.out; omega) (by have := Hk.out; omega) (by have := Hk.out; omega) (by have := Hk.out; omega))
    go_upto_region 3 with fail
    obtain ⟨X0, W, hT, hI⟩ := class_mk (fun w' => Below w4.heap.size w4 w')
    have H0 : Hid (∃ y, w4.drew = W y) := hid (hI _ (Drew.below ⟨1, rfl⟩ _))
    have HW0 : Hid (∀ x w', Below (W x).heap.size (W x) w' → ∃ y, w' = W y) := hid (fun x w' hb => hI _ ((hT x).trans (hb.mono (hT x).size)))
    have hne : Nonempty X0 := ⟨H0.out.choose⟩
    have HTT := hid hT
    clear hT hI
    refine wp_region_class_tailT W 6 (by kernel_rfl) (by kernel_rfl) (by kernel_rfl) H0.out ?_
    dsimp only [List.take, List.drop]
    repeat (go_big_quiet_step (fail))
    refine wpQuiet_nil ?_
    intro z
    have HB := hid (HTT.out z)
    generalize W z = wz at HB  ⊢
    clear H0 HTT HW0 
    have HC := hid (HC2.out wz HB.out)
    go_wp2_with fail
    refine HC.out.mono ?_
    rintro e w5 ⟨rfl, h5q⟩
    have HM5 := hid ((HM4.out.below HB.out).from h5q.out)
    clear HC h5q HB HC2 HM4
    -- compare the middle
    obtain ⟨q1, c1, hQ1, _⟩ := HM5.out.get (i := oa + m) (by have := Hh3.out; omega)
    obtain ⟨q2, c2, hQ2, _⟩ := HM5.out.get (i := oa + (m - 1)) (by have := Hh3.out; omega)
    obtain ⟨k1, p1, a0, a1, _⟩ := HM5.out.e q1 hQ1
    obtain ⟨k2, p2, b0, b1, _⟩ := HM5.out.e q2 hQ2
    obtain ⟨m1, hm1'⟩ : ∃ k, m - 1 = k := ⟨_, rfl⟩
    rw [hm1'] at c2
    have j1 : (m : Int) - 1 = (m1 : Int) := by have := Hh3.out; omega
    have j2 : (m1 : Int) < (n : Int) := by have := Hh3.out; omega
    have j3 : (m : Int) < (n : Int) := by have := Hh3.out; omega
    have HBf := hid (fun wz (hd : Drew w5 wz) => beforeW (w := wz) (by obtain ⟨x, rfl⟩ := hd; exact a0) (by obtain ⟨x, rfl⟩ := hd; exact a1) (by obtain ⟨x, rfl⟩ := hd; exact b0) (by obtain ⟨x, rfl⟩ := hd; exact b1))
    obtain ⟨bf, hbf⟩ : ∃ b, bfV k1 p1 k2 p2 = b := ⟨_, rfl⟩
    rw [hbf] at HBf
    clear hbf hm1' a0 a1 b0 b1
    go_upto_region 4 with fail
    go_quiet ((go_at_call 120; exact Calls.quiet_of (HBf.out _ ⟨_, rfl⟩)))
    have HM6 := hid (HM5.out.below (((Drew.refl w5).next nq).below _))
    generalize w5.drewN nq = w6 at HM6 ⊢
    clear c1 c2 HBf HM5
    cases bf with
    | false =>
      as_aux_lemma =>
      go_wp2
      exact bodyPost_ret (v := .tuple #[]) (by simp [results, Tryz.results95, go_sem]) rfl ⟨rfl, HM6⟩
    | true =>
    obtain ⟨w7, hcp, hG7⟩ := HM6.out.copy (n := n) (ob := ob) (oa := oa) (cA := cA) (cB := cB) h1 h2
    have HG7 := hid hG7
    clear hG7
    go_upto_region 6 with fail
    go_quiet (fail)
    have HG8 := hid (HG7.out.below (((Drew.refl w7).next nq).below _))
    generalize w7.drewN nq = w8 at HG8 ⊢
    clear hcp HG7 HM6
    go_upto_region 8 with fail
    go_loopw [50, 5, 6] (fun t s5 s6 wr => ∃ (i nl nr : Nat) (aL aR : Option Addr) (cL cR : Nat), t = .int .i64 (i : Int) ∧ s5 = .slice aL nl cL ∧ s6 = .slice aR nr cR ∧ i + nl + nr = n ∧ nl ≤ cL ∧ nr ≤ cR ∧ Hid (0 < nl → ∃ o, aL = some ⟨gb, o, none⟩ ∧ ob ≤ o ∧ o + nl ≤ ob + n) ∧ Hid (0 < nr → ∃ o, aR = some ⟨gb, o, none⟩ ∧ ob ≤ o ∧ o + nr ≤ ob + n) ∧ Hid (SrG Q ga na ca gb nb w ob n wr)) (fun t _ _ _ => n - (intOf t).toNat)
    case atStart => exact ⟨0, m, k, _, _, _, _, rfl, rfl, rfl, by have := Hk.out; have := Hh3.out; omega, i4, by have := Hk.out; omega, hid (fun _ => ⟨ob, rfl, Nat.le_refl _, by have := Hh3.out; omega⟩), hid (fun _ => ⟨ob + m, rfl, by omega, by have := Hk.out; have := Hh3.out; omega⟩), HG8⟩
    case round =>
    clear HG8
    obtain ⟨i, nl, nr, aL, aR, cL, cR, rfl, rfl, rfl, hsum, hcL, hcR, HLf, HRt, HG⟩ := hrel
    by_cases hin : i < n
    rotate_left
    · have d2 : decide ((i : Int) < (n : Int)) = false := decide_eq_false (by omega)
      have HF := hid HG.out.m
      clear HG
      go_wp2
      exact bodyPost_end (v := .tuple #[]) (by simp [results, Tryz.results95, go_sem]) rfl ⟨rfl, HF⟩
    have d2 : decide ((i : Int) < (n : Int)) = true := decide_eq_true (by omega)
    have i6 : (i : Int) < (n : Int) := by omega
    by_cases hl0 : nl = 0
    · have e1 : decide ((nl : Int) > 0) = false := decide_eq_false (by omega)
      have e1n : decide (0 < nl) = false := decide_eq_false (by omega)
      have hr1 : 0 < nr := by omega
      go_upto_region 10 with fail
      go_quiet (fail)
      have HGs := hid (HG.out.below (((Drew.refl wr).next nq).below _))
      generalize wr.drewN nq = ws at HGs ⊢
      clear HG
      obtain ⟨nn, hnn⟩ : ∃ nn, nr = nn + 1 := ⟨nr - 1, by omega⟩
      subst hnn
      obtain ⟨ol, hol, ho1, ho2⟩ := HRt.out (by omega)
      subst hol
      obtain ⟨q, hcq, hQq⟩ := HGs.out.q ol (by omega) (by omega)
      obtain ⟨q0, hc0, _, hf0⟩ := HGs.out.m.get (i := oa + i) (by omega)
      have hsl := fun w => slice_pl (g := gb) (o := ol) (n := nn + 1) (c := cR) (lo := 1) (by omega) (by omega) w
      obtain ⟨a2, ha2⟩ : ∃ a, (if cR - 1 = 0 then some (⟨gb, ol, none⟩ : Addr) else some ⟨gb, ol + 1, none⟩) = a := ⟨_, rfl⟩
      obtain ⟨c2, hc2⟩ : ∃ c, cR - 1 = c := ⟨_, rfl⟩
      rw [ha2, hc2, Nat.add_sub_cancel] at hsl
      have hsl : ∀ w : World, (Instr.sliceAt 33 (.slice (some ⟨gb, ol, none⟩) (nn + 1) cR) (some (.int .i64 1)) none none).run Tryz.prog w = .ok (.slice a2 nn c2) w := hsl
      have HL2 : Hid (0 < nn → ∃ o, a2 = some ⟨gb, o, none⟩ ∧ ob ≤ o ∧ o + nn ≤ ob + n) := hid (fun hh => ⟨ol + 1, by rw [← ha2, if_neg (by omega)], by omega, by omega⟩)
      have k0 : (0 : Int) < ((nn + 1 : Nat) : Int) := by omega
      have hc2b : nn ≤ c2 := by omega
      clear ha2 hc2
      go_upto_region 12 with fail
      have HB : Hid (Below ws.heap.size ws ws.drew) := hid (Drew.below ⟨1, rfl⟩ _)
      refine wp_region_heavy (fun wz => wz.cell? ⟨gb, ol, none⟩ = some (.pointer (some ⟨q, 0, none⟩))) 9 [0, 1, 2, 3, 4, 5, 6, 7] [8] rfl (by kernel_rfl) (by kernel_rfl) (fun d _ _ _ _ h => by cases d <;> exact h) hcq ?_
      have hc0' : ws.drew.cell? ⟨ga, oa + i, none⟩ = some (.pointer (some ⟨q0, 0, none⟩)) := hc0
      have hf0' : ws.drew.frozen? ⟨ga, oa + i, none⟩ = false := hf0
      have HG8 := hid ((HGs.out.below HB.out).put (i := oa + i) (by omega) hQq)
      have hcq' : (ws.drew.setCell ⟨ga, oa + i, none⟩ (.pointer (some ⟨q, 0, none⟩))).cell? ⟨gb, ol, none⟩ = some (.pointer (some ⟨q, 0, none⟩)) := by
        have hu : Upd ga ws (ws.drew.setCell ⟨ga, oa + i, none⟩ (.pointer (some ⟨q, 0, none⟩))) := Upd.setCell ((Upd.refl ga ws).drew ⟨1, rfl⟩) (p := ⟨ga, oa + i, none⟩) rfl _
        obtain ⟨fb, b1, _⟩ := HGs.out.m.b
        rw [keepCell ol (hu.block gb b1.lt (fun e => HGs.out.m.ne e.symm))]
        exact hcq
      have Hcq := hid hcq'
      generalize ws.drew = wd at HB hc0' hf0' HG8 Hcq ⊢
      clear hcq hc0 hf0 hcq' HGs HB
      apply Exists.intro
      refine ⟨?_, ?_⟩
      · intro W hW
        have q7 : ∀ z, (W z).cell? ⟨gb, ol, none⟩ = some (.pointer (some ⟨q, 0, none⟩)) := fun z => hW z
        clear hW
        simp only [List.take, opsAt, List.drop, List.cons_append, List.nil_append]
        repeat (go_big_quiet_step (fail))
        exact rfl
      simp only [wpHv, opsAt, List.take, List.drop, List.cons_append, List.nil_append]
      go_wp2_with fail
      refine ⟨Hcq.out, ?_⟩
      have HG9 := HG8
      simp only [QN]
      go_wp2
      exact ⟨⟨i + 1, nl, nn, aL, a2, cL, c2, by go_num, rfl, rfl, by omega, by omega, by omega, HLf, HL2, HG9⟩, by simp [intOf]; omega⟩

    have e1 : decide ((nl : Int) > 0) = true := decide_eq_true (by omega)
    have e1n : decide (0 < nl) = true := decide_eq_true (by omega)
    have hl1 : 0 < nl := by omega
    by_cases hr0 : nr = 0
    · have e2 : ((nr : Int) == 0) = true := by simp; omega
      go_upto_region 10 with fail
      go_quiet (fail)
      have HGs := hid (HG.out.below (((Drew.refl wr).next nq).below _))
      generalize wr.drewN nq = ws at HGs ⊢
      clear HG
      obtain ⟨nn, hnn⟩ : ∃ nn, nl = nn + 1 := ⟨nl - 1, by omega⟩
      subst hnn
      obtain ⟨ol, hol, ho1, ho2⟩ := HLf.out (by omega)
      subst hol
      obtain ⟨q, hcq, hQq⟩ := HGs.out.q ol (by omega) (by omega)
      obtain ⟨q0, hc0, _, hf0⟩ := HGs.out.m.get (i := oa + i) (by omega)
      have hsl := fun w => slice_pl (g := gb) (o := ol) (n := nn + 1) (c := cL) (lo := 1) (by omega) (by omega) w
      obtain ⟨a2, ha2⟩ : ∃ a, (if cL - 1 = 0 then some (⟨gb, ol, none⟩ : Addr) else some ⟨gb, ol + 1, none⟩) = a := ⟨_, rfl⟩
      obtain ⟨c2, hc2⟩ : ∃ c, cL - 1 = c := ⟨_, rfl⟩
      rw [ha2, hc2, Nat.add_sub_cancel] at hsl
      have hsl : ∀ w : World, (Instr.sliceAt 33 (.slice (some ⟨gb, ol, none⟩) (nn + 1) cL) (some (.int .i64 1)) none none).run Tryz.prog w = .ok (.slice a2 nn c2) w := hsl
      have HL2 : Hid (0 < nn → ∃ o, a2 = some ⟨gb, o, none⟩ ∧ ob ≤ o ∧ o + nn ≤ ob + n) := hid (fun hh => ⟨ol + 1, by rw [← ha2, if_neg (by omega)], by omega, by omega⟩)
      have k0 : (0 : Int) < ((nn + 1 : Nat) : Int) := by omega
      have hc2b : nn ≤ c2 := by omega
      clear ha2 hc2
      go_upto_region 11 with fail
      have HB : Hid (Below ws.heap.size ws ws.drew) := hid (Drew.below ⟨1, rfl⟩ _)
      refine wp_region_heavy (fun wz => wz.cell? ⟨gb, ol, none⟩ = some (.pointer (some ⟨q, 0, none⟩))) 9 [0, 1, 2, 3, 4, 5, 6, 7] [8] rfl (by kernel_rfl) (by kernel_rfl) (fun d _ _ _ _ h => by cases d <;> exact h) hcq ?_
      have hc0' : ws.drew.cell? ⟨ga, oa + i, none⟩ = some (.pointer (some ⟨q0, 0, none⟩)) := hc0
      have hf0' : ws.drew.frozen? ⟨ga, oa + i, none⟩ = false := hf0
      have HG8 := hid ((HGs.out.below HB.out).put (i := oa + i) (by omega) hQq)
      have hcq' : (ws.drew.setCell ⟨ga, oa + i, none⟩ (.pointer (some ⟨q, 0, none⟩))).cell? ⟨gb, ol, none⟩ = some (.pointer (some ⟨q, 0, none⟩)) := by
        have hu : Upd ga ws (ws.drew.setCell ⟨ga, oa + i, none⟩ (.pointer (some ⟨q, 0, none⟩))) := Upd.setCell ((Upd.refl ga ws).drew ⟨1, rfl⟩) (p := ⟨ga, oa + i, none⟩) rfl _
        obtain ⟨fb, b1, _⟩ := HGs.out.m.b
        rw [keepCell ol (hu.block gb b1.lt (fun e => HGs.out.m.ne e.symm))]
        exact hcq
      have Hcq := hid hcq'
      generalize ws.drew = wd at HB hc0' hf0' HG8 Hcq ⊢
      clear hcq hc0 hf0 hcq' HGs HB
      apply Exists.intro
      refine ⟨?_, ?_⟩
      · intro W hW
        have q7 : ∀ z, (W z).cell? ⟨gb, ol, none⟩ = some (.pointer (some ⟨q, 0, none⟩)) := fun z => hW z
        clear hW
        simp only [List.take, opsAt, List.drop, List.cons_append, List.nil_append]
        repeat (go_big_quiet_step (fail))
        exact rfl
      simp only [wpHv, opsAt, List.take, List.drop, List.cons_append, List.nil_append]
      go_wp2_with fail
      refine ⟨Hcq.out, ?_⟩
      have HG9 := HG8
      simp only [QN]
      go_wp2
      exact ⟨⟨i + 1, nn, nr, a2, aR, c2, cR, by go_num, rfl, rfl, by omega, by omega, by omega, HL2, HRt, HG9⟩, by simp [intOf]; omega⟩

    have e2 : ((nr : Int) == 0) = false := by simp; omega
    have hr1 : 0 < nr := by omega
    obtain ⟨oL, hoL, hoL1, hoL2⟩ := HLf.out hl1
    obtain ⟨oR, hoR, hoR1, hoR2⟩ := HRt.out hr1
    obtain ⟨qL, cqL, hQL⟩ := HG.out.q oL (by omega) (by omega)
    obtain ⟨qR, cqR, hQR⟩ := HG.out.q oR (by omega) (by omega)
    obtain ⟨k1, p1, a0, a1, _⟩ := HG.out.m.e qR hQR
    obtain ⟨k2, p2, b0, b1, _⟩ := HG.out.m.e qL hQL
    have HBf := hid (fun wz (hd : Drew wr wz) => beforeW (w := wz) (by obtain ⟨x, rfl⟩ := hd; exact a0) (by obtain ⟨x, rfl⟩ := hd; exact a1) (by obtain ⟨x, rfl⟩ := hd; exact b0) (by obtain ⟨x, rfl⟩ := hd; exact b1))
    obtain ⟨bf, hbf⟩ : ∃ b, bfV k1 p1 k2 p2 = b := ⟨_, rfl⟩
    rw [hbf] at HBf
    subst hoL
    subst hoR
    have i7 : (0 : Int) < (nl : Int) := by omega
    have i8 : (0 : Int) < (nr : Int) := by omega
    clear hbf a0 a1 b0 b1
    cases bf with
    | true =>
      go_upto_region 10 with fail
      go_quiet ((go_at_call 120; exact Calls.quiet_of (HBf.out _ ⟨_, rfl⟩)))
      have HGs := hid (HG.out.below (((Drew.refl wr).next nq).below _))
      generalize wr.drewN nq = ws at HGs ⊢
      clear HG HBf cqL cqR
      obtain ⟨nn, hnn⟩ : ∃ nn, nr = nn + 1 := ⟨nr - 1, by omega⟩
      subst hnn
      obtain ⟨ol, hol⟩ : ∃ o : Nat, o = oR := ⟨_, rfl⟩
      subst hol
      have ho1 := hoR1
      have ho2 := hoR2
      obtain ⟨q, hcq, hQq⟩ := HGs.out.q ol (by omega) (by omega)
      obtain ⟨q0, hc0, _, hf0⟩ := HGs.out.m.get (i := oa + i) (by omega)
      have hsl := fun w => slice_pl (g := gb) (o := ol) (n := nn + 1) (c := cR) (lo := 1) (by omega) (by omega) w
      obtain ⟨a2, ha2⟩ : ∃ a, (if cR - 1 = 0 then some (⟨gb, ol, none⟩ : Addr) else some ⟨gb, ol + 1, none⟩) = a := ⟨_, rfl⟩
      obtain ⟨c2, hc2⟩ : ∃ c, cR - 1 = c := ⟨_, rfl⟩
      rw [ha2, hc2, Nat.add_sub_cancel] at hsl
      have hsl : ∀ w : World, (Instr.sliceAt 33 (.slice (some ⟨gb, ol, none⟩) (nn + 1) cR) (some (.int .i64 1)) none none).run Tryz.prog w = .ok (.slice a2 nn c2) w := hsl
      have HL2 : Hid (0 < nn → ∃ o, a2 = some ⟨gb, o, none⟩ ∧ ob ≤ o ∧ o + nn ≤ ob + n) := hid (fun hh => ⟨ol + 1, by rw [← ha2, if_neg (by omega)], by omega, by omega⟩)
      have k0 : (0 : Int) < ((nn + 1 : Nat) : Int) := by omega
      have hc2b : nn ≤ c2 := by omega
      clear ha2 hc2
      go_upto_region 12 with fail
      have HB : Hid (Below ws.heap.size ws ws.drew) := hid (Drew.below ⟨1, rfl⟩ _)
      refine wp_region_heavy (fun wz => wz.cell? ⟨gb, ol, none⟩ = some (.pointer (some ⟨q, 0, none⟩))) 9 [0, 1, 2, 3, 4, 5, 6, 7] [8] rfl (by kernel_rfl) (by kernel_rfl) (fun d _ _ _ _ h => by cases d <;> exact h) hcq ?_
      have hc0' : ws.drew.cell? ⟨ga, oa + i, none⟩ = some (.pointer (some ⟨q0, 0, none⟩)) := hc0
      have hf0' : ws.drew.frozen? ⟨ga, oa + i, none⟩ = false := hf0
      have HG8 := hid ((HGs.out.below HB.out).put (i := oa + i) (by omega) hQq)
      have hcq' : (ws.drew.setCell ⟨ga, oa + i, none⟩ (.pointer (some ⟨q, 0, none⟩))).cell? ⟨gb, ol, none⟩ = some (.pointer (some ⟨q, 0, none⟩)) := by
        have hu : Upd ga ws (ws.drew.setCell ⟨ga, oa + i, none⟩ (.pointer (some ⟨q, 0, none⟩))) := Upd.setCell ((Upd.refl ga ws).drew ⟨1, rfl⟩) (p := ⟨ga, oa + i, none⟩) rfl _
        obtain ⟨fb, b1, _⟩ := HGs.out.m.b
        rw [keepCell ol (hu.block gb b1.lt (fun e => HGs.out.m.ne e.symm))]
        exact hcq
      have Hcq := hid hcq'
      generalize ws.drew = wd at HB hc0' hf0' HG8 Hcq ⊢
      clear hcq hc0 hf0 hcq' HGs HB
      apply Exists.intro
      refine ⟨?_, ?_⟩
      · intro W hW
        have q7 : ∀ z, (W z).cell? ⟨gb, ol, none⟩ = some (.pointer (some ⟨q, 0, none⟩)) := fun z => hW z
        clear hW
        simp only [List.take, opsAt, List.drop, List.cons_append, List.nil_append]
        repeat (go_big_quiet_step (fail))
        exact rfl
      simp only [wpHv, opsAt, List.take, List.drop, List.cons_append, List.nil_append]
      go_wp2_with fail
      refine ⟨Hcq.out, ?_⟩
      have HG9 := HG8
      simp only [QN]
      go_wp2
      exact ⟨⟨i + 1, nl, nn, (some ⟨gb, oL, none⟩), a2, cL, c2, by go_num, rfl, rfl, by omega, by omega, by omega, HLf, HL2, HG9⟩, by simp [intOf]; omega⟩

    | false =>
      go_upto_region 10 with fail
      go_quiet ((go_at_call 120; exact Calls.quiet_of (HBf.out _ ⟨_, rfl⟩)))
      have HGs := hid (HG.out.below (((Drew.refl wr).next nq).below _))
      generalize wr.drewN nq = ws at HGs ⊢
      clear HG HBf cqL cqR
      obtain ⟨nn, hnn⟩ : ∃ nn, nl = nn + 1 := ⟨nl - 1, by omega⟩
      subst hnn
      obtain ⟨ol, hol⟩ : ∃ o : Nat, o = oL := ⟨_, rfl⟩
      subst hol
      have ho1 := hoL1
      have ho2 := hoL2
      obtain ⟨q, hcq, hQq⟩ := HGs.out.q ol (by omega) (by omega)
      obtain ⟨q0, hc0, _, hf0⟩ := HGs.out.m.get (i := oa + i) (by omega)
      have hsl := fun w => slice_pl (g := gb) (o := ol) (n := nn + 1) (c := cL) (lo := 1) (by omega) (by omega) w
      obtain ⟨a2, ha2⟩ : ∃ a, (if cL - 1 = 0 then some (⟨gb, ol, none⟩ : Addr) else some ⟨gb, ol + 1, none⟩) = a := ⟨_, rfl⟩
      obtain ⟨c2, hc2⟩ : ∃ c, cL - 1 = c := ⟨_, rfl⟩
      rw [ha2, hc2, Nat.add_sub_cancel] at hsl
      have hsl : ∀ w : World, (Instr.sliceAt 33 (.slice (some ⟨gb, ol, none⟩) (nn + 1) cL) (some (.int .i64 1)) none none).run Tryz.prog w = .ok (.slice a2 nn c2) w := hsl
      have HL2 : Hid (0 < nn → ∃ o, a2 = some ⟨gb, o, none⟩ ∧ ob ≤ o ∧ o + nn ≤ ob + n) := hid (fun hh => ⟨ol + 1, by rw [← ha2, if_neg (by omega)], by omega, by omega⟩)
      have k0 : (0 : Int) < ((nn + 1 : Nat) : Int) := by omega
      have hc2b : nn ≤ c2 := by omega
      clear ha2 hc2
      go_upto_region 11 with fail
      have HB : Hid (Below ws.heap.size ws ws.drew) := hid (Drew.below ⟨1, rfl⟩ _)
      refine wp_region_heavy (fun wz => wz.cell? ⟨gb, ol, none⟩ = some (.pointer (some ⟨q, 0, none⟩))) 9 [0, 1, 2, 3, 4, 5, 6, 7] [8] rfl (by kernel_rfl) (by kernel_rfl) (fun d _ _ _ _ h => by cases d <;> exact h) hcq ?_
      have hc0' : ws.drew.cell? ⟨ga, oa + i, none⟩ = some (.pointer (some ⟨q0, 0, none⟩)) := hc0
      have hf0' : ws.drew.frozen? ⟨ga, oa + i, none⟩ = false := hf0
      have HG8 := hid ((HGs.out.below HB.out).put (i := oa + i) (by omega) hQq)
      have hcq' : (ws.drew.setCell ⟨ga, oa + i, none⟩ (.pointer (some ⟨q, 0, none⟩))).cell? ⟨gb, ol, none⟩ = some (.pointer (some ⟨q, 0, none⟩)) := by
        have hu : Upd ga ws (ws.drew.setCell ⟨ga, oa + i, none⟩ (.pointer (some ⟨q, 0, none⟩))) := Upd.setCell ((Upd.refl ga ws).drew ⟨1, rfl⟩) (p := ⟨ga, oa + i, none⟩) rfl _
        obtain ⟨fb, b1, _⟩ := HGs.out.m.b
        rw [keepCell ol (hu.block gb b1.lt (fun e => HGs.out.m.ne e.symm))]
        exact hcq
      have Hcq := hid hcq'
      generalize ws.drew = wd at HB hc0' hf0' HG8 Hcq ⊢
      clear hcq hc0 hf0 hcq' HGs HB
      apply Exists.intro
      refine ⟨?_, ?_⟩
      · intro W hW
        have q7 : ∀ z, (W z).cell? ⟨gb, ol, none⟩ = some (.pointer (some ⟨q, 0, none⟩)) := fun z => hW z
        clear hW
        simp only [List.take, opsAt, List.drop, List.cons_append, List.nil_append]
        repeat (go_big_quiet_step (fail))
        exact rfl
      simp only [wpHv, opsAt, List.take, List.drop, List.cons_append, List.nil_append]
      go_wp2_with fail
      refine ⟨Hcq.out, ?_⟩
      have HG9 := HG8
      simp only [QN]
      go_wp2
      exact ⟨⟨i + 1, nn, nr, a2, (some ⟨gb, oR, none⟩), c2, cR, by go_num, rfl, rfl, by omega, by omega, by omega, HL2, HRt, HG9⟩, by simp [intOf]; omega⟩

end
end Go.Proofs.Qxb6500883aGreatDoor
