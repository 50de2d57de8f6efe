/- visit: the walk. -/
import Derived.Test.Qxb6500883aGreatDoorScDe
namespace Go.Proofs.Qxb6500883aGreatDoor
open Go.RowKit
set_option linter.unusedSimpArgs false
set_option linter.unusedVariables false
section
variable {σ σ' σ'' : Rl} {w w' w1 w2 : World} {L : FL} {A : Gr} {va : Value} {T T' : TJ} {on on' : Nat → Bool} {vs vz vo vs' vz' vo' : Value}
theorem FM.cells (h : FM σ w L A va T on vs vz vo) : w.cell? ⟨L.sB, 0, none⟩ = some (.pointer (some ⟨L.gB, 0, none⟩)) ∧ w.cell? ⟨L.gB, 0, none⟩ = some (.slice (some ⟨L.gS, 0, none⟩) (A.length + 1) (A.length + 1)) ∧ w.cell? ⟨L.gB, 1, none⟩ = some va ∧ w.cell? ⟨L.sB, 1, none⟩ = some (.slice (some ⟨L.gI, 0, none⟩) A.length A.length) ∧ w.cell? ⟨L.sB, 2, none⟩ = some (.slice (some ⟨L.gL, 0, none⟩) A.length A.length) ∧ w.cell? ⟨L.sB, 3, none⟩ = some (.slice (some ⟨L.gO, 0, none⟩) A.length A.length) := ⟨h.b.cell 0, h.gb.cell 0, h.gb.cell 1, h.b.cell 1, h.b.cell 2, h.b.cell 3⟩
/-- An edge of the graph in memory. -/
theorem FM.edge (h : FM σ w L A va T on vs vz vo) {v k x : Nat} (hv : v < A.length) (hx : (suc A v)[k]? = some x) : ∃ g q, va = .slice (some ⟨g, 0, none⟩) A.flatten.length q ∧ w.cell? ⟨g, stA A v + k, none⟩ = some (.int .i32 (x : Int)) ∧ stA A v + k < A.flatten.length := by
  have hk := (List.getElem?_eq_some_iff.1 hx).1
  have hf := flat_get hv hk
  rw [hx] at hf
  obtain ⟨g, q, h1, h2, h3⟩ := h.ga.get (by decide) (fun _ => rfl) hf
  refine ⟨g, q, h1, ?_, (List.getElem?_eq_some_iff.1 hf).1⟩
  have := h3 0 (by decide)
  simpa [rtJ] using this
set_option maxRecDepth 100000 in
set_option maxHeartbeats 8000000 in
theorem visitW (h : FM σ w L A va T (onS T) vs vz vo) (h40 : ∀ g, σ g ≠ 40) (hJ : JI A T []) (hA : GrOk A) (hn : A.length ≤ 65536) (hfl : A.flatten.length ≤ 200000) {root : Nat} (hr : root < A.length) (h0 : T.ix root = 0) :
    Calls Tryz.prog 117 #[.pointer (some ⟨L.sB, 0, none⟩), .int .i32 (root : Int)] w fun e w' => e = .returned (.tuple #[]) ∧ Hid (VQ σ w L A va T w' root) := by
  have HA := hid hA
  have H40 := hid h40
  obtain ⟨n, hn'⟩ : ∃ n, A.length = n := ⟨_, rfl⟩
  have Hn := hid hn'
  have hsl : ∀ i, stA A i ≤ 200000 := fun i => by
    rcases Nat.le_total i A.length with h1 | h1
    · have := stA_mono (A := A) h1
      rw [stA_all] at this
      omega
    · have : stA A i = A.flatten.length := by unfold stA; rw [List.take_of_length_le h1]
      omega
  have Hsl := hid hsl
  have Hfl := hid hfl
  have hst0 := hJ.emp rfl
  have hnx := hJ.nx_lt hr h0
  have HE := hid (enterW h hr (by omega) (by rw [hst0]; show 0 < _; decide))
  have HJ := hid (hJ.root hr h0)
  have Hv0 : Hid (∀ u, T.ix u ≠ 0 → (T.enter root).ix u ≠ 0) := hid (fun u hu => by
    show fup T.ix root (T.nx + 1) u ≠ 0
    by_cases e : u = root
    · subst e; rw [fup_self]; omega
    · rw [fup_ne _ _ e]; exact hu)
  have Hr0 : Hid ((T.enter root).ix root ≠ 0) := hid (by show fup T.ix root (T.nx + 1) root ≠ 0; rw [fup_self]; omega)
  have hrn : (root : Int) < ((n + 1 : Nat) : Int) := by omega
  have hnb : n ≤ 65536 := by omega
  clear h hJ hst0 hnx hsl h40 hA hfl
  go_enter Tryz.func117, Tryz.ntmps117
  go_wp2_with fail
  refine HE.out.mono ?_
  rintro e w1 ⟨rfl, hq1⟩
  obtain ⟨σ1, vs1, vz1, vo1, hF1, hfr1⟩ := hq1.out
  rw [onS_enter] at hF1
  have HF1 := hid hF1
  have Hfr1 := hid hfr1
  have hcl := hF1.cells
  rw [Hn.out] at hcl
  obtain ⟨c0, cg0, cg1, ci, cl, co⟩ := hcl
  obtain ⟨e0, he0⟩ : ∃ k, stA A root = k := ⟨_, rfl⟩
  have cs0 : w1.cell? ⟨L.gS, root, none⟩ = some (.int .i32 (e0 : Int)) := by rw [← he0]; exact hF1.gs.get (by omega)
  obtain ⟨qq, hqq⟩ : ∃ q, w1.heap.size = q := ⟨_, rfl⟩
  obtain ⟨wf, hwf⟩ : ∃ x, w1.alloc (.cells #[.int .i32 (root : Int), .int .i32 (e0 : Int)] 237) = x := ⟨_, rfl⟩
  have HS : Hid (∃ M, VS σ w L A va T root (.slice (some ⟨qq, 0, none⟩) 1 1) wf M) := hid (by
    have hfa : Fr (fun _ => false) σ1 w1 (fup σ1 qq 40) wf := by rw [← hwf, ← hqq]; exact Fr.alloc _ _ _ _ _
    have kb : Blk wf qq 237 [.int .i32 (root : Int), .int .i32 (e0 : Int)] := by
      have := Blk.new w1 [.int .i32 (root : Int), .int .i32 (e0 : Int)] 237
      rw [hqq] at this
      rw [← hwf]
      exact this
    refine ⟨_, fup σ1 qq 40, vs1, vz1, vo1, T.enter root, [(root, 0)], hF1.fr hfa (fun _ _ _ => rfl), ?_, (hfr1.mono (fun c hc => by unfold XV; rw [hc]; rfl)).trans (hfa.mono (fun c hc => by cases hc)), HJ.out, Hv0.out, Hr0.out, rfl⟩
    refine RowX.made kb (by decide) (fun _ => rfl) (by rfl) (by unfold maxLen; omega) rfl (Nat.le_refl _) ?_ (fup_self _ _ _)
    show [Value.int .i32 (root : Int), .int .i32 ((stA A root + 0 : Nat) : Int)] = _
    rw [Nat.add_zero, he0]
    rfl)
  clear hq1 hF1 hfr1 HJ Hv0 Hr0 HE he0 Hfr1
  go_upto_region 2 with fail
  (try simp only [hqq, hwf])
  clear hqq hwf c0 cg0 cg1 ci cl co cs0 HF1
  go_loopw [4] (fun v wr => ∃ ax nx qx, v = .slice ax nx qx ∧ Hid (∃ M, VS σ w L A va T root (.slice ax nx qx) wr M)) (fun v wr => leastN (fun M => VS σ w L A va T root v wr M))
  case atStart => exact ⟨_, _, _, rfl, HS⟩
  case round =>
  clear HS
  obtain ⟨ax, nx, qx, rfl, HV⟩ := hrel
  have Hsp := hid (leastN_spec HV.out)
  obtain ⟨Mx, hMx⟩ : ∃ M, leastN (fun M => VS σ w L A va T root (.slice ax nx qx) wr M) = M := ⟨_, rfl⟩
  rw [hMx] at Hsp
  have HMx := hid hMx
  clear hMx HV
  obtain ⟨σ1, vs1, vz1, vo1, T1, fr, hF, hR, hFr, hJ1, hvis, hroot, hM⟩ := Hsp.out
  clear Hsp
  have HF := hid hF
  have HR := hid hR
  have HFr := hid hFr
  have HJ := hid hJ1
  have Hvr := hid (And.intro hvis hroot)
  have HM := hid hM
  obtain ⟨a2, q2, hsh⟩ := hR.shape
  injection hsh with e1 e2 e3
  rw [List.length_map] at e2
  clear hF hR hFr hJ1 hvis hroot hM e1 e3 a2 q2
  rcases List.eq_nil_or_concat fr with hnil | ⟨fs, ⟨v, k⟩, hcc⟩
  · subst hnil
    have hx0 : nx = 0 := e2
    subst hx0
    clear e2
    have HQ : Hid (VQ σ w L A va T wr root) := hid ⟨noR 40 σ1, vs1, vz1, vo1, T1, HF.out.rho (fun g c hc hg => noR_keep (by omega) hg), HFr.out.noR H40.out (fun c hc hx => by unfold XV at hx; simp only [Bool.or_eq_true, beq_iff_eq] at hx; exact hx.elim (fun h => h) (fun h => absurd h hc)), noR_ne 40 (by decide) _, HJ.out, Hvr.out.1, Hvr.out.2⟩
    go_wp2
    exact bodyPost_end (v := .tuple #[]) (by simp [results, Tryz.results117, go_sem]) rfl ⟨rfl, HQ⟩
  rw [List.concat_eq_append] at hcc
  subst hcc
  obtain ⟨m, hm⟩ : ∃ m, fs.length = m := ⟨_, rfl⟩
  have hnx : nx = m + 1 := by rw [e2, List.length_append, List.length_singleton, hm]
  subst hnx
  have Hmm := hid hm
  clear e2 hm
  have hvst : v ∈ T1.st := HJ.out.mem (v, k) (by simp)
  have hvn : v < n := by rw [← Hn.out]; exact HJ.out.rng v (.inl hvst)
  have hkd : k ≤ (suc A v).length := HJ.out.edg (v, k) (by simp)
  have hmb : m + 1 ≤ 65536 := by
    have hnd : ((fs ++ [(v, k)]).map (fun p : Nat × Nat => p.1)).Nodup := by
      have := HJ.out.fin
      unfold List.Nodup
      exact this.imp (fun h e => by rw [e] at h; omega)
    have h1 := nodup_le A.length ((fs ++ [(v, k)]).map (fun p : Nat × Nat => p.1)) hnd (fun u hu => by
      obtain ⟨p, hp, e⟩ := List.mem_map.1 hu
      rw [← e]
      exact HJ.out.rng _ (.inl (HJ.out.mem p hp)))
    rw [List.length_map, List.length_append, List.length_singleton, Hmm.out] at h1
    omega
  obtain ⟨gf, qf, hsv, hgf, hcs⟩ := HR.out.get (by decide) (fun _ => rfl) (i := m) (x := (v, stA A v + k)) (by rw [List.map_append, List.getElem?_append_right (by rw [List.length_map, Hmm.out]; exact Nat.le_refl _), List.length_map, Hmm.out]; simp [frE])
  injection hsv with e1 e2 e3
  subst e1
  subst e3
  obtain ⟨ed, hed⟩ : ∃ x, stA A v + k = x := ⟨_, rfl⟩
  obtain ⟨en, hen⟩ : ∃ x, stA A (v + 1) = x := ⟨_, rfl⟩
  have hdg : en = stA A v + (suc A v).length := by
    obtain ⟨x, hx⟩ : ∃ x, A[v]? = some x := ⟨_, List.getElem?_eq_getElem (by rw [Hn.out]; exact hvn)⟩
    rw [← hen, stA_succ hx, suc_get hx]
  have y0 : wr.cell? ⟨gf, m * 2, none⟩ = some (.int .i32 (v : Int)) := hcs 0 (by decide)
  have y1 : wr.cell? ⟨gf, m * 2 + 1, none⟩ = some (.int .i32 (ed : Int)) := by rw [← hed]; exact hcs 1 (by decide)
  have hcl := HF.out.cells
  rw [Hn.out] at hcl
  obtain ⟨c0, cg0, cg1, ci, cl, co⟩ := hcl
  have cse : wr.cell? ⟨L.gS, v + 1, none⟩ = some (.int .i32 (en : Int)) := by rw [← hen]; exact HF.out.gs.get (by rw [Hn.out]; omega)
  have hben : en ≤ 200000 := by rw [← hen]; exact Hsl.out _
  have hbed : ed ≤ 200000 := by omega
  have i1 : ((m + 1 : Nat) : Int) - 1 = (m : Int) := by omega
  have i2 : (m : Int) < ((m + 1 : Nat) : Int) := by omega
  have i3 : ((v : Int) + 1) < ((n + 1 : Nat) : Int) := by omega
  have i4 : decide (0 < m + 1) = true := decide_eq_true (by omega)
  have i5 : decide (((m + 1 : Nat) : Int) > 0) = true := decide_eq_true (by omega)
  have Hed := hid hed
  have Hdg := hid hdg
  have Hvst := hid hvst
  clear hgf hcs e2 hed hen hdg hvst
  by_cases hk : k < (suc A v).length
  · have d1 : decide ((ed : Int) < (en : Int)) = true := decide_eq_true (by have := Hed.out; have := Hdg.out; omega)
    have d1i : ed < en := by have := Hed.out; have := Hdg.out; omega
    have d1n : decide (ed < en) = true := decide_eq_true d1i
    obtain ⟨x, hx⟩ : ∃ x, (suc A v)[k]? = some x := ⟨_, List.getElem?_eq_getElem hk⟩
    have Hx := hid hx
    obtain ⟨ga, qa, hva, cx, hxl⟩ := HF.out.edge (by rw [Hn.out]; exact hvn) hx
    have hxn : x < n := by rw [← Hn.out]; exact HA.out v x (List.mem_of_getElem? hx)
    subst hva
    rw [Hed.out] at cx hxl
    obtain ⟨nf, hnf⟩ : ∃ k, A.flatten.length = k := ⟨_, rfl⟩
    rw [hnf] at cg1 hxl
    have Hnf := hid hnf
    have j1 : (ed : Int) < (nf : Int) := by omega
    have j2 : (x : Int) < (n : Int) := by omega
    have j3 : (v : Int) < (n : Int) := by omega
    have hk2 := hk
    have Hk := hid hk2
    clear hx hk hnf hk2
    go_upto_region 5 with fail
    go_quiet (fail)
    have HD1 : Hid (Drew wr (wr.drewN nq)) := hid ((Drew.refl wr).next nq)
    have x0 : (wr.drewN nq).cell? ⟨L.sB, 0, none⟩ = some (.pointer (some ⟨L.gB, 0, none⟩)) := c0
    have x1 : (wr.drewN nq).cell? ⟨L.gB, 1, none⟩ = some (.slice (some ⟨ga, 0, none⟩) nf qa) := cg1
    have x2 : (wr.drewN nq).cell? ⟨gf, m * 2 + 1, none⟩ = some (.int .i32 (ed : Int)) := y1
    have x3 : (wr.drewN nq).cell? ⟨ga, ed, none⟩ = some (.int .i32 (x : Int)) := cx
    generalize wr.drewN nq = wa at HD1 x0 x1 x2 x3 ⊢
    clear c0 cg0 cg1 ci cl co cse y0 y1 cx
    go_upto_region 6 with fail
    go_quiet (fail)
    have HD2 : Hid (Drew wr (wa.drewN nq)) := hid (HD1.out.next nq)
    have x2' : (wa.drewN nq).cell? ⟨gf, m * 2 + 1, none⟩ = some (.int .i32 (ed : Int)) := x2
    generalize wa.drewN nq = wb at HD2 x2' ⊢
    clear x0 x1 x2 x3 HD1
    have HRb := hid (HR.out.fr (X := fun _ => false) (Fr.below (HD2.out.below _)) rfl)
    have hput := HRb.out.put (by decide) (fun _ => rfl) rfl (i := m) (j := 1) (x := (v, ed)) (x' := (v, ed + 1)) (u := .int .i32 ((ed : Int) + 1)) (by rw [List.map_append, List.getElem?_append_right (by rw [List.length_map, Hmm.out]; exact Nat.le_refl _), List.length_map, Hmm.out]; simp [frE, Hed.out]) (by decide) (by simp [rtV])
    have hpf : wb.frozen? ⟨gf, m * 2 + 1, none⟩ = false := hput.2.2
    have HPut : Hid (RowX rtV (wb.setCell ⟨gf, m * 2 + 1, none⟩ (.int .i32 ((ed : Int) + 1))) σ1 40 (.slice (some ⟨gf, 0, none⟩) (m + 1) qx) ((fs ++ [(v, k + 1)]).map (frE A)) ∧ Fr (fun c => c == 40) σ1 wr σ1 (wb.setCell ⟨gf, m * 2 + 1, none⟩ (.int .i32 ((ed : Int) + 1)))) := hid (by
      refine ⟨?_, (Fr.below (HD2.out.below _)).trans (Fr.set _ (by show (σ1 gf == 40) = true; rw [hput.2.1]; rfl))⟩
      have h1 := hput.1
      rw [List.map_append, List.set_append_right _ _ (by rw [List.length_map, Hmm.out]; exact Nat.le_refl _), List.length_map, Hmm.out, Nat.sub_self] at h1
      rw [List.map_append]
      have e : ([(v, k)].map (frE A)).set 0 (v, ed + 1) = [(v, k + 1)].map (frE A) := by simp [frE, ← Hed.out, Nat.add_assoc]
      rw [e] at h1
      exact h1)
    have HFb := hid (HF.out.fr HPut.out.2 (fun r h1 h2 => by simp; omega))
    have HFrb : Hid (Fr XV σ w σ1 (wb.setCell ⟨gf, m * 2 + 1, none⟩ (.int .i32 ((ed : Int) + 1)))) := hid (HFr.out.trans (HPut.out.2.one rfl))
    clear hput HRb
    go_upto_region 8 with fail
    generalize wb.setCell ⟨gf, m * 2 + 1, none⟩ (.int .i32 ((ed : Int) + 1)) = wc at HPut HFb HFrb ⊢
    clear x2' hpf HD2
    have hcl := HFb.out.cells
    rw [Hn.out] at hcl
    obtain ⟨c0, cg0, cg1, ci, cl, co⟩ := hcl
    obtain ⟨ix, hix⟩ : ∃ k, T1.ix x = k := ⟨_, rfl⟩
    have Hix := hid hix
    have cix : wc.cell? ⟨L.gI, x, none⟩ = some (.int .i32 (ix : Int)) := by rw [← hix]; exact HFb.out.i.get (by rw [Hn.out]; exact hxn)
    clear hix
    by_cases hz : ix = 0
    · as_aux_lemma =>
      have d2 : ((ix : Int) == 0) = true := by simp; omega
      have hx0 : T1.ix x = 0 := by rw [Hix.out]; exact hz
      have hxA : x < A.length := by rw [Hn.out]; exact hxn
      have hnx := HJ.out.nx_lt hxA hx0
      have hnl := HJ.out.nxe
      have HE := hid (enterW HFb.out hxA (by omega) (by omega))
      have HJ2 := hid (HJ.out.child HA.out Hx.out hx0)
      have HM2 : Hid (Mof A (T1.enter x) (fs ++ [(v, k + 1)] ++ [(x, 0)]) < Mx) := hid (by rw [← HM.out]; exact Mof_child hxA hx0 Hk.out)
      have Hvis2 : Hid (∀ u, T1.ix u ≠ 0 → (T1.enter x).ix u ≠ 0) := hid (fun u hu => by
        show fup T1.ix x (T1.nx + 1) u ≠ 0
        by_cases e : u = x
        · subst e; rw [fup_self]; omega
        · rw [fup_ne _ _ e]; exact hu)
      clear hz hx0 hnx hnl
      go_wp2_with fail
      refine HE.out.mono ?_
      rintro e w4 ⟨rfl, hq4⟩
      obtain ⟨σ4, vs4, vz4, vo4, hF4, hfr4⟩ := hq4.out
      rw [onS_enter] at hF4
      have HF4 := hid hF4
      have Hfr4 := hid hfr4
      have HR4 := hid (HPut.out.1.fr hfr4 rfl)
      have hcl4 := hF4.cells
      rw [Hn.out] at hcl4
      obtain ⟨u0, ug0, _⟩ := hcl4
      obtain ⟨ex, hex⟩ : ∃ k, stA A x = k := ⟨_, rfl⟩
      have us : w4.cell? ⟨L.gS, x, none⟩ = some (.int .i32 (ex : Int)) := by rw [← hex]; exact hF4.gs.get (by omega)
      have Hex := hid hex
      have j4 : (x : Int) < ((n + 1 : Nat) : Int) := by omega
      clear hq4 hF4 hfr4 hex HE c0 cg0 cg1 ci cl co cix
      obtain ⟨qq, hqq⟩ : ∃ q, w4.heap.size = q := ⟨_, rfl⟩
      obtain ⟨wf, hwf⟩ : ∃ y, w4.alloc (.cells #[.int .i32 (x : Int), .int .i32 (ex : Int)] 237) = y := ⟨_, rfl⟩
      have HN : Hid ((∀ ad, some (⟨qq, 0, none⟩ : Addr) = some ad → ∀ j u, ([(x, ex)].flatMap rtV.f)[j]? = some u → wf.cell? (ad.add j) = some u) ∧ Below w4.heap.size w4 wf) := hid (by rw [← hwf]; exact ⟨newX rtV w4 (x, ex) qq hqq.symm, nbel w4 _⟩)
      go_wp2_with (at_builtin; refine stopHere ?_)
      intro _
      (try simp only [hqq, hwf])
      clear hqq hwf
      have hrc : RowX rtV wf σ4 40 (.slice (some ⟨gf, 0, none⟩) (m + 1) qx) ((fs ++ [(v, k + 1)]).map (frE A)) := HR4.out.fr (X := fun _ => false) (Fr.below HN.out.2) rfl
      refine wpList_app_x okV rfl _ _ hrc rfl [(x, ex)] rfl (some ⟨qq, 0, none⟩) 1 1 rfl rfl (fun h => by cases h) HN.out.1 (by rw [List.length_map, List.length_append, List.length_singleton, Hmm.out]; show (m + 1 + 1) * 8 ≤ _; omega) ?_
      intro v8 w8 σ8 hr8 hf8 _ _
      obtain ⟨a8, q8, h8⟩ := hr8.out.shape
      rw [List.length_append, List.length_singleton, List.length_map, List.length_append, List.length_singleton, Hmm.out] at h8
      subst h8
      have HS : Hid (VS σ w L A (.slice (some ⟨ga, 0, none⟩) A.flatten.length qa) T root (.slice a8 (m + 1 + 1) q8) w8 (Mof A (T1.enter x) (fs ++ [(v, k + 1)] ++ [(x, 0)]))) := hid (by
        refine ⟨σ8, vs4, vz4, vo4, T1.enter x, _, (HF4.out.below HN.out.2).fr hf8.out (fun r h1 h2 => by simp; omega), ?_, ((HFrb.out.trans (Hfr4.out.mono (fun c hc => by unfold XV; rw [hc]; rfl))).trans (Fr.below HN.out.2)).trans (hf8.out.one rfl), HJ2.out, fun u hu => Hvis2.out u (Hvr.out.1 u hu), Hvis2.out _ Hvr.out.2, rfl⟩
        have := hr8.out
        rw [List.map_append (l₁ := fs ++ [(v, k + 1)])]
        simp only [List.map_cons, List.map_nil, frE, Nat.add_zero, Hex.out] at this ⊢
        exact this)
      clear hr8 hf8 hrc HN u0 ug0 us
      go_wp2
      exact ⟨⟨_, _, _, rfl, hid ⟨_, HS.out⟩⟩, Nat.lt_of_lt_of_eq (Nat.lt_of_le_of_lt (leastN_le HS.out) HM2.out) HMx.out.symm⟩
    have d2 : ((ix : Int) == 0) = false := by simp; omega
    obtain ⟨lw, hlw⟩ : ∃ k, T1.lw v = k := ⟨_, rfl⟩
    have Hlw := hid hlw
    have clv : wc.cell? ⟨L.gL, v, none⟩ = some (.int .i32 (lw : Int)) := by rw [← hlw]; exact HFb.out.l.get (by rw [Hn.out]; exact hvn)
    have clf : wc.frozen? ⟨L.gL, v, none⟩ = false := HFb.out.l.frozen v
    have Hz : Hid (T1.ix x ≠ 0) := hid (by rw [Hix.out]; exact hz)
    clear hlw hz
    obtain ⟨b, hb⟩ : ∃ b, onS T1 x = b := ⟨_, rfl⟩
    have con : wc.cell? ⟨L.gO, x, none⟩ = some (.bool b) := by rw [← hb]; exact HFb.out.o.get (by rw [Hn.out]; exact hxn)
    have Hb := hid hb
    clear hb
    have HSk : Hid (¬ (x ∈ T1.st ∧ T1.ix x < T1.lw v) → ∀ wz, Drew wc wz → VS σ w L A (.slice (some ⟨ga, 0, none⟩) A.flatten.length qa) T root (.slice (some ⟨gf, 0, none⟩) (m + 1) qx) wz (Mof A T1 (fs ++ [(v, k + 1)]))) := hid (fun hno wz hd => ⟨σ1, vs1, vz1, vo1, T1, _, HFb.out.below (hd.below _), HPut.out.1.fr (X := fun _ => false) (Fr.below (hd.below _)) rfl, HFrb.out.trans (Fr.below (hd.below _)), HJ.out.skip HA.out Hx.out Hz.out hno, Hvr.out.1, Hvr.out.2, rfl⟩)
    have HMs : Hid (∀ T' : TJ, T'.ix = T1.ix → Mof A T' (fs ++ [(v, k + 1)]) < Mx) := hid (fun T' he => by rw [← HM.out]; exact Mof_edge T' he Hk.out)
    by_cases hbk : b = true ∧ ix < lw
    · as_aux_lemma =>
      obtain ⟨hb1, hb2⟩ := hbk
      subst hb1
      have d3 : decide ((ix : Int) < (lw : Int)) = true := decide_eq_true (by omega)
      have d3n : decide (ix < lw) = true := decide_eq_true hb2
      have HJ2 := hid (HJ.out.back Hx.out (by have := Hb.out; unfold onS at this; exact of_decide_eq_true this) (by rw [Hix.out, Hlw.out]; exact hb2))
      clear hb2
      go_upto_region 11 with fail
      go_quiet (fail)
      have HD3 : Hid (Drew wc (wc.drewN nq)) := hid ((Drew.refl wc).next nq)
      have x1 : (wc.drewN nq).cell? ⟨L.sB, 1, none⟩ = some (.slice (some ⟨L.gI, 0, none⟩) n n) := ci
      have x2 : (wc.drewN nq).cell? ⟨L.sB, 2, none⟩ = some (.slice (some ⟨L.gL, 0, none⟩) n n) := cl
      have x3 : (wc.drewN nq).cell? ⟨L.gI, x, none⟩ = some (.int .i32 (ix : Int)) := cix
      have x4 : (wc.drewN nq).cell? ⟨L.gL, v, none⟩ = some (.int .i32 (lw : Int)) := clv
      have x5 : (wc.drewN nq).frozen? ⟨L.gL, v, none⟩ = false := clf
      generalize wc.drewN nq = wd at HD3 x1 x2 x3 x4 x5 ⊢
      clear c0 cg0 cg1 ci cl co cix clv clf con
      go_upto_region 12 with fail
      obtain ⟨X0, W, hT, hI⟩ := class_mk (fun w' => Drew wd w')
      have H0 : Hid (∃ y, wd.drew = W y) := hid (hI _ ⟨1, rfl⟩)
      have hne : Nonempty X0 := ⟨H0.out.choose⟩
      have HTT := hid hT
      have a1 : ∀ z, (W z).cell? ⟨L.sB, 1, none⟩ = some (.slice (some ⟨L.gI, 0, none⟩) n n) := fun y => by obtain ⟨m, e⟩ := hT y; rw [e]; exact x1
      have a2 : ∀ z, (W z).cell? ⟨L.sB, 2, none⟩ = some (.slice (some ⟨L.gL, 0, none⟩) n n) := fun y => by obtain ⟨m, e⟩ := hT y; rw [e]; exact x2
      have a3 : ∀ z, (W z).cell? ⟨L.gI, x, none⟩ = some (.int .i32 (ix : Int)) := fun y => by obtain ⟨m, e⟩ := hT y; rw [e]; exact x3
      have a4 : ∀ z, (W z).cell? ⟨L.gL, v, none⟩ = some (.int .i32 (lw : Int)) := fun y => by obtain ⟨m, e⟩ := hT y; rw [e]; exact x4
      have a5 : ∀ z, (W z).frozen? ⟨L.gL, v, none⟩ = false := fun y => by obtain ⟨m, e⟩ := hT y; rw [e]; exact x5
      clear hT hI
      refine wp_region_class_tailT W 13 (by kernel_rfl) (by kernel_rfl) (by kernel_rfl) H0.out ?_
      dsimp only [List.take, List.drop]
      repeat (go_big_quiet_step (fail))
      refine wpQuiet_nil ?_
      intro z
      have HD := hid (HTT.out z)
      have HB := hid ((HTT.out z).below wd.heap.size)
      have a1z := a1 z
      have a2z := a2 z
      have a3z := a3 z
      have a4z := a4 z
      have a5z := a5 z
      generalize W z = we at HD HB a1z a2z a3z a4z a5z ⊢
      clear H0 HTT a1 a2 a3 a4 a5
      have HS : Hid (VS σ w L A (.slice (some ⟨ga, 0, none⟩) A.flatten.length qa) T root (.slice (some ⟨gf, 0, none⟩) (m + 1) qx) (we.setCell ⟨L.gL, v, none⟩ (.int .i32 (ix : Int))) (Mof A (T1.low v (T1.ix x)) (fs ++ [(v, k + 1)]))) := hid (by
        have hbl := (HD3.out.below wc.heap.size).trans (HB.out.mono (HD3.out.below wc.heap.size).size)
        obtain ⟨h1, h2⟩ := (HFb.out.below hbl).setLw (v := v) (by rw [Hn.out]; exact hvn) ix
        refine ⟨σ1, vs1, vz1, vo1, T1.low v (T1.ix x), _, ?_, (HPut.out.1.fr (X := fun _ => false) (Fr.below hbl) rfl).fr h2 rfl, (HFrb.out.trans (Fr.below hbl)).trans (h2.mono (fun c hc => by unfold XV; rw [hc]; rfl)), HJ2.out, Hvr.out.1, Hvr.out.2, rfl⟩
        unfold TJ.low
        rw [Hix.out]
        exact h1)
      clear x1 x2 x3 x4 x5
      go_wp2
      exact ⟨⟨_, _, _, rfl, hid ⟨_, HS.out⟩⟩, Nat.lt_of_lt_of_eq (Nat.lt_of_le_of_lt (leastN_le HS.out) (HMs.out _ rfl)) HMx.out.symm⟩
    · as_aux_lemma =>
      have hno : ¬ (x ∈ T1.st ∧ T1.ix x < T1.lw v) := by
        rintro ⟨h1, h2⟩
        refine hbk ⟨?_, ?_⟩
        · rw [← Hb.out]; unfold onS; exact decide_eq_true h1
        · rw [Hix.out, Hlw.out] at h2; exact h2
      have Hno := hid hno
      clear hno
      cases b with
      | false =>
        clear hbk
        go_upto_region 11 with fail
        go_quiet (fail)
        have HS := hid (HSk.out Hno.out (wc.drewN nq) ((Drew.refl wc).next nq))
        generalize wc.drewN nq = wd at HS ⊢
        clear c0 cg0 cg1 ci cl co cix clv clf con
        go_wp2
        exact ⟨⟨_, _, _, rfl, hid ⟨_, HS.out⟩⟩, Nat.lt_of_lt_of_eq (Nat.lt_of_le_of_lt (leastN_le HS.out) (HMs.out _ rfl)) HMx.out.symm⟩
      | true =>
        have d3 : decide ((ix : Int) < (lw : Int)) = false := decide_eq_false (fun h => hbk ⟨rfl, by omega⟩)
        have d3n : decide (ix < lw) = false := decide_eq_false (fun h => hbk ⟨rfl, h⟩)
        have d3i : ¬ (ix < lw) := fun h => hbk ⟨rfl, h⟩
        clear hbk
        go_upto_region 11 with fail
        go_quiet (fail)
        have HS := hid (HSk.out Hno.out (wc.drewN nq) ((Drew.refl wc).next nq))
        generalize wc.drewN nq = wd at HS ⊢
        clear c0 cg0 cg1 ci cl co cix clv clf con
        go_wp2
        exact ⟨⟨_, _, _, rfl, hid ⟨_, HS.out⟩⟩, Nat.lt_of_lt_of_eq (Nat.lt_of_le_of_lt (leastN_le HS.out) (HMs.out _ rfl)) HMx.out.symm⟩
  have hkl : k = (suc A v).length := by omega
  have d1 : decide ((ed : Int) < (en : Int)) = false := decide_eq_false (by have := Hed.out; have := Hdg.out; omega)
  have d1i : ¬ (ed < en) := by have := Hed.out; have := Hdg.out; omega
  have d1n : decide (ed < en) = false := decide_eq_false d1i
  have Hkl := hid hkl
  clear hk hkl hkd
  have hqm : m ≤ qx ∧ qx ≤ maxLen := by have := HR.out.cap; omega
  have i6 : (m : Int) ≤ (qx : Int) := by omega
  have i7 : m ≤ qx := by omega
  have i8 : ¬ (qx < m) := by omega
  obtain ⟨lw, hlw⟩ : ∃ k, T1.lw v = k := ⟨_, rfl⟩
  have Hlw := hid hlw
  obtain ⟨ix, hix⟩ : ∃ k, T1.ix v = k := ⟨_, rfl⟩
  have Hix := hid hix
  have clv : wr.cell? ⟨L.gL, v, none⟩ = some (.int .i32 (lw : Int)) := by rw [← hlw]; exact HF.out.l.get (by rw [Hn.out]; exact hvn)
  have cix : wr.cell? ⟨L.gI, v, none⟩ = some (.int .i32 (ix : Int)) := by rw [← hix]; exact HF.out.i.get (by rw [Hn.out]; exact hvn)
  have j3 : (v : Int) < (n : Int) := by omega
  clear hlw hix
  have HRc : Hid (RowX rtV wr σ1 40 (.slice (some ⟨gf, 0, none⟩) m qx) (fs.map (frE A))) := hid (by
    have := HR.out.cut (fun _ => rfl) (j := m) (by rw [List.length_map, List.length_append, List.length_singleton, Hmm.out]; omega)
    rw [List.map_append, List.take_left' (by rw [List.length_map, Hmm.out])] at this
    exact this)
  go_upto_region 5 with fail
  go_quiet (fail)
  have HD1 : Hid (Drew wr (wr.drewN nq)) := hid ((Drew.refl wr).next nq)
  have x1 : (wr.drewN nq).cell? ⟨L.sB, 1, none⟩ = some (.slice (some ⟨L.gI, 0, none⟩) n n) := ci
  have x2 : (wr.drewN nq).cell? ⟨L.sB, 2, none⟩ = some (.slice (some ⟨L.gL, 0, none⟩) n n) := cl
  have x3 : (wr.drewN nq).cell? ⟨L.gI, v, none⟩ = some (.int .i32 (ix : Int)) := cix
  have x4 : (wr.drewN nq).cell? ⟨L.gL, v, none⟩ = some (.int .i32 (lw : Int)) := clv
  generalize wr.drewN nq = wa at HD1 x1 x2 x3 x4 ⊢
  clear c0 cg0 cg1 ci cl co cse y0 y1 clv cix
  by_cases he : lw = ix
  · have d2 : ((lw : Int) == (ix : Int)) = true := by simp; omega
    obtain ⟨a, b, hab⟩ := List.append_of_mem Hvst.out
    have HC := hid (HJ.out.close Hkl.out (by rw [Hlw.out, Hix.out]; exact he) hab)
    have Hab := hid hab
    clear hab he
    go_upto_region 14 with fail
    go_quiet (fail)
    have HD2 : Hid (Drew wr (wa.drewN nq)) := hid (HD1.out.next nq)
    generalize wa.drewN nq = wb at HD2 ⊢
    clear x1 x2 x3 x4 HD1
    have hst : T1.od.length + T1.st.length ≤ 65536 := by have h1 := HJ.out.nxe; have h2 := HJ.out.nx_le; omega
    have HCl := hid (closeW (HF.out.below (HD2.out.below _)) Hab.out HJ.out.ndS (fun u hu => HJ.out.rng u (.inl hu)) (by omega) (by have := HJ.out.cnt; omega) hst)
    clear hst
    go_wp2_with fail
    refine HCl.out.mono ?_
    rintro e w4 ⟨rfl, hq4⟩
    obtain ⟨σ4, vs4, vz4, vo4, hF4, hfr4⟩ := hq4.out
    rw [onS_close Hab.out HJ.out.ndS] at hF4
    have HF4 := hid hF4
    have Hfr4 := hid hfr4
    have HS : Hid (∀ wz, Drew w4 wz → VS σ w L A va T root (.slice (some ⟨gf, 0, none⟩) m qx) wz (Mof A (T1.close a b v) fs)) := hid (fun wz hd => ⟨σ4, vs4, vz4, vo4, T1.close a b v, fs, HF4.out.below (hd.below _), ((HRc.out.fr (X := fun _ => false) (Fr.below (HD2.out.below _)) rfl).fr Hfr4.out rfl).fr (X := fun _ => false) (Fr.below (hd.below _)) rfl, ((HFr.out.trans (Fr.below (HD2.out.below _))).trans (Hfr4.out.mono (fun c hc => by unfold XV; rw [hc]; rfl))).trans (Fr.below (hd.below _)), HC.out.1, Hvr.out.1, Hvr.out.2, rfl⟩)
    have HMs : Hid (Mof A (T1.close a b v) fs < Mx) := hid (by rw [← HM.out]; exact Mof_pop _ rfl)
    clear hq4 hF4 hfr4 HCl
    by_cases hm0 : m = 0
    · as_aux_lemma =>
      have e3 : decide (0 < m) = false := decide_eq_false (by omega)
      have e4 : decide ((m : Int) > 0) = false := decide_eq_false (by omega)
      have HS2 := hid (HS.out w4 (Drew.refl _))
      clear hm0
      go_wp2
      exact ⟨⟨_, _, _, rfl, hid ⟨_, HS2.out⟩⟩, Nat.lt_of_lt_of_eq (Nat.lt_of_le_of_lt (leastN_le HS2.out) HMs.out) HMx.out.symm⟩
    · as_aux_lemma =>
      have e3 : decide (0 < m) = true := decide_eq_true (by omega)
      have e4 : decide ((m : Int) > 0) = true := decide_eq_true (by omega)
      obtain ⟨f0, ⟨p, jj⟩, hf0⟩ : ∃ f0 q, fs = f0 ++ [q] := by
        rcases List.eq_nil_or_concat fs with h | ⟨f0, q, h⟩
        · exfalso; apply hm0; rw [← Hmm.out, h]; rfl
        · exact ⟨f0, q, by rw [h, List.concat_eq_append]⟩
      have hnl := HC.out.2 f0 p jj hf0
      have hps : p ∈ T1.st := HJ.out.mem (p, jj) (List.mem_append_left _ (by rw [hf0]; simp))
      have hpn : p < n := by rw [← Hn.out]; exact HJ.out.rng p (.inl hps)
      obtain ⟨m0, hm0'⟩ : ∃ k, f0.length = k := ⟨_, rfl⟩
      have hmm : m = m0 + 1 := by rw [← Hmm.out, hf0, List.length_append, List.length_singleton, hm0']
      have HR4 := hid ((HRc.out.fr (X := fun _ => false) (Fr.below (HD2.out.below _)) rfl).fr Hfr4.out rfl)
      obtain ⟨gf2, qf2, hsv, _, hcs⟩ := HR4.out.get (by decide) (fun _ => rfl) (i := m0) (x := (p, stA A p + jj)) (by rw [hf0, List.map_append, List.getElem?_append_right (by rw [List.length_map, hm0']; exact Nat.le_refl _), List.length_map, hm0']; simp [frE])
      injection hsv with e1 e2' e3'
      clear e2' e3'
      injection e1 with e1
      injection e1 with e1
      subst e1
      have z0 : w4.cell? ⟨gf, m0 * 2, none⟩ = some (.int .i32 (p : Int)) := hcs 0 (by decide)
      have k1 : (m : Int) - 1 = (m0 : Int) := by omega
      have k2 : (m0 : Int) < (m : Int) := by omega
      have hcl4 := HF4.out.cells
      rw [Hn.out] at hcl4
      obtain ⟨_, _, _, _, ul, _⟩ := hcl4
      have ulv : w4.cell? ⟨L.gL, v, none⟩ = some (.int .i32 (lw : Int)) := by rw [← Hlw.out]; exact HF4.out.l.get (by rw [Hn.out]; exact hvn)
      obtain ⟨lp, hlp⟩ : ∃ k, T1.lw p = k := ⟨_, rfl⟩
      have ulp : w4.cell? ⟨L.gL, p, none⟩ = some (.int .i32 (lp : Int)) := by rw [← hlp]; exact HF4.out.l.get (by rw [Hn.out]; exact hpn)
      have j5 : (p : Int) < (n : Int) := by omega
      have e5 : decide ((lw : Int) < (lp : Int)) = false := decide_eq_false (by rw [Hlw.out, hlp] at hnl; omega)
      have e5i : ¬ (lw < lp) := by rw [Hlw.out, hlp] at hnl; exact hnl
      have e5n : decide (lw < lp) = false := decide_eq_false e5i
      clear hm0 hf0 hnl hps hcs hlp hm0' hmm HR4
      go_upto_region 18 with fail
      go_quiet (fail)
      have HS2 := hid (HS.out (w4.drewN nq) ((Drew.refl w4).next nq))
      generalize w4.drewN nq = wd at HS2 ⊢
      clear z0 ul ulv ulp
      go_wp2
      exact ⟨⟨_, _, _, rfl, hid ⟨_, HS2.out⟩⟩, Nat.lt_of_lt_of_eq (Nat.lt_of_le_of_lt (leastN_le HS2.out) HMs.out) HMx.out.symm⟩
  · have d2 : ((lw : Int) == (ix : Int)) = false := by simp; omega
    obtain ⟨f0, p, jj, hf0, hJ2⟩ := HJ.out.pop (by rw [Hlw.out, Hix.out]; exact he)
    have HJ2 := hid hJ2
    have hps : p ∈ T1.st := HJ.out.mem (p, jj) (List.mem_append_left _ (by rw [hf0]; simp))
    have hpn : p < n := by rw [← Hn.out]; exact HJ.out.rng p (.inl hps)
    obtain ⟨m0, hm0'⟩ : ∃ k, f0.length = k := ⟨_, rfl⟩
    have Hm0 : Hid (m = m0 + 1) := hid (by rw [← Hmm.out, hf0, List.length_append, List.length_singleton, hm0'])
    clear he hJ2
    go_upto_region 14 with fail
    go_quiet (fail)
    have HD2 : Hid (Drew wr (wa.drewN nq)) := hid (HD1.out.next nq)
    generalize wa.drewN nq = wb at HD2 ⊢
    clear x1 x2 x3 x4 HD1
    have HR4 := hid (HRc.out.fr (X := fun _ => false) (Fr.below (HD2.out.below _)) rfl)
    obtain ⟨gf2, qf2, hsv, _, hcs⟩ := HR4.out.get (by decide) (fun _ => rfl) (i := m0) (x := (p, stA A p + jj)) (by rw [hf0, List.map_append, List.getElem?_append_right (by rw [List.length_map, hm0']; exact Nat.le_refl _), List.length_map, hm0']; simp [frE])
    injection hsv with e1 e2' e3'
    clear e2' e3'
    injection e1 with e1
    injection e1 with e1
    subst e1
    have HF4 := hid (HF.out.below (HD2.out.below _))
    have z0 : wb.cell? ⟨gf, m0 * 2, none⟩ = some (.int .i32 (p : Int)) := hcs 0 (by decide)
    have k1 : (m : Int) - 1 = (m0 : Int) := by have := Hm0.out; omega
    have k2 : (m0 : Int) < (m : Int) := by have := Hm0.out; omega
    have e3 : decide (0 < m) = true := decide_eq_true (by have := Hm0.out; omega)
    have e4 : decide ((m : Int) > 0) = true := decide_eq_true (by have := Hm0.out; omega)
    have hcl4 := HF4.out.cells
    rw [Hn.out] at hcl4
    obtain ⟨_, _, _, _, ul, _⟩ := hcl4
    have ulv : wb.cell? ⟨L.gL, v, none⟩ = some (.int .i32 (lw : Int)) := by rw [← Hlw.out]; exact HF4.out.l.get (by rw [Hn.out]; exact hvn)
    obtain ⟨lp, hlp⟩ : ∃ k, T1.lw p = k := ⟨_, rfl⟩
    have ulp : wb.cell? ⟨L.gL, p, none⟩ = some (.int .i32 (lp : Int)) := by rw [← hlp]; exact HF4.out.l.get (by rw [Hn.out]; exact hpn)
    have ulf : wb.frozen? ⟨L.gL, p, none⟩ = false := HF4.out.l.frozen p
    have j5 : (p : Int) < (n : Int) := by omega
    have Hlp := hid hlp
    clear hf0 hps hcs hlp hm0'
    by_cases hll : lw < lp
    · as_aux_lemma =>
      have e5 : decide ((lw : Int) < (lp : Int)) = true := decide_eq_true (by omega)
      have e5i : lw < lp := hll
      have e5n : decide (lw < lp) = true := decide_eq_true e5i
      have HJ3 : Hid (JI A (T1.low p lw) fs) := hid (by have := HJ2.out; rw [if_pos (by rw [Hlw.out, Hlp.out]; exact hll), Hlw.out] at this; exact this)
      clear hll
      go_upto_region 18 with fail
      go_quiet (fail)
      have HD3 : Hid (Drew wb (wb.drewN nq)) := hid ((Drew.refl wb).next nq)
      have x2 : (wb.drewN nq).cell? ⟨L.sB, 2, none⟩ = some (.slice (some ⟨L.gL, 0, none⟩) n n) := ul
      have x3 : (wb.drewN nq).cell? ⟨L.gL, v, none⟩ = some (.int .i32 (lw : Int)) := ulv
      have x4 : (wb.drewN nq).cell? ⟨L.gL, p, none⟩ = some (.int .i32 (lp : Int)) := ulp
      have x5 : (wb.drewN nq).frozen? ⟨L.gL, p, none⟩ = false := ulf
      generalize wb.drewN nq = wd at HD3 x2 x3 x4 x5 ⊢
      clear z0 ul ulv ulp ulf
      go_upto_region 19 with fail
      obtain ⟨X0, W, hT, hI⟩ := class_mk (fun w' => Drew wd w')
      have H0 : Hid (∃ y, wd.drew = W y) := hid (hI _ ⟨1, rfl⟩)
      have hne : Nonempty X0 := ⟨H0.out.choose⟩
      have HTT := hid hT
      have a2 : ∀ z, (W z).cell? ⟨L.sB, 2, none⟩ = some (.slice (some ⟨L.gL, 0, none⟩) n n) := fun y => by obtain ⟨m, e⟩ := hT y; rw [e]; exact x2
      have a3 : ∀ z, (W z).cell? ⟨L.gL, v, none⟩ = some (.int .i32 (lw : Int)) := fun y => by obtain ⟨m, e⟩ := hT y; rw [e]; exact x3
      have a4 : ∀ z, (W z).cell? ⟨L.gL, p, none⟩ = some (.int .i32 (lp : Int)) := fun y => by obtain ⟨m, e⟩ := hT y; rw [e]; exact x4
      have a5 : ∀ z, (W z).frozen? ⟨L.gL, p, none⟩ = false := fun y => by obtain ⟨m, e⟩ := hT y; rw [e]; exact x5
      clear hT hI
      refine wp_region_class_tailT W 13 (by kernel_rfl) (by kernel_rfl) (by kernel_rfl) H0.out ?_
      dsimp only [List.take, List.drop]
      repeat (go_big_quiet_step (fail))
      refine wpQuiet_nil ?_
      intro z
      have HD := hid (HTT.out z)
      have HB := hid ((HTT.out z).below wd.heap.size)
      have a2z := a2 z
      have a3z := a3 z
      have a4z := a4 z
      have a5z := a5 z
      generalize W z = we at HD HB a2z a3z a4z a5z ⊢
      clear H0 HTT a2 a3 a4 a5
      have HS : Hid (VS σ w L A va T root (.slice (some ⟨gf, 0, none⟩) m qx) (we.setCell ⟨L.gL, p, none⟩ (.int .i32 (lw : Int))) (Mof A (T1.low p lw) fs)) := hid (by
        have hbl := (HD3.out.below wb.heap.size).trans (HB.out.mono (HD3.out.below wb.heap.size).size)
        obtain ⟨h1, h2⟩ := (HF4.out.below hbl).setLw (v := p) (by rw [Hn.out]; exact hpn) lw
        exact ⟨σ1, vs1, vz1, vo1, T1.low p lw, fs, h1, (HR4.out.fr (X := fun _ => false) (Fr.below hbl) rfl).fr h2 rfl, ((HFr.out.trans (Fr.below (HD2.out.below _))).trans (Fr.below hbl)).trans (h2.mono (fun c hc => by unfold XV; rw [hc]; rfl)), HJ3.out, Hvr.out.1, Hvr.out.2, rfl⟩)
      have HMs : Hid (Mof A (T1.low p lw) fs < Mx) := hid (by rw [← HM.out]; exact Mof_pop _ rfl)
      clear x2 x3 x4 x5
      go_wp2
      exact ⟨⟨_, _, _, rfl, hid ⟨_, HS.out⟩⟩, Nat.lt_of_lt_of_eq (Nat.lt_of_le_of_lt (leastN_le HS.out) HMs.out) HMx.out.symm⟩
    · as_aux_lemma =>
      have e5 : decide ((lw : Int) < (lp : Int)) = false := decide_eq_false (by omega)
      have e5i : ¬ (lw < lp) := hll
      have e5n : decide (lw < lp) = false := decide_eq_false e5i
      have HJ3 : Hid (JI A T1 fs) := hid (by have := HJ2.out; rw [if_neg (by rw [Hlw.out, Hlp.out]; exact hll)] at this; exact this)
      clear hll
      go_upto_region 18 with fail
      go_quiet (fail)
      have HD3 : Hid (Drew wb (wb.drewN nq)) := hid ((Drew.refl wb).next nq)
      generalize wb.drewN nq = wd at HD3 ⊢
      clear z0 ul ulv ulp ulf
      have HS : Hid (VS σ w L A va T root (.slice (some ⟨gf, 0, none⟩) m qx) wd (Mof A T1 fs)) := hid ⟨σ1, vs1, vz1, vo1, T1, fs, HF4.out.below (HD3.out.below _), HR4.out.fr (X := fun _ => false) (Fr.below (HD3.out.below _)) rfl, (HFr.out.trans (Fr.below (HD2.out.below _))).trans (Fr.below (HD3.out.below _)), HJ3.out, Hvr.out.1, Hvr.out.2, rfl⟩
      have HMs : Hid (Mof A T1 fs < Mx) := hid (by rw [← HM.out]; exact Mof_pop _ rfl)
      go_wp2
      exact ⟨⟨_, _, _, rfl, hid ⟨_, HS.out⟩⟩, Nat.lt_of_lt_of_eq (Nat.lt_of_le_of_lt (leastN_le HS.out) HMs.out) HMx.out.symm⟩
end
end Go.Proofs.Qxb6500883aGreatDoor
