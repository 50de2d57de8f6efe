/- out, onCycle. -/
import Derived.Test.Qxb6500883aGreatDoorScDh
namespace Go.Proofs.Qxb6500883aGreatDoor
open Go.RowKit
set_option linter.unusedSimpArgs false
set_option linter.unusedVariables false
theorem slice_j {a : Option Addr} {n cp lo hi : Nat} (h1 : lo ≤ hi) (h2 : hi ≤ n) (h3 : n ≤ cp) (h4 : cp ≤ maxLen) (h5 : a = none → cp = 0) (w : World) : (Instr.sliceAt 91 (.slice a n cp) (some (.int .i32 (lo : Int))) (some (.int .i32 (hi : Int))) none).run Tryz.prog w = .ok (.slice (subA a lo (cp == lo)) (hi - lo) (cp - lo)) w := by
  have e3 : ¬ (hi < lo) := by omega
  have e4 : (lo : Int) ≤ (hi : Int) := by omega
  have e5 : (hi : Int) ≤ (cp : Int) := by omega
  have e6 : hi ≤ cp := by omega
  have e7 : ¬ (cp < hi) := by omega
  cases a with
  | none =>
    have h0 := h5 rfl
    subst h0
    obtain rfl : hi = 0 := by omega
    obtain rfl : lo = 0 := by omega
    obtain rfl : n = 0 := by omega
    simp [Instr.sliceAt, go_sem, Instr.sliceBounds, subA]
  | some ad =>
    by_cases he : cp = lo
    · have ehl : hi = lo := by omega
      subst he
      subst ehl
      simp [Instr.sliceAt, go_sem, Instr.sliceBounds, subA]
    · have e8 : ¬ (cp - lo = 0) := by omega
      simp [Instr.sliceAt, go_sem, Instr.sliceBounds, h1, e3, e4, e5, e6, e7, e8, he, subA]
/-- A node's edges as a slice. -/
def OutS (A : Gr) (va : Value) (v : Nat) (ax : Option Addr) : Prop := ∀ (k x : Nat), (suc A v)[k]? = some x → ∃ g q, va = .slice (some ⟨g, 0, none⟩) A.flatten.length q ∧ ax = some ⟨g, stA A v, none⟩
/-- On a cycle. -/
def onC (A : Gr) (T : TJ) (v : Nat) : Bool := decide (1 < T.sz.getD (T.cp v) 0) || decide (v ∈ suc A v)
section
variable {σ σ' σ'' : Rl} {w w' w1 w2 : World} {L : FL} {A : Gr} {va : Value} {T T' : TJ} {on on' : Nat → Bool} {vs vz vo vs' vz' vo' : Value}
theorem stA_le {A : Gr} {v : Nat} (hv : v < A.length) : stA A v ≤ stA A (v + 1) ∧ stA A (v + 1) ≤ A.flatten.length ∧ stA A (v + 1) - stA A v = (suc A v).length := by
  obtain ⟨x, hx⟩ : ∃ x, A[v]? = some x := ⟨_, List.getElem?_eq_getElem hv⟩
  have h1 := stA_succ hx
  have h2 := stA_mono (A := A) (i := v + 1) (j := A.length) (by omega)
  rw [stA_all] at h2
  rw [suc_get hx]
  omega
set_option maxRecDepth 100000 in
theorem outW (h : FM σ w L A va T on vs vz vo) {v : Nat} (hv : v < A.length) (hn : A.length ≤ 65536) (hfl : A.flatten.length ≤ 200000) : Calls Tryz.prog 118 #[.pointer (some ⟨L.gB, 0, none⟩), .int .i32 (v : Int)] w fun e w' => ∃ ax q, e = .returned (.slice ax (suc A v).length q) ∧ Drew w w' ∧ Hid (OutS A va v ax) := by
  obtain ⟨h1, h2, h3⟩ := stA_le hv
  obtain ⟨aa, qa, hva⟩ := h.ga.shape
  have hcp : A.flatten.length ≤ qa ∧ qa ≤ maxLen ∧ (aa = none → qa = 0) := by
    have := h.ga
    rw [hva] at this
    exact ⟨this.cap.2, this.cap.1, fun h0 => (this.src.2.1 h0).2⟩
  obtain ⟨_, cg0, cg1, _⟩ := h.cells
  have s0 := h.gs.get (j := v) (by omega)
  have s1 := h.gs.get (j := v + 1) (by omega)
  have HO : Hid (OutS A va v (subA aa (stA A v) (qa == stA A v))) := hid (fun k x hx => by
    obtain ⟨g, q, hg, _, hlt⟩ := h.edge hv hx
    rw [hva] at hg
    injection hg with e1 e2 e3
    subst e1
    refine ⟨g, qa, hva, ?_⟩
    have hne : (qa == stA A v) = false := by
      rw [beq_eq_false_iff_ne]
      omega
    unfold subA
    rw [hne]
    simp [Addr.add]
    intro h0
    exact h0.symm)
  have hsl := fun w => slice_j (a := aa) (n := A.flatten.length) (cp := qa) (lo := stA A v) (hi := stA A (v + 1)) h1 h2 hcp.1 hcp.2.1 hcp.2.2 w
  rw [h3] at hsl
  rw [hva] at cg1
  obtain ⟨n, hn'⟩ : ∃ n, A.length = n := ⟨_, rfl⟩
  rw [hn'] at cg0 hn hv
  obtain ⟨nf, hnf⟩ : ∃ n, A.flatten.length = n := ⟨_, rfl⟩
  rw [hnf] at cg1 hsl hfl h2
  obtain ⟨lo, hlo⟩ : ∃ n, stA A v = n := ⟨_, rfl⟩
  rw [hlo] at hsl s0 HO h1
  obtain ⟨hi, hhi⟩ : ∃ n, stA A (v + 1) = n := ⟨_, rfl⟩
  rw [hhi] at hsl s1 h2 h1
  obtain ⟨dg, hdg⟩ : ∃ n, (suc A v).length = n := ⟨_, rfl⟩
  rw [hdg] at hsl ⊢
  obtain ⟨ax, hax⟩ : ∃ ax, subA aa lo (qa == lo) = ax := ⟨_, rfl⟩
  rw [hax] at hsl HO
  have i1 : (v : Int) < ((n + 1 : Nat) : Int) := by omega
  have i2 : ((v : Int) + 1) < ((n + 1 : Nat) : Int) := by omega
  clear h h3 hva hcp hnf hlo hhi hdg hax hn'
  go_enter Tryz.func118, Tryz.ntmps118
  go_upto_region 1 with fail
  go_quiet (fail)
  have HD : Hid (Drew w (w.drewN nq)) := hid ((Drew.refl w).next nq)
  generalize w.drewN nq = wa at HD ⊢
  clear cg0 cg1 s0 s1 hsl
  go_wp2
  go_ret
  exact ⟨_, _, rfl, HD.out, HO⟩
set_option maxRecDepth 100000 in
set_option maxHeartbeats 1000000 in
theorem onCycleW (h : FM σ w L A va T on vs vz vo) {v : Nat} (hv : v < A.length) (hn : A.length ≤ 65536) (hfl : A.flatten.length ≤ 200000) (hc : T.cp v < T.sz.length) (hz : T.sz.length ≤ 65536) : Calls Tryz.prog 90 #[.pointer (some ⟨L.sB, 0, none⟩), .int .i32 (v : Int)] w fun e w' => e = .returned (.bool (onC A T v)) ∧ Drew w w' := by
  have HM := hid h
  have Hhv := hid hv
  obtain ⟨c0, _⟩ := h.cells
  obtain ⟨n, hn'⟩ : ∃ n, A.length = n := ⟨_, rfl⟩
  have Hn := hid hn'
  obtain ⟨cp, hcp⟩ : ∃ k, T.cp v = k := ⟨_, rfl⟩
  obtain ⟨x, hx⟩ : ∃ x, T.sz[cp]? = some x := ⟨_, List.getElem?_eq_getElem (by rw [← hcp]; exact hc)⟩
  obtain ⟨gz, qz, hvz, _, hcz⟩ := h.z.get (by decide) (fun _ => rfl) hx
  obtain ⟨nz, hnz⟩ : ∃ k, T.sz.length = k := ⟨_, rfl⟩
  rw [hnz] at hvz hc hz
  rw [hcp] at hc
  have c5 : w.cell? ⟨L.sB, 5, none⟩ = some (.slice (some ⟨L.gC, 0, none⟩) n n) := by rw [← hn']; exact h.b.cell 5
  have c6 : w.cell? ⟨L.sB, 6, none⟩ = some (.slice (some ⟨gz, 0, none⟩) nz qz) := by rw [← hvz]; exact h.b.cell 6
  have cv : w.cell? ⟨L.gC, v, none⟩ = some (.int .i32 (cp : Int)) := by rw [← hcp]; exact h.c.get hv
  have cz : w.cell? ⟨gz, cp, none⟩ = some (.int .i32 (x : Int)) := by have := hcz 0 (by decide); simpa [rtJ] using this
  have HX : Hid (onC A T v = (decide (1 < x) || decide (v ∈ suc A v))) := hid (by unfold onC; rw [hcp, List.getD_eq_getElem?_getD, hx]; rfl)
  have i1 : (v : Int) < (n : Int) := by omega
  have i2 : (cp : Int) < (nz : Int) := by omega
  have hnb : n ≤ 65536 := by omega
  have hnl : n = A.length := hn'.symm
  clear h hv hcp hx hvz hcz hnz hn'
  by_cases hx1 : 1 < x
  · have e1 : onC A T v = true := by rw [HX.out, decide_eq_true hx1]; rfl
    rw [e1]
    have d1 : decide ((x : Int) > 1) = true := decide_eq_true (by omega)
    have d1n : decide (1 < x) = true := decide_eq_true hx1
    have d1i : decide ((1 : Int) < (x : Int)) = true := decide_eq_true (by omega)
    clear e1 HX hnl
    go_enter Tryz.func90, Tryz.ntmps90
    go_upto_region 1 with fail
    go_quiet (fail)
    have HD : Hid (Drew w (w.drewN nq)) := hid ((Drew.refl w).next nq)
    generalize w.drewN nq = wa at HD ⊢
    clear c0 c5 c6 cv cz
    go_wp2
    go_ret
    exact ⟨rfl, HD.out⟩
  have HX2 : Hid (onC A T v = decide (v ∈ suc A v)) := hid (by rw [HX.out, decide_eq_false hx1]; rfl)
  obtain ⟨b, hb⟩ : ∃ b, onC A T v = b := ⟨_, rfl⟩
  rw [hb] at HX2 ⊢
  have d1 : decide ((x : Int) > 1) = false := decide_eq_false (by omega)
  have d1n : decide (1 < x) = false := decide_eq_false hx1
  have d1i : decide ((1 : Int) < (x : Int)) = false := decide_eq_false (by omega)
  clear HX hb hnl
  go_enter Tryz.func90, Tryz.ntmps90
  go_upto_region 1 with fail
  go_quiet (fail)
  have HD : Hid (Drew w (w.drewN nq)) := hid ((Drew.refl w).next nq)
  have y0 : (w.drewN nq).cell? ⟨L.sB, 0, none⟩ = some (.pointer (some ⟨L.gB, 0, none⟩)) := c0
  generalize w.drewN nq = wa at HD y0 ⊢
  clear c0 c5 c6 cv cz
  have HOu := hid (outW (HM.out.below (HD.out.below _)) Hhv.out (by rw [Hn.out]; exact hnb) hfl)
  go_wp2_with fail
  refine HOu.out.mono ?_
  rintro e w2 ⟨ax, q, rfl, hd2, HS⟩
  have HD2 := hid (HD.out.trans hd2)
  clear hd2 HOu HD
  obtain ⟨dg, hdg⟩ : ∃ n, (suc A v).length = n := ⟨_, rfl⟩
  rw [hdg]
  have Hdg := hid hdg
  have hdb : dg ≤ 200000 := by
    have := stA_le Hhv.out
    omega
  clear hdg
  go_upto_region 4 with fail
  clear y0
  go_loopw [28] (fun t wr => ∃ k : Nat, t = .int .i64 (k : Int) ∧ k ≤ dg ∧ Hid (Drew w wr ∧ ∀ (j x : Nat), j < k → (suc A v)[j]? = some x → x ≠ v)) (fun t _ => dg - (intOf t).toNat)
  case atStart => exact ⟨0, rfl, Nat.zero_le _, hid ⟨HD2.out, fun j x hj => absurd hj (Nat.not_lt_zero _)⟩⟩
  case round =>
  obtain ⟨k, rfl, hk, HK⟩ := hrel
  by_cases hkd : k < dg
  rotate_left
  · as_aux_lemma =>
    have d2 : decide ((k : Int) < (dg : Int)) = false := decide_eq_false (by omega)
    have hbf : b = false := by
      rw [HX2.out]
      refine decide_eq_false (fun hm => ?_)
      obtain ⟨j, hj⟩ := List.mem_iff_getElem?.1 hm
      have := (List.getElem?_eq_some_iff.1 hj).1
      exact HK.out.2 j v (by have := Hdg.out; omega) hj rfl
    subst hbf
    go_wp2
    go_ret
    exact ⟨rfl, HK.out.1⟩
  have d2 : decide ((k : Int) < (dg : Int)) = true := decide_eq_true (by omega)
  have i5 : (k : Int) < (dg : Int) := by omega
  obtain ⟨y, hy⟩ : ∃ y, (suc A v)[k]? = some y := ⟨_, List.getElem?_eq_getElem (by rw [Hdg.out]; exact hkd)⟩
  have Hy := hid hy
  obtain ⟨g, q', hva, hax⟩ := HS.out k y hy
  obtain ⟨g2, q2, hva2, hcy, _⟩ := (HM.out.below (HK.out.1.below _)).edge Hhv.out hy
  rw [hva] at hva2
  injection hva2 with e1 e2 e3
  injection e1 with e1
  injection e1 with e1
  subst e1
  subst hax
  clear hva e2 e3 hy
  obtain ⟨so, hso⟩ : ∃ k, stA A v = k := ⟨_, rfl⟩
  rw [hso] at hcy
  rw [hso]
  clear hso
  by_cases hyv : y = v
  · as_aux_lemma =>
    have d3 : ((y : Int) == (v : Int)) = true := by simp; omega
    have hbt : b = true := by
      rw [HX2.out]
      refine decide_eq_true ?_
      have hm := List.mem_of_getElem? Hy.out
      rw [hyv] at hm
      exact hm
    subst hbt
    clear hyv
    go_wp2
    go_ret
    exact ⟨rfl, HK.out.1⟩
  · as_aux_lemma =>
    have d3 : ((y : Int) == (v : Int)) = false := by simp; omega
    have HK2 : Hid (Drew w wr ∧ ∀ (j x : Nat), j < k + 1 → (suc A v)[j]? = some x → x ≠ v) := hid ⟨HK.out.1, fun j x hj hx => by
      by_cases e : j = k
      · subst e
        have := Hy.out
        rw [hx] at this
        cases this
        exact hyv
      · exact HK.out.2 j x (by omega) hx⟩
    clear hyv
    go_wp2
    exact ⟨⟨k + 1, by go_num, by omega, HK2⟩, by simp [intOf]; omega⟩
end
end Go.Proofs.Qxb6500883aGreatDoor
