/- Diagnose. -/
import Derived.Test.Qxb6500883aGreatDoorScQb
namespace Go.Proofs.Qxb6500883aGreatDoor
open Go.RowKit
set_option linter.unusedSimpArgs false
set_option linter.unusedVariables false
/-- Why a file is refused: a phase has found something, or the table is past a bound. -/
def DgW (F : FS) : Prop := ¬ (∀ i, i < 4 → DgK F i) ∨ ∃ vf rk B bn T' vd errs, DgF F vf rk ∧ BtP F vf B bn ∧ errs ≠ [] ∧ MzP B.T T' vd errs B.T.types.length
/-- What Diagnose comes to. -/
def DgQ (N mg : Nat) (l : PL) (bs : List UInt8) (F : FS) (w0 : World) (e : Ending) (w' : World) : Prop :=
  (∃ tB, e = .returned (.tuple #[.pointer (some ⟨tB, 0, none⟩), .slice none 0 0]) ∧ Hid ((∃ n0 τ V T ga mn mf al bn, TbG n0 τ w' tB V T ga mn mf al bn ∧ w0.heap.size ≤ n0 ∧ AcT F T al bn) ∧ Below w0.heap.size w0 w')) ∨
  (∃ ga m qa, e = .returned (.tuple #[.pointer none, .slice (some ⟨ga, 0, none⟩) m qa]) ∧ 0 < m ∧ m ≤ 200000000000 ∧ Hid ((∀ j, j < m → ∃ q k pos, w'.cell? ⟨ga, j, none⟩ = some (.pointer (some ⟨q, 0, none⟩)) ∧ ErM w' q bs k pos ∧ pos ≤ l.n) ∧ ga < w'.heap.size ∧ Below w0.heap.size w0 w' ∧ DgW F))
section
variable {N mg : Nat} {ρ ρ' : Rl} {w w' w0 w1 w2 : World} {l : PL} {bs : List UInt8} {F : FS} {U : FV} {c gP i : Nat} {V V' : CV} {errs : List (Nat × Nat)}
/-- The end with errors. -/
theorem finishD (h : CM N mg ρ w l bs F U c V errs) (hB : DgB w0 gP c ρ w) (hne : errs ≠ []) (hl : errs.length ≤ 200000000000) (hw : DgW F) : Calls Tryz.prog 60 #[.pointer (some ⟨c, 1, none⟩)] w fun e w' => ∃ ga m qa, e = .returned (.slice (some ⟨ga, 0, none⟩) m qa) ∧ 0 < m ∧ m ≤ 200000000000 ∧ Hid ((∀ j, j < m → ∃ q k pos, w'.cell? ⟨ga, j, none⟩ = some (.pointer (some ⟨q, 0, none⟩)) ∧ ErM w' q bs k pos ∧ pos ≤ l.n) ∧ ga < w'.heap.size ∧ Below w0.heap.size w0 w' ∧ DgW F) := by
  refine (finishW h hne hl).mono ?_
  rintro e w' ⟨ga, qa, rfl, HH⟩
  obtain ⟨⟨h1, h2, h3, h4, h5, h6⟩, h7⟩ := HH.out
  have hp := List.length_pos_iff.2 hne
  have hga : ga < w.heap.size := h.r.dom ga (by rw [h7]; decide)
  refine ⟨ga, errs.length, qa, rfl, hp, hl, hid ⟨h1, Nat.lt_of_lt_of_le hga h5, hB.b.trans ⟨h2, h3, h4, h5, fun g hg => h6 g (Nat.lt_of_lt_of_le hg hB.b.size) (fun e => ?_) (fun e => ?_)⟩, hw⟩⟩
  · have := hB.r g hg; omega
  · subst e; have := hB.r g hg; omega
set_option maxRecDepth 100000 in
set_option maxHeartbeats 8000000 in
theorem diagnoseW (h : PR N mg ρ w l bs F) (hc : DgC l.n F) : Calls Tryz.prog 14 #[.pointer (some ⟨l.f, 0, none⟩)] w (DgQ N mg l bs F w) := by
  obtain ⟨U, hU, hR⟩ := h.rows
  obtain ⟨c, hcw⟩ : ∃ c, w.heap.size = c := ⟨_, rfl⟩
  obtain ⟨gP, hgP⟩ : ∃ g, c + 1 = g := ⟨_, rfl⟩
  have c0 : w.cell? ⟨l.f, 0, none⟩ = some (.slice l.a l.n l.c) := hU.cell 0
  have hmf : ∀ (fn : Fn) (first cap : Array Value) (w : World), (Instr.makeFunc fn first cap).run Tryz.prog w = .ok (.func fn first cap) w := fun _ _ _ _ => rfl
  obtain ⟨wa, hwa⟩ : ∃ x, w.alloc (.cells #[.pointer (some ⟨l.f, 0, none⟩), .slice l.a l.n l.c, .slice none 0 0, .map none, .slice none 0 0, .slice none 0 0, .slice none 0 0, .slice none 0 0, .slice none 0 0] 121) = x := ⟨_, rfl⟩
  obtain ⟨wb, hwb⟩ : ∃ x, wa.alloc (.cells #[.func (.func 55) #[.pointer (some ⟨c, 0, none⟩)] #[], .func (.func 56) #[.pointer (some ⟨c, 0, none⟩)] #[], .func (.func 57) #[.pointer (some ⟨c, 0, none⟩)] #[], .func (.func 58) #[.pointer (some ⟨c, 0, none⟩)] #[]] 1) = x := ⟨_, rfl⟩
  have hsa : wa.heap.size = gP := by rw [← hwa, ← hgP, ← hcw]; simp
  have H1 : Hid (DgI N mg l bs F U c w gP 0 wb) := hid (by
    have k1 := Blk.new w (chC l V00) 121
    rw [hcw] at k1
    have k1 : Blk wa c 121 (chC l V00) := by rw [← hwa]; exact k1
    have b1 : Below w.heap.size w wa := by rw [← hwa]; exact nbel w _
    have b2 : Below wa.heap.size wa wb := by rw [← hwb]; exact nbel wa _
    obtain ⟨hC, hr9⟩ := CM.begin h hU hR hcw b1 k1
    have k2 := Blk.new wa [.func (.func 55) #[.pointer (some ⟨c, 0, none⟩)] #[], .func (.func 56) #[.pointer (some ⟨c, 0, none⟩)] #[], .func (.func 57) #[.pointer (some ⟨c, 0, none⟩)] #[], .func (.func 58) #[.pointer (some ⟨c, 0, none⟩)] #[]] 1
    rw [hsa] at k2
    exact ⟨ρD ρ c, V00, hC.below b2, ⟨b1.trans (b2.mono b1.size), fun g hg => hr9 g (by omega), by rw [← hwb]; exact k2, hC.new (by omega)⟩, trivial⟩)
  have HC := hid hc
  have HW0 : Hid (w.heap.size = c) := hid hcw
  clear h hU hR hc
  go_enter Tryz.func14, Tryz.ntmps14
  go_upto_region 2 with fail
  (try simp only [hcw, hwa])
  clear hwa c0
  go_upto_region 3 with fail
  (try simp only [hsa, hwb])
  clear hwb hsa hmf hcw
  go_loopw [27] (fun t wr => ∃ (i : Nat), t = .int .i64 (i : Int) ∧ i ≤ 4 ∧ Hid (DgI N mg l bs F U c w gP i wr)) (fun t _ => 4 - (intOf t).toNat)
  case atStart => exact ⟨0, rfl, by decide, H1⟩
  case round =>
  obtain ⟨i, rfl, hi4, HI⟩ := hrel
  clear H1
  by_cases hin : i < 4
  · have HN : Hid (∀ wq, DgR N mg l bs F U c w gP i wq → (Calls Tryz.prog 59 #[.pointer (some ⟨c, 1, none⟩)] wq (fun e w' => e = .returned (.bool false) ∧ w' = wq) ∧ Calls Tryz.prog 60 #[.pointer (some ⟨c, 1, none⟩)] wq fun e w' => ∃ ga m qa, e = .returned (.slice (some ⟨ga, 0, none⟩) m qa) ∧ 0 < m ∧ m ≤ 200000000000 ∧ Hid ((∀ j, j < m → ∃ q k pos, w'.cell? ⟨ga, j, none⟩ = some (.pointer (some ⟨q, 0, none⟩)) ∧ ErM w' q bs k pos ∧ pos ≤ l.n) ∧ ga < w'.heap.size ∧ Below w.heap.size w w' ∧ DgW F)) ∨ (Calls Tryz.prog 59 #[.pointer (some ⟨c, 1, none⟩)] wq (fun e w' => e = .returned (.bool true) ∧ w' = wq) ∧ DgI N mg l bs F U c w gP (i + 1) wq)) := hid (fun wq hR => by
      rcases hR.next with ⟨ρ, V, errs, h1, h2, h3, h4, h5⟩ | h1
      · have he : errs.isEmpty = false := by cases errs with | nil => exact absurd rfl h4 | cons _ _ => rfl
        have hE := emptyW h1
        rw [he] at hE
        exact .inl ⟨hE, finishD h1 h2 h4 h3 (.inl (fun hk => h5 (hk i hin)))⟩
      · obtain ⟨ρ, V, h2, _⟩ := h1.m
        exact .inr ⟨emptyW h2, h1⟩)
    obtain rfl | rfl | rfl | rfl : i = 0 ∨ i = 1 ∨ i = 2 ∨ i = 3 := by omega
    · obtain ⟨ρ1, V1, hC1, hB1, _⟩ := HI.out.m
      have cp := hB1.p.cell 0
      have HP := hid (phase0 HC.out HI.out)
      clear hC1 hB1 HI
      go_wp2_with fail
      refine HP.out.mono ?_
      rintro e w2 ⟨rfl, HR⟩
      clear cp HP
      rcases HN.out w2 HR.out with ⟨hE, hF⟩ | ⟨hE, hI⟩
      · have HE := hid hE
        have HF := hid hF
        clear hE hF HR HN
        go_wp2_with fail
        refine HE.out.mono ?_
        rintro e w3 ⟨rfl, rfl⟩
        go_wp2_with fail
        refine HF.out.mono ?_
        rintro e w4 ⟨ga, m, qa, rfl, hm, hm2, HQ⟩
        go_wp2
        go_ret2
        exact .inr ⟨ga, m, qa, rfl, hm, hm2, HQ⟩
      · have HE := hid hE
        have HI2 := hid hI
        clear hE hI HR HN
        go_wp2_with fail
        refine HE.out.mono ?_
        rintro e w3 ⟨rfl, rfl⟩
        go_wp2
        exact ⟨⟨1, by go_num, by decide, HI2⟩, by simp [intOf]⟩
    · obtain ⟨ρ1, V1, hC1, hB1, _⟩ := HI.out.m
      have cp := hB1.p.cell 1
      have HP := hid (phase1 HC.out HI.out)
      clear hC1 hB1 HI
      go_wp2_with fail
      refine HP.out.mono ?_
      rintro e w2 ⟨rfl, HR⟩
      clear cp HP
      rcases HN.out w2 HR.out with ⟨hE, hF⟩ | ⟨hE, hI⟩
      · have HE := hid hE
        have HF := hid hF
        clear hE hF HR HN
        go_wp2_with fail
        refine HE.out.mono ?_
        rintro e w3 ⟨rfl, rfl⟩
        go_wp2_with fail
        refine HF.out.mono ?_
        rintro e w4 ⟨ga, m, qa, rfl, hm, hm2, HQ⟩
        go_wp2
        go_ret2
        exact .inr ⟨ga, m, qa, rfl, hm, hm2, HQ⟩
      · have HE := hid hE
        have HI2 := hid hI
        clear hE hI HR HN
        go_wp2_with fail
        refine HE.out.mono ?_
        rintro e w3 ⟨rfl, rfl⟩
        go_wp2
        exact ⟨⟨2, by go_num, by decide, HI2⟩, by simp [intOf]⟩
    · obtain ⟨ρ1, V1, hC1, hB1, _⟩ := HI.out.m
      have cp := hB1.p.cell 2
      have HP := hid (phase2 HC.out HI.out)
      clear hC1 hB1 HI
      go_wp2_with fail
      refine HP.out.mono ?_
      rintro e w2 ⟨rfl, HR⟩
      clear cp HP
      rcases HN.out w2 HR.out with ⟨hE, hF⟩ | ⟨hE, hI⟩
      · have HE := hid hE
        have HF := hid hF
        clear hE hF HR HN
        go_wp2_with fail
        refine HE.out.mono ?_
        rintro e w3 ⟨rfl, rfl⟩
        go_wp2_with fail
        refine HF.out.mono ?_
        rintro e w4 ⟨ga, m, qa, rfl, hm, hm2, HQ⟩
        go_wp2
        go_ret2
        exact .inr ⟨ga, m, qa, rfl, hm, hm2, HQ⟩
      · have HE := hid hE
        have HI2 := hid hI
        clear hE hI HR HN
        go_wp2_with fail
        refine HE.out.mono ?_
        rintro e w3 ⟨rfl, rfl⟩
        go_wp2
        exact ⟨⟨3, by go_num, by decide, HI2⟩, by simp [intOf]⟩
    · obtain ⟨ρ1, V1, hC1, hB1, _⟩ := HI.out.m
      have cp := hB1.p.cell 3
      have HP := hid (phase3 HC.out HI.out)
      clear hC1 hB1 HI
      go_wp2_with fail
      refine HP.out.mono ?_
      rintro e w2 ⟨rfl, HR⟩
      clear cp HP
      rcases HN.out w2 HR.out with ⟨hE, hF⟩ | ⟨hE, hI⟩
      · have HE := hid hE
        have HF := hid hF
        clear hE hF HR HN
        go_wp2_with fail
        refine HE.out.mono ?_
        rintro e w3 ⟨rfl, rfl⟩
        go_wp2_with fail
        refine HF.out.mono ?_
        rintro e w4 ⟨ga, m, qa, rfl, hm, hm2, HQ⟩
        go_wp2
        go_ret2
        exact .inr ⟨ga, m, qa, rfl, hm, hm2, HQ⟩
      · have HE := hid hE
        have HI2 := hid hI
        clear hE hI HR HN
        go_wp2_with fail
        refine HE.out.mono ?_
        rintro e w3 ⟨rfl, rfl⟩
        go_wp2
        exact ⟨⟨4, by go_num, by decide, HI2⟩, by simp [intOf]⟩
  obtain rfl : i = 4 := by omega
  have HL := hid (HI.out.lcx HC.out)
  clear HI
  obtain ⟨ρ1, V1, gT, gV, vf, rk, hL, hB, hF⟩ := HL.out
  have HBt := hid (buildTableW hL hF.sh)
  have HLx := hid hL
  have HBx := hid hB
  have HFx := hid hF
  clear HL hL hB hF
  go_wp2_with fail
  refine HBt.out.mono ?_
  rintro e w2 ⟨tB, vF, rfl, HQ⟩
  have HM := hid (measureD HC.out HLx.out HBx.out HFx.out HQ.out)
  clear HBt HLx HBx HFx HQ
  go_wp2_with fail
  refine HM.out.mono ?_
  rintro e w3 ⟨rfl, HR⟩
  clear HM
  rcases sealD HR.out with ⟨ρ, V, errs, vf2, rk2, B, bn, T', vd, h1, h2, h3, h4, h5, h6, h7⟩ | ⟨⟨ρ, V, h1⟩, h2⟩
  · have he : errs.isEmpty = false := by cases errs with | nil => exact absurd rfl h4 | cons _ _ => rfl
    have hE := emptyW h1
    rw [he] at hE
    have HE := hid hE
    have HF := hid (finishD h1 h2 h4 h3 (.inr ⟨vf2, rk2, B, bn, T', vd, errs, h5, h6, h4, h7⟩))
    clear hE h1 h2 h3 h4 h5 h6 h7 he HR
    go_wp2_with fail
    refine HE.out.mono ?_
    rintro e w4 ⟨rfl, rfl⟩
    go_wp2_with fail
    refine HF.out.mono ?_
    rintro e w5 ⟨ga, m, qa, rfl, hm, hm2, HQ⟩
    go_wp2
    go_ret2
    exact .inr ⟨ga, m, qa, rfl, hm, hm2, HQ⟩
  · have HE := hid (emptyW h1)
    have HS := hid h2
    clear h1 h2 HR
    go_wp2_with fail
    refine HE.out.mono ?_
    rintro e w4 ⟨rfl, rfl⟩
    go_wp2_with fail
    refine HS.out.mono ?_
    rintro e w5 ⟨rfl, HQ⟩
    go_wp2
    go_ret2
    exact .inl ⟨tB, rfl, HQ⟩
end
end Go.Proofs.Qxb6500883aGreatDoor
