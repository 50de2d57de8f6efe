/- unexpected, expect, open, shut, name. -/
import Derived.Test.Qxb6500883aGreatDoorScT
namespace Go.Proofs.Qxb6500883aGreatDoor
open Go.RowKit
set_option linter.unusedSimpArgs false
set_option linter.unusedVariables false
/-- How the lookahead is refused. -/
def PS.unx (S : PS) : Nat × Nat := (if S.tok.kind = 1 then 1 else if S.tok.kind = 2 then 2 else 4, S.tok.pos)
section
variable {N mg : Nat} {ρ ρ' : Rl} {w w' w1 w2 : World} {l : PL} {bs : List UInt8} {S S' : PS}
theorem PM.cells' (h : PM N mg ρ w l bs S) : w.cell? ⟨l.p, 5, none⟩ = some (.int .i64 (S.tok.en : Int)) ∧ w.cell? ⟨l.p, 6, none⟩ = some (.int .i64 (S.tok.bad : Int)) ∧ w.cell? ⟨l.p, 7, none⟩ = some (.int .u64 (S.tok.val : Int)) :=
  ⟨h.pb.cell 5, h.pb.cell 6, h.pb.cell 7⟩
theorem PNo.pre {k : Nat × Nat} (hb : Below w.heap.size w w1) (h : PNo N mg ρ w1 l bs k w') : PNo N mg ρ w l bs k w' := by
  obtain ⟨⟨q, cs, h1, h2, h3, h4⟩, h5⟩ := h.f
  obtain ⟨ρ', hf⟩ := h.m
  exact ⟨⟨⟨q, cs, h1, h2, h3, Nat.le_trans hb.size h4⟩, h5⟩, ρ', (Fr.below hb).trans hf⟩
set_option maxRecDepth 100000 in
set_option maxHeartbeats 1000000 in
theorem unexpectedW (h : PM N mg ρ w l bs S) (s : ByteArray) (hs : s.size ≤ 17592186044000) : Calls Tryz.prog 82 #[.pointer (some ⟨l.p, 0, none⟩), .string s] w fun e w' => e = .returned (.bool false) ∧ Hid (PNo N mg ρ w l bs S.unx w') := by
  have HDs := hid (fun (w2 : World) (h2 : PM N mg ρ w2 l bs S) => describeW h2.r.src h2.r.gl S.tok h2.ok.tk)
  have HM := hid h
  have hpn : S.tok.pos ≤ l.n := by have := h.ok.tk; have h1 := this.pe; have h2 := this.en; omega
  obtain ⟨X0, W, hT, hI⟩ := class_mk (fun w' => Drew w w')
  have H0 : Hid (∃ y, w.drew = W y) := hid (hI _ ⟨1, rfl⟩)
  have hne : Nonempty X0 := ⟨H0.out.choose⟩
  have HTT := hid hT
  have hPM : ∀ y, PM N mg ρ (W y) l bs S := fun y => h.below ((hT y).below _)
  have c0 : ∀ y, (W y).cell? ⟨l.p, 0, none⟩ = some (.slice l.a l.n l.c) := fun y => (hPM y).cells.1
  have c3 : ∀ y, (W y).cell? ⟨l.p, 3, none⟩ = some (.int .u8 (S.tok.kind : Int)) := fun y => (hPM y).cells.2.1
  have c4 : ∀ y, (W y).cell? ⟨l.p, 4, none⟩ = some (.int .i64 (S.tok.pos : Int)) := fun y => (hPM y).cells.2.2.1
  have c5 : ∀ y, (W y).cell? ⟨l.p, 5, none⟩ = some (.int .i64 (S.tok.en : Int)) := fun y => (hPM y).cells'.1
  have c6 : ∀ y, (W y).cell? ⟨l.p, 6, none⟩ = some (.int .i64 (S.tok.bad : Int)) := fun y => (hPM y).cells'.2.1
  have c7 : ∀ y, (W y).cell? ⟨l.p, 7, none⟩ = some (.int .u64 (S.tok.val : Int)) := fun y => (hPM y).cells'.2.2
  have HPM := hid hPM
  have Hux : Hid (S.unx = (if S.tok.kind = 1 then 1 else if S.tok.kind = 2 then 2 else 4, S.tok.pos)) := hid rfl
  obtain ⟨ux, hux⟩ : ∃ ux, S.unx = ux := ⟨_, rfl⟩
  rw [hux] at Hux
  rw [hux]
  clear h hT hI hPM hux
  have Htk : Hid (S.tok = ⟨S.tok.kind, S.tok.pos, S.tok.en, S.tok.bad, S.tok.val⟩) := hid rfl
  generalize hkd : S.tok.kind = kd at *
  have Hkd := hid hkd
  clear hkd
  generalize hps : S.tok.pos = ps at *
  have Hps := hid hps
  clear hps
  generalize hen : S.tok.en = en at *
  have Hen := hid hen
  clear hen
  generalize hbd : S.tok.bad = bd at *
  have Hbd := hid hbd
  clear hbd
  generalize hvl : S.tok.val = vl at *
  have Hvl := hid hvl
  clear hvl
  rw [Htk.out] at HDs
  dsimp only [tkC] at HDs
  clear Htk
  go_enter Tryz.func82, Tryz.ntmps82
  go_upto_region 1 with fail
  refine wp_region_class_tailT W 9 (by kernel_rfl) (by kernel_rfl) (by kernel_rfl) H0.out ?_
  dsimp only [List.take, List.drop]
  repeat (go_big_quiet_step (fail))
  refine wpQuiet_nil ?_
  intro z
  have HZ := hid (HTT.out z)
  have HMz := hid (HPM.out z)
  generalize W z = wz at HZ HMz ⊢
  clear c0 c3 c4 c5 c6 c7 H0 HTT HPM HM
  have HDz := hid (HDs.out wz HMz.out)
  go_wp2_with fail
  refine HDz.out.mono ?_
  rintro e w2 ⟨s2, rfl, h20, h21, hb2⟩
  have HB2 := hid ((HZ.out.below _).trans (hb2.out.mono (HZ.out.below w.heap.size).size))
  have HM2 := hid (HMz.out.below hb2.out)
  clear hb2 HDz HDs HMz HZ
  obtain ⟨_, c3, c4, _⟩ := HM2.out.cells
  rw [Hkd.out] at c3
  rw [Hps.out] at c4
  by_cases h1 : kd = 1
  · as_aux_lemma =>
    have d1 : ((kd : Int) == 1) = true := by simp; omega
    have HF : Hid (ux = (1, ps)) := hid (by rw [Hux.out, if_pos h1])
    clear h1
    obtain ⟨X1, W1, hT1, hI1⟩ := class_mk (fun w' => Below w2.heap.size w2 w')
    have H01 : Hid (∃ y, w2.drew = W1 y) := hid (hI1 _ (Drew.below ⟨1, rfl⟩ _))
    have hne1 : Nonempty X1 := ⟨H01.out.choose⟩
    have HT1 := hid hT1
    have HC1 : Hid (∀ x w', Below (W1 x).heap.size (W1 x) w' → ∃ y, w' = W1 y) := hid (fun x w' hb => hI1 _ ((hT1 x).trans (hb.mono (hT1 x).size)))
    have HIt := hid (fun wz => itoaX 65536 (by decide) wz)
    have hsz := uS_size 65536 (by decide)
    generalize uS 65536 = s3 at HIt hsz
    have k4 : ∀ y, (W1 y).cell? ⟨l.p, 4, none⟩ = some (.int .i64 (ps : Int)) := fun y => by rw [(hT1 y).cell HM2.out.pb.lt]; exact c4
    clear hT1 hI1
    have hz3 : (({ data := #[116, 104, 101, 32, 116, 101, 120, 116, 32, 104, 97, 115, 32, 109, 111, 114, 101, 32, 116, 104, 97, 110, 32] } : ByteArray) ++ s3).size = 23 + s3.size := by rw [ba_size]; rfl
    have hz4 : (({ data := #[116, 104, 101, 32, 116, 101, 120, 116, 32, 104, 97, 115, 32, 109, 111, 114, 101, 32, 116, 104, 97, 110, 32] } : ByteArray) ++ s3 ++ { data := #[32, 116, 111, 107, 101, 110, 115] }).size = 23 + s3.size + 7 := by rw [ba_size, hz3]; rfl
    go_upto_region 4 with fail
    refine wp_region_class_tailT W1 9 (by kernel_rfl) (by kernel_rfl) (by kernel_rfl) H01.out ?_
    dsimp only [List.take, List.drop]
    repeat (go_big_quiet_step ((go_at_call 64; exact Calls.class_of HC1.out (HIt.out _))))
    refine wpQuiet_nil ?_
    intro z1
    have HB3 := hid (HT1.out z1)
    generalize W1 z1 = w3 at HB3 ⊢
    clear k4 HT1 HC1 H01 HIt
    have HM3 := hid (HM2.out.below HB3.out)
    have HFl := hid (failW HM3.out 1 ps _ hpn (show 0 < ByteArray.size _ by rw [hz4]; omega) (by rw [hz4]; omega))
    go_wp2_with fail
    refine HFl.out.mono ?_
    rintro e w4 ⟨rfl, hp4⟩
    have HP : Hid (PNo N mg ρ w l bs ux w4) := hid (by rw [HF.out]; exact PNo.pre (HB2.out.trans (HB3.out.mono HB2.out.size)) hp4.out)
    clear hp4 HFl
    go_wp2
    go_ret
    exact ⟨rfl, HP⟩
  have d1 : ((kd : Int) == 1) = false := by simp; omega
  by_cases h2 : kd = 2
  · as_aux_lemma =>
    have d2 : ((kd : Int) == 2) = true := by simp; omega
    have HF : Hid (ux = (2, ps)) := hid (by rw [Hux.out, if_neg h1, if_pos h2])
    clear h1 h2
    have hz3 : (s2 ++ ({ data := #[32, 98, 101, 103, 105, 110, 115, 32, 110, 111, 32, 116, 111, 107, 101, 110] } : ByteArray)).size = s2.size + 16 := by rw [ba_size]; rfl
    have HFl := hid (failW HM2.out 2 ps _ hpn (show 0 < ByteArray.size _ by rw [hz3]; omega) (by rw [hz3]; omega))
    go_wp2_with fail
    refine HFl.out.mono ?_
    rintro e w4 ⟨rfl, hp4⟩
    have HP : Hid (PNo N mg ρ w l bs ux w4) := hid (by rw [HF.out]; exact PNo.pre HB2.out hp4.out)
    clear hp4 HFl
    go_wp2
    go_ret
    exact ⟨rfl, HP⟩
  as_aux_lemma =>
  have d2 : ((kd : Int) == 2) = false := by simp; omega
  have HF : Hid (ux = (4, ps)) := hid (by rw [Hux.out, if_neg h1, if_neg h2])
  clear h1 h2
  have hz3 : (({ data := #[102, 111, 117, 110, 100, 32] } : ByteArray) ++ s2).size = 6 + s2.size := by rw [ba_size]; rfl
  have hz4 : (({ data := #[102, 111, 117, 110, 100, 32] } : ByteArray) ++ s2 ++ { data := #[44, 32, 101, 120, 112, 101, 99, 116, 101, 100, 32] }).size = 6 + s2.size + 11 := by rw [ba_size, hz3]; rfl
  have hz5 : (({ data := #[102, 111, 117, 110, 100, 32] } : ByteArray) ++ s2 ++ { data := #[44, 32, 101, 120, 112, 101, 99, 116, 101, 100, 32] } ++ s).size = 6 + s2.size + 11 + s.size := by rw [ba_size, hz4]
  have HFl := hid (failW HM2.out 4 ps _ hpn (show 0 < ByteArray.size _ by rw [hz5]; omega) (by rw [hz5]; omega))
  go_wp2_with fail
  refine HFl.out.mono ?_
  rintro e w4 ⟨rfl, hp4⟩
  have HP : Hid (PNo N mg ρ w l bs ux w4) := hid (by rw [HF.out]; exact PNo.pre HB2.out hp4.out)
  clear hp4 HFl
  go_wp2
  go_ret
  exact ⟨rfl, HP⟩
end
end Go.Proofs.Qxb6500883aGreatDoor
