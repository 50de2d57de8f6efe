/- expect, open, shut, name. -/
import Derived.Test.Qxb6500883aGreatDoorScU
namespace Go.Proofs.Qxb6500883aGreatDoor
open Go.RowKit
set_option linter.unusedSimpArgs false
set_option linter.unusedVariables false
section
variable {N mg : Nat} {ρ ρ' : Rl} {w w' w1 w2 : World} {l : PL} {bs : List UInt8} {S S' : PS}
theorem PGo.pre (hb : Below w.heap.size w w1) (h : PGo N mg ρ w1 l bs S' w') : PGo N mg ρ w l bs S' w' := by
  obtain ⟨ρ', h1, hf⟩ := h.m
  exact ⟨ρ', h1, (Fr.below hb).trans hf⟩
theorem advW (h : PM N mg ρ w l bs S) (hk : 2 ≤ S.tok.kind) : Calls Tryz.prog 53 #[.pointer (some ⟨l.p, 0, none⟩)] w fun e w' => e = .returned (.tuple #[]) ∧ Hid (PGo N mg ρ w l bs (S.adv bs l.n) w') := advanceW h (S.used + 1) (h.ok.hk hk)
set_option maxRecDepth 100000 in
theorem expectY (h : PM N mg ρ w l bs S) {k : Nat} (hk : S.tok.kind = k) (h2 : 2 ≤ k) : Calls Tryz.prog 111 #[.pointer (some ⟨l.p, 0, none⟩), .int .u8 (k : Int)] w fun e w' => e = .returned (.bool true) ∧ Hid (PGo N mg ρ w l bs (S.adv bs l.n) w') := by
  have HA := hid (advW h (by omega))
  obtain ⟨_, c3, _⟩ := h.cells
  rw [hk] at c3
  have d1 : ((k : Int) != (k : Int)) = false := by simp
  clear hk h
  go_enter Tryz.func111, Tryz.ntmps111
  go_wp2_with fail
  refine HA.out.mono ?_
  rintro e w1 ⟨rfl, H1⟩
  go_wp2
  go_ret
  exact ⟨rfl, H1⟩
set_option maxRecDepth 100000 in
theorem expectN (h : PM N mg ρ w l bs S) {k : Nat} (hk : S.tok.kind ≠ k) (h38 : k < 38) : Calls Tryz.prog 111 #[.pointer (some ⟨l.p, 0, none⟩), .int .u8 (k : Int)] w fun e w' => e = .returned (.bool false) ∧ Hid (PNo N mg ρ w l bs S.unx w') := by
  have htt := h.r.gl.tt k h38
  have hts := ttS_size k
  generalize ttS k = s at htt hts
  have hz : (({ data := #[39] } : ByteArray) ++ s ++ { data := #[39] }).size = 1 + s.size + 1 := by rw [ba_size, ba_size]; rfl
  have HU := hid (unexpectedW h (({ data := #[39] } : ByteArray) ++ s ++ { data := #[39] }) (by rw [hz]; omega))
  obtain ⟨_, c3, _⟩ := h.cells
  have d1 : ((S.tok.kind : Int) != (k : Int)) = true := by simp; omega
  have i1 : (k : Int) < 38 := by omega
  generalize S.tok.kind = kd at c3 d1
  clear hk h
  go_enter Tryz.func111, Tryz.ntmps111
  go_wp2_with fail
  refine HU.out.mono ?_
  rintro e w1 ⟨rfl, H1⟩
  go_wp2
  go_ret
  exact ⟨rfl, H1⟩
/-- One more bracket open. -/
def PS.opn (S : PS) (bs : List UInt8) (n : Nat) : PS := PS.adv { S with depth := S.depth + 1 } bs n
theorem PM.dep (h : PM N mg ρ w l bs S) (d : Nat) (hd : d ≤ 32) : PM N mg ρ (w.setCell ⟨l.p, 9, none⟩ (.int .i64 (d : Int))) l bs { S with depth := d } ∧ Fr X7 ρ w ρ (w.setCell ⟨l.p, 9, none⟩ (.int .i64 (d : Int))) := by
  have hu : Upd l.p w (w.setCell ⟨l.p, 9, none⟩ (.int .i64 (d : Int))) := (Upd.refl l.p w).setCell rfl _
  obtain ⟨r1, r2⟩ := h.r.updP hu
  exact ⟨⟨h.pb.set 9 _, r1, ⟨h.ok.tk, h.ok.hp, h.ok.hc, h.ok.hu, h.ok.hk, hd⟩⟩, r2⟩
theorem PGo.pre' {ρ1 : Rl} (hf : Fr X7 ρ w ρ1 w1) (h : PGo N mg ρ1 w1 l bs S' w') : PGo N mg ρ w l bs S' w' := by
  obtain ⟨ρ', h1, hf2⟩ := h.m
  exact ⟨ρ', h1, hf.trans hf2⟩
theorem PNo.pre' {ρ1 : Rl} {k : Nat × Nat} (hf : Fr X7 ρ w ρ1 w1) (h : PNo N mg ρ1 w1 l bs k w') : PNo N mg ρ w l bs k w' := by
  obtain ⟨⟨q, cs, h1, h2, h3, h4⟩, h5⟩ := h.f
  obtain ⟨ρ', hf2⟩ := h.m
  exact ⟨⟨⟨q, cs, h1, h2, h3, Nat.le_trans hf.size h4⟩, h5⟩, ρ', hf.trans hf2⟩
set_option maxRecDepth 100000 in
theorem openY (h : PM N mg ρ w l bs S) {k : Nat} (hk : S.tok.kind = k) (h2 : 2 ≤ k) (hd : S.depth < 32) : Calls Tryz.prog 137 #[.pointer (some ⟨l.p, 0, none⟩), .int .u8 (k : Int)] w fun e w' => e = .returned (.bool true) ∧ Hid (PGo N mg ρ w l bs (S.opn bs l.n) w') := by
  obtain ⟨_, c3, _, _, c9, _⟩ := h.cells
  have f9 := h.fz 9
  have H1 := hid (h.dep (S.depth + 1) (by omega))
  have HA := hid (advW H1.out.1 (show 2 ≤ S.tok.kind by omega))
  obtain ⟨w1, hw1⟩ : ∃ w1, w.setCell ⟨l.p, 9, none⟩ (.int .i64 ((S.depth + 1 : Nat) : Int)) = w1 := ⟨_, rfl⟩
  rw [hw1] at H1 HA
  obtain ⟨d, hdd⟩ : ∃ d, S.depth = d := ⟨_, rfl⟩
  have ed : ((S.depth + 1 : Nat) : Int) = (d : Int) + 1 := by omega
  rw [ed] at hw1
  rw [hdd] at c9
  rw [hk] at c3
  have d1 : ((k : Int) != (k : Int)) = false := by simp
  have d2 : decide ((d : Int) ≥ 32) = false := decide_eq_false (by omega)
  have d3 : decide (32 ≤ (d : Int)) = false := d2
  have d4 : (d : Int) < 32 := by omega
  clear hk h ed hdd hd
  go_enter Tryz.func137, Tryz.ntmps137
  go_wp2_with fail
  refine HA.out.mono ?_
  rintro e w2 ⟨rfl, H2⟩
  have HF : Hid (PGo N mg ρ w l bs (S.opn bs l.n) w2) := hid (PGo.pre' H1.out.2 H2.out)
  clear H1 H2 HA
  go_wp2
  go_ret
  exact ⟨rfl, HF⟩
set_option maxRecDepth 100000 in
theorem openN (h : PM N mg ρ w l bs S) {k : Nat} (hk : S.tok.kind ≠ k) (h38 : k < 38) : Calls Tryz.prog 137 #[.pointer (some ⟨l.p, 0, none⟩), .int .u8 (k : Int)] w fun e w' => e = .returned (.bool false) ∧ Hid (PNo N mg ρ w l bs S.unx w') := by
  have htt := h.r.gl.tt k h38
  have hts := ttS_size k
  generalize ttS k = s at htt hts
  have hz : (({ data := #[39] } : ByteArray) ++ s ++ { data := #[39] }).size = 1 + s.size + 1 := by rw [ba_size, ba_size]; rfl
  have HU := hid (unexpectedW h (({ data := #[39] } : ByteArray) ++ s ++ { data := #[39] }) (by rw [hz]; omega))
  obtain ⟨_, c3, _⟩ := h.cells
  have d1 : ((S.tok.kind : Int) != (k : Int)) = true := by simp; omega
  have i1 : (k : Int) < 38 := by omega
  generalize S.tok.kind = kd at c3 d1
  clear hk h
  go_enter Tryz.func137, Tryz.ntmps137
  go_wp2_with fail
  refine HU.out.mono ?_
  rintro e w1 ⟨rfl, H1⟩
  go_wp2
  go_ret
  exact ⟨rfl, H1⟩
set_option maxRecDepth 100000 in
theorem openD (h : PM N mg ρ w l bs S) {k : Nat} (hk : S.tok.kind = k) (hd : 32 ≤ S.depth) : Calls Tryz.prog 137 #[.pointer (some ⟨l.p, 0, none⟩), .int .u8 (k : Int)] w fun e w' => e = .returned (.bool false) ∧ Hid (PNo N mg ρ w l bs (5, S.tok.pos) w') := by
  obtain ⟨_, c3, c4, _, c9, _⟩ := h.cells
  have hpn : S.tok.pos ≤ l.n := by have := h.ok.tk; have h1 := this.pe; have h2 := this.en; omega
  have HM := hid h
  obtain ⟨X1, W1, hT1, hI1⟩ := class_mk (fun w' => Below w.heap.size w w')
  have H01 : Hid (∃ y, w.drew = W1 y) := hid (hI1 _ (Drew.below ⟨1, rfl⟩ _))
  have hne1 : Nonempty X1 := ⟨H01.out.choose⟩
  have HT1 := hid hT1
  have HC1 : Hid (∀ x w', Below (W1 x).heap.size (W1 x) w' → ∃ y, w' = W1 y) := hid (fun x w' hb => hI1 _ ((hT1 x).trans (hb.mono (hT1 x).size)))
  have HIt := hid (fun wz => itoaX 32 (by decide) wz)
  have hsz := uS_size 32 (by decide)
  generalize uS 32 = s3 at HIt hsz
  have k4 : ∀ y, (W1 y).cell? ⟨l.p, 4, none⟩ = some (.int .i64 (S.tok.pos : Int)) := fun y => by rw [(hT1 y).cell h.pb.lt]; exact c4
  have hz3 : (({ data := #[109, 111, 114, 101, 32, 116, 104, 97, 110, 32] } : ByteArray) ++ s3).size = 10 + s3.size := by rw [ba_size]; rfl
  have hz4 : (({ data := #[109, 111, 114, 101, 32, 116, 104, 97, 110, 32] } : ByteArray) ++ s3 ++ { data := #[32, 98, 114, 97, 99, 107, 101, 116, 115, 32, 111, 112, 101, 110] }).size = 10 + s3.size + 14 := by rw [ba_size, hz3]; rfl
  rw [hk] at c3
  have d1 : ((k : Int) != (k : Int)) = false := by simp
  have d2 : decide ((S.depth : Int) ≥ 32) = true := decide_eq_true (by omega)
  have d3 : decide (32 ≤ (S.depth : Int)) = true := d2
  generalize S.tok.pos = ps at *
  generalize S.depth = dp at *
  clear hk h hT1 hI1
  go_enter Tryz.func137, Tryz.ntmps137
  go_upto_region 4 with fail
  refine wp_region_class_tailT W1 9 (by kernel_rfl) (by kernel_rfl) (by kernel_rfl) H01.out ?_
  dsimp only [List.take, List.drop]
  repeat (go_big_quiet_step ((go_at_call 64; exact Calls.class_of HC1.out (HIt.out _))))
  refine wpQuiet_nil ?_
  intro z1
  have HB3 := hid (HT1.out z1)
  generalize W1 z1 = w3 at HB3 ⊢
  clear k4 HT1 HC1 H01 HIt
  have HM3 := hid (HM.out.below HB3.out)
  have HFl := hid (failW HM3.out 5 ps _ hpn (show 0 < ByteArray.size _ by rw [hz4]; omega) (by rw [hz4]; omega))
  go_wp2_with fail
  refine HFl.out.mono ?_
  rintro e w4 ⟨rfl, hp4⟩
  have HP := hid (PNo.pre HB3.out hp4.out)
  clear hp4 HFl
  go_wp2
  go_ret
  exact ⟨rfl, HP⟩
/-- One bracket shut. -/
def PS.sht (S : PS) (bs : List UInt8) (n : Nat) : PS := { S.adv bs n with depth := S.depth - 1 }
set_option maxRecDepth 100000 in
theorem shutY (h : PM N mg ρ w l bs S) {k : Nat} (hk : S.tok.kind = k) (h2 : 2 ≤ k) (hd : 1 ≤ S.depth) : Calls Tryz.prog 138 #[.pointer (some ⟨l.p, 0, none⟩), .int .u8 (k : Int)] w fun e w' => e = .returned (.bool true) ∧ Hid (PGo N mg ρ w l bs (S.sht bs l.n) w') := by
  have HA := hid (expectY h hk h2)
  have hd32 := h.ok.hd
  clear h hk
  go_enter Tryz.func138, Tryz.ntmps138
  go_wp2_with fail
  refine HA.out.mono ?_
  rintro e w2 ⟨rfl, H2⟩
  obtain ⟨ρ2, hm2, hf2⟩ := H2.out.m
  obtain ⟨_, _, _, _, c9, _⟩ := hm2.cells
  have f9 := hm2.fz 9
  have hdp : (S.adv bs l.n).depth = S.depth := rfl
  rw [hdp] at c9
  have H3 := hid (hm2.dep (S.depth - 1) (by omega))
  have HF : Hid (PGo N mg ρ w l bs (S.sht bs l.n) (w2.setCell ⟨l.p, 9, none⟩ (.int .i64 ((S.depth - 1 : Nat) : Int)))) := hid ⟨ρ2, H3.out.1, hf2.trans H3.out.2⟩
  have ed : ((S.depth - 1 : Nat) : Int) = (S.depth : Int) - 1 := by omega
  rw [ed] at HF
  generalize S.depth = d at *
  clear H2 H3 HA hm2 hf2 ed
  go_wp2
  go_ret
  exact ⟨rfl, HF⟩
set_option maxRecDepth 100000 in
theorem shutN (h : PM N mg ρ w l bs S) {k : Nat} (hk : S.tok.kind ≠ k) (h38 : k < 38) : Calls Tryz.prog 138 #[.pointer (some ⟨l.p, 0, none⟩), .int .u8 (k : Int)] w fun e w' => e = .returned (.bool false) ∧ Hid (PNo N mg ρ w l bs S.unx w') := by
  have HA := hid (expectN h hk h38)
  clear h hk
  go_enter Tryz.func138, Tryz.ntmps138
  go_wp2_with fail
  refine HA.out.mono ?_
  rintro e w2 ⟨rfl, H2⟩
  go_wp2
  go_ret
  exact ⟨rfl, H2⟩
end
end Go.Proofs.Qxb6500883aGreatDoor
