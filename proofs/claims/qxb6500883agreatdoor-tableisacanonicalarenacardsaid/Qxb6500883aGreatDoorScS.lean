/- advance, fail. -/
import Derived.Test.Qxb6500883aGreatDoorScR
namespace Go.Proofs.Qxb6500883aGreatDoor
open Go.RowKit
set_option linter.unusedSimpArgs false
set_option linter.unusedVariables false
section
variable {N mg : Nat} {ρ ρ' : Rl} {w w' : World} {l : PL} {bs : List UInt8} {S S' : PS}
/-- The parser stands at S' now. -/
structure PGo (N mg : Nat) (ρ : Rl) (w : World) (l : PL) (bs : List UInt8) (S' : PS) (w' : World) : Prop where
  m : ∃ ρ', PM N mg ρ' w' l bs S' ∧ Fr X7 ρ w ρ' w'
structure PNo (N mg : Nat) (ρ : Rl) (w : World) (l : PL) (bs : List UInt8) (k : Nat × Nat) (w' : World) : Prop where
  f : PF w w' l bs k
  m : ∃ ρ', Fr X7 ρ w ρ' w'
set_option maxRecDepth 100000 in
set_option maxHeartbeats 1000000 in
theorem advanceW (h : PM N mg ρ w l bs S) (u : Nat) (hu : u ≤ S.cnt) : Calls Tryz.prog 53 #[.pointer (some ⟨l.p, 0, none⟩)] w fun e w' => e = .returned (.tuple #[]) ∧ Hid (PGo N mg ρ w l bs (S.nxt bs l.n u) w') := by
  have I0 := hid info_tk
  have HN := hid (nextW h.r.gl h.N_le h.lx h.ok.hc)
  have HO := hid (POk.nxt (bs := bs) h.ok h.len hu)
  have HM := hid h
  obtain ⟨X, hX⟩ : ∃ X, nextT bs l.n S.pos S.cnt = X := ⟨_, rfl⟩
  have HX := hid hX
  rw [hX] at HN
  clear h hX
  go_enter Tryz.func53, Tryz.ntmps53
  go_wp2_with fail
  refine HN.out.mono ?_
  rintro e w2 ⟨rfl, H2⟩
  clear HN
  have HF : Hid (PGo N mg ρ w l bs (S.nxt bs l.n u) (w2.setCells l.p 3 (tkC X.1))) := hid (by
    have hu2 := Upd.setCells l.p (tkC X.1) 3 H2.out.u
    have hb := Blk.setCells (tkC X.1) 3 H2.out.lx.blk (show 3 + 5 ≤ 11 by decide)
    obtain ⟨r1, r2⟩ := HM.out.r.updP hu2
    refine ⟨ρ, ⟨?_, r1, HO.out⟩, r2⟩
    unfold PS.nxt
    rw [HX.out]
    exact hb)
  go_wp2_with (refine wpList_store_mid rfl 112 _ _ rfl l.p 3 (tkC X.1).toArray rfl rfl (H2.out.lx.blk.thereAt (show 3 + 5 ≤ 11 by decide)) I0.out (all_oneCell_toArray (tkC_one _)) ?_)
  exact bodyPost_end (v := .tuple #[]) (by simp [results, Tryz.results53, go_sem]) rfl ⟨rfl, HF⟩
set_option maxRecDepth 100000 in
theorem failW (h : PM N mg ρ w l bs S) (k pos : Nat) (m : ByteArray) (hp : pos ≤ l.n) (hm : 0 < m.size) (hm2 : m.size ≤ 35184372088832) : Calls Tryz.prog 115 #[.pointer (some ⟨l.p, 0, none⟩), .int .u8 (k : Int), .int .i64 (pos : Int), .string m] w fun e w' => e = .returned (.bool false) ∧ Hid (PNo N mg ρ w l bs (k, pos) w') := by
  have HE := hid (newErrorW h.r.src k pos m hp hm hm2)
  obtain ⟨c0, _, _, _, _, c10⟩ := h.cells
  have HM := hid h
  clear h
  go_enter Tryz.func115, Tryz.ntmps115
  go_wp2_with fail
  refine HE.out.mono ?_
  rintro e w2 ⟨q, rfl, hq, H2⟩
  have hb2 := HM.out.pb.below H2.out.2
  have c2 := hb2.cell 10
  have f2 := hb2.frozen 10
  simp only [psC, List.getElem?_cons_succ, List.getElem?_cons_zero] at c2
  have HF : Hid (PNo N mg ρ w l bs (k, pos) (w2.setCell ⟨l.p, 10, none⟩ (.pointer (some ⟨q, 0, none⟩)))) := hid (by
    have hu : Upd l.p w (w2.setCell ⟨l.p, 10, none⟩ (.pointer (some ⟨q, 0, none⟩))) := ((Upd.refl l.p w).ofBelow H2.out.2).setCell rfl _
    obtain ⟨m', e1, e2, e3⟩ := H2.out.1.e
    have hlt := HM.out.pb.lt
    refine ⟨⟨⟨q, _, hb2.set 10 _, rfl, ⟨m', e1, e2, e3.setOther (by show l.p ≠ q; omega) _⟩, hq⟩, hp⟩, ρ, (HM.out.r.updP hu).2⟩)
  clear H2 HE HM hb2
  go_wp2
  go_ret
  exact ⟨rfl, HF⟩
end
end Go.Proofs.Qxb6500883aGreatDoor
