/- Parse. -/
import Derived.Test.Qxb6500883aGreatDoorScAi
namespace Go.Proofs.Qxb6500883aGreatDoor
open Go.RowKit
set_option linter.unusedSimpArgs false
set_option linter.unusedVariables false
def fs0 : FS := ⟨[], [], [], [], []⟩
/-- The parser's state at the first token. -/
def PS.first (bs : List UInt8) (n : Nat) : PS := PS.nxt ⟨0, 0, 0, 0, ⟨0, 0, 0, 0, 0⟩, fs0⟩ bs n 0
section
variable {N mg : Nat} {w w' w1 w2 : World} {bs : List UInt8} {a : Option Addr} {n c : Nat}
def ρP (f : Nat) : Rl := fup (fup (fun _ => 0) f 8) (f + 1) 7
/-- What Parse comes to. -/
def PaQ (N mg : Nat) (w : World) (a : Option Addr) (n c : Nat) (bs : List UInt8) (e : Ending) (w' : World) : Prop :=
  (∃ (l : PL) (ρ : Rl) (S : PS), e = .returned (.tuple #[.pointer (some ⟨l.f, 0, none⟩), .pointer none]) ∧ Hid (l.a = a ∧ l.n = n ∧ l.c = c) ∧ Hid (FileOk bs n (PS.first bs n) S ∧ S.tok.kind = 0 ∧ PD S ∧ POk n S) ∧ Hid (PR N mg ρ w' l bs S.fs ∧ (∀ g, g < w.heap.size → ρ g = 0) ∧ Below w.heap.size w w')) ∨
  (∃ (q k p : Nat), e = .returned (.tuple #[.pointer none, .pointer (some ⟨q, 0, none⟩)]) ∧ p ≤ n ∧ w.heap.size ≤ q ∧ Hid (FileBad bs n (PS.first bs n)) ∧ Hid (ErM w' q bs k p ∧ Below w.heap.size w w'))
theorem start_pm (hs : Src w a n c bs) (hg : Gl N mg w) (hb : Below w.heap.size w w1) (h1 : Blk w1 w.heap.size 109 [.slice a n c, .slice none 0 0, .slice none 0 0, .slice none 0 0, .slice none 0 0, .slice none 0 0])
    (h2 : Blk w1 (w.heap.size + 1) 114 [.slice a n c, .int .i64 0, .int .i64 0, .int .u8 0, .int .i64 0, .int .i64 0, .int .i64 0, .int .u64 0, .pointer (some ⟨w.heap.size, 0, none⟩), .int .i64 0, .pointer none]) :
    PM N mg (ρP w.heap.size) w1 ⟨w.heap.size + 1, w.heap.size, a, n, c⟩ bs ⟨0, 0, 0, 0, ⟨0, 0, 0, 0, 0⟩, fs0⟩ := by
  have hz : ∀ g, g < w.heap.size → ρP w.heap.size g = 0 := fun g hgl => by unfold ρP; rw [fup_ne _ _ (by omega), fup_ne _ _ (by omega)]
  refine ⟨h2, ⟨hs.below hb, hg.below' hb, ⟨⟨.slice none 0 0, .slice none 0 0, .slice none 0 0, .slice none 0 0, .slice none 0 0⟩, h1, RowX.nil _ _ _ _, RowX.nil _ _ _ _, RowX.nil _ _ _ _, RowX.nil _ _ _ _, RowX.nil _ _ _ _⟩, fup_self _ _ _, ?_, fun ad ha => hz _ (hs.lt ad ha), fun g hgN => hz g (Nat.lt_of_lt_of_le hgN hg.sz), fun g hgr => ?_⟩, ?_⟩
  · show ρP w.heap.size w.heap.size = 8
    unfold ρP
    rw [fup_ne _ _ (by omega), fup_self]
  · have hlt := h2.lt
    by_cases e1 : g = w.heap.size + 1
    · omega
    · by_cases e2 : g = w.heap.size
      · omega
      · exfalso
        apply hgr
        unfold ρP
        rw [fup_ne _ _ e1, fup_ne _ _ e2]
  · exact ⟨⟨by decide, Nat.le_refl _, Nat.zero_le _, fun h => absurd h (show ¬ ((0 : Nat) = 3) by decide), Nat.zero_le _, by decide, fun h => absurd h (show ¬ (2 ≤ (0 : Nat)) by decide)⟩, Nat.zero_le _, Nat.zero_le _, Nat.le_refl _, fun h => absurd h (show ¬ (2 ≤ (0 : Nat)) by decide), Nat.zero_le _⟩
set_option maxRecDepth 100000 in
set_option maxHeartbeats 1000000 in
theorem parseW (hs : Src w a n c bs) (hg : Gl N mg w) : Calls Tryz.prog 13 #[.slice a n c] w (PaQ N mg w a n c bs) := by
  obtain ⟨f, hf⟩ : ∃ f, w.heap.size = f := ⟨_, rfl⟩
  obtain ⟨wa, hwa⟩ : ∃ x, w.alloc (.cells #[.slice a n c, .slice none 0 0, .slice none 0 0, .slice none 0 0, .slice none 0 0, .slice none 0 0] 109) = x := ⟨_, rfl⟩
  obtain ⟨wb, hwb⟩ : ∃ x, wa.alloc (.cells #[.slice a n c, .int .i64 0, .int .i64 0, .int .u8 0, .int .i64 0, .int .i64 0, .int .i64 0, .int .u64 0, .pointer (some ⟨f, 0, none⟩), .int .i64 0, .pointer none] 114) = x := ⟨_, rfl⟩
  have hsa : wa.heap.size = f + 1 := by rw [← hwa, ← hf]; simp
  have hba : Below w.heap.size w wa := by rw [← hwa]; exact nbel w _
  have hbb : Below w.heap.size w wb := hba.trans (by rw [← hwb]; exact (nbel wa _).mono hba.size)
  have H1 : Hid (PM N mg (ρP f) wb ⟨f + 1, f, a, n, c⟩ bs ⟨0, 0, 0, 0, ⟨0, 0, 0, 0, 0⟩, fs0⟩ ∧ Below w.heap.size w wb) := hid (by
    have k1 := Blk.new w [.slice a n c, .slice none 0 0, .slice none 0 0, .slice none 0 0, .slice none 0 0, .slice none 0 0] 109
    have k2 := Blk.new wa [.slice a n c, .int .i64 0, .int .i64 0, .int .u8 0, .int .i64 0, .int .i64 0, .int .i64 0, .int .u64 0, .pointer (some ⟨f, 0, none⟩), .int .i64 0, .pointer none] 114
    rw [hsa] at k2
    have e1 : wb.heap[w.heap.size]? = wa.heap[w.heap.size]? := by
      rw [← hwb]
      exact (nbel wa _).block _ (by rw [hsa, hf]; omega)
    have k1' : Blk wb w.heap.size 109 [.slice a n c, .slice none 0 0, .slice none 0 0, .slice none 0 0, .slice none 0 0, .slice none 0 0] := by
      unfold Blk
      rw [e1, ← hwa]
      exact k1
    have k2' : Blk wb (w.heap.size + 1) 114 [.slice a n c, .int .i64 0, .int .i64 0, .int .u8 0, .int .i64 0, .int .i64 0, .int .i64 0, .int .u64 0, .pointer (some ⟨w.heap.size, 0, none⟩), .int .i64 0, .pointer none] := by
      rw [hf, ← hwb]; exact k2
    have := start_pm hs hg hbb k1' k2'
    rw [hf] at this
    exact ⟨this, hbb⟩)
  have Hf := hid hf
  clear hba hbb hs hg
  go_enter Tryz.func13, Tryz.ntmps13
  go_upto_region 2 with fail
  (try simp only [hf, hwa, hsa, hwb])
  clear hf hwa hwb hsa
  have HA := hid (advanceW H1.out.1 0 (Nat.le_refl _))
  go_wp2_with fail
  refine HA.out.mono ?_
  rintro e w2 ⟨rfl, hg2⟩
  obtain ⟨ρ2, hm2, hf2⟩ := hg2.out.m
  have H2 : Hid (PM N mg ρ2 w2 ⟨f + 1, f, a, n, c⟩ bs (PS.first bs n) ∧ Fr X7 (ρP f) wb ρ2 w2) := hid ⟨hm2, hf2⟩
  have HD : Hid (PD (PS.first bs n)) := hid ⟨⟨Nat.le_refl _, Nat.le_refl _⟩, Nat.le_refl _, Nat.le_refl _⟩
  have HPF := hid (parseFileW H2.out.1 HD.out)
  have Hz : Hid (∀ g, g < w.heap.size → ρP f g = 0) := hid (fun g hgl => by rw [Hf.out] at hgl; unfold ρP; rw [fup_ne _ _ (by omega), fup_ne _ _ (by omega)])
  clear HA hg2 hm2 hf2
  go_wp2_with fail
  refine HPF.out.mono ?_
  rintro e w3 (⟨S3, rfl, HP3, hg3⟩ | ⟨rfl, HB3, hn3⟩)
  · as_aux_lemma =>
    obtain ⟨ρ3, hm3, hf3⟩ := hg3.out.m
    have k8 := hm3.cells.2.2.2.1
    dsimp only at k8
    have HF : Hid (PR N mg ρ3 w3 ⟨f + 1, f, a, n, c⟩ bs S3.fs ∧ (∀ g, g < w.heap.size → ρ3 g = 0) ∧ Below w.heap.size w w3) := hid (by
      have hfr := H2.out.2.trans hf3
      have hsz := H1.out.2.size
      exact ⟨hm3.r, fun g hgl => by rw [hfr.old g (by omega)]; exact Hz.out g hgl, H1.out.2.trans (hfr.toBelow hsz Hz.out rfl)⟩)
    have HO : Hid (FileOk bs n (PS.first bs n) S3 ∧ S3.tok.kind = 0 ∧ PD S3 ∧ POk n S3) := hid ⟨HP3.out.1, HP3.out.2.1, HP3.out.2.2, hm3.ok⟩
    clear HPF hg3 hm3 hf3 H1 H2
    go_wp2
    go_ret2
    exact .inl ⟨⟨f + 1, f, a, n, c⟩, ρ3, S3, rfl, hid ⟨rfl, rfl, rfl⟩, HO, HF⟩
  · as_aux_lemma =>
    obtain ⟨k, hn⟩ := hn3.out
    obtain ⟨⟨q, cs, g1, g2, g3, g4⟩, g5⟩ := hn.f
    obtain ⟨ρ3, hf3⟩ := hn.m
    have c10 : w3.cell? ⟨f + 1, 10, none⟩ = some (.pointer (some ⟨q, 0, none⟩)) := by rw [g1.cell]; exact g2
    have HF : Hid (k.2 ≤ n ∧ w.heap.size ≤ q ∧ ErM w3 q bs k.1 k.2 ∧ Below w.heap.size w w3) := hid (by
      have hfr := H2.out.2.trans hf3
      have hsz := H1.out.2.size
      exact ⟨g5, Nat.le_trans (Nat.le_trans hsz H2.out.2.size) g4, g3, H1.out.2.trans (hfr.toBelow hsz Hz.out rfl)⟩)
    clear HPF hn3 hn g1 g2 g3 g4 g5 hf3 H1 H2
    go_upto_region 4 with fail
    go_quiet (fail)
    have HF2 : Hid (k.2 ≤ n ∧ w.heap.size ≤ q ∧ ErM (w3.drewN nq) q bs k.1 k.2 ∧ Below w.heap.size w (w3.drewN nq)) := hid (by
      have hb : Below w3.heap.size w3 (w3.drewN nq) := (Drew.refl w3).next nq |>.below _
      exact ⟨HF.out.1, HF.out.2.1, HF.out.2.2.1.below hb, HF.out.2.2.2.trans (hb.mono HF.out.2.2.2.size)⟩)
    generalize w3.drewN nq = w4 at HF2 ⊢
    clear HF c10
    go_wp2
    go_ret2
    exact .inr ⟨q, k.1, k.2, rfl, HF2.out.1, HF2.out.2.1, HB3, hid ⟨HF2.out.2.2.1, HF2.out.2.2.2⟩⟩
end
end Go.Proofs.Qxb6500883aGreatDoor
