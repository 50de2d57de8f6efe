/- real.step. -/
import Derived.Test.Qxb6500891aPtPl
namespace Go.Proofs.Qxb6500891a
open Go.RowKit
set_option linter.unusedSimpArgs false
set_option linter.unusedVariables false

set_option maxRecDepth 1000000 in
set_option maxHeartbeats 4000000 in
theorem step_walk (pW : Nat) (t : TypeId) (cs : List Value) (S : WS) (w : World) (hb : Blk w pW t cs) (hk : WOk cs S) (hi : WInv S) (kind : Int) (hk0 : 0 ≤ kind) (hk1 : kind < 256) (aa : Option Addr) (an ac : Nat) (la : List Nat) (ba : Option Addr) (bn bc : Nat) (lb : List Nat)
    (hra : ByteRow w aa an ac la) (hrb : ByteRow w ba bn bc lb) (hag : 0 < an → ∀ b off, aa = some ⟨b, off, none⟩ → b ≠ pW) (hbg : 0 < bn → ∀ b off, ba = some ⟨b, off, none⟩ → b ≠ pW) :
    Calls Try.prog 41 #[.pointer (some ⟨pW, 0, none⟩), .agg #[.int .u8 kind, .slice aa an ac, .slice ba bn bc]] w fun e w' => (∃ R : List Value, e = .returned (.agg R.toArray)) ∧ PlE w pW t w' := by
  have hpWw := hb.lt
  obtain ⟨pO, hpO⟩ : ∃ pO, w.heap.size = pO := ⟨_, rfl⟩
  obtain ⟨b1, b2, hbel⟩ := blk2 w [.int .u8 kind, .slice aa an ac, .slice ba bn bc] [.int .u8 0, .bool false, .bool false, .bool false, .slice none 0 0, .string ⟨#[]⟩, .int .i64 0, .int .i64 0] 71 81
  rw [hpO] at b1 b2
  obtain ⟨w1, hw1⟩ : ∃ w1, (w.alloc (.cells #[.int .u8 kind, .slice aa an ac, .slice ba bn bc] 71)).alloc (.cells #[.int .u8 0, .bool false, .bool false, .bool false, .slice none 0 0, .string ⟨#[]⟩, .int .i64 0, .int .i64 0] 81) = w1 := ⟨_, rfl⟩
  have hb1 : Blk w1 pO 71 [.int .u8 kind, .slice aa an ac, .slice ba bn bc] := by rw [← hw1]; exact b1
  have hb2 : Blk w1 (pO + 1) 81 [.int .u8 0, .bool false, .bool false, .bool false, .slice none 0 0, .string ⟨#[]⟩, .int .i64 0, .int .i64 0] := by rw [← hw1]; exact b2
  have hbe : Below w.heap.size w w1 := by rw [← hw1]; exact hbel
  have HPl := hid (play_walk pW t cs S w1 (hb.below hbe) hk hi kind hk0 hk1 aa an ac la ba bn bc lb (hra.below hbe) (hrb.below hbe) hag hbg)
  have HB2 := hid hb2
  have HBe := hid hbe
  have o0 : w1.cell? ⟨pO, 0, none⟩ = some (.int .u8 kind) := hb1.cell 0
  have o1 : w1.cell? ⟨pO, 1, none⟩ = some (.slice aa an ac) := hb1.cell 1
  have o2 : w1.cell? ⟨pO, 2, none⟩ = some (.slice ba bn bc) := hb1.cell 2
  have IA : Hid ((Try.prog.info? 81).map (·.size) = some 8) := hid info_ans
  clear hb hk hi hra hrb hag hbg b1 b2 hbel hb1 hb2 hbe
  go_enter Try.func41, Try.ntmps41
  go_upto_region 1 with fail
  try simp only [hw1]
  clear hw1
  go_wp2_with fail
  refine (HPl.out).mono ?_
  rintro e w2 hp2
  obtain ⟨R, rfl, hR8, hR1⟩ := hp2.out
  have HE2 := hid hp2.ex
  have HR1 := hid hR1
  have HB3 := hid (HB2.out.upd hp2.ex.upd (by omega))
  clear hp2 hR1 HPl HB2 o0 o1 o2
  have I2 : Hid ((Try.prog.info? 81).map (·.size) = some R.length) := hid (by rw [hR8]; exact info_ans)
  obtain ⟨q, hq⟩ : ∃ q, w2.heap.size = q := ⟨_, rfl⟩
  have hbn := Blk.new w2 zAns 81
  have L2 : Hid (zAns.length = R.length) := hid (by rw [hR8]; rfl)
  rw [hq] at hbn
  have HBn := hid hbn
  clear hbn
  go_upto_region 2 with (refine wpList_store_blk rfl 81 _ _ rfl q rfl R rfl HBn.out L2.out I2.out HR1.out ?_; intro w4 HB4 HU4)
  have hbe4 : Below w2.heap.size w2 w4 := (nbel w2 _).trans (HU4.out.below (by omega) (by simp))
  have HBe4 := hid hbe4
  obtain ⟨ds, S', hds, hks, his⟩ := HE2.out.a
  have HLk := hid (links_walk pW t ds S' w4 (hds.below hbe4) hks)
  have HDs := hid (And.intro hds (And.intro hks his))
  clear hbe4 hds hks his HU4 HBn
  obtain ⟨lk, hlk⟩ : ∃ lk, S'.links = lk := ⟨_, rfl⟩
  rw [hlk] at HLk
  clear hlk
  obtain ⟨v7, c7⟩ : ∃ v7, w4.cell? ⟨q, 7, none⟩ = some v7 := ⟨_, by rw [HB4.out.cell]; exact List.getElem?_eq_getElem (by omega)⟩
  have f7 := HB4.out.frozen 7
  have hb5 := HB4.out.set 7 (.int .i64 (lk : Int))
  obtain ⟨w5, hw5⟩ : ∃ w5, w4.setCell ⟨q, 7, none⟩ (.int .i64 (lk : Int)) = w5 := ⟨_, rfl⟩
  rw [hw5] at hb5
  have hu5 : Upd q w4 w5 := by rw [← hw5]; exact (Upd.refl q w4).setCell rfl _
  obtain ⟨R5, hR5⟩ : ∃ R5, R.set 7 (.int .i64 (lk : Int)) = R5 := ⟨_, rfl⟩
  rw [hR5] at hb5
  have hR58 : R5.length = 8 := by rw [← hR5]; simp [hR8]
  have HR51 : Hid (∀ v ∈ R5, v.oneCell' = true) := hid (by rw [← hR5]; exact one_set HR1.out rfl)
  have HB5 := hid hb5
  have HBe5 : Hid (Below w2.heap.size w2 w5) := hid (HBe4.out.trans (hu5.below (by omega) HBe4.out.size))
  have I5 : Hid ((Try.prog.info? 81).map (·.size) = some R5.length) := hid (by rw [hR58]; exact info_ans)
  have HR5b := hid (HB3.out.below HBe5.out)
  have L5 : Hid ([Value.int .u8 0, .bool false, .bool false, .bool false, .slice none 0 0, .string ⟨#[]⟩, .int .i64 0, .int .i64 0].length = R5.length) := hid (by rw [hR58]; rfl)
  clear hb5 hu5 hR5 HB4
  go_wp2_with fail
  refine (HLk.out).mono ?_
  rintro e w6 ⟨rfl, rfl⟩
  clear HLk
  go_upto_region 3 with fail
  try simp only [hw5]
  clear hw5 c7 f7
  go_wp2_with (first
    | (refine wpList_load_blk rfl 81 _ rfl q rfl R5 HB5.out _ Try.underlying81 rfl I5.out ?_)
    | (refine wpList_store_blk rfl 81 _ _ rfl (pO + 1) rfl R5 rfl HR5b.out L5.out I5.out HR51.out ?_; intro w9 HB9 HU9))
  refine bodyPost_ret (results_blk Try.results41 rfl (by rw [hR58]; exact aggAns) HB9.out) rfl ⟨⟨_, rfl⟩, ?_⟩
  have h1 : Upd pW w w5 := (((Upd.refl pW w).ofBelow HBe.out).trans HE2.out.upd).ofBelow HBe5.out
  exact ⟨h1.other HU9.out (by omega), ds, S', (HDs.out.1.below HBe5.out).upd HU9.out (by omega), HDs.out.2.1, HDs.out.2.2⟩
end Go.Proofs.Qxb6500891a
