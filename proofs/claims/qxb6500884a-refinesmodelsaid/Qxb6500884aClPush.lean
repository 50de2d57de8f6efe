/- push. -/
import Derived.Test.Qxb6500884aClMch
namespace Go.Proofs.Qxb6500884a
open Go.RowKit
set_option linter.unusedSimpArgs false
set_option linter.unusedVariables false

def push12 (S : List (Nat × List (Int × Int))) (x : Nat × List (Int × Int)) : List (Nat × List (Int × Int)) := if S.length = 12 then (S ++ [x]).drop 1 else S ++ [x]
theorem info_ptr : ∃ i, Try.prog.info? 38 = some i ∧ i.zero = some (.pointer none) ∧ i.size = 1 ∧ i.bytes = 8 := by
  have h : (Try.prog.info? 38).map (fun i => (i.zero, i.size, i.bytes)) = some (some (.pointer none), 1, 8) := by kernel_rfl
  obtain ⟨i, hi, he⟩ := Option.map_eq_some_iff.1 h
  simp only [Prod.mk.injEq] at he
  exact ⟨i, hi, he.1, he.2.1, he.2.2⟩
theorem UpdO.updM {mb : Nat} {o : Option Nat} {w w' : World} (h : UpdO o w w') : UpdM mb o w w' := ⟨h.os, h.tape, h.output, h.size, fun k hk _ hne => h.block k hk hne⟩
/-- What a push leaves. -/
structure PushP (mb : Nat) (a : Option Addr) (S : List (Nat × List (Int × Int))) (l : List (Int × Int)) (w : World) (e : Ending) (w' : World) : Prop where
  ret : e = .returned (.tuple #[])
  out : ∃ a' r, w.heap.size ≤ r ∧ Mach mb a' (push12 S (r, l)) w' ∧ (blkO a' = blkO a ∨ ∃ g, blkO a' = some g ∧ w.heap.size ≤ g)
  upd : UpdM mb (blkO a) w w'
set_option maxRecDepth 100000 in
set_option maxHeartbeats 1000000 in
theorem push_walk (mb : Nat) (a : Option Addr) (S : List (Nat × List (Int × Int))) (ca : Option Addr) (cn cc : Nat) (l : List (Int × Int)) (w : World) (h : Mach mb a S w) (hr : IvRow w ca cn cc l) (hN : Nrm l) (ht : Ty67 w ca cn) :
    Calls Try.prog 57 #[.pointer (some ⟨mb, 0, none⟩), .agg #[.slice ca cn cc]] w fun e w' => PushP mb a S l w e w' := by
  obtain ⟨c, hm, hfl⟩ := h.out
  have hlen := h.len
  obtain ⟨i0, hi, hz0, hz1, hz2⟩ := info_ptr
  have HI := hid (And.intro hi (And.intro hz0 (And.intro hz1 hz2)))
  have HM := hid h
  have HMb := hid hm
  have HF := hid hfl
  have HR := hid hr
  have HT := hid ht
  obtain ⟨n, hn⟩ : ∃ n, S.length = n := ⟨_, rfl⟩
  rw [hn] at HMb HF hlen
  have Hn := hid hn
  obtain ⟨q, hq⟩ : ∃ q, w.heap.size = q := ⟨_, rfl⟩
  have hbq := Blk.new w [.slice ca cn cc] 30
  rw [hq] at hbq
  obtain ⟨w1, hw1⟩ : ∃ w1, w.alloc (.cells #[.slice ca cn cc] 30) = w1 := ⟨_, rfl⟩
  have hw1' : w.alloc (.cells [Value.slice ca cn cc].toArray 30) = w1 := hw1
  rw [hw1'] at hbq
  have HBe1 : Hid (Below w.heap.size w w1) := hid (by rw [← hw1]; exact nbel w _)
  have HBq := hid hbq
  have hs1 : w1.heap.size = q + 1 := by rw [← hw1, ← hq]; simp
  have hmb : mb < q := by have := HMb.out.lt; omega
  clear h hm hfl hr ht hi hz0 hz1 hz2 hw1' hbq hn
  go_enter Try.func57, Try.ntmps57
  go_upto_region 1 with fail
  try simp only [hw1]
  clear hw1
  have HMb1 : Hid (Blk w1.drew mb 46 [.slice a n c]) := hid (show Blk w1 mb _ _ from HMb.out.below HBe1.out)
  have HF1 : Hid (Fl w1.drew 38 a n c (S.map fun p => .pointer (some ⟨p.1, 0, none⟩))) := hid ((HF.out.below HBe1.out).below (Drew.below ⟨1, rfl⟩ _))
  have HBq1 : Hid (Blk w1.drew q 30 [.slice ca cn cc]) := hid HBq.out
  have HBe1d : Hid (Below w.heap.size w w1.drew) := hid (HBe1.out.trans ((Drew.below ⟨1, rfl⟩ _ : Below w1.heap.size w1 w1.drew).mono HBe1.out.size))
  have hs1d : w1.drew.heap.size = q + 1 := hs1
  refine wp_region_heavy (fun w' => w'.cell? ⟨mb, 0, none⟩ = some (.slice a n c) ∧ w'.cell? ⟨q, 0, none⟩ = some (.slice ca cn cc)) 10 [0, 1, 2, 3, 4, 5, 6] [7, 8, 9] rfl (by kernel_rfl) (by kernel_rfl) (fun d _ _ _ _ h => by cases d <;> exact h) ⟨HMb1.out.cell 0, HBq1.out.cell 0⟩ ?_
  apply Exists.intro
  refine ⟨?_, ?_⟩
  · intro W hW
    have d0 : ∀ x, (W x).cell? ⟨mb, 0, none⟩ = some (.slice a n c) := fun x => (hW x).1
    have d1 : ∀ x, (W x).cell? ⟨q, 0, none⟩ = some (.slice ca cn cc) := fun x => (hW x).2
    clear hW
    simp only [List.take, opsAt, List.drop, List.cons_append, List.nil_append]
    repeat (go_big_quiet_step (fail))
    exact rfl
  simp only [List.take, List.drop, opsAt, List.cons_append, List.nil_append, wpHv]
  generalize w1.drew = w2 at HMb1 HF1 HBq1 HBe1d hs1d ⊢
  clear HBq HBe1 hs1
  obtain ⟨r, hrr⟩ : ∃ r, q + 1 = r := ⟨_, rfl⟩
  rw [hrr] at hs1d
  have hbr := Blk.new w2 [.slice ca cn cc, .slice none 0 0] 40
  rw [hs1d] at hbr
  obtain ⟨w3, hw3⟩ : ∃ w3, w2.alloc (.cells #[.slice ca cn cc, .slice none 0 0] 40) = w3 := ⟨_, rfl⟩
  have hw3' : w2.alloc (.cells [Value.slice ca cn cc, .slice none 0 0].toArray 40) = w3 := hw3
  rw [hw3'] at hbr
  have HBe3 : Hid (Below w2.heap.size w2 w3) := hid (by rw [← hw3]; exact nbel w2 _)
  have HBr := hid hbr
  have hs3 : w3.heap.size = r + 1 := by rw [← hw3, ← hs1d]; simp
  clear hbr hw3'
  go_wp2_with fail
  try simp only [hw3]
  clear hw3
  have HMb3 := hid (HMb1.out.below HBe3.out)
  have HF3 := hid (HF1.out.below HBe3.out)
  have HBq3 := hid (HBq1.out.below HBe3.out)
  have HBe3d : Hid (Below w.heap.size w w3) := hid (HBe1d.out.trans (HBe3.out.mono HBe1d.out.size))
  refine ⟨⟨HMb3.out.cell 0, HBq3.out.cell 0⟩, ?_⟩
  clear HMb1 HF1 HBq1 HBe1d hs1d HBe3
  obtain ⟨g, hgg⟩ : ∃ g, r + 1 = g := ⟨_, rfl⟩
  rw [hgg] at hs3
  have hbg := Blk.new w3 [.pointer (some ⟨r, 0, none⟩)] 38
  rw [hs3] at hbg
  obtain ⟨w4, hw4⟩ : ∃ w4, w3.alloc (.cells #[.pointer (some ⟨r, 0, none⟩)] 38) = w4 := ⟨_, rfl⟩
  have hw4' : w3.alloc (.cells [Value.pointer (some ⟨r, 0, none⟩)].toArray 38) = w4 := hw4
  rw [hw4'] at hbg
  have HBe4 : Hid (Below w3.heap.size w3 w4) := hid (by rw [← hw4]; exact nbel w3 _)
  have HBg := hid hbg
  have hs4 : w4.heap.size = g + 1 := by rw [← hw4, ← hs3]; simp
  clear hbg hw4'
  go_wp2_with fail
  try simp only [hw4]
  clear hw4
  have HMb4 := hid (HMb3.out.below HBe4.out)
  have HF4 := hid (HF3.out.below HBe4.out)
  have HBq4 := hid (HBq3.out.below HBe4.out)
  have HBr4 := hid (HBr.out.below HBe4.out)
  have HBe4d : Hid (Below w.heap.size w w4) := hid (HBe3d.out.trans (HBe4.out.mono HBe3d.out.size))
  refine ⟨⟨HMb4.out.cell 0, HBq4.out.cell 0⟩, ?_⟩
  clear HMb3 HF3 HBq3 HBe3d hs3 HBe4 HBr
  have hcg : w4.cell? ⟨g, 0, none⟩ = some (.pointer (some ⟨r, 0, none⟩)) := HBg.out.cell 0
  have Hcg := hid hcg
  clear hcg
  have hby : (n + 1) * 8 ≤ 140737488355328 := by omega
  go_wp2_with (at_builtin; refine wpList_append_file rfl (.tmp 8) (.tmp 12) 44 rfl 38 i0 (.pointer none) 8 Try.underlying44 HI.out.1 HI.out.2.1 HI.out.2.2.1 HI.out.2.2.2 rfl a n c _ rfl HF4.out g 1 (.pointer (some ⟨r, 0, none⟩)) rfl Hcg.out rfl hby (by decide) ?_; intro a5 c5 w5 hf5 hu5 hb5 hn5; have HF5 := hid hf5; have HU5 := hid hu5; have Hb5 := hid hb5; have Hn5 := hid hn5; clear hf5 hu5 hb5 hn5)
  have HMb5 := hid (HU5.out.blk HMb4.out (HF4.out.ne HMb4.out (by decide)))
  have HBq5 := hid (HU5.out.blk HBq4.out (HF4.out.ne HBq4.out (by decide)))
  have HBr5 := hid (HU5.out.blk HBr4.out (HF4.out.ne HBr4.out (by decide)))
  refine ⟨⟨HMb5.out.cell 0, HBq5.out.cell 0⟩, ?_⟩
  have c5a : w5.cell? ⟨mb, 0, none⟩ = some (.slice a n c) := HMb5.out.cell 0
  have f5 := HMb5.out.frozen 0
  have HUm : Hid (UpdM mb (blkO a) w (w5.setCell ⟨mb, 0, none⟩ (.slice a5 (n + 1) c5))) := hid (((UpdM.ofBelow (mb := mb) (o := blkO a) HBe4d.out).trans HU5.out.updM (fun x hx => .inl hx)).ofUpd ((Upd.refl mb w5).setCell rfl _))
  have HMb6 : Hid (Blk (w5.setCell ⟨mb, 0, none⟩ (.slice a5 (n + 1) c5)) mb 46 [.slice a5 (n + 1) c5]) := hid (HMb5.out.set 0 _)
  have HF6 : Hid (Fl (w5.setCell ⟨mb, 0, none⟩ (.slice a5 (n + 1) c5)) 38 a5 (n + 1) c5 (S.map (fun p => .pointer (some ⟨p.1, 0, none⟩)) ++ [.pointer (some ⟨r, 0, none⟩)])) := hid (HF5.out.of fun k cs hk hc => hc.setOther (fun e => by
    have := HF5.out.ne HMb5.out (by decide)
    rw [hk, ← e] at this
    exact this rfl) _)
  have HBr6 : Hid (Blk (w5.setCell ⟨mb, 0, none⟩ (.slice a5 (n + 1) c5)) r 40 [.slice ca cn cc, .slice none 0 0]) := hid (HBr5.out.setOther (by show mb ≠ r; omega) _)
  have HKp : Hid (KeepT w (w5.setCell ⟨mb, 0, none⟩ (.slice a5 (n + 1) c5))) := hid (HUm.out.keep HM.out)
  have HRg : Hid (RegOk (w5.setCell ⟨mb, 0, none⟩ (.slice a5 (n + 1) c5)) r l) := hid ⟨hN, _, _, _, _, HBr6.out, HR.out.keep HT.out HKp.out, HT.out.keep HKp.out, .inl rfl⟩
  have Hbk : Hid (blkO a5 = blkO a ∨ ∃ g, blkO a5 = some g ∧ w.heap.size ≤ g) := hid (by
    rcases Hb5.out with h | h
    · exact .inl h
    · exact .inr ⟨_, h, HBe4d.out.size⟩)
  have HRs : Hid (∀ p ∈ S, RegOk (w5.setCell ⟨mb, 0, none⟩ (.slice a5 (n + 1) c5)) p.1 p.2) := hid (fun p hp => (HM.out.regs p hp).keep HKp.out)
  clear HMb4 HF4 HBq4 HBr4 HBe4d HU5 HMb5 HBq5 HBr5 HF5 hs4 Hcg HBg HBr6 Hb5
  simp only [QN]
  go_upto_region 2 with fail
  generalize w5.setCell ⟨mb, 0, none⟩ (.slice a5 (n + 1) c5) = w6 at HUm HMb6 HF6 HKp HRg HRs ⊢
  clear c5a f5
  have c6 : w6.cell? ⟨mb, 0, none⟩ = some (.slice a5 (n + 1) c5) := HMb6.out.cell 0
  by_cases h12 : n = 12
  · have d12 : decide ((12 : Int) < (n : Int) + 1) = true := decide_eq_true (by omega)
    have f6 := HMb6.out.frozen 0
    obtain ⟨ag, haf⟩ := Option.ne_none_iff_exists'.1 Hn5.out
    obtain ⟨p0, S', hS⟩ : ∃ p0 S', S = p0 :: S' := by
      have := Hn.out
      cases S with
      | nil => simp at this; omega
      | cons p0 S' => exact ⟨p0, S', rfl⟩
    subst hS
    subst haf
    subst h12
    obtain ⟨g6, o6, rfl⟩ : ∃ g6 o6, ag = ⟨g6, o6, none⟩ := by
      rcases HF6.out.out with ⟨h, _⟩ | ⟨g6, o6, cs, h, _⟩
      · cases h
      · exact ⟨g6, o6, Option.some.inj h⟩
    have hle := HF6.out.le
    have hmx := HF6.out.mx
    unfold maxLen at hmx
    have HF7 : Hid (Fl w6 38 (some ⟨g6, o6 + 1, none⟩) 12 (c5 - 1) (S'.map (fun p => .pointer (some ⟨p.1, 0, none⟩)) ++ [.pointer (some ⟨r, 0, none⟩)])) := hid (Fl.tail (x := .pointer (some ⟨p0.1, 0, none⟩)) (by have h := HF6.out; rw [List.map_cons, List.cons_append] at h; exact h))
    have Hne : Hid (blkO (some ⟨g6, o6, none⟩) ≠ some mb) := hid (HF6.out.ne HMb6.out (by decide))
    go_wp2
    refine bodyPost_end (results_none Try.results57 _ _ _) rfl ?_
    have hp : push12 (p0 :: S') (r, l) = S' ++ [(r, l)] := by unfold push12; rw [if_pos Hn.out]; rfl
    have hne : mb ≠ g6 := fun e => Hne.out (by rw [e]; rfl)
    have hu7 : Upd mb w6 (w6.setCell ⟨mb, 0, none⟩ (.slice (some ⟨g6, o6 + 1, none⟩) 12 (c5 - 1))) := (Upd.refl mb w6).setCell rfl _
    have hk7 : KeepT w6 (w6.setCell ⟨mb, 0, none⟩ (.slice (some ⟨g6, o6 + 1, none⟩) 12 (c5 - 1))) := KeepT.upd HMb6.out (by decide) hu7
    refine ⟨rfl, ⟨some ⟨g6, o6 + 1, none⟩, r, by omega, ?_, Hbk.out⟩, HUm.out.ofUpd hu7⟩
    rw [hp]
    have hl1 : (S' ++ [(r, l)]).length = 12 := by have := Hn.out; rw [List.length_append]; simp at this ⊢; omega
    refine ⟨by rw [hl1]; omega, ⟨c5 - 1, by rw [hl1]; exact HMb6.out.set 0 _, by rw [hl1, List.map_append]; exact HF7.out.of fun k cs hk hc => hc.setOther (fun e => by cases hk; exact hne e) _⟩, fun p hp => ?_⟩
    rcases List.mem_append.1 hp with h | h
    · exact (HRs.out p (by simp [h])).keep hk7
    · simp at h
      subst h
      exact HRg.out.keep hk7
  · have d12 : decide ((12 : Int) < (n : Int) + 1) = false := decide_eq_false (by omega)
    go_wp2
    refine bodyPost_end (results_none Try.results57 _ _ _) rfl ?_
    have hp : push12 S (r, l) = S ++ [(r, l)] := by unfold push12; rw [if_neg (by rw [Hn.out]; exact h12)]
    refine ⟨rfl, ⟨a5, r, by omega, ?_, Hbk.out⟩, HUm.out⟩
    rw [hp]
    have hl1 : (S ++ [(r, l)]).length = n + 1 := by rw [List.length_append, Hn.out]; rfl
    refine ⟨by rw [hl1]; omega, ⟨c5, by rw [hl1]; exact HMb6.out, by rw [hl1, List.map_append]; exact HF6.out⟩, fun p hp => ?_⟩
    rcases List.mem_append.1 hp with h | h
    · exact HRs.out p h
    · simp at h
      subst h
      exact HRg.out
end Go.Proofs.Qxb6500884a
