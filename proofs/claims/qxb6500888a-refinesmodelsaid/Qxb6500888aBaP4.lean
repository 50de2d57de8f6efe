/- The barrier: seed, increment. -/
import Derived.Test.Qxb6500888aBaP3
namespace Go.Proofs.Qxb6500888a
open Go.RowKit
set_option linter.unusedSimpArgs false
set_option linter.unusedVariables false

def seedH (B : BS) (hv : Nat → List Nat) : Nat → List Nat := if B.tr = 1 then fup hv 7 (hv 7 ++ hv 2) else if B.tr = 2 then fup hv 7 (hv 7 ++ hv 1) else hv
def seedB (B : BS) : BS := if B.tr = 1 then { B with tr := 2 } else B
def incH (G : GS) (hv : Nat → List Nat) (obj : Nat) : Nat → List Nat := if G.cnt obj = 0 then fup (hput hv 5 obj) 4 (hv 4 ++ refL G obj) else hv
section
variable {x : Nat} {w w' : World} {ρ ρ' : Rl} {L L' : GL} {T T' : BL} {hB : Nat} {V : Nat → Value} {G G' : GS} {B B' : BS} {hv : Nat → List Nat}
theorem zX_t {c : Nat} (h : (c == 12) = true) : zX c = true := by
  have : c = 12 := by simpa using h
  subst this
  rfl
/-- A world of the pause. -/
def PzP (w : World) (ρ : Rl) (L : GL) (T : BL) (hB : Nat) (G : GS) (B : BS) (hv : Nat → List Nat) (w' : World) : Prop := ∃ L' T' V' ρ', L.Same L' ∧ T'.bB = T.bB ∧ T'.lv = T.lv ∧ PMx 5 w' ρ' L' T' hB V' G B hv ∧ Fr zX ρ w ρ' w'
theorem BMx.trace12 (h : BMx x w ρ L T G B) (t : Nat) : BMx x (w.setCell ⟨T.bB, 283, none⟩ (.int .u8 (t : Int))) ρ L T G { B with tr := t } ∧ Fr (fun c => c == 12) ρ w ρ (w.setCell ⟨T.bB, 283, none⟩ (.int .u8 (t : Int))) := ⟨(h.trace t).1, Fr.set _ (by show (ρ T.bB == 12) = true; rw [h.rb]; rfl)⟩
set_option maxRecDepth 1000000 in
set_option maxHeartbeats 8000000 in
theorem seed_walk (h : PMx 5 w ρ L T hB V G B hv) (ht : B.tr ≤ 2) (hl : ∀ i, (hv i).length ≤ 1000000000000) :
    Calls Try.prog 75 #[.pointer (some ⟨T.bB, 0, none⟩), .pointer (some ⟨hB, 0, none⟩)] w fun e w' => e = .returned (.tuple #[]) ∧ PzP w ρ L T hB G (seedB B) (seedH B hv) w' := by
  have HH := hid h
  have Hl := hid hl
  have c1 := h.bm.ecell (i := 283) (by decide) (by decide)
  rw [show eF T B 283 = .int .u8 (B.tr : Int) from rfl] at c1
  obtain ⟨a7, q7, hV7⟩ := (h.hm.rw 7 (by decide)).shape
  obtain ⟨a1, q1, hV1⟩ := (h.hm.rw 1 (by decide)).shape
  obtain ⟨a2, q2, hV2⟩ := (h.hm.rw 2 (by decide)).shape
  have HV := hid (And.intro hV7 (And.intro hV1 hV2))
  obtain ⟨n7, hn7⟩ : ∃ n, (hv 7).length = n := ⟨_, rfl⟩
  obtain ⟨n1, hn1⟩ : ∃ n, (hv 1).length = n := ⟨_, rfl⟩
  obtain ⟨n2, hn2⟩ : ∃ n, (hv 2).length = n := ⟨_, rfl⟩
  have Hn := hid (And.intro hn7 (And.intro hn1 hn2))
  rw [hn7, hn1, hn2] at HV
  clear h hl hV7 hV1 hV2 hn7 hn1 hn2
  by_cases h1 : B.tr = 1
  · as_aux_lemma =>
    rw [h1] at c1
    have c1' : w.cell? ⟨T.bB, 283, none⟩ = some (.int .u8 1) := c1
    have e1 : seedB B = { B with tr := 2 } := by unfold seedB; rw [if_pos h1]
    have e2 : seedH B hv = fup hv 7 (hv 7 ++ hv 2) := by unfold seedH; rw [if_pos h1]
    rw [e1, e2]
    clear c1 e1 e2 h1 ht
    have HS : Hid (∀ wx : World, Below w.heap.size w wx → wx.cell? ⟨hB, 7, none⟩ = some (.slice a7 n7 q7) ∧ wx.cell? ⟨hB, 2, none⟩ = some (.slice a2 n2 q2)) := hid (fun wx hx => ⟨by rw [← HV.out.1]; exact (HH.out.below hx).hcell (by decide), by rw [← HV.out.2.2]; exact (HH.out.below hx).hcell (by decide)⟩)
    go_enter Try.func75, Try.ntmps75
    go_upto_region 2 with fail
    refine wp_region_heavy (fun wx => wx.cell? ⟨hB, 7, none⟩ = some (.slice a7 n7 q7) ∧ wx.cell? ⟨hB, 2, none⟩ = some (.slice a2 n2 q2)) 10 [0, 1, 2, 3, 4, 5, 6, 7, 8] [9] rfl (by kernel_rfl) (by kernel_rfl) (fun d _ _ _ _ h => by cases d <;> exact h) (HS.out _ (Drew.below ⟨1, rfl⟩ _)) ?_
    apply Exists.intro
    refine ⟨?_, ?_⟩
    · intro W hW
      have e1 := fun x => (hW x).1
      have e2 := fun x => (hW x).2
      simp only [List.take, opsAt, List.drop, List.cons_append, List.nil_append]
      repeat (go_big_quiet_step (fail))
      exact rfl
    simp only [List.take, List.drop, opsAt, List.cons_append, List.nil_append, wpHv]
    have HBd : Hid (Below w.heap.size w w.drew) := hid (Drew.below ⟨1, rfl⟩ _)
    generalize w.drew = wd at HBd ⊢
    have HMd := hid (HH.out.below HBd.out)
    have hrf := HMd.out.hm.rw 7 (by decide)
    rw [HV.out.1] at hrf
    have hls := HMd.out.hm.rw 2 (by decide)
    rw [HV.out.2.2] at hls
    have Hls := hid hls.src
    clear hls
    refine wpList_app_x okA rfl (.tmp 14) (.tmp 18) hrf rfl (hv 2) (by simp [Act.eval, Act.put]; done) a2 n2 q2 (by simp [Act.eval, Act.put]; done) Hls.out.2.2 Hls.out.2.1 Hls.out.1 (by have := Hl.out 7; have := Hl.out 2; have := Hn.out; show ((hv 7).length + n2) * 8 ≤ _; omega) ?_
    intro v8 w8 ρ8 hr8 hf8 _ _
    obtain ⟨a8, k8, h8⟩ := hr8.out.shape
    subst h8
    have HM8 := hid (HMd.out.app (by decide) hf8.out hr8.out)
    have hbk : ∀ x, x < wd.heap.size → ρ x ≠ 48 → w8.heap[x]? = wd.heap[x]? := fun x hx hne => hf8.out.blk x hx (by show (ρ x == 48) = false; simp; exact hne)
    have s1 : w8.cell? ⟨hB, 7, none⟩ = some (.slice a7 n7 q7) := by rw [World.cell?_of_block (hbk hB HMd.out.hm.bl.lt (by rw [HMd.out.hm.ro]; decide))]; exact (HS.out _ HBd.out).1
    have s2 : w8.cell? ⟨hB, 2, none⟩ = some (.slice a2 n2 q2) := by rw [World.cell?_of_block (hbk hB HMd.out.hm.bl.lt (by rw [HMd.out.hm.ro]; decide))]; exact (HS.out _ HBd.out).2
    have f2 : w8.frozen? ⟨hB, 7, none⟩ = false := by rw [World.frozen?_of_block (hbk hB HMd.out.hm.bl.lt (by rw [HMd.out.hm.ro]; decide))]; exact HMd.out.hm.bl.frozen _
    have HF8 : Hid (Fr zX ρ w ρ8 _) := hid ((Fr.below HBd.out).trans (HM8.out.2.mono (fun c => zX_app (by decide))))
    clear hrf hr8 hf8 hbk HMd HBd HS
    generalize (hv 7 ++ hv 2).length = n8 at HM8 HF8 ⊢
    go_wp2_with fail
    refine ⟨⟨s1, s2⟩, ?_⟩
    simp only [QN]
    go_upto_region 3 with fail
    have HM9 := hid HM8.out.1
    generalize w8.setCell ⟨hB, 7, none⟩ (.slice a8 n8 k8) = w9 at HM9 HF8 ⊢
    clear s1 s2 f2 HM8 c1'
    have c9 := HM9.out.bm.ecell (i := 283) (by decide) (by decide)
    have f9 := HM9.out.bm.bb.frozen 283
    rw [show eF T B 283 = .int .u8 (B.tr : Int) from rfl] at c9
    generalize B.tr = t0 at c9
    have HB9 := hid (HM9.out.bm.trace12 2)
    have HR : Hid (PzP w ρ L T hB G { B with tr := 2 } (fup hv 7 (hv 7 ++ hv 2)) (w9.setCell ⟨T.bB, 283, none⟩ (.int .u8 2))) := hid ⟨L, T, _, ρ8, GL.Same.refl _, rfl, rfl, ⟨HB9.out.1, HM9.out.hm.fr HB9.out.2 rfl (fun i hi => by show (41 + i == 12) = false; simp; omega)⟩, HF8.out.trans (HB9.out.2.mono (fun c => zX_t))⟩
    clear HB9 HM9 HF8
    go_wp2
    exact bodyPost_end (v := .tuple #[]) (by simp [results, Try.results75, go_sem]) rfl ⟨rfl, HR.out⟩
  by_cases h2 : B.tr = 2
  · as_aux_lemma =>
    rw [h2] at c1
    have c1' : w.cell? ⟨T.bB, 283, none⟩ = some (.int .u8 2) := c1
    have e1 : seedB B = B := by unfold seedB; rw [if_neg h1]
    have e2 : seedH B hv = fup hv 7 (hv 7 ++ hv 1) := by unfold seedH; rw [if_neg h1, if_pos h2]
    rw [e1, e2]
    clear c1 e1 e2 h1 ht h2
    have HS : Hid (∀ wx : World, Below w.heap.size w wx → wx.cell? ⟨hB, 7, none⟩ = some (.slice a7 n7 q7) ∧ wx.cell? ⟨hB, 1, none⟩ = some (.slice a1 n1 q1)) := hid (fun wx hx => ⟨by rw [← HV.out.1]; exact (HH.out.below hx).hcell (by decide), by rw [← HV.out.2.1]; exact (HH.out.below hx).hcell (by decide)⟩)
    go_enter Try.func75, Try.ntmps75
    go_upto_region 5 with fail
    refine wp_region_heavy (fun wx => wx.cell? ⟨hB, 7, none⟩ = some (.slice a7 n7 q7) ∧ wx.cell? ⟨hB, 1, none⟩ = some (.slice a1 n1 q1)) 10 [0, 1, 2, 3, 4, 5, 6, 7, 8] [9] rfl (by kernel_rfl) (by kernel_rfl) (fun d _ _ _ _ h => by cases d <;> exact h) (HS.out _ (Drew.below ⟨1, rfl⟩ _)) ?_
    apply Exists.intro
    refine ⟨?_, ?_⟩
    · intro W hW
      have e1 := fun x => (hW x).1
      have e2 := fun x => (hW x).2
      simp only [List.take, opsAt, List.drop, List.cons_append, List.nil_append]
      repeat (go_big_quiet_step (fail))
      exact rfl
    simp only [List.take, List.drop, opsAt, List.cons_append, List.nil_append, wpHv]
    have HBd : Hid (Below w.heap.size w w.drew) := hid (Drew.below ⟨1, rfl⟩ _)
    generalize w.drew = wd at HBd ⊢
    have HMd := hid (HH.out.below HBd.out)
    have hrf := HMd.out.hm.rw 7 (by decide)
    rw [HV.out.1] at hrf
    have hls := HMd.out.hm.rw 1 (by decide)
    rw [HV.out.2.1] at hls
    have Hls := hid hls.src
    clear hls
    refine wpList_app_x okA rfl (.tmp 31) (.tmp 35) hrf rfl (hv 1) (by simp [Act.eval, Act.put]; done) a1 n1 q1 (by simp [Act.eval, Act.put]; done) Hls.out.2.2 Hls.out.2.1 Hls.out.1 (by have := Hl.out 7; have := Hl.out 1; have := Hn.out; show ((hv 7).length + n1) * 8 ≤ _; omega) ?_
    intro v8 w8 ρ8 hr8 hf8 _ _
    obtain ⟨a8, k8, h8⟩ := hr8.out.shape
    subst h8
    have HM8 := hid (HMd.out.app (by decide) hf8.out hr8.out)
    have hbk : ∀ x, x < wd.heap.size → ρ x ≠ 48 → w8.heap[x]? = wd.heap[x]? := fun x hx hne => hf8.out.blk x hx (by show (ρ x == 48) = false; simp; exact hne)
    have s1 : w8.cell? ⟨hB, 7, none⟩ = some (.slice a7 n7 q7) := by rw [World.cell?_of_block (hbk hB HMd.out.hm.bl.lt (by rw [HMd.out.hm.ro]; decide))]; exact (HS.out _ HBd.out).1
    have s2 : w8.cell? ⟨hB, 1, none⟩ = some (.slice a1 n1 q1) := by rw [World.cell?_of_block (hbk hB HMd.out.hm.bl.lt (by rw [HMd.out.hm.ro]; decide))]; exact (HS.out _ HBd.out).2
    have f2 : w8.frozen? ⟨hB, 7, none⟩ = false := by rw [World.frozen?_of_block (hbk hB HMd.out.hm.bl.lt (by rw [HMd.out.hm.ro]; decide))]; exact HMd.out.hm.bl.frozen _
    have HR : Hid (PzP w ρ L T hB G B (fup hv 7 (hv 7 ++ hv 1)) (w8.setCell ⟨hB, 7, none⟩ (.slice a8 (hv 7 ++ hv 1).length k8))) := hid ⟨L, T, _, ρ8, GL.Same.refl _, rfl, rfl, HM8.out.1, (Fr.below HBd.out).trans (HM8.out.2.mono (fun c => zX_app (by decide)))⟩
    clear hrf hr8 hf8 hbk HMd HBd HS HM8
    generalize (hv 7 ++ hv 1).length = n8 at HR ⊢
    go_wp2_with fail
    refine ⟨⟨s1, s2⟩, ?_⟩
    simp only [QN]
    go_wp2
    exact bodyPost_end (v := .tuple #[]) (by simp [results, Try.results75, go_sem]) rfl ⟨rfl, HR.out⟩
  · as_aux_lemma =>
    have h0 : B.tr = 0 := by omega
    rw [h0] at c1
    have c1' : w.cell? ⟨T.bB, 283, none⟩ = some (.int .u8 0) := c1
    have e1 : seedB B = B := by unfold seedB; rw [if_neg h1]
    have e2 : seedH B hv = hv := by unfold seedH; rw [if_neg h1, if_neg h2]
    rw [e1, e2]
    have HR : Hid (PzP w ρ L T hB G B hv w) := hid ⟨L, T, V, ρ, GL.Same.refl _, rfl, rfl, HH.out, Fr.refl _ _ _⟩
    clear c1 e1 e2 h1 h2 ht h0
    go_enter Try.func75, Try.ntmps75
    go_wp2
    exact bodyPost_end (v := .tuple #[]) (by simp [results, Try.results75, go_sem]) rfl ⟨rfl, HR.out⟩
end
end Go.Proofs.Qxb6500888a
