/- The ground: Inc, PushDec. -/
import Derived.Test.Qxb6500888aBaG3
namespace Go.Proofs.Qxb6500888a
open Go.RowKit
set_option linter.unusedSimpArgs false
set_option linter.unusedVariables false

theorem stopHere {p : Prop} (h : True → p) : p := h trivial
def incG (G : GS) (o : Nat) : GS := { G with calls := G.calls ++ [(true, o)], cnt := if G.cnt o < 3 then fup G.cnt o (G.cnt o + 1) else G.cnt }
def decG (G : GS) (o : Nat) : GS := { G with calls := G.calls ++ [(false, o)], pend := fup G.pend o (G.pend o + 1) }
/-- Where the ground lies is the same, but for its two rows. -/
structure GL.Same (L L' : GL) : Prop where
  hB : L'.hB = L.hB
  wB : L'.wB = L.wB
  lB : L'.lB = L.lB
  sB : L'.sB = L.sB
  tB : L'.tB = L.tB
  cB : L'.cB = L.cB
  mH : L'.mH = L.mH
  mC : L'.mC = L.mC
  mP : L'.mP = L.mP
theorem GL.Same.refl (L : GL) : L.Same L := ⟨rfl, rfl, rfl, rfl, rfl, rfl, rfl, rfl, rfl⟩
theorem GL.Same.trans {L L' L'' : GL} (h : L.Same L') (k : L'.Same L'') : L.Same L'' := ⟨k.hB.trans h.hB, k.wB.trans h.wB, k.lB.trans h.lB, k.sB.trans h.sB, k.tB.trans h.tB, k.cB.trans h.cB, k.mH.trans h.mH, k.mC.trans h.mC, k.mP.trans h.mP⟩
section
variable {w : World} {ρ : Rl} {L : GL} {G : GS}
/-- What a step of the ground leaves. -/
def GP (w : World) (ρ : Rl) (L : GL) (G' : GS) (w' : World) : Prop := ∃ L' ρ', GM w' ρ' L' G' ∧ L.Same L' ∧ Fr gX ρ w ρ' w'
set_option maxRecDepth 1000000 in
set_option maxHeartbeats 2000000 in
theorem inc_walk (h : GM w ρ L G) (o : Nat) (hc : G.calls.length ≤ 1000000000000) (h3 : G.cnt o ≤ 3) : Calls Try.prog 89 #[.pointer (some ⟨L.cB, 0, none⟩), .int .u64 (o : Int)] w fun e w' => e = .returned (.int .i64 (G.cnt o : Int)) ∧ GP w ρ L (incG G o) w' := by
  have HH := hid h
  have c4 := h.ccells.2.2.2.2.1
  obtain ⟨ax, q, hv⟩ := (h.cl rfl).shape
  rw [hv] at c4
  have HV := hid hv
  have Hc := hid (And.intro hc h3)
  obtain ⟨n, hn⟩ : ∃ n, G.calls.length = n := ⟨_, rfl⟩
  have Hn := hid hn
  rw [hn] at c4
  obtain ⟨x, hx⟩ : ∃ x, G.cnt o = x := ⟨_, rfl⟩
  have Hx := hid hx
  rw [hx]
  clear h hv hc h3 hn hx
  go_enter Try.func89, Try.ntmps89
  go_wp2_with (at_builtin; refine stopHere ?_)
  intro _
  obtain ⟨wf, hwf⟩ : ∃ wf, w.alloc (.cells #[.bool true, .int .u64 (o : Int)] 83) = wf := ⟨_, rfl⟩
  have HBf : Hid (Below w.heap.size w wf) := hid (by rw [← hwf]; exact nbel w _)
  have HNw : Hid (∀ ad, some (⟨w.heap.size, 0, none⟩ : Addr) = some ad → ∀ j u, ([(true, o)].flatMap rtC.f)[j]? = some u → wf.cell? (ad.add j) = some u) := hid (by rw [← hwf]; exact newX rtC w (true, o) _ rfl)
  (try simp only [hwf])
  clear hwf c4
  have HHf := hid (HH.out.below HBf.out)
  have hrf := HHf.out.cl rfl
  rw [HV.out, Hn.out] at hrf
  refine wpList_app_x okC rfl _ _ hrf rfl [(true, o)] rfl (some ⟨w.heap.size, 0, none⟩) 1 1 rfl rfl (fun h => by cases h) HNw.out (by have := Hc.out.1; show (G.calls.length + 1) * 16 ≤ _; omega) ?_
  intro v8 w8 ρ8 hr8 hf8 _ _
  obtain ⟨a8, k8, h8⟩ := hr8.out.shape
  rw [List.length_append, List.length_singleton, Hn.out] at h8
  subst h8
  have HM8 := hid (HHf.out.setK hf8.out hr8.out)
  have HF8 : Hid (Fr gX ρ w ρ8 (w8.setCell ⟨L.cB, 4, none⟩ (.slice a8 (n + 1) k8))) := hid ((Fr.below HBf.out).trans HM8.out.2)
  have hk8 : w8.heap[L.cB]? = wf.heap[L.cB]? := hf8.out.blk _ (HHf.out.cb rfl).lt (by rw [HHf.out.r6]; rfl)
  have c8 : w8.cell? ⟨L.cB, 4, none⟩ = some (.slice ax n q) := by rw [World.cell?_of_block hk8, ← Hn.out, ← HV.out]; exact HHf.out.ccells.2.2.2.2.1
  have f8 : w8.frozen? ⟨L.cB, 4, none⟩ = false := by rw [World.frozen?_of_block hk8]; exact (HHf.out.cb rfl).frozen _
  clear hrf hr8 hf8 hk8 HNw HHf HBf
  go_upto_region 2 with fail
  clear c8 f8
  generalize w8.setCell ⟨L.cB, 4, none⟩ (.slice a8 (n + 1) k8) = w9 at HM8 HF8 ⊢
  obtain ⟨L9, hL9⟩ : ∃ L9, { L with cv := .slice a8 (n + 1) k8 } = L9 := ⟨_, rfl⟩
  have HS9 : Hid (L.Same L9) := hid (by rw [← hL9]; exact ⟨rfl, rfl, rfl, rfl, rfl, rfl, rfl, rfl, rfl⟩)
  rw [hL9] at HM8
  clear hL9
  have hx := Hx.out
  have c2 := HM8.out.1.ccells.2.2.1
  have hl := HM8.out.1.lookC o
  rw [show ({ G with calls := G.calls ++ [(true, o)] } : GS).cnt o = x from hx] at hl
  rw [HS9.out.cB] at c2
  have hx3 : x ≤ 3 := by rw [← hx]; exact Hc.out.2
  clear hx
  by_cases h3 : x < 3
  · as_aux_lemma =>
    have dk : decide ((x : Int) < 3) = true := decide_eq_true (by omega)
    obtain ⟨w2, hr2, hm2, hf2⟩ := HM8.out.1.putC o (x + 1) (by omega)
    have HF2 := hid (HF8.out.trans hf2)
    have HM2 : Hid (GM w2 ρ8 L9 (incG G o)) := hid (by unfold incG; rw [Hx.out, if_pos h3]; exact hm2)
    clear hm2 hf2 HM8
    have hr2' : (Instr.mapUpdate 71 (.map (some L9.mC)) (.int .u64 (o : Int)) (.int .i64 ((x : Int) + 1))).run Try.prog w9 = .ok () w2 := hr2
    clear hr2
    go_wp2
    go_ret
    exact ⟨rfl, L9, ρ8, HM2.out, HS9.out, HF2.out⟩
  · as_aux_lemma =>
    have dk : decide ((x : Int) < 3) = false := decide_eq_false (by omega)
    have HM2 : Hid (GM w9 ρ8 L9 (incG G o)) := hid (by unfold incG; rw [Hx.out, if_neg h3]; exact HM8.out.1)
    go_wp2
    go_ret
    exact ⟨rfl, L9, ρ8, HM2.out, HS9.out, HF8.out⟩
set_option maxRecDepth 1000000 in
set_option maxHeartbeats 2000000 in
theorem pushDec_walk (h : GM w ρ L G) (o : Nat) (hc : G.calls.length ≤ 1000000000000) (h3 : G.pend o ≤ 1000000000000) : Calls Try.prog 78 #[.pointer (some ⟨L.cB, 0, none⟩), .int .u64 (o : Int)] w fun e w' => e = .returned (.tuple #[]) ∧ GP w ρ L (decG G o) w' := by
  have HH := hid h
  have c4 := h.ccells.2.2.2.2.1
  obtain ⟨ax, q, hv⟩ := (h.cl rfl).shape
  rw [hv] at c4
  have HV := hid hv
  have Hc := hid (And.intro hc h3)
  obtain ⟨n, hn⟩ : ∃ n, G.calls.length = n := ⟨_, rfl⟩
  have Hn := hid hn
  rw [hn] at c4
  clear h hv hc h3 hn
  go_enter Try.func78, Try.ntmps78
  go_wp2_with (at_builtin; refine stopHere ?_)
  intro _
  obtain ⟨wf, hwf⟩ : ∃ wf, w.alloc (.cells #[.bool false, .int .u64 (o : Int)] 83) = wf := ⟨_, rfl⟩
  have HBf : Hid (Below w.heap.size w wf) := hid (by rw [← hwf]; exact nbel w _)
  have HNw : Hid (∀ ad, some (⟨w.heap.size, 0, none⟩ : Addr) = some ad → ∀ j u, ([(false, o)].flatMap rtC.f)[j]? = some u → wf.cell? (ad.add j) = some u) := hid (by rw [← hwf]; exact newX rtC w (false, o) _ rfl)
  (try simp only [hwf])
  clear hwf c4
  have HHf := hid (HH.out.below HBf.out)
  have hrf := HHf.out.cl rfl
  rw [HV.out, Hn.out] at hrf
  refine wpList_app_x okC rfl _ _ hrf rfl [(false, o)] rfl (some ⟨w.heap.size, 0, none⟩) 1 1 rfl rfl (fun h => by cases h) HNw.out (by have := Hc.out.1; show (G.calls.length + 1) * 16 ≤ _; omega) ?_
  intro v8 w8 ρ8 hr8 hf8 _ _
  obtain ⟨a8, k8, h8⟩ := hr8.out.shape
  rw [List.length_append, List.length_singleton, Hn.out] at h8
  subst h8
  have HM8 := hid (HHf.out.setK hf8.out hr8.out)
  have HF8 : Hid (Fr gX ρ w ρ8 (w8.setCell ⟨L.cB, 4, none⟩ (.slice a8 (n + 1) k8))) := hid ((Fr.below HBf.out).trans HM8.out.2)
  have hk8 : w8.heap[L.cB]? = wf.heap[L.cB]? := hf8.out.blk _ (HHf.out.cb rfl).lt (by rw [HHf.out.r6]; rfl)
  have c8 : w8.cell? ⟨L.cB, 4, none⟩ = some (.slice ax n q) := by rw [World.cell?_of_block hk8, ← Hn.out, ← HV.out]; exact HHf.out.ccells.2.2.2.2.1
  have f8 : w8.frozen? ⟨L.cB, 4, none⟩ = false := by rw [World.frozen?_of_block hk8]; exact (HHf.out.cb rfl).frozen _
  clear hrf hr8 hf8 hk8 HNw HHf HBf
  go_upto_region 1 with fail
  clear c8 f8
  generalize w8.setCell ⟨L.cB, 4, none⟩ (.slice a8 (n + 1) k8) = w9 at HM8 HF8 ⊢
  obtain ⟨L9, hL9⟩ : ∃ L9, { L with cv := .slice a8 (n + 1) k8 } = L9 := ⟨_, rfl⟩
  have HS9 : Hid (L.Same L9) := hid (by rw [← hL9]; exact ⟨rfl, rfl, rfl, rfl, rfl, rfl, rfl, rfl, rfl⟩)
  rw [hL9] at HM8
  clear hL9
  obtain ⟨x, hx⟩ : ∃ x, G.pend o = x := ⟨_, rfl⟩
  have Hx := hid hx
  have c2 := HM8.out.1.ccells.2.2.2.1
  have hl := HM8.out.1.lookP o
  rw [show ({ G with calls := G.calls ++ [(false, o)] } : GS).pend o = x from hx] at hl
  rw [HS9.out.cB] at c2
  have hx3 : (x : Int) ≤ 1000000000000 := by have := Hc.out.2; omega
  clear hx
  obtain ⟨w2, hr2, hm2, hf2⟩ := HM8.out.1.putP o (x + 1) (by omega)
  have HF2 := hid (HF8.out.trans hf2)
  have HM2 : Hid (GM w2 ρ8 L9 (decG G o)) := hid (by unfold decG; rw [Hx.out]; exact hm2)
  clear hm2 hf2 HM8
  have hr2' : (Instr.mapUpdate 71 (.map (some L9.mP)) (.int .u64 (o : Int)) (.int .i64 ((x : Int) + 1))).run Try.prog w9 = .ok () w2 := hr2
  clear hr2
  go_wp2
  exact bodyPost_end (v := .tuple #[]) (by simp [results, Try.results78, go_sem]) rfl ⟨rfl, L9, ρ8, HM2.out, HS9.out, HF2.out⟩
end
end Go.Proofs.Qxb6500888a
