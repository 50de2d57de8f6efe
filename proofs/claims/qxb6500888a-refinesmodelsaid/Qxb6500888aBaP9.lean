/- The barrier: Pause, plainly and the last parts. -/
import Derived.Test.Qxb6500888aBaP8
namespace Go.Proofs.Qxb6500888a
open Go.RowKit
set_option linter.unusedSimpArgs false
set_option linter.unusedVariables false

def decs (G : GS) (l : List Nat) : GS := l.foldl decG G
theorem decs_s (G : GS) (l : List Nat) (o : Nat) : decs G (l ++ [o]) = decG (decs G l) o := by
  unfold decs
  rw [List.foldl_append]
  rfl
structure DcS (G0 : GS) (D : Nat) (G : GS) : Prop where
  c : G.calls.length ≤ G0.calls.length + D
  p : ∀ a, G.pend a ≤ G0.pend a + D
  s : G = { G0 with calls := G.calls, pend := G.pend }
theorem DcS.step {G0 G : GS} {D : Nat} (h : DcS G0 D G) (o : Nat) : DcS G0 (D + 1) (decG G o) := by
  refine ⟨?_, fun a => ?_, ?_⟩
  · show (G.calls ++ [_]).length ≤ _
    have := h.c
    simp
    omega
  · show fup G.pend o (G.pend o + 1) a ≤ _
    have := h.p a
    by_cases e : a = o
    · subst e; rw [fup_self]; omega
    · rw [fup_ne _ _ e]; omega
  · have := h.s
    unfold decG
    rw [this]
def hv00 : Nat → List Nat := fun _ => []
/-- What a pause does: the ground, the barrier, the harvest. -/
def pauseP (G : GS) (B : BS) : GS × BS × (Nat → List Nat) :=
  let hv2 := hroots (drK B 4) (hvK G B hv00 4)
  let hv3 := seedH (drK B 4) hv2
  let p4 := applyP (G, hv3)
  let p5 := reapK B p4 4
  let G6 := decs (decs p5.1 (p5.2 1)) (p5.2 3)
  ({ G6 with lg := fillF G6.lg 0 32768 false }, { clrF (seedB (drK B 4)) 4 with last := rootsK B 4, ep := B.ep + 1 }, p5.2)
theorem hlog_hi (G : GS) (hv : Nat → List Nat) (p : Nat × Nat) {i : Nat} (hi : 2 ≤ i) : hlog G hv p i = hv i := by
  unfold hlog hlog2 hlog1 hput
  by_cases a : p.2 = 0
  · rw [if_pos a]
    by_cases b : G.word (offA p.1) = 0
    · rw [if_pos b]
    · rw [if_neg b, fup_ne _ _ (by omega)]
  · rw [if_neg a]
    by_cases b : G.word (offA p.1) = 0
    · rw [if_pos b, fup_ne _ _ (by omega)]
    · rw [if_neg b, fup_ne _ _ (by omega), fup_ne _ _ (by omega)]
theorem hlogs_hi (G : GS) {i : Nat} (hi : 2 ≤ i) : ∀ (l : List (Nat × Nat)) (hv : Nat → List Nat), hlogs G hv l i = hv i
  | [], _ => rfl
  | p :: l, hv => by
    show hlogs G (hlog G hv p) l i = _
    rw [hlogs_hi G hi l, hlog_hi G hv p hi]
theorem hvK_hi (G : GS) (B : BS) (hv : Nat → List Nat) {i : Nat} (hi : 2 ≤ i) : ∀ k, hvK G B hv k i = hv i
  | 0 => rfl
  | k + 1 => by rw [hvK_s, hlogs_hi G hi, hvK_hi G B hv hi k]
/-- Where the present values lie. -/
theorem hlog_in0 {G : GS} {hv : Nat → List Nat} {p : Nat × Nat} (hw : ∀ i, i < 32768 → G.word i = 0 ∨ (65536 ≤ G.word i ∧ G.word i < 98304)) (hp : 65536 ≤ p.1 ∧ p.1 < 98304) (h : ∀ o ∈ hv 0, 65536 ≤ o ∧ o < 98304) : ∀ o ∈ hlog G hv p 0, 65536 ≤ o ∧ o < 98304 := by
  have h1 : hlog1 hv p.2 0 = hv 0 := by
    unfold hlog1 hput
    split
    · rfl
    · rw [fup_ne _ _ (by decide)]
  intro o ho
  unfold hlog hlog2 hput at ho
  split at ho
  · rw [h1] at ho; exact h o ho
  · rw [fup_self, h1] at ho
    rcases List.mem_append.1 ho with h2 | h2
    · exact h o h2
    · simp at h2
      subst h2
      have := offA_in hp.1
      rcases hw (offA p.1) (by omega) with h3 | h3
      · rename_i hne; exact absurd h3 hne
      · exact h3
theorem hlogs_in0 {G : GS} (hw : ∀ i, i < 32768 → G.word i = 0 ∨ (65536 ≤ G.word i ∧ G.word i < 98304)) : ∀ (l : List (Nat × Nat)) {hv : Nat → List Nat}, (∀ p ∈ l, 65536 ≤ p.1 ∧ p.1 < 98304) → (∀ o ∈ hv 0, 65536 ≤ o ∧ o < 98304) → ∀ o ∈ hlogs G hv l 0, 65536 ≤ o ∧ o < 98304
  | [], _, _, h => h
  | p :: l, hv, hp, h => hlogs_in0 hw l (hv := hlog G hv p) (fun q hq => hp q (by simp [hq])) (hlog_in0 hw (hp p (by simp)) h)
theorem hvK_in0 {G : GS} {B : BS} (hw : ∀ i, i < 32768 → G.word i = 0 ∨ (65536 ≤ G.word i ∧ G.word i < 98304)) (hp : ∀ m, m < 4 → ∀ p ∈ B.logs m, 65536 ≤ p.1 ∧ p.1 < 98304) : ∀ k, k ≤ 4 → ∀ o ∈ hvK G B hv00 k 0, 65536 ≤ o ∧ o < 98304
  | 0, _ => fun o ho => by cases ho
  | k + 1, hk => by
    rw [hvK_s]
    exact hlogs_in0 hw (B.logs k) (hp k (by omega)) (hvK_in0 hw hp k (by omega))
theorem hlog1_in {G : GS} {hv : Nat → List Nat} {p : Nat × Nat} (hp : p.2 = 0 ∨ (65536 ≤ p.2 ∧ p.2 < 98304)) (h : ∀ o ∈ hv 1, 65536 ≤ o ∧ o < 98304) : ∀ o ∈ hlog G hv p 1, 65536 ≤ o ∧ o < 98304 := by
  have h0 : hlog G hv p 1 = hlog1 hv p.2 1 := by
    unfold hlog hlog2 hput
    split
    · rfl
    · rw [fup_ne _ _ (by decide)]
  rw [h0]
  intro o ho
  unfold hlog1 hput at ho
  split at ho
  · exact h o ho
  · rw [fup_self] at ho
    rcases List.mem_append.1 ho with h2 | h2
    · exact h o h2
    · simp at h2
      subst h2
      rcases hp with h3 | h3
      · rename_i hne; exact absurd h3 hne
      · exact h3
theorem hlogs_in1 {G : GS} : ∀ (l : List (Nat × Nat)) {hv : Nat → List Nat}, (∀ p ∈ l, p.2 = 0 ∨ (65536 ≤ p.2 ∧ p.2 < 98304)) → (∀ o ∈ hv 1, 65536 ≤ o ∧ o < 98304) → ∀ o ∈ hlogs G hv l 1, 65536 ≤ o ∧ o < 98304
  | [], _, _, h => h
  | p :: l, hv, hp, h => hlogs_in1 l (hv := hlog G hv p) (fun q hq => hp q (by simp [hq])) (hlog1_in (hp p (by simp)) h)
theorem hvK_in1 {G : GS} {B : BS} (hp : ∀ m, m < 4 → ∀ p ∈ B.logs m, p.2 = 0 ∨ (65536 ≤ p.2 ∧ p.2 < 98304)) : ∀ k, k ≤ 4 → ∀ o ∈ hvK G B hv00 k 1, 65536 ≤ o ∧ o < 98304
  | 0, _ => fun o ho => by cases ho
  | k + 1, hk => by
    rw [hvK_s]
    exact hlogs_in1 (B.logs k) (hp k (by omega)) (hvK_in1 hp k (by omega))
theorem rootsK_mem {B : BS} {k o : Nat} (h : o ∈ rootsK B k) : ∃ m, m < k ∧ o ∈ B.roots m := by
  unfold rootsK at h
  obtain ⟨m, hm, ho⟩ := List.mem_flatMap.1 h
  exact ⟨m, List.mem_range.1 hm, ho⟩
/-- The barrier's lists lie in the heap, and are short. -/
structure BOk (B : BS) (N : Nat) : Prop where
  lf : ∀ m, m < 4 → ∀ p ∈ B.logs m, 65536 ≤ p.1 ∧ p.1 < 98304
  lo : ∀ m, m < 4 → ∀ p ∈ B.logs m, p.2 = 0 ∨ (65536 ≤ p.2 ∧ p.2 < 98304)
  ro : ∀ m, m < 4 → ∀ o ∈ B.roots m, 65536 ≤ o ∧ o < 98304
  fr : ∀ m, m < 4 → ∀ o ∈ B.fresh m, 65536 ≤ o ∧ o < 98304
  la : ∀ o ∈ B.last, 65536 ≤ o ∧ o < 98304
  nl : ∀ m, (B.logs m).length ≤ N
  nf : ∀ m, (B.fresh m).length ≤ N
  nr : ∀ m, (B.roots m).length ≤ 64
  na : B.last.length ≤ 256
  tr : B.tr ≤ 2
  ep : B.ep ≤ N
  md : B.made ≤ N
  hi : ∀ m, 4 ≤ m → B.logs m = [] ∧ B.roots m = [] ∧ B.fresh m = []
section
variable {x : Nat} {w w' : World} {ρ ρ' : Rl} {L L' : GL} {T T' : BL} {hB : Nat} {V : Nat → Value} {G G' : GS} {B B' : BS} {hv : Nat → List Nat}
/-- The harvest's lists ahead of the increments. -/
def hv3P (G : GS) (B : BS) : Nat → List Nat := seedH (drK B 4) (hroots (drK B 4) (hvK G B hv00 4))
theorem hv3_i (G : GS) (B : BS) {i : Nat} (h7 : i ≠ 7) : hv3P G B i = hroots (drK B 4) (hvK G B hv00 4) i := by
  unfold hv3P seedH
  split
  · rw [fup_ne _ _ h7]
  · split
    · rw [fup_ne _ _ h7]
    · rfl
theorem hv3_lo (G : GS) (B : BS) {i : Nat} (h : i < 2) : hv3P G B i = hvK G B hv00 4 i := by
  rw [hv3_i G B (by omega)]
  unfold hroots
  rw [fup_ne _ _ (by omega), fup_ne _ _ (by omega)]
theorem hv3_2 (G : GS) (B : BS) : hv3P G B 2 = rootsK B 4 := by
  rw [hv3_i G B (by omega)]
  unfold hroots
  rw [fup_ne _ _ (by omega), fup_self, hvK_hi _ _ _ (by omega)]
  rfl
theorem hv3_3 (G : GS) (B : BS) : hv3P G B 3 = B.last := by
  rw [hv3_i G B (by omega)]
  unfold hroots
  rw [fup_self, hvK_hi _ _ _ (by omega)]
  rfl
theorem hv3_mid (G : GS) (B : BS) {i : Nat} (h : 4 ≤ i) (h7 : i ≠ 7) : hv3P G B i = [] := by
  rw [hv3_i G B h7]
  unfold hroots
  rw [fup_ne _ _ (by omega), fup_ne _ _ (by omega), hvK_hi _ _ _ (by omega)]
  rfl
theorem hv3_7 (G : GS) (B : BS) : hv3P G B 7 = if B.tr = 1 then rootsK B 4 else if B.tr = 2 then hvK G B hv00 4 1 else [] := by
  have h7 : hroots (drK B 4) (hvK G B hv00 4) 7 = [] := by
    unfold hroots
    rw [fup_ne _ _ (by omega), fup_ne _ _ (by omega), hvK_hi _ _ _ (by omega)]
    rfl
  unfold hv3P seedH
  show (if B.tr = 1 then _ else if B.tr = 2 then _ else _ : Nat → List Nat) 7 = _
  by_cases h1 : B.tr = 1
  · rw [if_pos h1, if_pos h1, fup_self, h7]
    have := hv3_2 G B
    rw [hv3_i G B (by omega)] at this
    rw [this]
    rfl
  · rw [if_neg h1, if_neg h1]
    by_cases h2 : B.tr = 2
    · rw [if_pos h2, if_pos h2, fup_self, h7]
      have := hv3_lo G B (i := 1) (by omega)
      rw [hv3_i G B (by omega)] at this
      rw [this]
      rfl
    · rw [if_neg h2, if_neg h2]
      exact h7
theorem hv3_len (G : GS) {B : BS} {N : Nat} (h : BOk B N) (hN : 1000 ≤ N) (i : Nat) : (hv3P G B i).length ≤ 4 * N := by
  have hlo : ∀ i, i < 2 → (hvK G B hv00 4 i).length ≤ 4 * N := fun i _ => by
    have := hvK_len G B hv00 h.nl i 4
    have e : (hv00 i).length = 0 := rfl
    omega
  have hr : (rootsK B 4).length ≤ 256 := rootsK_len h.nr 4
  rcases Nat.lt_or_ge i 2 with h2 | h2
  · rw [hv3_lo G B h2]; exact hlo i h2
  by_cases e2 : i = 2
  · subst e2; rw [hv3_2]; omega
  by_cases e3 : i = 3
  · subst e3; rw [hv3_3]; have := h.na; omega
  by_cases e7 : i = 7
  · subst e7
    rw [hv3_7]
    split
    · omega
    · split
      · exact hlo 1 (by omega)
      · simp
  · rw [hv3_mid G B (by omega) e7]; simp
theorem hv3_ap {G : GS} {B : BS} {N : Nat} (hok : GOk G) (h : BOk B N) : ApS (hv3P G B) G.calls.length G (hv3P G B) := by
  refine ⟨hok, Nat.le_refl _, ?_, ?_, fun _ _ _ => rfl, fun o ho => ?_⟩
  · rw [hv3_mid G B (by decide) (by decide)]; simp
  · rw [hv3_mid G B (by decide) (by decide)]; simp
  · rw [hv3_mid G B (by decide) (by decide)] at ho; cases ho
/-- Decrements of one list of the harvest go to the buffer. -/
structure DcM (w : World) (ρ : Rl) (L : GL) (T : BL) (hB : Nat) (G0 : GS) (B : BS) (hv : Nat → List Nat) (D : Nat) (G : GS) (L' : GL) (V : Nat → Value) (ρ' : Rl) (wr : World) : Prop where
  pm : PMx 5 wr ρ' L' T hB V G B hv
  sm : L.Same L'
  fr : Fr zX ρ w ρ' wr
  dc : DcS G0 D G
theorem DcM.step {G0 : GS} {D : Nat} {wr : World} (h : DcM w ρ L T hB G0 B hv D G L' V ρ' wr) (o : Nat) (hc : G0.calls.length + D ≤ 1000000000000) (hp : ∀ a, G0.pend a + D ≤ 1000000000000) :
    Calls Try.prog 78 #[.pointer (some ⟨L'.cB, 0, none⟩), .int .u64 (o : Int)] wr fun e w' => e = .returned (.tuple #[]) ∧ ∃ L2 ρ2, DcM w ρ L T hB G0 B hv (D + 1) (decG G o) L2 V ρ2 w' := by
  refine (pushDec_walk h.pm.bm.gm o (Nat.le_trans h.dc.c hc) (Nat.le_trans (h.dc.p o) (hp o))).mono ?_
  rintro e w2 ⟨he, L2, ρ2, g1, g2, g3⟩
  exact ⟨he, L2, ρ2, h.pm.ground g1 g2 g3, h.sm.trans g2, h.fr.trans (g3.mono (fun c => zX_g)), h.dc.step o⟩
/-- The lists of roots change places. -/
theorem PMx.swap (h : PMx 5 w ρ L T hB V G B hv) {v : Value} {xs : List Nat} (hr : RtM w ρ T.lv v xs) {a : Option Addr} {n q : Nat} (hv' : T.lv = .slice a n q) :
    BM ((w.setCell ⟨T.bB, 282, none⟩ (.slice a 0 q)).setCell ⟨T.bB, 281, none⟩ v) ρ L { T with lv := v, sv := .slice a 0 q } G { B with last := xs } ∧ Fr (fun c => c == 12) ρ w ρ ((w.setCell ⟨T.bB, 282, none⟩ (.slice a 0 q)).setCell ⟨T.bB, 281, none⟩ v) := by
  have b := h.bm
  have hu : Upd T.bB w ((w.setCell ⟨T.bB, 282, none⟩ (.slice a 0 q)).setCell ⟨T.bB, 281, none⟩ v) := upd2 _ _ _ _ _ _
  have hf : Fr (fun c => c == 12) ρ w ρ ((w.setCell ⟨T.bB, 282, none⟩ (.slice a 0 q)).setCell ⟨T.bB, 281, none⟩ v) := Fr.upd hu (by show (ρ T.bB == 12) = true; rw [b.rb]; rfl)
  have hg : GM _ ρ L G := (GMh.but b.gm hf).full (fun c hc => by
    have := of_decide_eq_true hc
    show (c == 12) = false
    simp
    omega)
  have hk : ∀ s ∈ allS T, ((w.setCell ⟨T.bB, 282, none⟩ (.slice a 0 q)).setCell ⟨T.bB, 281, none⟩ v).heap[s]? = w.heap[s]? := fun s hs => hf.blk s (b.lts hs) (by rw [b.rs s hs]; rfl)
  have hbb := (b.bb.set 282 (.slice a 0 q)).set 281 v
  have e1 : (fnC 285 (bF L T B)).set 282 (.slice a 0 q) = fnC 285 (bF L { T with sv := .slice a 0 q } B) := by
    refine bF_setE L (by decide) (by decide) rfl (fun m j _ _ => rfl) (fun i h1 h2 h3 => ?_)
    unfold eF
    rcases (by omega : i = 279 ∨ i = 280 ∨ i = 281 ∨ i = 283 ∨ i = 284) with rfl | rfl | rfl | rfl | rfl <;> rfl
  have e2 : (fnC 285 (bF L { T with sv := .slice a 0 q } B)).set 281 v = fnC 285 (bF L { T with lv := v, sv := .slice a 0 q } { B with last := xs }) := by
    refine bF_setE L (by decide) (by decide) rfl (fun m j _ _ => rfl) (fun i h1 h2 h3 => ?_)
    unfold eF
    rcases (by omega : i = 279 ∨ i = 280 ∨ i = 282 ∨ i = 283 ∨ i = 284) with rfl | rfl | rfl | rfl | rfl <;> rfl
  rw [e1, e2] at hbb
  have hlr := b.lr
  rw [hv'] at hlr
  refine ⟨⟨hg, hbb, b.rb, fun m hm => (b.fr m hm).fr hf (by show (16 + m == 12) = false; simp; omega), hr.row.fr hf rfl, fun _ => (hlr.cut (fun _ => rfl) (j := 0) (Nat.zero_le _)).fr hf rfl, fun _ g hg e => ?_, fun m hm _ => (b.sg m hm (by omega)).fr (fun s hs => hk s (allS_m hm hs)), b.fs.fr (fun s hs => hk s (allS_f hs)), b.nd, b.rs, b.rl, fun _ => b.md (by decide)⟩, hf⟩
  refine hr.ap g hg ?_
  rw [hv']
  cases a with
  | none => cases e
  | some ad => exact e
end
end Go.Proofs.Qxb6500888a
