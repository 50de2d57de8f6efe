/- The abstract model: Step, but for the pause (written by tools/mk_k5.py). -/
import Derived.Test.Qxb6500888aBaK4
namespace Go.Proofs.Qxb6500888a
open Go.RowKit
set_option linter.unusedSimpArgs false
set_option linter.unusedVariables false
attribute [local irreducible] wdC

def mtrS (M : MS) (a : Nat) : MS := if a = 0 then { M with st := false, tr := false } else if M.tr = true then M else { M with st := true }
def mpopS (M : MS) (m : Nat) : (Nat × Nat) × MS := if (M.roots m).length = 0 then ((9, 0), M) else ((0, (M.roots m).getD ((M.roots m).length - 1) 0), { M with roots := fup M.roots m (M.roots m).dropLast })
def mpuS (M : MS) (m ref : Nat) : Nat × MS := if (M.roots m).length = 64 then (8, M) else (0, mpush M m ref)
def mwrS (G : GS) (M : MS) (obj f ref : Nat) : GS × MS := ({ G with word := fup G.word (offA f) ref }, if M.fr obj = true then M else { M with wr := fup M.wr f true })
/-- A step that names an object. -/
def mnamS (G : GS) (M : MS) (o : OpP) : (Nat × Nat) × GS × MS :=
  if ¬ o.a < (M.roots o.m).length then ((10, 0), G, M)
  else
    let obj := (M.roots o.m).getD ((M.roots o.m).length - 1 - o.a) 0
    if o.kind = 3 then (((mpuS M o.m obj).1, 0), G, (mpuS M o.m obj).2)
    else if o.kind = 5 then (if 4 ≤ o.b then ((1, 0), G, M) else (((mpuS M o.b obj).1, 0), G, (mpuS M o.b obj).2))
    else if o.kind = 2 then
      (if (mfieldS G obj o.b).2 ≠ 0 then (((mfieldS G obj o.b).2, 0), G, M)
       else if G.word (offA (mfieldS G obj o.b).1) = 0 then ((0, 0), G, M)
       else if (M.roots o.m).length = 64 then ((8, 0), G, M)
       else ((0, G.word (offA (mfieldS G obj o.b).1)), G, mpush M o.m (G.word (offA (mfieldS G obj o.b).1))))
    else if o.c ≠ 0 ∧ ¬ o.c - 1 < (M.roots o.m).length then ((10, 0), G, M)
    else if (mfieldS G obj o.b).2 ≠ 0 then (((mfieldS G obj o.b).2, 0), G, M)
    else ((0, 0), mwrS G M obj (mfieldS G obj o.b).1 (if o.c = 0 then 0 else (M.roots o.m).getD ((M.roots o.m).length - 1 - (o.c - 1)) 0))
noncomputable def mstepS (G : GS) (M : MS) (o : OpP) : (Nat × Nat) × GS × MS :=
  if o.kind = 8 then ((0, (decN (1 + o.a % 8) G).1), (decN (1 + o.a % 8) G).2, M)
  else if o.kind = 9 then ((0, 0), G, mtrS M o.a)
  else if 10 ≤ o.kind then ((11, 0), G, M)
  else if 4 ≤ o.m then ((1, 0), G, M)
  else if o.kind = 0 then malocS G M o.m o.a o.b
  else if o.kind = 4 then ((mpopS M o.m).1, G, (mpopS M o.m).2)
  else if o.kind = 6 then ((mwildS G o, 0), G, M)
  else mnamS G M o
section
variable {w w' : World} {ρ ρ' : Rl} {L L' : GL} {Y Y' : ML} {G G' : GS} {M M' : MS}
theorem MdM.setT (h : MdM w ρ L Y G M) {i : Nat} (hi : i = 11 ∨ i = 12) (b : Bool) : MdM (w.setCell ⟨Y.mB, i, none⟩ (.bool b)) ρ L Y G (if i = 11 then { M with st := b } else { M with tr := b }) ∧ Fr bX ρ w ρ (w.setCell ⟨Y.mB, i, none⟩ (.bool b)) := by
  have hf : Fr (fun r => r == 12) ρ w ρ (w.setCell ⟨Y.mB, i, none⟩ (.bool b)) := Fr.set _ (by show (ρ Y.mB == 12) = true; rw [h.rm]; rfl)
  have hk : ∀ M' : MS, M'.roots = M.roots → M'.last = M.last → M'.atp = M.atp → M'.wr = M.wr → M'.fr = M.fr → fnC 13 (fup (mdF L Y M) i (.bool b)) = fnC 13 (mdF L Y M') → MdM (w.setCell ⟨Y.mB, i, none⟩ (.bool b)) ρ L Y G M' := fun M' e1 e2 e3 e4 e5 e6 => by
    have hb := h.mb.set i (.bool b)
    rw [fnC_set _ (by omega), e6] at hb
    refine ⟨(GMh.but h.gm hf).full (fun c hc => ?_), hb, h.rm, fun m hm' => by rw [e1]; exact (h.rt m hm').fr hf (by show (16 + m == 12) = false; simp; omega), by rw [e2]; exact h.lr.fr hf rfl, by rw [e3]; exact hf.keep h.ab h.ra rfl, h.ra, by rw [e4]; exact MF.of h.wm (hf.blk _ (MF.lt h.wm) (by rw [h.rw_]; rfl)), h.rw_, by rw [e5]; exact MF.of h.fm (hf.blk _ (MF.lt h.fm) (by rw [h.rf]; rfl)), h.rf, by rw [e1]; exact h.rl⟩
    have := of_decide_eq_true hc
    show (c == 12) = false
    simp
    omega
  refine ⟨?_, hf.mono (fun c => bX_of (by decide))⟩
  rcases hi with rfl | rfl
  · rw [if_pos rfl]
    refine hk _ rfl rfl rfl rfl rfl ?_
    apply fnC_congr
    intro i hi
    by_cases e : i = 11
    · subst e; rw [fup_self]; rfl
    · rw [fup_ne _ _ e]
      rcases (by omega : i = 0 ∨ i = 1 ∨ i = 2 ∨ i = 3 ∨ i = 4 ∨ i = 5 ∨ i = 6 ∨ i = 7 ∨ i = 8 ∨ i = 9 ∨ i = 10 ∨ i = 12) with rfl | rfl | rfl | rfl | rfl | rfl | rfl | rfl | rfl | rfl | rfl | rfl <;> rfl
  · rw [if_neg (by decide)]
    refine hk _ rfl rfl rfl rfl rfl ?_
    apply fnC_congr
    intro i hi
    by_cases e : i = 12
    · subst e; rw [fup_self]; rfl
    · rw [fup_ne _ _ e]
      rcases (by omega : i = 0 ∨ i = 1 ∨ i = 2 ∨ i = 3 ∨ i = 4 ∨ i = 5 ∨ i = 6 ∨ i = 7 ∨ i = 8 ∨ i = 9 ∨ i = 10 ∨ i = 11) with rfl | rfl | rfl | rfl | rfl | rfl | rfl | rfl | rfl | rfl | rfl | rfl <;> rfl
set_option maxRecDepth 1000000 in
set_option maxHeartbeats 8000000 in
theorem mstep_hi (h : MdM w ρ L Y G M) (ok : GOk G) (gb : GB G 90000000000) (kind m oa ob oc : Nat) (hob : OpB ⟨kind, m, oa, ob, oc⟩) (h10 : 10 ≤ kind) :
    Calls Try.prog 18 #[.pointer (some ⟨Y.mB, 0, none⟩), .agg (opC ⟨kind, m, oa, ob, oc⟩).toArray] w fun e w' => RzP w ρ L Y (mstepS G M ⟨kind, m, oa, ob, oc⟩) e w' := by
  have HS0 := hid (SmS.start h ⟨kind, m, oa, ob, oc⟩)
  have I0 := hid info_rz
  have HOk := hid (And.intro ok gb)
  obtain ⟨b3, hb3⟩ : ∃ x, w.heap.size = x := ⟨_, rfl⟩
  have Hb3 := hid hb3
  have HB := hid hob
  rw [hb3] at HS0
  obtain ⟨res, hres⟩ : ∃ x, mstepS G M ⟨kind, m, oa, ob, oc⟩ = x := ⟨_, rfl⟩
  rw [hres]
  have Hres := hid hres
  clear h ok gb hob hres
  have e0 : (opC ⟨kind, m, oa, ob, oc⟩).toArray = #[.int .u8 (kind : Int), .int .u8 (m : Int), .int .u64 (oa : Int), .int .u64 (ob : Int), .int .u64 (oc : Int)] := rfl
  rw [e0] at HS0 ⊢
  clear e0
  go_enter Try.func18, Try.ntmps18
  go_upto_region 1 with fail
  have HS1 : Hid (SmS w ρ L Y b3 (b3 + 1) ⟨kind, m, oa, ob, oc⟩ G M L Y ρ ((w.alloc (.cells #[.int .u8 (kind : Int), .int .u8 (m : Int), .int .u64 (oa : Int), .int .u64 (ob : Int), .int .u64 (oc : Int)] 31)).alloc (.cells #[.int .u8 0, .int .u64 0, .slice none 0 0, .slice none 0 0, .slice none 0 0, .slice none 0 0, .slice none 0 0, .slice none 0 0, .slice none 0 0, .slice none 0 0] 38))) := hid HS0.out
  clear HS0
  try simp only [hb3]
  generalize (w.alloc (.cells #[.int .u8 (kind : Int), .int .u8 (m : Int), .int .u64 (oa : Int), .int .u64 (ob : Int), .int .u64 (oc : Int)] 31)).alloc (.cells #[.int .u8 0, .int .u64 0, .slice none 0 0, .slice none 0 0, .slice none 0 0, .slice none 0 0, .slice none 0 0, .slice none 0 0, .slice none 0 0, .slice none 0 0] 38) = w1 at HS1 ⊢
  clear hb3
  have k0 : w1.cell? ⟨b3, 0, none⟩ = some (.int .u8 (kind : Int)) := HS1.out.ob.cell 0
  have k1 : w1.cell? ⟨b3, 1, none⟩ = some (.int .u8 (m : Int)) := HS1.out.ob.cell 1
  have k2 : w1.cell? ⟨b3, 2, none⟩ = some (.int .u64 (oa : Int)) := HS1.out.ob.cell 2
  have k3 : w1.cell? ⟨b3, 3, none⟩ = some (.int .u64 (ob : Int)) := HS1.out.ob.cell 3
  have k4 : w1.cell? ⟨b3, 4, none⟩ = some (.int .u64 (oc : Int)) := HS1.out.ob.cell 4
  have d7 : ((kind : Int) == 7) = false := by simp; omega
  have d8 : ((kind : Int) == 8) = false := by simp; omega
  have d9 : ((kind : Int) == 9) = false := by simp; omega
  have g1 : decide ((kind : Int) ≥ 10) = true := decide_eq_true (by omega)
  have g2 : decide ((10 : Int) ≤ (kind : Int)) = true := decide_eq_true (by omega)
  have g3 : (10 : Int) ≤ (kind : Int) := by omega
  have HE := hid (show mstepS G M ⟨kind, m, oa, ob, oc⟩ = ((11, 0), G, M) by unfold mstepS; dsimp only; rw [if_neg (by omega), if_neg (by omega), if_pos h10])
  have HRf := hid (mrefuse_walk 11 w1)
  go_wp2_with fail
  refine HRf.out.mono ?_
  rintro e7 w7 ⟨rfl, hb7⟩
  have HSt := hid (HS1.out.below hb7)
  clear HRf hb7 HS1 
  (try clear k0 k1 k2 k3 k4)
  (try clear k1 k2 k3 k4)
  go_wp2_with (refine wpList_store_blk rfl 38 _ _ rfl (b3 + 1) rfl (rzC 11 0) rfl HSt.out.rb rfl I0.out (rz_one 11 0) ?_; intro w9 HB9 HU9)
  exact bodyPost_ret (results_blk (cs := rzC 11 0) Try.results18 rfl aggRz HB9.out) rfl (by rw [← Hres.out, HE.out]; exact HSt.out.fin HU9.out 11 0)
set_option maxRecDepth 1000000 in
set_option maxHeartbeats 8000000 in
theorem mstep_m (h : MdM w ρ L Y G M) (ok : GOk G) (gb : GB G 90000000000) (kind m oa ob oc : Nat) (hob : OpB ⟨kind, m, oa, ob, oc⟩) (h10 : kind < 7) (hm : 4 ≤ m) :
    Calls Try.prog 18 #[.pointer (some ⟨Y.mB, 0, none⟩), .agg (opC ⟨kind, m, oa, ob, oc⟩).toArray] w fun e w' => RzP w ρ L Y (mstepS G M ⟨kind, m, oa, ob, oc⟩) e w' := by
  have HS0 := hid (SmS.start h ⟨kind, m, oa, ob, oc⟩)
  have I0 := hid info_rz
  have HOk := hid (And.intro ok gb)
  obtain ⟨b3, hb3⟩ : ∃ x, w.heap.size = x := ⟨_, rfl⟩
  have Hb3 := hid hb3
  have HB := hid hob
  rw [hb3] at HS0
  obtain ⟨res, hres⟩ : ∃ x, mstepS G M ⟨kind, m, oa, ob, oc⟩ = x := ⟨_, rfl⟩
  rw [hres]
  have Hres := hid hres
  clear h ok gb hob hres
  have e0 : (opC ⟨kind, m, oa, ob, oc⟩).toArray = #[.int .u8 (kind : Int), .int .u8 (m : Int), .int .u64 (oa : Int), .int .u64 (ob : Int), .int .u64 (oc : Int)] := rfl
  rw [e0] at HS0 ⊢
  clear e0
  go_enter Try.func18, Try.ntmps18
  go_upto_region 1 with fail
  have HS1 : Hid (SmS w ρ L Y b3 (b3 + 1) ⟨kind, m, oa, ob, oc⟩ G M L Y ρ ((w.alloc (.cells #[.int .u8 (kind : Int), .int .u8 (m : Int), .int .u64 (oa : Int), .int .u64 (ob : Int), .int .u64 (oc : Int)] 31)).alloc (.cells #[.int .u8 0, .int .u64 0, .slice none 0 0, .slice none 0 0, .slice none 0 0, .slice none 0 0, .slice none 0 0, .slice none 0 0, .slice none 0 0, .slice none 0 0] 38))) := hid HS0.out
  clear HS0
  try simp only [hb3]
  generalize (w.alloc (.cells #[.int .u8 (kind : Int), .int .u8 (m : Int), .int .u64 (oa : Int), .int .u64 (ob : Int), .int .u64 (oc : Int)] 31)).alloc (.cells #[.int .u8 0, .int .u64 0, .slice none 0 0, .slice none 0 0, .slice none 0 0, .slice none 0 0, .slice none 0 0, .slice none 0 0, .slice none 0 0, .slice none 0 0] 38) = w1 at HS1 ⊢
  clear hb3
  have k0 : w1.cell? ⟨b3, 0, none⟩ = some (.int .u8 (kind : Int)) := HS1.out.ob.cell 0
  have k1 : w1.cell? ⟨b3, 1, none⟩ = some (.int .u8 (m : Int)) := HS1.out.ob.cell 1
  have k2 : w1.cell? ⟨b3, 2, none⟩ = some (.int .u64 (oa : Int)) := HS1.out.ob.cell 2
  have k3 : w1.cell? ⟨b3, 3, none⟩ = some (.int .u64 (ob : Int)) := HS1.out.ob.cell 3
  have k4 : w1.cell? ⟨b3, 4, none⟩ = some (.int .u64 (oc : Int)) := HS1.out.ob.cell 4
  have d7 : ((kind : Int) == 7) = false := by simp; omega
  have d8 : ((kind : Int) == 8) = false := by simp; omega
  have d9 : ((kind : Int) == 9) = false := by simp; omega
  have g1 : decide ((kind : Int) ≥ 10) = false := decide_eq_false (by omega)
  have g2 : decide ((10 : Int) ≤ (kind : Int)) = false := decide_eq_false (by omega)
  have g3 : (kind : Int) < 10 := by omega
  have f1 : decide ((m : Int) ≥ 4) = true := decide_eq_true (by omega)
  have f2 : decide ((4 : Int) ≤ (m : Int)) = true := decide_eq_true (by omega)
  have f3 : (4 : Int) ≤ (m : Int) := by omega
  have HE := hid (show mstepS G M ⟨kind, m, oa, ob, oc⟩ = ((1, 0), G, M) by unfold mstepS; dsimp only; rw [if_neg (by omega), if_neg (by omega), if_neg (by omega), if_pos hm])
  have HRf := hid (mrefuse_walk 1 w1)
  go_wp2_with fail
  refine HRf.out.mono ?_
  rintro e7 w7 ⟨rfl, hb7⟩
  have HSt := hid (HS1.out.below hb7)
  clear HRf hb7 HS1 
  (try clear k0 k1 k2 k3 k4)
  (try clear k1 k2 k3 k4)
  go_wp2_with (refine wpList_store_blk rfl 38 _ _ rfl (b3 + 1) rfl (rzC 1 0) rfl HSt.out.rb rfl I0.out (rz_one 1 0) ?_; intro w9 HB9 HU9)
  exact bodyPost_ret (results_blk (cs := rzC 1 0) Try.results18 rfl aggRz HB9.out) rfl (by rw [← Hres.out, HE.out]; exact HSt.out.fin HU9.out 1 0)
set_option maxRecDepth 1000000 in
set_option maxHeartbeats 8000000 in
theorem mstep_9 (h : MdM w ρ L Y G M) (ok : GOk G) (gb : GB G 90000000000) (kind m oa ob oc : Nat) (hob : OpB ⟨kind, m, oa, ob, oc⟩) (h9 : kind = 9) :
    Calls Try.prog 18 #[.pointer (some ⟨Y.mB, 0, none⟩), .agg (opC ⟨kind, m, oa, ob, oc⟩).toArray] w fun e w' => RzP w ρ L Y (mstepS G M ⟨kind, m, oa, ob, oc⟩) e w' := by
  have HK := hid h9
  clear h9
  have HS0 := hid (SmS.start h ⟨kind, m, oa, ob, oc⟩)
  have I0 := hid info_rz
  have HOk := hid (And.intro ok gb)
  obtain ⟨b3, hb3⟩ : ∃ x, w.heap.size = x := ⟨_, rfl⟩
  have Hb3 := hid hb3
  have HB := hid hob
  rw [hb3] at HS0
  obtain ⟨res, hres⟩ : ∃ x, mstepS G M ⟨kind, m, oa, ob, oc⟩ = x := ⟨_, rfl⟩
  rw [hres]
  have Hres := hid hres
  clear h ok gb hob hres
  have e0 : (opC ⟨kind, m, oa, ob, oc⟩).toArray = #[.int .u8 (kind : Int), .int .u8 (m : Int), .int .u64 (oa : Int), .int .u64 (ob : Int), .int .u64 (oc : Int)] := rfl
  rw [e0] at HS0 ⊢
  clear e0
  go_enter Try.func18, Try.ntmps18
  go_upto_region 1 with fail
  have HS1 : Hid (SmS w ρ L Y b3 (b3 + 1) ⟨kind, m, oa, ob, oc⟩ G M L Y ρ ((w.alloc (.cells #[.int .u8 (kind : Int), .int .u8 (m : Int), .int .u64 (oa : Int), .int .u64 (ob : Int), .int .u64 (oc : Int)] 31)).alloc (.cells #[.int .u8 0, .int .u64 0, .slice none 0 0, .slice none 0 0, .slice none 0 0, .slice none 0 0, .slice none 0 0, .slice none 0 0, .slice none 0 0, .slice none 0 0] 38))) := hid HS0.out
  clear HS0
  try simp only [hb3]
  generalize (w.alloc (.cells #[.int .u8 (kind : Int), .int .u8 (m : Int), .int .u64 (oa : Int), .int .u64 (ob : Int), .int .u64 (oc : Int)] 31)).alloc (.cells #[.int .u8 0, .int .u64 0, .slice none 0 0, .slice none 0 0, .slice none 0 0, .slice none 0 0, .slice none 0 0, .slice none 0 0, .slice none 0 0, .slice none 0 0] 38) = w1 at HS1 ⊢
  clear hb3
  have k0 : w1.cell? ⟨b3, 0, none⟩ = some (.int .u8 (kind : Int)) := HS1.out.ob.cell 0
  have k1 : w1.cell? ⟨b3, 1, none⟩ = some (.int .u8 (m : Int)) := HS1.out.ob.cell 1
  have k2 : w1.cell? ⟨b3, 2, none⟩ = some (.int .u64 (oa : Int)) := HS1.out.ob.cell 2
  have k3 : w1.cell? ⟨b3, 3, none⟩ = some (.int .u64 (ob : Int)) := HS1.out.ob.cell 3
  have k4 : w1.cell? ⟨b3, 4, none⟩ = some (.int .u64 (oc : Int)) := HS1.out.ob.cell 4
  have h9 := HK.out
  have hkk : ((kind : Int) == 9) = true := by simp; omega
  have d7 : ((kind : Int) == 7) = false := by simp; omega
  have d8 : ((kind : Int) == 8) = false := by simp; omega
  clear h9
  have HX0 : Hid (mstepS G M ⟨kind, m, oa, ob, oc⟩ = ((0, 0), G, mtrS M oa)) := hid (by unfold mstepS; dsimp only; rw [if_neg (by have := HK.out; omega), if_pos HK.out])
  have c8 := HS1.out.md.cells.2.2.2.2.2.2.2.1
  have c9 := HS1.out.md.cells.2.2.2.2.2.2.2.2
  have f8 : w1.frozen? ⟨Y.mB, 11, none⟩ = false := HS1.out.md.mb.frozen 11
  have f9 : w1.frozen? ⟨Y.mB, 12, none⟩ = false := HS1.out.md.mb.frozen 12
  have hn : b3 ≠ Y.mB := fun e => by have h1 := HS1.out.z1; rw [e, HS1.out.md.rm] at h1; cases h1
  by_cases ha : oa = 0
  · as_aux_lemma =>
    subst ha
    have k2' : w1.cell? ⟨b3, 2, none⟩ = some (.int .u64 0) := k2
    have h1 := HS1.out.md.setT (.inl rfl) false
    have h2 := h1.1.setT (.inr rfl) false
    rw [if_pos rfl, if_neg (by decide)] at h2
    obtain ⟨L2, Y2, ρ2, hs2⟩ := HS1.out.mach (G' := G) (M' := mtrS M 0) ⟨L, Y, ρ, by unfold mtrS; rw [if_pos rfl]; exact h2.1, rfl, GL.Same.refl _, h1.2.trans h2.2⟩
    have HS2 := hid hs2
    have HE := HX0
    have c9' : (w1.setCell ⟨Y.mB, 11, none⟩ (.bool false)).cell? ⟨Y.mB, 12, none⟩ = some (.bool M.tr) := by rw [h1.1.cells.2.2.2.2.2.2.2.2]; rfl
    have f9' : (w1.setCell ⟨Y.mB, 11, none⟩ (.bool false)).frozen? ⟨Y.mB, 12, none⟩ = false := h1.1.mb.frozen 12
    clear h1 h2 hs2 k2 HX0
    go_upto_region 14 with fail
    generalize (w1.setCell ⟨Y.mB, 11, none⟩ (.bool false)).setCell ⟨Y.mB, 12, none⟩ (.bool false) = w2 at HS2 ⊢
    clear c8 c9 f8 f9 c9' f9' k2' HS1
    have HSt := hid HS2.out
    clear HS2 k0 k1 k3 k4
    go_wp2_with (refine wpList_store_blk rfl 38 _ _ rfl (b3 + 1) rfl (rzC 0 0) rfl HSt.out.rb rfl I0.out (rz_one 0 0) ?_; intro w9 HB9 HU9)
    exact bodyPost_ret (results_blk (cs := rzC 0 0) Try.results18 rfl aggRz HB9.out) rfl (by rw [← Hres.out, HE.out]; exact HSt.out.fin HU9.out 0 0)
  have da : ((oa : Int) == 0) = false := by simp; omega
  cases htr : M.tr with
  | true =>
    as_aux_lemma =>
    rw [htr] at c9
    have HE := hid (show mstepS G M ⟨kind, m, oa, ob, oc⟩ = ((0, 0), G, M) by rw [HX0.out]; unfold mtrS; rw [if_neg ha, if_pos htr])
    clear htr
    go_upto_region 14 with fail
    clear c9
    have HSt := hid HS1.out
    clear HS1 c8 f8 f9
    (try clear k0 k1 k2 k3 k4)
    (try clear k1 k2 k3 k4)
    go_wp2_with (refine wpList_store_blk rfl 38 _ _ rfl (b3 + 1) rfl (rzC 0 0) rfl HSt.out.rb rfl I0.out (rz_one 0 0) ?_; intro w9 HB9 HU9)
    exact bodyPost_ret (results_blk (cs := rzC 0 0) Try.results18 rfl aggRz HB9.out) rfl (by rw [← Hres.out, HE.out]; exact HSt.out.fin HU9.out 0 0)
  | false =>
    as_aux_lemma =>
    rw [htr] at c9
    have h1 := HS1.out.md.setT (.inl rfl) true
    rw [if_pos rfl] at h1
    obtain ⟨L2, Y2, ρ2, hs2⟩ := HS1.out.mach (G' := G) (M' := mtrS M oa) ⟨L, Y, ρ, by unfold mtrS; rw [if_neg ha, if_neg (by rw [htr]; decide)]; exact h1.1, rfl, GL.Same.refl _, h1.2⟩
    have HS2 := hid hs2
    have HE := HX0
    clear h1 hs2 htr
    go_upto_region 14 with fail
    generalize w1.setCell ⟨Y.mB, 11, none⟩ (.bool true) = w2 at HS2 ⊢
    clear c8 c9 f8 f9 HS1
    have HSt := hid HS2.out
    clear HS2 
    (try clear k0 k1 k2 k3 k4)
    (try clear k1 k2 k3 k4)
    go_wp2_with (refine wpList_store_blk rfl 38 _ _ rfl (b3 + 1) rfl (rzC 0 0) rfl HSt.out.rb rfl I0.out (rz_one 0 0) ?_; intro w9 HB9 HU9)
    exact bodyPost_ret (results_blk (cs := rzC 0 0) Try.results18 rfl aggRz HB9.out) rfl (by rw [← Hres.out, HE.out]; exact HSt.out.fin HU9.out 0 0)
set_option maxRecDepth 1000000 in
set_option maxHeartbeats 8000000 in
theorem mstep_0 (h : MdM w ρ L Y G M) (ok : GOk G) (gb : GB G 90000000000) (kind m oa ob oc : Nat) (hob : OpB ⟨kind, m, oa, ob, oc⟩) (hk : kind = 0) (hm : m < 4) :
    Calls Try.prog 18 #[.pointer (some ⟨Y.mB, 0, none⟩), .agg (opC ⟨kind, m, oa, ob, oc⟩).toArray] w fun e w' => RzP w ρ L Y (mstepS G M ⟨kind, m, oa, ob, oc⟩) e w' := by
  have HK := hid hk
  clear hk
  have HS0 := hid (SmS.start h ⟨kind, m, oa, ob, oc⟩)
  have I0 := hid info_rz
  have HOk := hid (And.intro ok gb)
  obtain ⟨b3, hb3⟩ : ∃ x, w.heap.size = x := ⟨_, rfl⟩
  have Hb3 := hid hb3
  have HB := hid hob
  rw [hb3] at HS0
  obtain ⟨res, hres⟩ : ∃ x, mstepS G M ⟨kind, m, oa, ob, oc⟩ = x := ⟨_, rfl⟩
  rw [hres]
  have Hres := hid hres
  clear h ok gb hob hres
  have e0 : (opC ⟨kind, m, oa, ob, oc⟩).toArray = #[.int .u8 (kind : Int), .int .u8 (m : Int), .int .u64 (oa : Int), .int .u64 (ob : Int), .int .u64 (oc : Int)] := rfl
  rw [e0] at HS0 ⊢
  clear e0
  go_enter Try.func18, Try.ntmps18
  go_upto_region 1 with fail
  have HS1 : Hid (SmS w ρ L Y b3 (b3 + 1) ⟨kind, m, oa, ob, oc⟩ G M L Y ρ ((w.alloc (.cells #[.int .u8 (kind : Int), .int .u8 (m : Int), .int .u64 (oa : Int), .int .u64 (ob : Int), .int .u64 (oc : Int)] 31)).alloc (.cells #[.int .u8 0, .int .u64 0, .slice none 0 0, .slice none 0 0, .slice none 0 0, .slice none 0 0, .slice none 0 0, .slice none 0 0, .slice none 0 0, .slice none 0 0] 38))) := hid HS0.out
  clear HS0
  try simp only [hb3]
  generalize (w.alloc (.cells #[.int .u8 (kind : Int), .int .u8 (m : Int), .int .u64 (oa : Int), .int .u64 (ob : Int), .int .u64 (oc : Int)] 31)).alloc (.cells #[.int .u8 0, .int .u64 0, .slice none 0 0, .slice none 0 0, .slice none 0 0, .slice none 0 0, .slice none 0 0, .slice none 0 0, .slice none 0 0, .slice none 0 0] 38) = w1 at HS1 ⊢
  clear hb3
  have k0 : w1.cell? ⟨b3, 0, none⟩ = some (.int .u8 (kind : Int)) := HS1.out.ob.cell 0
  have k1 : w1.cell? ⟨b3, 1, none⟩ = some (.int .u8 (m : Int)) := HS1.out.ob.cell 1
  have k2 : w1.cell? ⟨b3, 2, none⟩ = some (.int .u64 (oa : Int)) := HS1.out.ob.cell 2
  have k3 : w1.cell? ⟨b3, 3, none⟩ = some (.int .u64 (ob : Int)) := HS1.out.ob.cell 3
  have k4 : w1.cell? ⟨b3, 4, none⟩ = some (.int .u64 (oc : Int)) := HS1.out.ob.cell 4
  have hk := HK.out
  have hkk : ((kind : Int) == 0) = true := by simp; omega
  have d7 : ((kind : Int) == 7) = false := by simp; omega
  have d8 : ((kind : Int) == 8) = false := by simp; omega
  have d9 : ((kind : Int) == 9) = false := by simp; omega
  have g1 : decide ((kind : Int) ≥ 10) = false := decide_eq_false (by omega)
  have g2 : decide ((10 : Int) ≤ (kind : Int)) = false := decide_eq_false (by omega)
  have g3 : (kind : Int) < 10 := by omega
  clear hk
  have f1 : decide ((m : Int) ≥ 4) = false := decide_eq_false (by omega)
  have f2 : decide ((4 : Int) ≤ (m : Int)) = false := decide_eq_false (by omega)
  have f3 : (m : Int) < 4 := by omega
  have HX : Hid (mstepS G M ⟨kind, m, oa, ob, oc⟩ = malocS G M m oa ob) := hid (by unfold mstepS; dsimp only; rw [if_neg (by have := HK.out; omega), if_neg (by have := HK.out; omega), if_neg (by have := HK.out; omega), if_neg (by omega), if_pos HK.out])
  have HA := hid (maloc_walk HS1.out.md hm oa ob HB.out.a HB.out.b)
  obtain ⟨⟨⟨rc, rv⟩, rG, rM⟩, hr⟩ : ∃ x, malocS G M m oa ob = x := ⟨_, rfl⟩
  rw [hr] at HA HX
  have HE := HX
  clear hr HX
  go_wp2_with fail
  refine HA.out.mono ?_
  rintro e2 w2 ⟨rfl, hr2⟩
  obtain ⟨L2, Y2, ρ2, hs2⟩ := HS1.out.mach hr2
  have HS2 := hid hs2
  clear hs2 hr2 HA HS1
  have HSt := hid HS2.out
  clear HS2 
  (try clear k0 k1 k2 k3 k4)
  (try clear k1 k2 k3 k4)
  go_wp2_with (refine wpList_store_blk rfl 38 _ _ rfl (b3 + 1) rfl (rzC rc rv) rfl HSt.out.rb rfl I0.out (rz_one rc rv) ?_; intro w9 HB9 HU9)
  exact bodyPost_ret (results_blk (cs := rzC rc rv) Try.results18 rfl aggRz HB9.out) rfl (by rw [← Hres.out, HE.out]; exact HSt.out.fin HU9.out rc rv)
set_option maxRecDepth 1000000 in
set_option maxHeartbeats 8000000 in
theorem mstep_6 (h : MdM w ρ L Y G M) (ok : GOk G) (gb : GB G 90000000000) (kind m oa ob oc : Nat) (hob : OpB ⟨kind, m, oa, ob, oc⟩) (hk : kind = 6) (hm : m < 4) :
    Calls Try.prog 18 #[.pointer (some ⟨Y.mB, 0, none⟩), .agg (opC ⟨kind, m, oa, ob, oc⟩).toArray] w fun e w' => RzP w ρ L Y (mstepS G M ⟨kind, m, oa, ob, oc⟩) e w' := by
  have HK := hid hk
  clear hk
  have HS0 := hid (SmS.start h ⟨kind, m, oa, ob, oc⟩)
  have I0 := hid info_rz
  have HOk := hid (And.intro ok gb)
  obtain ⟨b3, hb3⟩ : ∃ x, w.heap.size = x := ⟨_, rfl⟩
  have Hb3 := hid hb3
  have HB := hid hob
  rw [hb3] at HS0
  obtain ⟨res, hres⟩ : ∃ x, mstepS G M ⟨kind, m, oa, ob, oc⟩ = x := ⟨_, rfl⟩
  rw [hres]
  have Hres := hid hres
  clear h ok gb hob hres
  have e0 : (opC ⟨kind, m, oa, ob, oc⟩).toArray = #[.int .u8 (kind : Int), .int .u8 (m : Int), .int .u64 (oa : Int), .int .u64 (ob : Int), .int .u64 (oc : Int)] := rfl
  rw [e0] at HS0 ⊢
  clear e0
  go_enter Try.func18, Try.ntmps18
  go_upto_region 1 with fail
  have HS1 : Hid (SmS w ρ L Y b3 (b3 + 1) ⟨kind, m, oa, ob, oc⟩ G M L Y ρ ((w.alloc (.cells #[.int .u8 (kind : Int), .int .u8 (m : Int), .int .u64 (oa : Int), .int .u64 (ob : Int), .int .u64 (oc : Int)] 31)).alloc (.cells #[.int .u8 0, .int .u64 0, .slice none 0 0, .slice none 0 0, .slice none 0 0, .slice none 0 0, .slice none 0 0, .slice none 0 0, .slice none 0 0, .slice none 0 0] 38))) := hid HS0.out
  clear HS0
  try simp only [hb3]
  generalize (w.alloc (.cells #[.int .u8 (kind : Int), .int .u8 (m : Int), .int .u64 (oa : Int), .int .u64 (ob : Int), .int .u64 (oc : Int)] 31)).alloc (.cells #[.int .u8 0, .int .u64 0, .slice none 0 0, .slice none 0 0, .slice none 0 0, .slice none 0 0, .slice none 0 0, .slice none 0 0, .slice none 0 0, .slice none 0 0] 38) = w1 at HS1 ⊢
  clear hb3
  have k0 : w1.cell? ⟨b3, 0, none⟩ = some (.int .u8 (kind : Int)) := HS1.out.ob.cell 0
  have k1 : w1.cell? ⟨b3, 1, none⟩ = some (.int .u8 (m : Int)) := HS1.out.ob.cell 1
  have k2 : w1.cell? ⟨b3, 2, none⟩ = some (.int .u64 (oa : Int)) := HS1.out.ob.cell 2
  have k3 : w1.cell? ⟨b3, 3, none⟩ = some (.int .u64 (ob : Int)) := HS1.out.ob.cell 3
  have k4 : w1.cell? ⟨b3, 4, none⟩ = some (.int .u64 (oc : Int)) := HS1.out.ob.cell 4
  have hk := HK.out
  have hkk : ((kind : Int) == 6) = true := by simp; omega
  have d0 : ((kind : Int) == 0) = false := by simp; omega
  have d4 : ((kind : Int) == 4) = false := by simp; omega
  have d7 : ((kind : Int) == 7) = false := by simp; omega
  have d8 : ((kind : Int) == 8) = false := by simp; omega
  have d9 : ((kind : Int) == 9) = false := by simp; omega
  have g1 : decide ((kind : Int) ≥ 10) = false := decide_eq_false (by omega)
  have g2 : decide ((10 : Int) ≤ (kind : Int)) = false := decide_eq_false (by omega)
  have g3 : (kind : Int) < 10 := by omega
  clear hk
  have f1 : decide ((m : Int) ≥ 4) = false := decide_eq_false (by omega)
  have f2 : decide ((4 : Int) ≤ (m : Int)) = false := decide_eq_false (by omega)
  have f3 : (m : Int) < 4 := by omega
  have HE : Hid (mstepS G M ⟨kind, m, oa, ob, oc⟩ = ((mwildS G ⟨kind, m, oa, ob, oc⟩, 0), G, M)) := hid (by unfold mstepS; dsimp only; rw [if_neg (by have := HK.out; omega), if_neg (by have := HK.out; omega), if_neg (by have := HK.out; omega), if_neg (by omega), if_neg (by have := HK.out; omega), if_neg (by have := HK.out; omega), if_pos HK.out])
  have HA := hid (mwild_walk HS1.out.md HOk.out.1 ⟨kind, m, oa, ob, oc⟩ HB.out)
  obtain ⟨rc, hr⟩ : ∃ x, mwildS G ⟨kind, m, oa, ob, oc⟩ = x := ⟨_, rfl⟩
  rw [hr] at HA HE
  have I1 : Hid ((Try.prog.info? 31).map (·.size) = some 5) := hid info_op
  clear hr
  go_wp2_with (refine wpList_load_blk rfl 31 _ rfl b3 rfl (opC ⟨kind, m, oa, ob, oc⟩) HS1.out.ob _ Try.underlying31 rfl I1.out ?_)
  refine HA.out.mono ?_
  rintro e2 w2 ⟨rfl, hr2⟩
  obtain ⟨L2, Y2, ρ2, hs2⟩ := HS1.out.mach hr2
  have HS2 := hid hs2
  clear hs2 hr2 HA HS1
  have HSt := hid HS2.out
  clear HS2 
  (try clear k0 k1 k2 k3 k4)
  (try clear k1 k2 k3 k4)
  go_wp2_with (refine wpList_store_blk rfl 38 _ _ rfl (b3 + 1) rfl (rzC rc 0) rfl HSt.out.rb rfl I0.out (rz_one rc 0) ?_; intro w9 HB9 HU9)
  exact bodyPost_ret (results_blk (cs := rzC rc 0) Try.results18 rfl aggRz HB9.out) rfl (by rw [← Hres.out, HE.out]; exact HSt.out.fin HU9.out rc 0)
end
end Go.Proofs.Qxb6500888a
