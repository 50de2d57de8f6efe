/- The model's Step, whole. -/
import Derived.Test.Qxb6500888aBaKh
namespace Go.Proofs.Qxb6500888a
open Go.RowKit
set_option linter.unusedSimpArgs false
set_option linter.unusedVariables false
attribute [local irreducible] wdC
section
variable {w w' : World} {ρ ρ' : Rl} {L L' : GL} {Y Y' : ML} {G G' : GS} {M M' : MS}
/-- What a step of the model leaves in memory. -/
structure MyM (w : World) (ρ : Rl) (L : GL) (Y : ML) (r : (Nat × Nat) × (Nat → List Nat) × GS × MS) (V : Nat → Value) (L' : GL) (Y' : ML) (ρ' : Rl) (w' : World) : Prop where
  md : MdM w' ρ' L' Y' r.2.2.1 r.2.2.2
  mb : Y'.mB = Y.mB
  sm : L.Same L'
  fr : Fr pX ρ w ρ' w'
  rw : ∀ i, i < 8 → ∃ c, c ≠ 0 ∧ RowX rtA w' ρ' c (V i) (r.2.1 i)
def MyP (w : World) (ρ : Rl) (L : GL) (Y : ML) (r : (Nat × Nat) × (Nat → List Nat) × GS × MS) (e : Ending) (w' : World) : Prop := ∃ V L' Y' ρ', e = .returned (.agg (rzH r.1.1 r.1.2 V).toArray) ∧ MyM w ρ L Y r V L' Y' ρ' w'
/-- A step of the model; W, F: the orders of its sets. -/
noncomputable def msS (G : GS) (M : MS) (o : OpP) (W F : List Nat) : (Nat × Nat) × (Nat → List Nat) × GS × MS := if o.kind = 7 then ((0, 0), (mpa2 G M W F).2, mpaG G M W F, mpaM G M W F) else ((mstepS G M o).1, hv00, (mstepS G M o).2.1, (mstepS G M o).2.2)
def MyQ (w : World) (ρ : Rl) (L : GL) (Y : ML) (G : GS) (M : MS) (o : OpP) (e : Ending) (w' : World) : Prop := ∃ W F, (W.Nodup ∧ ∀ x, x ∈ W ↔ M.wr x = true) ∧ (F.Nodup ∧ ∀ x, x ∈ F ↔ M.fr x = true) ∧ MyP w ρ L Y (msS G M o W F) e w'
set_option maxRecDepth 1000000 in
set_option maxHeartbeats 8000000 in
theorem mstep_7 (h : MdM w ρ L Y G M) (ok : GOk G) (gb : GB G 90000000000) (hro : ∀ m, m < 4 → ∀ o ∈ M.roots m, 65536 ≤ o ∧ o < 98304) (hwr : ∀ x, M.wr x = true → 65536 ≤ x ∧ x < 98304) (hfr : ∀ x, M.fr x = true → 65536 ≤ x ∧ x < 98304) (hla : M.last.length ≤ 1000000) (kind m oa ob oc : Nat) (h9 : kind = 7) :
    Calls Try.prog 18 #[.pointer (some ⟨Y.mB, 0, none⟩), .agg (opC ⟨kind, m, oa, ob, oc⟩).toArray] w fun e w' => MyQ w ρ L Y G M ⟨kind, m, oa, ob, oc⟩ e w' := by
  have HK := hid h9
  clear h9
  have HS0 := hid (SmS.start h ⟨kind, m, oa, ob, oc⟩)
  have I0 := hid info_rz
  have HOk := hid (And.intro ok gb)
  obtain ⟨b3, hb3⟩ : ∃ x, w.heap.size = x := ⟨_, rfl⟩
  have Hb3 := hid hb3
  rw [hb3] at HS0
  have HHy := hid (And.intro hro (And.intro hwr (And.intro hfr hla)))
  clear h ok gb hro hwr hfr hla
  have e0 : (opC ⟨kind, m, oa, ob, oc⟩).toArray = #[.int .u8 (kind : Int), .int .u8 (m : Int), .int .u64 (oa : Int), .int .u64 (ob : Int), .int .u64 (oc : Int)] := rfl
  rw [e0] at HS0 ⊢
  clear e0
  go_enter Try.func18, Try.ntmps18
  go_upto_region 1 with fail
  have HS1 : Hid (SmS w ρ L Y b3 (b3 + 1) ⟨kind, m, oa, ob, oc⟩ G M L Y ρ ((w.alloc (.cells #[.int .u8 (kind : Int), .int .u8 (m : Int), .int .u64 (oa : Int), .int .u64 (ob : Int), .int .u64 (oc : Int)] 31)).alloc (.cells #[.int .u8 0, .int .u64 0, .slice none 0 0, .slice none 0 0, .slice none 0 0, .slice none 0 0, .slice none 0 0, .slice none 0 0, .slice none 0 0, .slice none 0 0] 38))) := hid HS0.out
  clear HS0
  try simp only [hb3]
  generalize (w.alloc (.cells #[.int .u8 (kind : Int), .int .u8 (m : Int), .int .u64 (oa : Int), .int .u64 (ob : Int), .int .u64 (oc : Int)] 31)).alloc (.cells #[.int .u8 0, .int .u64 0, .slice none 0 0, .slice none 0 0, .slice none 0 0, .slice none 0 0, .slice none 0 0, .slice none 0 0, .slice none 0 0, .slice none 0 0] 38) = w1 at HS1 ⊢
  clear hb3
  have k0 : w1.cell? ⟨b3, 0, none⟩ = some (.int .u8 (kind : Int)) := HS1.out.ob.cell 0
  have h9 := HK.out
  have hkk : ((kind : Int) == 7) = true := by simp; omega
  clear h9
  have HPa := hid (mpause_walk HS1.out.md HOk.out.1 HOk.out.2 HHy.out.1 HHy.out.2.1 HHy.out.2.2.1 HHy.out.2.2.2)
  go_wp2_with fail
  refine HPa.out.mono ?_
  rintro e2 w2 ⟨W, F, V, L2, Y2, ρ2, hW, hF, rfl, hpa⟩
  have HPm := hid hpa
  have HWF := hid (And.intro hW hF)
  have HRb := hid (And.intro (hpa.fr.keep HS1.out.rb HS1.out.z2 rfl) ((hpa.fr.old _ HS1.out.rb.lt).trans HS1.out.z2))
  have hone : ∀ u ∈ rzH 0 0 V, u.oneCell' = true := fun u hu => by
    have hs : ∀ i, i < 8 → (V i).oneCell' = true := fun i hi => by
      obtain ⟨c, _, hc⟩ := hpa.rw i hi
      obtain ⟨a, q, e⟩ := hc.shape
      rw [e]; rfl
    simp only [rzH, List.mem_cons, List.not_mem_nil, or_false] at hu
    rcases hu with rfl | rfl | rfl | rfl | rfl | rfl | rfl | rfl | rfl | rfl
    · rfl
    · rfl
    · exact hs 0 (by decide)
    · exact hs 1 (by decide)
    · exact hs 2 (by decide)
    · exact hs 3 (by decide)
    · exact hs 4 (by decide)
    · exact hs 5 (by decide)
    · exact hs 6 (by decide)
    · exact hs 7 (by decide)
  have Hone := hid hone
  clear HPa hpa hone k0 hW hF
  go_wp2_with (refine wpList_store_blk rfl 38 _ _ rfl (b3 + 1) rfl (rzH 0 0 V) rfl HRb.out.1 rfl I0.out Hone.out ?_; intro w9 HB9 HU9)
  refine bodyPost_ret (results_blk (cs := rzH 0 0 V) Try.results18 rfl aggRz HB9.out) rfl ?_
  have hfU : Fr (fun c => c == 0) ρ2 w2 ρ2 w9 := Fr.upd HU9.out (by show (ρ2 (b3 + 1) == 0) = true; rw [HRb.out.2]; rfl)
  have e1 : msS G M ⟨kind, m, oa, ob, oc⟩ W F = ((0, 0), (mpa2 G M W F).2, mpaG G M W F, mpaM G M W F) := if_pos HK.out
  refine ⟨W, F, HWF.out.1, HWF.out.2, V, L2, Y2, ρ2, by rw [e1], ?_⟩
  rw [e1]
  refine ⟨HPm.out.md.keep hfU (fun c hc => by have := of_decide_eq_true hc; show (c == 0) = false; simp; omega), HPm.out.mb.trans HS1.out.yb, HS1.out.ls.trans HPm.out.sm, Fr.new (Fr.trans (HS1.out.fr.mono (fun c => pX_b)) HPm.out.fr) HU9.out HS1.out.l2, fun i hi => ?_⟩
  obtain ⟨c, h0, hc⟩ := HPm.out.rw i hi
  exact ⟨c, h0, hc.fr hfU (by show (c == 0) = false; simp; exact h0)⟩
theorem mstep_all (h : MdM w ρ L Y G M) (ok : GOk G) (gb : GB G 90000000000) (hro : ∀ m obj, obj ∈ M.roots m → 65536 ≤ obj ∧ obj < 98304) (hwr : ∀ x, M.wr x = true → 65536 ≤ x ∧ x < 98304) (hfr : ∀ x, M.fr x = true → 65536 ≤ x ∧ x < 98304) (hla : M.last.length ≤ 1000000) (o : OpP) (hob : OpB o) (hW : ∃ W : List Nat, W.Nodup ∧ ∀ x, x ∈ W ↔ M.wr x = true) (hF : ∃ F : List Nat, F.Nodup ∧ ∀ x, x ∈ F ↔ M.fr x = true) :
    Calls Try.prog 18 #[.pointer (some ⟨Y.mB, 0, none⟩), .agg (opC o).toArray] w fun e w' => MyQ w ρ L Y G M o e w' := by
  obtain ⟨kind, m, oa, ob, oc⟩ := o
  by_cases h7 : kind = 7
  · exact mstep_7 h ok gb (fun m _ => hro m) hwr hfr hla kind m oa ob oc h7
  · refine (mstep_walk h ok gb ⟨kind, m, oa, ob, oc⟩ hob h7 hro).mono ?_
    rintro e w' ⟨rfl, L', Y', ρ', h1, h2, h3, h4⟩
    obtain ⟨W, hW⟩ := hW
    obtain ⟨F, hF⟩ := hF
    have e1 : msS G M ⟨kind, m, oa, ob, oc⟩ W F = ((mstepS G M ⟨kind, m, oa, ob, oc⟩).1, hv00, (mstepS G M ⟨kind, m, oa, ob, oc⟩).2.1, (mstepS G M ⟨kind, m, oa, ob, oc⟩).2.2) := if_neg h7
    refine ⟨W, F, hW, hF, fun _ => .slice none 0 0, L', Y', ρ', by rw [e1]; rfl, ?_⟩
    rw [e1]
    exact ⟨h1, h2, h3, h4.mono (fun c => pX_b), fun i hi => ⟨41, by decide, RowX.nil _ _ _ _⟩⟩
end
end Go.Proofs.Qxb6500888a
