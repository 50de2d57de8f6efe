/- HolesAreTheFreeLines: inside the law. -/
import Derived.Test.Qxb6500887aGreatAzHb
import Derived.Deep.DeepCutAuto
namespace Go.Proofs.Qxb6500887aGreat
open Go.RowKit
set_option linter.unusedSimpArgs false
set_option linter.unusedVariables false
/-- The lowest run of free blocks so far. -/
def Fw (P : Nat → Bool) (fr nd b want : Nat) (wf : Bool) : Prop := (wf = false ∧ want = 0 ∧ ∀ c, fr ≤ c → c < b → ¬ AllF P c nd) ∨ (wf = true ∧ fr ≤ want ∧ want + nd ≤ 64 ∧ AllF P want nd ∧ ∀ c, fr ≤ c → c < want → ¬ AllF P c nd)
theorem Fw.start (P : Nat → Bool) (fr nd : Nat) : Fw P fr nd fr 0 false := .inl ⟨rfl, rfl, fun c h1 h2 => by omega⟩
theorem Fw.no {P : Nat → Bool} {fr nd b want : Nat} (h : Fw P fr nd b want false) (hn : ¬ AllF P b nd) : Fw P fr nd (b + 1) want false := by
  rcases h with ⟨_, h2, h3⟩ | ⟨h1, _⟩
  · exact .inl ⟨rfl, h2, fun c c1 c2 => by
      by_cases e : c = b
      · rw [e]; exact hn
      · exact h3 c c1 (by omega)⟩
  · cases h1
theorem Fw.yes {P : Nat → Bool} {fr nd b b' want : Nat} (h : Fw P fr nd b want false) (hf : fr ≤ b) (ht : b + nd ≤ 64) (hn : AllF P b nd) : Fw P fr nd b' b true := by
  rcases h with ⟨_, h2, h3⟩ | ⟨h1, _⟩
  · exact .inr ⟨rfl, hf, ht, hn, h3⟩
  · cases h1
theorem Fw.fin {P : Nat → Bool} {fr nd b want : Nat} {wf fd : Bool} {r : Int} (h : Fw P fr nd b want wf) (hb : wf = true ∨ 64 < b + nd) (hf : FbP P fr nd r fd) : r = (want : Int) ∧ fd = wf := by
  rcases hf with ⟨rfl, rfl, hno⟩ | ⟨rfl, k, rfl, k1, k2, k3, k4⟩
  · rcases h with ⟨rfl, rfl, _⟩ | ⟨rfl, h1, h2, h3, _⟩
    · exact ⟨rfl, rfl⟩
    · exact absurd h3 (hno _ h1 h2)
  · rcases h with ⟨rfl, rfl, h3⟩ | ⟨rfl, h1, h2, h3, h4⟩
    · rcases hb with e | e
      · cases e
      · exact absurd k3 (h3 k k1 (by omega))
    · rcases Nat.lt_trichotomy k want with c | c | c
      · exact absurd k3 (h4 k k1 c)
      · exact ⟨by omega, rfl⟩
      · exact absurd h3 (k4 want h1 c)
def whC (u : Nat → Bool) : List Value := fnC 64 (fun r => .bool (u r))
/-- Inside the law: the arena, the blocks wholly free. -/
structure HW (w0 : World) (l : AL) (S : AS) (g : Nat) (u : Nat → Bool) (w : World) : Prop where
  ls : LS w0 l S w
  bk : Blk w g 88 (whC u)
  lo : w0.heap.size ≤ g
section
variable {l : AL} {S : AS} {w w' w0 : World} {g q : Nat} {u : Nat → Bool} {f : Nat → Nat}
theorem HW.below (h : HW w0 l S g u w) (hb : Below w.heap.size w w') : HW w0 l S g u w' := ⟨h.ls.below hb, h.bk.below hb, h.lo⟩
theorem HW.upd {u' : Nat → Bool} (h : HW w0 l S g u w) (hu : Upd g w w') (hb : Blk w' g 88 (whC u')) : HW w0 l S g u' w' :=
  ⟨⟨h.ls.am.upd hu (fun k hk e => by subst e; exact h.ls.am.neT h.bk (by decide) (by decide) (by decide) hk), h.ls.bel.trans (hu.below h.lo h.ls.bel.size), h.ls.ab⟩, hb, h.lo⟩
theorem HW.put {s : Nat} {x : Bool} (h : HW w0 l S g u w) (hs : s < 64) : HW w0 l S g (fup u s x) (w.setCell ⟨g, s, none⟩ (.bool x)) := by
  refine h.upd ((Upd.refl g w).setCell rfl _) ?_
  have := h.bk.set s (.bool x)
  unfold whC at this ⊢
  rw [fnC_set _ hs, fup_map (fun y : Bool => Value.bool y) u s x] at this
  exact this
theorem HW.cell {s : Nat} (h : HW w0 l S g u w) (hs : s < 64) : w.cell? ⟨g, s, none⟩ = some (.bool (u s)) := by rw [h.bk.cell s]; exact fnC_get _ hs
/-- .. with a block's lengths. -/
structure HV (w0 : World) (l : AL) (S : AS) (g : Nat) (u : Nat → Bool) (q : Nat) (f : Nat → Nat) (w : World) : Prop where
  hw : HW w0 l S g u w
  bk : Blk w q 89 (lnC f)
  ne : g ≠ q
theorem HV.below (h : HV w0 l S g u q f w) (hb : Below w.heap.size w w') : HV w0 l S g u q f w' := ⟨h.hw.below hb, h.bk.below hb, h.ne⟩
theorem HV.put {s : Nat} {x : Bool} (h : HV w0 l S g u q f w) (hs : s < 64) : HV w0 l S g (fup u s x) q f (w.setCell ⟨g, s, none⟩ (.bool x)) := ⟨h.hw.put hs, h.bk.setOther (p := ⟨g, s, none⟩) h.ne _, h.ne⟩
theorem idx_ln (f : Nat → Nat) (i : Nat) (hi : i < 32) (w : World) : (Instr.index 89 (.agg (lnC f).toArray) (.int .i64 (i : Int))).run Tryz.prog w = .ok (.int .i64 ((f i : Nat) : Int)) w := by
  have hc : (lnC f).toArray[i]? = some (.int .i64 ((f i : Nat) : Int)) := by
    rw [List.getElem?_toArray]
    exact fnC_get _ hi
  have h2 : (i : Int) < 32 := by omega
  generalize (lnC f).toArray = cs at hc
  simp [Instr.index, asIntOf, go_sem, part, hi, h2, hc]
theorem clV_eq (t : Nat) : (clV (t : Int) == 0) = ((t : Int) == 32) ∧ (clV (t : Int) == 2) = ((t : Int) == 0) := by
  unfold clV
  by_cases h : (t : Int) = 32
  · rw [if_pos h, h]; exact ⟨rfl, rfl⟩
  · rw [if_neg h]
    by_cases h0 : (t : Int) = 0
    · rw [if_pos h0, h0]; exact ⟨rfl, rfl⟩
    · rw [if_neg h0]
      have e1 : ((t : Int) == 32) = false := by simpa using h
      have e2 : ((t : Int) == 0) = false := by simpa using h0
      rw [e1, e2]
      exact ⟨rfl, rfl⟩
/-- The arena's answers about a block, said by its lengths. -/
theorem freeLinesB (h : AM l S w) {b t : Nat} (hb : b < 64) (ht : t = frN (zrP 4 16 S.T) (32 * b) 32) : Calls Tryz.prog 50 #[.pointer (some ⟨l.a, 0, none⟩), .int .i64 (b : Int)] w fun e w' => e = .returned (.tuple #[.int .i64 (t : Int), .int .u8 0]) ∧ Below w.heap.size w w' := (freeLinesZ h (b : Int)).mono (by
  rintro e w' ⟨rfl, H⟩
  refine ⟨?_, H.out.1⟩
  have hk : BkI (b : Int) := ⟨by omega, by omega⟩
  unfold flV blC
  rw [if_pos hk, if_pos hk, show ((b : Int)).toNat = b by omega, free_count S hb, ht])
theorem blockClassB (h : AM l S w) {b t : Nat} (hb : b < 64) (ht : t = frN (zrP 4 16 S.T) (32 * b) 32) : Calls Tryz.prog 51 #[.pointer (some ⟨l.a, 0, none⟩), .int .i64 (b : Int)] w fun e w' => e = .returned (.tuple #[.int .u8 (clV (t : Int)), .int .u8 0]) ∧ Below w.heap.size w w' := (blockClassZ h (b : Int)).mono (by
  rintro e w' ⟨rfl, H⟩
  refine ⟨?_, H.out⟩
  have hk : BkI (b : Int) := ⟨by omega, by omega⟩
  unfold flV blC
  rw [if_pos hk, if_pos hk, if_pos hk, show ((b : Int)).toNat = b by omega, free_count S hb, ht])
theorem largestB (h : AM l S w) {b best row : Nat} (hb : b < 64) (hh : HlI (zrP 4 16 S.T) (32 * b) f 32) (hr : BsA f 32 best row) : Calls Tryz.prog 52 #[.pointer (some ⟨l.a, 0, none⟩), .int .i64 (b : Int)] w fun e w' => e = .returned (.tuple #[.int .i64 (row : Int), .int .i64 (best : Int), .int .u8 0]) ∧ Below w.heap.size w w' := (largestHoleZ h (b : Int)).mono (by
  rintro e w' ⟨r, n, c, rfl, H⟩
  have hk : BkI (b : Int) := ⟨by omega, by omega⟩
  rcases H.out.1 with ⟨h1, _⟩ | ⟨_, rfl, h1⟩
  · exact absurd hk h1
  · rw [show ((b : Int)).toNat = b by omega] at h1
    obtain ⟨rfl, rfl⟩ := BsA.long hh hr h1
    exact ⟨rfl, H.out.2⟩)
def FtP (f : Nat → Nat) (need row len : Nat) : Prop := (row < 32 ∧ len = f row ∧ need ≤ f row ∧ ∀ q, q < row → f q < need) ∨ (row = 32 ∧ len = 0 ∧ ∀ q, q < 32 → f q < need)
theorem fitB (h : AM l S w) {b need row len : Nat} (hb : b < 64) (h1 : 1 ≤ need) (h2 : need ≤ 32) (hh : HlI (zrP 4 16 S.T) (32 * b) f 32) (hr : FtP f need row len) : Calls Tryz.prog 53 #[.pointer (some ⟨l.a, 0, none⟩), .int .i64 (b : Int), .int .i64 0, .int .i64 (need : Int)] w fun e w' => e = .returned (.tuple #[.int .i64 (row : Int), .int .i64 (len : Int), .int .u8 0]) ∧ Below w.heap.size w w' := (fitHoleZ h (b : Int) 0 (need : Int)).mono (by
  rintro e w' ⟨r, n, c, rfl, H⟩
  have hk : BkI (b : Int) := ⟨by omega, by omega⟩
  rcases H.out.1 with ⟨g1, _⟩ | ⟨_, g1, _⟩ | ⟨_, _, rfl, g1⟩
  · exact absurd ⟨hk, by omega, by omega⟩ g1
  · exact absurd ⟨by omega, by omega⟩ g1
  · rw [show ((b : Int)).toNat = b by omega, show ((need : Int)).toNat = need by omega, show (0 : Int).toNat = 0 from rfl, Nat.add_zero] at g1
    rcases hr with ⟨c1, rfl, c2, c3⟩ | ⟨rfl, rfl, c3⟩
    · obtain ⟨rfl, rfl⟩ := fit_some hh h1 c1 c2 c3 g1
      exact ⟨rfl, H.out.2⟩
    · obtain ⟨rfl, rfl⟩ := fit_none hh h1 c3 g1
      exact ⟨rfl, H.out.2⟩)
theorem freeRunB (h : AM l S w) {fr nd : Nat} (h0 : fr < 64) (h1 : 1 ≤ nd) (h2 : nd ≤ 64) : Calls Tryz.prog 54 #[.pointer (some ⟨l.a, 0, none⟩), .int .i64 (fr : Int), .int .i64 (nd : Int)] w fun e w' => ∃ (r : Int) (fd : Bool), e = .returned (.tuple #[.int .i64 r, .bool fd, .int .u8 0]) ∧ Hid (FbP (zrP 4 16 S.T) fr nd r fd ∧ Below w.heap.size w w') := (freeBlockRunZ h (fr : Int) (nd : Int)).mono (by
  rintro e w' ⟨r, fd, c, rfl, H⟩
  have hk : BkI (fr : Int) := ⟨by omega, by omega⟩
  rcases H.out.1 with ⟨g1, _⟩ | ⟨_, g1, _⟩ | ⟨_, _, rfl, g1⟩
  · exact absurd hk g1
  · exact absurd ⟨by omega, by omega⟩ g1
  · rw [show ((fr : Int)).toNat = fr by omega, show ((nd : Int)).toNat = nd by omega] at g1
    exact ⟨r, fd, rfl, hid ⟨g1, H.out.2⟩⟩)
end
end Go.Proofs.Qxb6500887aGreat
