/- Compile. -/
import Derived.Test.Qxb6500883aGreatDoorScQd
import Derived.Test.Qxb6500883aGreatDoorScTg
namespace Go.Proofs.Qxb6500883aGreatDoor
open Go.RowKit
set_option linter.unusedSimpArgs false
set_option linter.unusedVariables false
section
variable {bs : List UInt8} {n C : Nat}
theorem DclOk.nm (hl : bs.length = n) (hG : Gd C bs) {S S1 : PS} {x : DN} (h : DclOk bs n S S1 x) (hT : TOk n S) (hn : ∀ y ∈ S.fs.decls, y.name.size ≤ C) : ∀ y ∈ (S1.addD x).fs.decls, y.name.size ≤ C := by
  have hb : TOk n (S.bod bs n) := TOk.adv hl (TOk.adv hl (TOk.adv hl hT))
  have key : ∀ (S4 : PS) (x : DN), S4.fs.decls = S.fs.decls → x.name.size ≤ C → ∀ y ∈ ((S4.adv bs n).addD x).fs.decls, y.name.size ≤ C := fun S4 x hd hx y hy => by
    have hy : y ∈ S4.fs.decls ++ [x] := hy
    rw [hd] at hy
    rcases List.mem_append.1 hy with h | h
    · exact hn y h
    · simp at h; subst h; exact hx
  have hw : (S.adv bs n).tok.kind = 4 → ((S.adv bs n).word bs).size ≤ C := fun hk => name_len (i := S.pos) (k := S.cnt) hG hl hk
  cases h with
  | @con S4 r h1 h2 h3 hp h4 =>
    obtain ⟨a1, a2, a3, a4⟩ := (Prs.wf hl hp) 0 0 hb (Nat.zero_le _) (Nat.zero_le _) trivial
    have a1 : ExtF n 0 0 S.fs S4.fs := a1
    exact key S4 _ a1.dc (hw h2)
  | @ali S4 r h1 h2 h3 hp h4 =>
    obtain ⟨a1, a2, a3, a4⟩ := (Prs.wf hl hp) 0 0 hb (Nat.zero_le _) (Nat.zero_le _) trivial
    have a1 : ExtF n 0 0 S.fs S4.fs := a1
    exact key S4 _ a1.dc (hw h2)
  | @cnt S4 h1 h2 h3 hp h4 =>
    obtain ⟨l, a1, a2, a3, a4⟩ := Flds.wf hl hp 0 0 hb (Nat.zero_le _) (Nat.zero_le _)
    exact key S4 _ a3.dc (hw h2)
theorem FileOk.nm (hl : bs.length = n) (hG : Gd C bs) {S S' : PS} (h : FileOk bs n S S') : TOk n S → FWf n S.fs → (∀ y ∈ S.fs.decls, y.name.size ≤ C) → ∀ y ∈ S'.fs.decls, y.name.size ≤ C := by
  induction h with
  | nil => intro _ _ h3; exact h3
  | cons _ hd _ ih =>
    intro h1 h2 h3
    obtain ⟨a, b⟩ := hd.wf hl h1 h2
    exact ih b a (hd.nm hl hG h1 h3)
theorem first_nm (hl : bs.length = n) (hG : Gd C bs) {S : PS} (h : FileOk bs n (PS.first bs n) S) : ∀ y ∈ S.fs.decls, y.name.size ≤ C := by
  have h0 := nextT_ok hl (Nat.zero_le n) (k := 0)
  exact h.nm hl hG ⟨h0, h0.en⟩ ⟨fun x hx => (by cases hx), fun i hi => absurd hi (Nat.not_lt_zero _), fun i hi => absurd hi (Nat.not_lt_zero _), fun y hy => (by cases hy)⟩ (fun x hx => by cases hx)
theorem first_dgc (hl : bs.length = n) (hG : Gd 450000000 bs) {S : PS} (h : FileOk bs n (PS.first bs n) S) (hD : PD S) (hO : POk n S) : DgC n S.fs := by
  have h1 := hD.b.n
  have h2 := hD.b.o
  have h3 := hD.f
  have h4 := hD.d
  have h5 := hO.hc
  have h6 := hO.hu
  exact ⟨first_wf hl h, ⟨by omega, by omega, by omega, by omega, by omega⟩, first_rg hl h, first_cst hl h, first_nm hl hG h⟩
end
/-- What Compile comes to. -/
def CpQ (bs : List UInt8) (n : Nat) (w0 : World) (e : Ending) (w' : World) : Prop :=
  (∃ tB, e = .returned (.tuple #[.pointer (some ⟨tB, 0, none⟩), .pointer none]) ∧ Hid ((∃ S n0 τ V T ga mn mf al bn, FileOk bs n (PS.first bs n) S ∧ S.tok.kind = 0 ∧ DgC n S.fs ∧ TbG n0 τ w' tB V T ga mn mf al bn ∧ w0.heap.size ≤ n0 ∧ AcT S.fs T al bn) ∧ Below w0.heap.size w0 w')) ∨
  (∃ q, e = .returned (.tuple #[.pointer none, .pointer (some ⟨q, 0, none⟩)]) ∧ Hid (Below w0.heap.size w0 w' ∧ (FileBad bs n (PS.first bs n) ∨ ∃ S, FileOk bs n (PS.first bs n) S ∧ S.tok.kind = 0 ∧ DgC n S.fs ∧ DgW S.fs)))
section
variable {N mg : Nat} {w : World} {a : Option Addr} {n c : Nat} {bs : List UInt8}
set_option maxRecDepth 100000 in
set_option maxHeartbeats 2000000 in
theorem compileW (hs : Src w a n c bs) (hg : Gl N mg w) (hG : Gd 450000000 bs) : Calls Tryz.prog 8 #[.slice a n c] w (CpQ bs n w) := by
  have HP := hid (parseW hs hg)
  have hl := hs.len
  have HG := hid hG
  clear hs hg hG
  go_enter Tryz.func8, Tryz.ntmps8
  go_wp2_with fail
  refine HP.out.mono ?_
  clear HP
  rintro e w2 (⟨l, ρ, S, rfl, HL, HF, HR⟩ | ⟨q, k, p, rfl, hp, hq, HF, HE⟩)
  · obtain ⟨hla, hln, hlc⟩ := HL.out
    have hdc := first_dgc hl HG.out HF.out.1 HF.out.2.2.1 HF.out.2.2.2
    have HC := hid (checkW HR.out.1 (by rw [hln]; exact hdc))
    have HDc := hid hdc
    clear hdc hla hln hlc HL
    go_wp2_with fail
    refine HC.out.mono ?_
    clear HC
    rintro e w3 (⟨tB, rfl, HQ⟩ | ⟨q, rfl, HQ⟩)
    · have HZ : Hid ((∃ S n0 τ V T ga mn mf al bn, FileOk bs n (PS.first bs n) S ∧ S.tok.kind = 0 ∧ DgC n S.fs ∧ TbG n0 τ w3 tB V T ga mn mf al bn ∧ w.heap.size ≤ n0 ∧ AcT S.fs T al bn) ∧ Below w.heap.size w w3) := hid (by
        obtain ⟨⟨n0, τ, V, T, ga, mn, mf, al, bn, h1, h2, h3⟩, hb⟩ := HQ.out
        have hb2 := HR.out.2.2
        exact ⟨⟨S, n0, τ, V, T, ga, mn, mf, al, bn, HF.out.1, HF.out.2.1, HDc.out, h1, Nat.le_trans hb2.size h2, h3⟩, hb2.trans (hb.mono hb2.size)⟩)
      clear HQ HR HF HDc
      go_wp2
      go_ret2
      exact .inl ⟨tB, rfl, HZ⟩
    · have HZ : Hid (Below w.heap.size w w3 ∧ (FileBad bs n (PS.first bs n) ∨ ∃ S, FileOk bs n (PS.first bs n) S ∧ S.tok.kind = 0 ∧ DgC n S.fs ∧ DgW S.fs)) := hid (by
        obtain ⟨hb, hw⟩ := HQ.out
        have hb2 := HR.out.2.2
        exact ⟨hb2.trans (hb.mono hb2.size), .inr ⟨S, HF.out.1, HF.out.2.1, HDc.out, hw⟩⟩)
      clear HQ HR HF HDc
      go_wp2
      go_ret2
      exact .inr ⟨q, rfl, HZ⟩
  · have HZ : Hid (Below w.heap.size w w2 ∧ (FileBad bs n (PS.first bs n) ∨ ∃ S, FileOk bs n (PS.first bs n) S ∧ S.tok.kind = 0 ∧ DgC n S.fs ∧ DgW S.fs)) := hid ⟨HE.out.2, .inl HF.out⟩
    clear HE HF
    go_wp2
    go_ret2
    exact .inr ⟨q, rfl, HZ⟩
end
end Go.Proofs.Qxb6500883aGreatDoor
