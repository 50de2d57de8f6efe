/- Table.addContainer. -/
import Derived.Test.Qxb6500883aGreatDoorScGe
namespace Go.Proofs.Qxb6500883aGreatDoor
open Go.RowKit
set_option linter.unusedSimpArgs false
set_option linter.unusedVariables false
def coR (nm : ByteArray) (lo hi : Nat) : TR := ⟨7, false, 0, -1, lo, hi, 0, nm, 0, 0, 0, 0⟩
def X52 : Nat → Bool := fun c => c == 50 || c == 51 || c == 52
section
variable {τ τ' : Rl} {w w' w1 w2 : World} {tB : Nat} {V V' : TV} {T T' : TS} {M : TMp}
/-- The elements of a slice that is read. -/
def SlI {α : Type} (K : RK α) (w : World) (v : Value) (ys : List α) : Prop := ∃ ax q, v = .slice ax ys.length q ∧ (ax = none → ys.length = 0 ∧ q = 0) ∧ ∀ ad, ax = some ad → ∀ j u, (ys.flatMap K.f)[j]? = some u → w.cell? (ad.add j) = some u
set_option maxRecDepth 100000 in
set_option maxHeartbeats 1000000 in
theorem addContainerW (h : TbX τ w tB V T M) (nm : ByteArray) (v : Value) (ys : List FD) (hs : SlI rtFd w v ys) (hl : T.types.length ≤ 1000000000) (hl2 : T.flds.length + ys.length ≤ 1000000000) : Calls Tryz.prog 122 #[.pointer (some ⟨tB, 0, none⟩), .string nm, v] w fun e w' => e = .returned (.int .i32 (T.types.length : Int)) ∧ Hid (∃ τ' V', TbX τ' w' tB V' { T with types := T.types ++ [coR nm T.flds.length (T.flds.length + ys.length)], flds := T.flds ++ ys } M ∧ Fr X52 τ w τ' w' ∧ V'.byN = V.byN) := by
  obtain ⟨m, hm⟩ : ∃ m, T.types.length = m := ⟨_, rfl⟩
  have Hm := hid hm
  rw [hm] at hl ⊢
  clear hm
  obtain ⟨a, ha⟩ : ∃ m, T.flds.length = m := ⟨_, rfl⟩
  have Ha := hid ha
  rw [ha] at hl2 ⊢
  clear ha
  obtain ⟨ax, qx, rfl, hs1, hs2⟩ := hs
  have Hs := hid (And.intro hs1 hs2)
  clear hs1 hs2
  obtain ⟨n, hn⟩ : ∃ n, ys.length = n := ⟨_, rfl⟩
  have Hn := hid hn
  rw [hn] at hl2 Hs ⊢
  clear hn
  have HR := hid h
  clear h
  obtain ⟨af, qf, hvf⟩ := HR.out.tb.f.shape
  rw [Ha.out] at hvf
  have Hvf := hid hvf
  have b1 : w.cell? ⟨tB, 1, none⟩ = some (.slice af a qf) := by rw [← hvf]; exact HR.out.tb.b.cell 1
  clear hvf
  have e2 : IntKind.i32.wrap (a : Int) = (a : Int) := by rw [IntKind.wrap_i32]; omega
  go_enter Tryz.func122, Tryz.ntmps122
  go_wp2_with (at_builtin; refine stopHere ?_)
  intro _
  have hrf := HR.out.tb.f
  rw [Hvf.out] at hrf
  refine wpList_app_x okFd rfl _ _ hrf rfl ys rfl ax n qx rfl Hn.out Hs.out.1 Hs.out.2 (by have := Ha.out; show (T.flds.length + n) * 24 ≤ _; omega) ?_
  intro v8 w8 τ8 hr8 hf8 _ _
  obtain ⟨a8, q8, h8⟩ := hr8.out.shape
  rw [List.length_append, Hn.out, Ha.out] at h8
  subst h8
  have HP8 := hid (HR.out.tb.appF hr8.out hf8.out)
  have hk8 : Blk w8 tB 95 (tbC V) := hf8.out.keep HR.out.tb.b HR.out.tb.rb rfl
  have f2 : w8.frozen? ⟨tB, 1, none⟩ = false := hk8.frozen _
  have s2 : w8.cell? ⟨tB, 1, none⟩ = some (.slice af a qf) := by rw [← Hvf.out]; exact hk8.cell 1
  have HX := hid (HR.out.fr' HP8.out.2 rfl rfl HP8.out.1 rfl rfl)
  have HFr := hid HP8.out.2
  have c9 := HP8.out.1.b.cell 1
  have c9' : (w8.setCell ⟨tB, 1, none⟩ (.slice a8 (a + n) q8)).cell? ⟨tB, 1, none⟩ = some (.slice a8 (a + n) q8) := c9
  clear hrf hr8 hf8 HP8 hk8 c9 Hs b1
  go_upto_region 3 with fail
  generalize hw9 : w8.setCell _ _ = w9 at c9' HX HFr ⊢
  clear hw9 f2 s2
  have e3 : IntKind.i32.wrap ((a : Int) + (n : Int)) = (a : Int) + (n : Int) := by rw [IntKind.wrap_i32]; omega
  have e4 : IntKind.i32.wrap ((a + n : Nat) : Int) = ((a + n : Nat) : Int) := by rw [IntKind.wrap_i32]; omega
  have HA := hid (addXW HX.out (coR nm a (a + n)) (by show T.types.length ≤ _; rw [Hm.out]; exact hl))
  dsimp only [coR, trC] at HA
  have em : T.types.length = m := Hm.out
  rw [em] at HA
  clear em
  go_wp2_with fail
  refine HA.out.mono ?_
  rintro e w4 ⟨rfl, h4⟩
  have HF : Hid (∃ τ' V', TbX τ' w4 tB V' { T with types := T.types ++ [coR nm a (a + n)], flds := T.flds ++ ys } M ∧ Fr X52 τ w τ' w4 ∧ V'.byN = V.byN) := hid (by
    obtain ⟨τ4, v4, k1, k2⟩ := h4.out
    refine ⟨τ4, _, k1, (HFr.out.mono ?_).trans (k2.mono ?_), rfl⟩
    · intro c hc
      unfold X52
      revert hc
      simp
      omega
    · intro c hc
      unfold X52
      unfold X50 at hc
      revert hc
      simp
      omega)
  clear h4 HA HX HFr
  go_wp2
  go_ret
  exact ⟨rfl, HF⟩
end
end Go.Proofs.Qxb6500883aGreatDoor
