/- duplicateField; words exactly. -/
import Derived.Test.Qxb6500883aGreatDoorScCa
namespace Go.Proofs.Qxb6500883aGreatDoor
open Go.RowKit
set_option linter.unusedSimpArgs false
set_option linter.unusedVariables false
def qS (s : ByteArray) : ByteArray := (⟨#[34]⟩ : ByteArray) ++ s ++ ⟨#[34]⟩
theorem qS_size (s : ByteArray) : (qS s).size = s.size + 2 := by
  unfold qS
  rw [ba_size, ba_size]
  show 1 + s.size + 1 = _
  omega
theorem quoteX (s : ByteArray) (hs : s.size ≤ 140000000000000) (w : World) : Calls Tryz.prog 84 #[.string s] w fun e w' => e = .returned (.string (qS s)) ∧ w' = w := by
  have hz := qS_size s
  go_enter Tryz.func84, Tryz.ntmps84
  go_wp2
  go_ret
  exact ⟨rfl, rfl⟩
def swS (k : Nat) : ByteArray := if k = 0 then ⟨#[99, 111, 110, 115, 116, 97, 110, 116]⟩ else if k = 1 then ⟨#[116, 121, 112, 101]⟩ else ⟨#[99, 111, 110, 116, 97, 105, 110, 101, 114]⟩
theorem swS_size (k : Nat) : (swS k).size ≤ 16 := by unfold swS; split <;> (try split) <;> decide
theorem sortWordX (k : Nat) (w : World) : Calls Tryz.prog 85 #[.int .u8 (k : Int)] w fun e w' => e = .returned (.string (swS k)) ∧ w' = w := by
  by_cases h0 : k = 0
  · subst h0
    go_enter Tryz.func85, Tryz.ntmps85
    go_wp2
    go_ret
    exact ⟨rfl, rfl⟩
  · by_cases h1 : k = 1
    · subst h1
      go_enter Tryz.func85, Tryz.ntmps85
      go_wp2
      go_ret
      exact ⟨rfl, rfl⟩
    · have e : swS k = ⟨#[99, 111, 110, 116, 97, 105, 110, 101, 114]⟩ := by unfold swS; rw [if_neg h0, if_neg h1]
      rw [e]
      have d0 : ((k : Int) == 0) = false := by simp; omega
      have d1 : ((k : Int) == 1) = false := by simp; omega
      clear h0 h1 e
      go_enter Tryz.func85, Tryz.ntmps85
      go_wp2
      go_ret
      exact ⟨rfl, rfl⟩
section
variable {N mg : Nat} {ρ ρ' : Rl} {w w' w1 w2 : World} {l : PL} {bs : List UInt8} {F : FS} {U : FV} {c n : Nat} {V : CV} {errs : List (Nat × Nat)} {v : Value}
theorem CAd.pre (hb : Below w.heap.size w w1) (h : CAd N mg ρ w1 l bs F U c V errs w') : CAd N mg ρ w l bs F U c V errs w' := by
  obtain ⟨ρ', v', h1, h2⟩ := h.m
  exact ⟨ρ', v', h1, (Fr.below hb).trans h2⟩
set_option maxRecDepth 100000 in
set_option maxHeartbeats 1000000 in
theorem duplicateFieldW (h : CM N mg ρ w l bs F U c V errs) {gd od gf fo ps : Nat} {nm fm : ByteArray} (hd1 : w.cell? ⟨gd, od + 1, none⟩ = some (.string nm)) (hf0 : w.cell? ⟨gf, fo, none⟩ = some (.string fm)) (hf1 : w.cell? ⟨gf, fo + 1, none⟩ = some (.int .i64 (ps : Int))) (hn : nm.size ≤ l.n) (hm : fm.size ≤ l.n) (hp : ps ≤ l.n) (hl : errs.length ≤ 1000000000000) :
    Calls Tryz.prog 116 #[.pointer (some ⟨c, 0, none⟩), .pointer (some ⟨gd, od, none⟩), .pointer (some ⟨gf, fo, none⟩)] w fun e w' => e = .returned (.tuple #[]) ∧ Hid (CAd N mg ρ w l bs F U c V (errs ++ [(7, ps)]) w') := by
  have hle := h.r.src.le
  have HM := hid h
  obtain ⟨X0, W, hT, hI⟩ := class_mk (fun w' => Drew w w')
  have H0 : Hid (∃ y, w.drew = W y) := hid (hI _ ⟨1, rfl⟩)
  have hne : Nonempty X0 := ⟨H0.out.choose⟩
  have HTT := hid hT
  have j1 : ∀ y, (W y).cell? ⟨gd, od + 1, none⟩ = some (.string nm) := fun y => by obtain ⟨m, e⟩ := hT y; rw [e]; exact hd1
  have j2 : ∀ y, (W y).cell? ⟨gf, fo, none⟩ = some (.string fm) := fun y => by obtain ⟨m, e⟩ := hT y; rw [e]; exact hf0
  have j3 : ∀ y, (W y).cell? ⟨gf, fo + 1, none⟩ = some (.int .i64 (ps : Int)) := fun y => by obtain ⟨m, e⟩ := hT y; rw [e]; exact hf1
  have HQ := hid (fun wz => quoteX fm (by omega) wz)
  have hq := qS_size fm
  generalize qS fm = qf at HQ hq
  have z1 : (({ data := #[99, 111, 110, 116, 97, 105, 110, 101, 114, 32] } : ByteArray) ++ nm).size = 10 + nm.size := by rw [ba_size]; rfl
  have z2 : (({ data := #[99, 111, 110, 116, 97, 105, 110, 101, 114, 32] } : ByteArray) ++ nm ++ { data := #[32, 97, 108, 114, 101, 97, 100, 121, 32, 104, 97, 115, 32, 97, 32, 102, 105, 101, 108, 100, 32] }).size = 10 + nm.size + 21 := by rw [ba_size, z1]; rfl
  have z3 : (({ data := #[99, 111, 110, 116, 97, 105, 110, 101, 114, 32] } : ByteArray) ++ nm ++ { data := #[32, 97, 108, 114, 101, 97, 100, 121, 32, 104, 97, 115, 32, 97, 32, 102, 105, 101, 108, 100, 32] } ++ qf).size = 10 + nm.size + 21 + qf.size := by rw [ba_size, z2]
  clear h hT hI hd1 hf0 hf1
  go_enter Tryz.func116, Tryz.ntmps116
  go_upto_region 0 with fail
  refine wp_region_class_tailT W 19 (by kernel_rfl) (by kernel_rfl) (by kernel_rfl) H0.out ?_
  dsimp only [List.take, List.drop]
  repeat (go_big_quiet_step ((go_at_call 84; exact Calls.class_same (HQ.out _))))
  refine wpQuiet_nil ?_
  intro z
  have HB := hid ((HTT.out z).below w.heap.size)
  generalize W z = wz at HB ⊢
  clear j1 j2 j3 H0 HTT HQ
  have HA := hid (addDW (HM.out.below HB.out) 7 ps _ hp (show 0 < ByteArray.size _ by rw [z3]; omega) (by rw [z3]; omega) hl)
  go_wp2_with fail
  refine HA.out.mono ?_
  rintro e w4 ⟨rfl, h4⟩
  have HF := hid (CAd.pre HB.out h4.out)
  clear HA h4 HM
  go_wp2
  exact bodyPost_end (v := .tuple #[]) (by simp [results, Tryz.results116, go_sem]) rfl ⟨rfl, HF⟩
end
end Go.Proofs.Qxb6500883aGreatDoor
