/- The ground: free, Alloc of the space. -/
import Derived.Test.Qxb6500888aBaG2
namespace Go.Proofs.Qxb6500888a
open Go.RowKit
set_option linter.unusedSimpArgs false
set_option linter.unusedVariables false

def allFree (tk : Nat → Bool) (s n : Nat) : Bool := (List.range n).all fun j => !tk (s + j)
theorem allFree_iff (tk : Nat → Bool) (s n : Nat) : allFree tk s n = true ↔ ∀ j, j < n → tk (s + j) = false := by
  unfold allFree
  rw [List.all_eq_true]
  constructor
  · intro h j hj
    have := h j (List.mem_range.2 hj)
    simpa using this
  · intro h j hj
    simp [h j (List.mem_range.1 hj)]
def scanA (tk : Nat → Bool) (words : Nat) : Nat → Nat → Option Nat
  | 0, _ => none
  | f + 1, s => if s + words ≤ 32768 then (if allFree tk s words = true then some s else scanA tk words f (s + 2)) else none
def placeA (tk : Nat → Bool) (words : Nat) : Option Nat := scanA tk words 16385 0
theorem scanA_some {tk : Nat → Bool} {words : Nat} : ∀ {f s t : Nat}, scanA tk words f s = some t → s ≤ t ∧ t % 2 = s % 2 ∧ t + words ≤ 32768 ∧ allFree tk t words = true
  | 0, _, _, h => by cases h
  | f + 1, s, t, h => by
    unfold scanA at h
    by_cases h1 : s + words ≤ 32768
    · rw [if_pos h1] at h
      by_cases h2 : allFree tk s words = true
      · rw [if_pos h2] at h
        cases h
        exact ⟨Nat.le_refl _, rfl, h1, h2⟩
      · rw [if_neg h2] at h
        have := scanA_some h
        exact ⟨by omega, by omega, this.2.2⟩
    · rw [if_neg h1] at h
      cases h
theorem placeA_some {tk : Nat → Bool} {words t : Nat} (h : placeA tk words = some t) : t % 2 = 0 ∧ t + words ≤ 32768 ∧ ∀ j, j < words → tk (t + j) = false := by
  have := scanA_some h
  exact ⟨this.2.1, this.2.2.1, (allFree_iff _ _ _).1 this.2.2.2⟩
section
variable {w : World} {ρ : Rl} {L : GL} {G : GS}
set_option maxRecDepth 1000000 in
set_option maxHeartbeats 2000000 in
theorem free_walk (h : GM w ρ L G) (s n : Nat) (hn : s + n ≤ 32768) : Calls Try.prog 97 #[.pointer (some ⟨L.sB, 0, none⟩), .int .i64 (s : Int), .int .i64 (n : Int)] w fun e w' => e = .returned (.bool (allFree G.tk s n)) ∧ w' = w := by
  have c1 := h.scell
  have HT : Hid (∀ i, i < 32768 → w.cell? ⟨L.tB, i, none⟩ = some (.bool (G.tk i))) := hid (fun i hi => h.tcell hi)
  have i1 : (s : Int) + (n : Int) ≤ 32768 := by omega
  have Hn := hid hn
  clear h hn
  go_enter Try.func97, Try.ntmps97
  go_wp2_with fail
  go_loopw [7] (fun i wr => wr = w ∧ ∃ j : Nat, j ≤ n ∧ i = .int .i64 ((s + j : Nat) : Int) ∧ Hid (∀ q, q < j → G.tk (s + q) = false)) (fun i _ => s + n - (intOf i).toNat)
  case atStart => exact ⟨rfl, 0, by omega, rfl, hid (fun q hq => by omega)⟩
  case round =>
    obtain ⟨rfl, j, hj, rfl, HQ⟩ := hrel
    by_cases hlt : j < n
    · have dk : decide (((s + j : Nat) : Int) < (s : Int) + (n : Int)) = true := decide_eq_true (by omega)
      have i5 : ((s + j : Nat) : Int) < 32768 := by have := Hn.out; omega
      have i6 : (s : Int) < 32768 := by omega
      have ct := HT.out (s + j) (by have := Hn.out; omega)
      obtain ⟨k, hk⟩ : ∃ k, s + j = k := ⟨_, rfl⟩
      have Hk := hid hk
      rw [hk] at dk i5 ct
      rw [hk]
      clear hk
      obtain ⟨b, hb⟩ : ∃ b, G.tk k = b := ⟨_, rfl⟩
      rw [hb] at ct
      have Hb := hid hb
      clear hb
      cases b with
      | true =>
        as_aux_lemma =>
        have HR : Hid (allFree G.tk s n = false) := hid (by
          cases e : allFree G.tk s n with
          | false => rfl
          | true =>
            have := (allFree_iff _ _ _).1 e j hlt
            rw [Hk.out, Hb.out] at this
            cases this)
        go_wp2
        go_ret
        exact ⟨by rw [HR.out]; rfl, rfl⟩
      | false =>
        as_aux_lemma =>
        go_wp2
        exact ⟨⟨by first | rfl | trivial, j + 1, by omega, by rw [← Hk.out]; go_num, hid (fun q hq => by
          by_cases hqj : q = j
          · rw [hqj, Hk.out]; exact Hb.out
          · exact HQ.out q (by omega))⟩, by have := Hk.out; simp [intOf]; omega⟩
    · as_aux_lemma =>
      have dk : decide (((s + j : Nat) : Int) < (s : Int) + (n : Int)) = false := decide_eq_false (by omega)
      have i6 : (s : Int) ≤ 32768 := by omega
      have HR : Hid (allFree G.tk s n = true) := hid ((allFree_iff _ _ _).2 (fun q hq => HQ.out q (by omega)))
      go_wp2
      go_ret
      exact ⟨by rw [HR.out]; rfl, rfl⟩
/-- What the space's Alloc leaves. -/
def SpP (w : World) (ρ : Rl) (L : GL) (G : GS) (words : Nat) (e : Ending) (w' : World) : Prop :=
  match placeA G.tk words with
  | some s => e = .returned (.tuple #[.int .u64 ((65536 + s : Nat) : Int), .bool true]) ∧ GM w' ρ L { G with tk := fillF G.tk s words true } ∧ Fr gX ρ w ρ w'
  | none => e = .returned (.tuple #[.int .u64 0, .bool false]) ∧ w' = w
set_option maxRecDepth 1000000 in
set_option maxHeartbeats 4000000 in
theorem spAlloc_walk (h : GM w ρ L G) (n : Nat) (h1 : 1 ≤ n) (h2 : n ≤ 9000) : Calls Try.prog 81 #[.pointer (some ⟨L.sB, 0, none⟩), .int .i64 (n : Int)] w fun e w' => SpP w ρ L G n e w' := by
  have HH := hid h
  have i1 : (n : Int) ≤ 9000 := by omega
  clear h
  go_enter Try.func81, Try.ntmps81
  go_wp2_with fail
  go_loopw [6] (fun i wr => wr = w ∧ ∃ s : Nat, s ≤ 32769 ∧ i = .int .i64 (s : Int) ∧ Hid (scanA G.tk n (16385 - s / 2) s = placeA G.tk n) ∧ s % 2 = 0) (fun i _ => 40000 - (intOf i).toNat)
  case atStart => exact ⟨rfl, 0, by omega, rfl, hid rfl, rfl⟩
  case round =>
    obtain ⟨rfl, s, hs, rfl, HS, hev⟩ := hrel
    have i2 : (s : Int) ≤ 32769 := by omega
    by_cases hlt : s + n ≤ 32768
    · have dk : decide ((s : Int) + (n : Int) ≤ 32768) = true := decide_eq_true (by omega)
      have HFr := hid (free_walk HH.out s n hlt)
      have HSt : Hid (placeA G.tk n = if allFree G.tk s n = true then some s else scanA G.tk n (16385 - (s + 2) / 2) (s + 2)) := hid (by
        rw [← HS.out, show 16385 - s / 2 = (16385 - (s + 2) / 2) + 1 by omega]
        show (if s + n ≤ 32768 then _ else _) = _
        rw [if_pos hlt])
      clear HS
      have Hlt := hid hlt
      have Hev := hid hev
      go_wp2_with fail
      refine HFr.out.mono ?_
      rintro e1 w1 ⟨rfl, rfl⟩
      clear HFr dk
      generalize allFree G.tk s n = b at HSt ⊢
      cases b with
      | false =>
        as_aux_lemma =>
        have HR : Hid (scanA G.tk n (16385 - (s + 2) / 2) (s + 2) = placeA G.tk n) := hid (by rw [HSt.out, if_neg (by decide)])
        go_wp2
        exact ⟨⟨by first | rfl | trivial, s + 2, by omega, by go_num, HR, by omega⟩, by simp [intOf]; omega⟩
      | true =>
        have HR : Hid (placeA G.tk n = some s) := hid (by rw [HSt.out, if_pos rfl])
        clear HSt
        have HF0 := hid (Fr.refl gX ρ w1)
        go_wp2_with fail
        go_loopw [7] (fun i wq => ∃ j : Nat, j ≤ n ∧ i = .int .i64 ((s + j : Nat) : Int) ∧ Hid (GM wq ρ L { G with tk := fillF G.tk s j true }) ∧ Hid (Fr gX ρ w1 ρ wq)) (fun i _ => s + n - (intOf i).toNat)
        case atStart => exact ⟨0, by omega, rfl, hid (by rw [fillF_0]; exact HH.out), HF0⟩
        case round =>
          obtain ⟨j, hj, rfl, HM1, HF1⟩ := hrel
          obtain ⟨k, hk⟩ : ∃ k, s + j = k := ⟨_, rfl⟩
          have Hk := hid hk
          rw [hk]
          by_cases hjn : j < n
          · have dk : decide ((k : Int) < (s : Int) + (n : Int)) = true := decide_eq_true (by omega)
            have i5 : (k : Int) < 32768 := by have := Hlt.out; omega
            have hz := HM1.out
            have c1 := hz.scell
            have c2 := hz.tcell (i := k) (by omega)
            have f2 := (hz.tb rfl).frozen k
            have HF := hid (hz.setT (i := k) (by omega) true)
            rw [← hk, fillF_s, hk] at HF
            generalize ({ G with tk := fillF G.tk s j true } : GS).tk k = b0 at c2
            clear hz HM1 hk
            go_wp2
            exact ⟨⟨j + 1, by omega, by rw [← Hk.out]; go_num, hid HF.out.1, hid (HF1.out.trans HF.out.2)⟩, by have := Hk.out; simp [intOf]; omega⟩
          · have dk : decide ((k : Int) < (s : Int) + (n : Int)) = false := decide_eq_false (by omega)
            have i5 : (k : Int) ≤ 32768 := by have := Hlt.out; omega
            have i7 : (s : Int) ≤ 32768 := by have := Hlt.out; omega
            rw [show j = n by omega] at HM1
            clear hk
            go_wp2
            refine bodyPost_ret (v := .tuple #[.int .u64 (65536 + (s : Int)), .bool true]) (by simp [results, Try.results81, go_sem]) rfl ?_
            unfold SpP
            rw [HR.out]
            exact ⟨by simp, HM1.out, HF1.out⟩
    · as_aux_lemma =>
      have dk : decide ((s : Int) + (n : Int) ≤ 32768) = false := decide_eq_false (by omega)
      have HR : Hid (placeA G.tk n = none) := hid (by
        rw [← HS.out]
        cases 16385 - s / 2 with
        | zero => rfl
        | succ f => show (if s + n ≤ 32768 then _ else _) = _; rw [if_neg hlt])
      go_wp2
      refine bodyPost_ret (v := .tuple #[.int .u64 0, .bool false]) (by simp [results, Try.results81, go_sem]) rfl ?_
      unfold SpP
      rw [HR.out]
      exact ⟨rfl, rfl⟩
end
end Go.Proofs.Qxb6500888a
