/- The text model: digitsOf, Format, Name. -/
import Derived.Test.Qxb6500890aDoorTxM1
namespace Go.Proofs.Qxb6500890aDoor
open Go.RowKit
set_option linter.unusedSimpArgs false
set_option linter.unusedVariables false

section
variable {w w' : World}
set_option maxRecDepth 100000
set_option maxHeartbeats 1000000
theorem one_str (w : World) (b : UInt8) : (convert 82 9 (.slice (some ⟨w.heap.size, 0, none⟩) 1 1)).run Tryd.prog (w.alloc (.cells #[.int .u8 (b.toNat : Int)] 5)) = .ok (.string ⟨#[b]⟩) (w.alloc (.cells #[.int .u8 (b.toNat : Int)] 5)) := by
  refine run_convert_bytes_back (w.alloc (.cells #[.int .u8 (b.toNat : Int)] 5)) 82 9 5 ⟨w.heap.size, 0, none⟩ 1 [b] Tryd.underlying82 Tryd.underlying5 Tryd.underlying9 (fun j hj => ?_)
  have hj0 : j = 0 := by simpa using hj
  subst hj0
  exact (Blk.new w [.int .u8 (b.toNat : Int)] 5).cell 0
theorem tmod_neg10 (n : Nat) : (-(n : Int)).tmod 10 = -((n % 10 : Nat) : Int) := by
  rw [Int.neg_tmod]
  rfl
theorem tdiv_neg10 (n : Nat) : (-(n : Int)).tdiv 10 = -((n / 10 : Nat) : Int) := by
  rw [Int.neg_tdiv]
  rfl
theorem digitsOf_walk (n : Nat) : n ≤ 9223372036854775808 → ∀ w : World, Calls Tryd.prog 70 #[.int .i64 (-(n : Int))] w fun r w' => r = .returned (.string ⟨(digs n).toArray⟩) ∧ Below w.heap.size w w' := by
  induction n using Nat.strongRecOn with
  | _ n ih =>
    intro hn w
    obtain ⟨g, hg⟩ : ∃ g, w.heap.size = g := ⟨_, rfl⟩
    obtain ⟨d, hd⟩ : ∃ d, n % 10 = d := ⟨_, rfl⟩
    have hd10 : d < 10 := by omega
    have e1 := tmod_neg10 n
    rw [hd] at e1
    have e2 := tdiv_neg10 n
    obtain ⟨m, hm⟩ : ∃ m, n / 10 = m := ⟨_, rfl⟩
    rw [hm] at e2
    obtain ⟨c, hc⟩ : ∃ c : UInt8, UInt8.ofNat (48 + d) = c := ⟨_, rfl⟩
    have hcn : c.toNat = 48 + d := by rw [← hc]; exact ofNat_toNat (by omega)
    have hcv := one_str w c
    rw [hg] at hcv
    have e3 : (48 : Int) - -(d : Int) = (c.toNat : Int) := by rw [hcn]; omega
    have e4 : (48 : Int) + (d : Int) = (c.toNat : Int) := by rw [hcn]; omega
    have hcb : (c.toNat : Int) < 256 := by omega
    have HN : Hid (Below w.heap.size w (w.alloc (.cells #[.int .u8 (c.toNat : Int)] 5))) := hid (nbel _ _)
    rw [hg] at HN
    by_cases h0 : m = 0
    · have HE : Hid (digs n = [c]) := hid (by
        rw [digs_small n (by omega), ← hc, ← hd, Nat.mod_eq_of_lt (by omega)])
      rw [HE.out]
      have d0 : ((-(m : Int)) == 0) = true := by rw [h0]; rfl
      clear h0 hc hcn ih
      go_enter Tryd.func70, Tryd.ntmps70
      go_wp2
      go_ret
      exact ⟨rfl, by rw [hg]; exact HN.out⟩
    · have HE : Hid ((⟨(digs m).toArray⟩ : ByteArray) ++ ⟨#[c]⟩ = ⟨(digs n).toArray⟩) := hid (by
        rw [digs_big n (by omega) (by omega), hm, hd, hc]
        apply ByteArray.ext
        rw [ByteArray.data_append]
        simp)
      have hsz : (⟨(digs m).toArray⟩ : ByteArray).size ≤ 20 := digs_len 20 m (by omega) (by omega) (by omega)
      have HI := hid (ih m (by omega) (by omega))
      generalize (⟨(digs m).toArray⟩ : ByteArray) = s at HE hsz HI
      obtain ⟨t, ht⟩ : ∃ t : ByteArray, (⟨(digs n).toArray⟩ : ByteArray) = t := ⟨_, rfl⟩
      rw [ht] at HE ⊢
      have d0 : ((-(m : Int)) == 0) = false := by rw [beq_eq_false_iff_ne]; omega
      have hz3 : ¬ (9223372036854775807 < s.size + 1) := by omega
      clear h0 hc hcn ih ht
      go_enter Tryd.func70, Tryd.ntmps70
      go_wp2_with fail
      refine (HI.out _).mono ?_
      rintro e w2 ⟨rfl, hb2⟩
      have HB2 : Hid (Below w.heap.size w w2) := hid (by
        have h1 := HN.out
        rw [← hg] at h1
        exact h1.trans (hb2.mono h1.size))
      clear hb2 HI HN
      go_wp2
      go_ret
      exact ⟨by rw [← HE.out]; rfl, HB2.out⟩
theorem mformat_walk (v : Int) (hv : I64 v) (w : World) : Calls Tryd.prog 40 #[.int .i64 v] w fun r w' => r = .returned (.string ⟨(fmtL v).toArray⟩) ∧ Below w.heap.size w w' := by
  have h1 := hv.1
  have h2 := hv.2
  clear hv
  have HD := hid (digitsOf_walk v.natAbs (by omega))
  by_cases h : v < 0
  · have HE : Hid ((⟨#[45]⟩ : ByteArray) ++ ⟨(digs v.natAbs).toArray⟩ = ⟨(fmtL v).toArray⟩) := hid (by
      unfold fmtL
      rw [if_pos h]
      apply ByteArray.ext
      rw [ByteArray.data_append]
      simp)
    rw [show (-(v.natAbs : Int)) = v by omega] at HD
    have hsz : (⟨(digs v.natAbs).toArray⟩ : ByteArray).size ≤ 20 := digs_len 20 v.natAbs (by omega) (by omega) (by omega)
    generalize (⟨(digs v.natAbs).toArray⟩ : ByteArray) = s at HD HE hsz
    obtain ⟨t, ht⟩ : ∃ t : ByteArray, (⟨(fmtL v).toArray⟩ : ByteArray) = t := ⟨_, rfl⟩
    rw [ht] at HE ⊢
    have d0 : decide (v < 0) = true := decide_eq_true h
    have hz3 : ¬ (9223372036854775807 < 1 + s.size) := by omega
    clear ht
    go_enter Tryd.func40, Tryd.ntmps40
    go_wp2_with fail
    refine (HD.out _).mono ?_
    rintro e w2 ⟨rfl, hb2⟩
    have HB := hid hb2
    clear hb2 HD
    go_wp2
    go_ret
    exact ⟨by rw [← HE.out]; rfl, HB.out⟩
  · have HE : Hid ((⟨(digs v.natAbs).toArray⟩ : ByteArray) = ⟨(fmtL v).toArray⟩) := hid (by
      unfold fmtL
      rw [if_neg h])
    rw [HE.out] at HD
    generalize (⟨(fmtL v).toArray⟩ : ByteArray) = t at HD ⊢
    rw [show (-(v.natAbs : Int)) = -v by omega] at HD
    have d0 : decide (v < 0) = false := decide_eq_false h
    have d1 : 0 ≤ v := by omega
    clear HE
    go_enter Tryd.func40, Tryd.ntmps40
    go_wp2_with fail
    refine (HD.out _).mono ?_
    rintro e w2 ⟨rfl, hb2⟩
    have HB := hid hb2
    clear hb2 HD
    go_wp2
    go_ret
    exact ⟨rfl, HB.out⟩
theorem ne_bool {c : Int} {k : Int} (h : c ≠ k) : (c == k) = false := by rw [beq_eq_false_iff_ne]; exact h
theorem mname_walk (c : Int) (hc : I64 c) (w : World) : Calls Tryd.prog 50 #[.int .i64 c] w fun r w' => r = .returned (.string (nameP c)) ∧ Below w.heap.size w w' := by
  have HF := hid (mformat_walk c hc)
  by_cases h0 : 0 ≤ c ∧ c < 7
  · rcases (by omega : c = 0 ∨ c = 1 ∨ c = 2 ∨ c = 3 ∨ c = 4 ∨ c = 5 ∨ c = 6) with rfl | rfl | rfl | rfl | rfl | rfl | rfl
    all_goals
      clear h0
      go_enter Tryd.func50, Tryd.ntmps50
      go_wp2
      go_ret
      exact ⟨rfl, Below.refl _ _⟩
  · have e1 : nameP c = ⟨#[99, 111, 100, 101, 32]⟩ ++ ⟨(fmtL c).toArray⟩ := by unfold nameP; rw [if_neg h0]
    rw [e1]
    have hz2 : (⟨(fmtL c).toArray⟩ : ByteArray).size ≤ 20 := fmt_len c hc.1 hc.2
    generalize (⟨(fmtL c).toArray⟩ : ByteArray) = s at HF hz2 ⊢
    have hz3 : ¬ (9223372036854775807 < 5 + s.size) := by omega
    have d0 : (c == 0) = false := ne_bool (by omega)
    have d1 : (c == 1) = false := ne_bool (by omega)
    have d2 : (c == 2) = false := ne_bool (by omega)
    have d3 : (c == 3) = false := ne_bool (by omega)
    have d4 : (c == 4) = false := ne_bool (by omega)
    have d5 : (c == 5) = false := ne_bool (by omega)
    have d6 : (c == 6) = false := ne_bool (by omega)
    clear h0 e1
    go_enter Tryd.func50, Tryd.ntmps50
    go_wp2_with fail
    refine (HF.out _).mono ?_
    rintro e w2 ⟨rfl, hb2⟩
    have HB := hid hb2
    clear hb2 HF
    go_wp2
    go_ret
    exact ⟨rfl, HB.out⟩
end
end Go.Proofs.Qxb6500890aDoor
