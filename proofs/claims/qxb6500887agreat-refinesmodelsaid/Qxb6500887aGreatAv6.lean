/- The visiting calls of playObjects with their counts. -/
import Derived.Test.Qxb6500887aGreatAv5
import Derived.Test.Qxb6500887aGreatAx7
import Derived.Test.Qxb6500887aGreatAzZd
namespace Go.Proofs.Qxb6500887aGreat
open Go.RowKit
set_option linter.unusedSimpArgs false
set_option linter.unusedVariables false
/-- After the visits: the counts and the answer. -/
def VsP (l : AL) (S : AS) (gv gt : Nat) (w : World) (R : List Value) (cd xv xt : Int) (w' : World) : Prop := AM l S w' ∧ Blk w' gv 29 [.int .u64 xv] ∧ Blk w' gt 29 [.int .u64 xt] ∧ UL [gv, gt] w w' ∧ rsG cd xv xt = R
section
variable {l : AL} {S : AS} {w w' w0 : World} {gv gt p r : Nat} {oc : List Value} {a b c : Int}
theorem CtX.start {p r gv gt : Nat} {oc : List Value} (h : PX l S w0 p r oc w) (hv : w.heap.size = gv) (ht : gv + 1 = gt) : CtX l S gv gt p oc 0 0 ((w.alloc (.cells #[.int .u64 0] 29)).alloc (.cells #[.int .u64 0] 29)) ∧ PX l S w0 p r oc ((w.alloc (.cells #[.int .u64 0] 29)).alloc (.cells #[.int .u64 0] 29)) ∧ (∀ g ∈ [gv, gt], w0.heap.size ≤ g ∧ g ≠ p ∧ g ≠ r) := by
  have k1 := Blk.new w [.int .u64 0] 29
  rw [hv] at k1
  have k2 := Blk.new (w.alloc (.cells #[.int .u64 0] 29)) [.int .u64 0] 29
  rw [World.size_alloc, hv, ht] at k2
  obtain ⟨k3, k4, k5⟩ := CtM.start h hv ht
  refine ⟨⟨k3.am, k1.below (nbel _ _), k2, k3.o, k3.n1, k3.n2, k3.n3, k3.n6⟩, k4, k5⟩
theorem ec51 (h : CtX l S gv gt p [.int .u8 51, .int .u64 a, .int .u64 b, .int .u64 c] 0 0 w) (hgs : ∀ g ∈ [gv, gt], g < w.heap.size) (hb : U64 b) {na cd : Int} (ha : nbI a = na) (hc : (if 0 ≤ na ∧ na < 64 then (0 : Int) else 1) = cd) : Calls Tryz.prog 185 #[.pointer (some ⟨l.a, 0, none⟩), .int .i64 na, .func (.func 186) #[] #[.pointer (some ⟨gv, 0, none⟩), .pointer (some ⟨gt, 0, none⟩), .pointer (some ⟨p, 0, none⟩)]] w fun e w' => e = .returned (.int .u8 cd) ∧ ∃ xv xt : Int, Hid (VsP l S gv gt w (stR (abE S) 51 a b c).1 cd xv xt w') := by
  have hmo : b = ((b.toNat : Nat) : Int) := by have := hb.1; omega
  refine (eachCountedX 186 #[.pointer (some ⟨gv, 0, none⟩), .pointer (some ⟨gt, 0, none⟩), .pointer (some ⟨p, 0, none⟩)] ent_p2 (fun q w1 => ∃ xv xt, CtX l S gv gt p [.int .u8 51, .int .u64 a, .int .u64 b, .int .u64 c] xv xt w1 ∧ EvI (ecH (abE S) (na.toNat * 256)) (ecF (abE S) (na.toNat * 256)) (na.toNat * 256) b.toNat 256 q xv xt) [gv, gt] hgs (fun q w1 ⟨_, _, h1, _⟩ => h1.am) (fun q w1 w2 ⟨xv, xt, h1, h2⟩ h3 => ⟨xv, xt, h1.below h3, h2⟩) na ⟨0, 0, h, EvI.start⟩ ?_ ?_).mono ?_
  · rintro q w1 h1 h2 h3 ⟨xv, xt, h4, h5⟩
    refine ⟨xv, xt, h4, h5.skip ?_⟩
    show (!(eN 2 32 S.C (na.toNat * 256 + (q - na.toNat * 256)) == 0)) = false
    rw [show na.toNat * 256 + (q - na.toNat * 256) = q by omega, h3]; rfl
  · rintro k v w1 h1 h2 h3 h4 h5 h6 ⟨xv, xt, h7, h8⟩
    obtain ⟨l1, l2⟩ := h8.lt
    have hh : ecH (abE S) (na.toNat * 256) (k - na.toNat * 256) = true := by
      show (!(eN 2 32 S.C (na.toNat * 256 + (k - na.toNat * 256)) == 0)) = true
      rw [show na.toNat * 256 + (k - na.toNat * 256) = k by omega, h6]; simpa using h5
    have hf : ecF (abE S) (na.toNat * 256) (k - na.toNat * 256) = 65536 + 2 * k + v := by
      show 65536 + 2 * (na.toNat * 256 + (k - na.toNat * 256)) + eN 2 32 S.C (na.toNat * 256 + (k - na.toNat * 256)) = _
      rw [show na.toNat * 256 + (k - na.toNat * 256) = k by omega, h6]
    have h9 := h8.hit hh (by omega)
    have := clo2X h7 (65536 + 2 * k) v hmo (by omega) l2 (by omega) h4
    rw [show ((65536 + 2 * k : Nat) : Int) = 65536 + (k : Int) * 2 by omega] at this
    refine this.mono ?_
    rintro e w' ⟨he, h10, h11⟩
    refine ⟨_, he, ⟨_, _, h10, ?_⟩, h11⟩
    rw [hf] at h9
    exact h9
  · rintro e w' ⟨he, h1⟩
    rw [hc] at he
    obtain ⟨⟨q, ⟨xv, xt, k1, k2⟩, k3⟩, k4⟩ := h1.out
    exact ⟨he, _, _, hid ⟨k1.am, k1.v, k1.t, k4, rd51 ha hc k2 k3⟩⟩
theorem ec52 (h : CtX l S gv gt p [.int .u8 52, .int .u64 a, .int .u64 b, .int .u64 c] 0 0 w) (hgs : ∀ g ∈ [gv, gt], g < w.heap.size) (hc : U64 c) {cd : Int} (hs : stC a b false = cd) : Calls Tryz.prog 187 #[.pointer (some ⟨l.a, 0, none⟩), .int .u64 a, .int .u64 b, .func (.func 188) #[] #[.pointer (some ⟨gv, 0, none⟩), .pointer (some ⟨gt, 0, none⟩), .pointer (some ⟨p, 0, none⟩)]] w fun e w' => e = .returned (.int .u8 cd) ∧ ∃ xv xt : Int, Hid (VsP l S gv gt w (stR (abE S) 52 a b c).1 cd xv xt w') := by
  have hmo : c = ((c.toNat : Nat) : Int) := by have := hc.1; omega
  refine (eachLoggedX 188 #[.pointer (some ⟨gv, 0, none⟩), .pointer (some ⟨gt, 0, none⟩), .pointer (some ⟨p, 0, none⟩)] ent_p3 (fun q w1 => ∃ xv xt, CtX l S gv gt p [.int .u8 52, .int .u64 a, .int .u64 b, .int .u64 c] xv xt w1 ∧ EvI (elH (abE S) (wIx a)) (elF (wIx a)) (wIx a) c.toNat (wIx b - wIx a) q xv xt) [gv, gt] hgs (fun q w1 ⟨_, _, h1, _⟩ => h1.am) (fun q w1 w2 ⟨xv, xt, h1, h2⟩ h3 => ⟨xv, xt, h1.below h3, h2⟩) a b ⟨0, 0, h, EvI.start⟩ ?_ ?_).mono ?_
  · rintro q w1 h1 h2 h3 ⟨xv, xt, h4, h5⟩
    refine ⟨xv, xt, h4, h5.skip ?_⟩
    show (!(eN 1 64 S.L (wIx a + (q - wIx a)) == 0)) = false
    rw [show wIx a + (q - wIx a) = q by omega, h3]; rfl
  · rintro k w1 h1 h2 h3 h5 ⟨xv, xt, h7, h8⟩
    obtain ⟨l1, l2⟩ := h8.lt
    have hh : elH (abE S) (wIx a) (k - wIx a) = true := by
      show (!(eN 1 64 S.L (wIx a + (k - wIx a)) == 0)) = true
      rw [show wIx a + (k - wIx a) = k by omega]; simpa using h5
    have hf : elF (wIx a) (k - wIx a) = 65536 + k := by
      show 65536 + (wIx a + (k - wIx a)) = _
      omega
    have h9 := h8.hit hh (by omega)
    have := clo3X h7 (65536 + k) hmo (by omega) l2 (by omega)
    rw [show ((65536 + k : Nat) : Int) = 65536 + (k : Int) by omega] at this
    refine this.mono ?_
    rintro e w' ⟨he, h10, h11⟩
    refine ⟨_, he, ⟨_, _, h10, ?_⟩, h11⟩
    rw [hf] at h9
    exact h9
  · rintro e w' ⟨he, h1⟩
    rw [hs] at he
    obtain ⟨⟨q, ⟨xv, xt, k1, k2⟩, k3⟩, k4⟩ := h1.out
    exact ⟨he, _, _, hid ⟨k1.am, k1.v, k1.t, k4, rd52 hs k2 (by rw [← hs]; exact k3)⟩⟩
theorem ec45 {o : Ob} (h : CtX l S gv gt p [.int .u8 45, .int .u64 a, .int .u64 b, .int .u64 c] 0 0 w) (hgs : ∀ g ∈ [gv, gt], g < w.heap.size) (hb : U64 b) (ho : ObOk o) (h0 : onC S a = 0) (hoo : opO S (gIx a) = o) (hW : ∀ i, S.W i < 18446744073709551616) : Calls Tryz.prog 144 #[.agg #[.pointer (some ⟨l.a, 0, none⟩), .int .i64 (o.k : Int), .int .u64 (o.raw : Int), .int .i64 (o.sz : Int), .int .i64 (o.rf : Int)], .func (.func 176) #[] #[.pointer (some ⟨gv, 0, none⟩), .pointer (some ⟨gt, 0, none⟩), .pointer (some ⟨p, 0, none⟩)]] w fun e w' => ∃ cq : Int, e = .returned (.int .u8 cq) ∧ ∃ xv xt : Int, Hid (VsP l S gv gt w (stR (abE S) 45 a b c).1 cq xv xt w') := by
  have hmo : b = ((b.toNat : Nat) : Int) := by have := hb.1; omega
  have o2 := ho.s2
  have o3 := ho.rf
  obtain ⟨r1, r2, r3, r4, r5, r6⟩ := on_rf h0
  have ek : o.k = 2 * gIx a := by rw [← hoo]; rfl
  have e : o.rf = rfN S.W (gIx a) := by rw [← hoo]; rfl
  refine (eachFieldX 176 #[.pointer (some ⟨gv, 0, none⟩), .pointer (some ⟨gt, 0, none⟩), .pointer (some ⟨p, 0, none⟩)] ent_p1 (fun q w1 => q ≤ o.rf ∧ ∃ xv xt, CtX l S gv gt p [.int .u8 45, .int .u64 a, .int .u64 b, .int .u64 c] xv xt w1 ∧ EfI S.W (o.k + 1) b.toNat q xv xt) (fun w1 => ∃ xv xt, CtX l S gv gt p [.int .u8 45, .int .u64 a, .int .u64 b, .int .u64 c] xv xt w1 ∧ EfD S.W (o.k + 1) b.toNat o.rf xv xt) [gv, gt] hgs ⟨Nat.zero_le _, 0, 0, h, rfl, rfl, .inl rfl, fun i hi => absurd hi (Nat.not_lt_zero _)⟩ (fun q w1 ⟨_, _, _, h1, _⟩ => h1.am) (fun q w1 w2 ⟨h0, xv, xt, h1, h2⟩ h3 => ⟨h0, xv, xt, h1.below h3, h2⟩) ho ?_).mono ?_
  · rintro i w1 hi ⟨_, xv, xt, h1, k1, k2, k3, k4⟩ hrf
    have hl := efT_lt S.W (o.k + 1) i
    have := clo1X h1 i (65536 + (o.k + 1 + i)) (S.W (o.k + 1 + i)) hmo (by omega) (by omega) (by omega) (by omega) (hW _)
    rw [show ((65536 + (o.k + 1 + i) : Nat) : Int) = 65536 + ((o.k + 1 + i : Nat) : Int) by omega] at this
    refine this.mono ?_
    rintro e w' ⟨he, h10, h11⟩
    have hx : (xt + (i + (65536 + (o.k + 1 + i)) + S.W (o.k + 1 + i)) % 18446744073709551616) % 18446744073709551616 = efT S.W (o.k + 1) (i + 1) := by rw [k2]; rfl
    rw [hx] at h10
    have hall : ∀ j, j < i + 1 → rfOk ((S.W (o.k + 1 + j) : Nat) : Int) := by
      intro j hj
      by_cases ej : j = i
      · rw [ej]; exact hrf
      · exact k4 j (by omega)
    refine ⟨_, he, fun ht => ⟨by omega, _, _, h10, by omega, rfl, .inr (by have := of_decide_eq_true ht; omega), hall⟩, fun hf => ⟨_, _, h10, ?_⟩, h11⟩
    have hnm := of_decide_eq_false hf
    have : visN o.rf b.toNat = i + 1 := by unfold visN; omega
    refine ⟨by omega, by rw [this], by rw [this]; exact hall⟩
  · rintro e w' ⟨cq, he, h1⟩
    obtain ⟨h2, h3⟩ := h1.out
    rcases h2 with ⟨k1, k2, _, xv, xt, k3, k4⟩ | ⟨k0, k1, i, i1, ⟨_, xv, xt, k3, k4⟩, k5⟩ | ⟨k0, k1, ⟨_, xv, xt, k3, k4⟩ | ⟨xv, xt, k3, k4⟩⟩
    · exact ⟨cq, he, _, _, hid ⟨k3.am, k3.v, k3.t, h3, rd45 h0 hoo (.inl ⟨k1, k2⟩)⟩⟩
    · exact ⟨cq, he, _, _, hid ⟨k3.am, k3.v, k3.t, h3, rd45 h0 hoo (.inr (.inl ⟨k1, i, i1, k4, k5⟩))⟩⟩
    · exact ⟨cq, he, _, _, hid ⟨k3.am, k3.v, k3.t, h3, rd45 h0 hoo (.inr (.inr ⟨k1, .inl k4⟩))⟩⟩
    · exact ⟨cq, he, _, _, hid ⟨k3.am, k3.v, k3.t, h3, rd45 h0 hoo (.inr (.inr ⟨k1, .inr k4⟩))⟩⟩
end
end Go.Proofs.Qxb6500887aGreat
