/- View.Same (written by tools/mk_msame.py). -/
import Derived.Test.Qxb6500892aDoorTqM8
namespace Go.Proofs.Qxb6500892aDoor
open Go.RowKit
set_option linter.unusedSimpArgs false
set_option linter.unusedVariables false

/-- The two views in their boxes. -/
structure VS (w0 : World) (q p : Nat) (V W : List Value) (w : World) : Prop where
  bel : Below w0.heap.size w0 w
  qb : Blk w q 41 V
  pk : Blk w p 41 W
theorem VS.drewN {w0 : World} {q p : Nat} {V W : List Value} {w : World} (h : VS w0 q p V W w) (n : Nat) : VS w0 q p V W (w.drewN n) := ⟨h.bel.trans (Drew.below ⟨n, rfl⟩ _), h.qb, h.pk⟩
set_option maxRecDepth 100000 in
set_option maxHeartbeats 4000000 in
theorem same_walk {w : World} {a1 a2 a3 b1 b2 b3 : Option Addr} {n1 c1 n2 c2 n3 c3 d1 d2 d3 : Nat} {V1 V2 : List TEnt} {K : List Nat} (hr1 : RowOf w 4 entC a1 n1 c1 V1) (hs1 : RowOf w 4 entC b1 n1 d1 V1) (hr2 : RowOf w 4 entC a2 n2 c2 V2) (hs2 : RowOf w 4 entC b2 n2 d2 V2) (hr3 : RowOf w 1 keyC a3 n3 c3 K) (hs3 : RowOf w 1 keyC b3 n3 d3 K) (hn1 : n1 ≤ 131072) (hn2 : n2 ≤ 131072) (hn3 : n3 ≤ 131072) :
    Calls Tryd.prog 13 #[.agg #[.slice a1 n1 c1, .slice a2 n2 c2, .slice a3 n3 c3], .agg #[.slice b1 n1 d1, .slice b2 n2 d2, .slice b3 n3 d3]] w fun y w' => y = .returned (.bool true) ∧ Below w.heap.size w w' := by
  have HR1 := hid (And.intro hr1 hs1)
  have HR2 := hid (And.intro hr2 hs2)
  have HR3 := hid (And.intro hr3 hs3)
  clear hr1 hs1 hr2 hs2 hr3 hs3
  obtain ⟨q, hq⟩ : ∃ p, w.heap.size = p := ⟨_, rfl⟩
  obtain ⟨p, hp⟩ : ∃ p, q + 1 = p := ⟨_, rfl⟩
  go_enter Tryd.func13, Tryd.ntmps13
  go_upto_region 1 with fail
  obtain ⟨w2, hw2⟩ : ∃ w2, (w.alloc (.cells #[.slice a1 n1 c1, .slice a2 n2 c2, .slice a3 n3 c3] 41)).alloc (.cells #[.slice b1 n1 d1, .slice b2 n2 d2, .slice b3 n3 d3] 41) = w2 := ⟨_, rfl⟩
  have HX0 : Hid (VS w q p [.slice a1 n1 c1, .slice a2 n2 c2, .slice a3 n3 c3] [.slice b1 n1 d1, .slice b2 n2 d2, .slice b3 n3 d3] w2) := hid (by
    have s1 : ∀ (x : World) (o : Obj), (x.alloc o).heap.size = x.heap.size + 1 := fun x o => by simp
    have hb : Below w.heap.size w w2 := by rw [← hw2]; exact ((Below.refl _ w).alloc (Nat.le_refl _) _).alloc (by rw [s1]; omega) _
    have k1 := (Blk.new w [.slice a1 n1 c1, .slice a2 n2 c2, .slice a3 n3 c3] 41).alloc (.cells #[.slice b1 n1 d1, .slice b2 n2 d2, .slice b3 n3 d3] 41)
    have k2 := Blk.new (w.alloc (.cells #[.slice a1 n1 c1, .slice a2 n2 c2, .slice a3 n3 c3] 41)) [.slice b1 n1 d1, .slice b2 n2 d2, .slice b3 n3 d3] 41
    rw [s1, hq, hp] at k2
    rw [hq] at k1
    rw [← hw2] at *
    exact ⟨hb, k1, k2⟩)
  try simp only [hw2, hp]
  clear hw2 hp hq
  have v0 : w2.cell? ⟨q, 0, none⟩ = some (.slice a1 n1 c1) := HX0.out.qb.cell 0
  have v1 : w2.cell? ⟨q, 1, none⟩ = some (.slice a2 n2 c2) := HX0.out.qb.cell 1
  have v2 : w2.cell? ⟨q, 2, none⟩ = some (.slice a3 n3 c3) := HX0.out.qb.cell 2
  have u0 : w2.cell? ⟨p, 0, none⟩ = some (.slice b1 n1 d1) := HX0.out.pk.cell 0
  have u1 : w2.cell? ⟨p, 1, none⟩ = some (.slice b2 n2 d2) := HX0.out.pk.cell 1
  have u2 : w2.cell? ⟨p, 2, none⟩ = some (.slice b3 n3 d3) := HX0.out.pk.cell 2
  have e1 : ((n1 : Int) != (n1 : Int)) = false := by rw [key_bneI]; simp
  have e2 : ((n2 : Int) != (n2 : Int)) = false := by rw [key_bneI]; simp
  have e3 : ((n3 : Int) != (n3 : Int)) = false := by rw [key_bneI]; simp
  go_upto_region 4 with fail
  clear v0 v1 v2 u0 u1 u2 e1 e2 e3
  go_loopw [36] (fun v wr => ∃ i : Nat, i ≤ n1 ∧ v = .int .i64 (i : Int) ∧ Hid (VS w q p [.slice a1 n1 c1, .slice a2 n2 c2, .slice a3 n3 c3] [.slice b1 n1 d1, .slice b2 n2 d2, .slice b3 n3 d3] wr)) (fun v _ => n1 - (intOf v).toNat)
  case atStart => exact ⟨0, by omega, rfl, HX0⟩
  case round =>
  clear HX0
  obtain ⟨i, hi, rfl, HX⟩ := hrel
  by_cases hin : i < n1
  · as_aux_lemma =>
    have di : decide ((i : Int) < (n1 : Int)) = true := decide_eq_true (by omega)
    have hii : (i : Int) < (n1 : Int) := by omega
    obtain ⟨t, b, off, ht, rfl, q0, q1, q2, q3⟩ := rowE_at (HR1.out.1.below HX.out.bel) hin
    obtain ⟨t', b', off', ht', rfl, r0, r1, r2, r3⟩ := rowE_at (HR1.out.2.below HX.out.bel) hin
    have htt : t' = t := by rw [ht] at ht'; exact (Option.some.inj ht').symm
    subst htt
    have hne := fun wz => neq_ent t' wz
    clear ht ht'
    have p0 : ∀ nn, (wr.drewN nn).cell? ⟨b, off + i * 4, none⟩ = some (.int .i64 t'.slot) := fun nn => q0
    have p1 : ∀ nn, (wr.drewN nn).cell? ⟨b, off + i * 4 + 1, none⟩ = some (.int .u64 t'.key) := fun nn => q1
    have p2 : ∀ nn, (wr.drewN nn).cell? ⟨b, off + i * 4 + 2, none⟩ = some (.int .i64 t'.pins) := fun nn => q2
    have p3 : ∀ nn, (wr.drewN nn).cell? ⟨b, off + i * 4 + 3, none⟩ = some (.bool t'.neg) := fun nn => q3
    have s0 : ∀ nn, (wr.drewN nn).cell? ⟨b', off' + i * 4, none⟩ = some (.int .i64 t'.slot) := fun nn => r0
    have s1 : ∀ nn, (wr.drewN nn).cell? ⟨b', off' + i * 4 + 1, none⟩ = some (.int .u64 t'.key) := fun nn => r1
    have s2 : ∀ nn, (wr.drewN nn).cell? ⟨b', off' + i * 4 + 2, none⟩ = some (.int .i64 t'.pins) := fun nn => r2
    have s3 : ∀ nn, (wr.drewN nn).cell? ⟨b', off' + i * 4 + 3, none⟩ = some (.bool t'.neg) := fun nn => r3
    have t0 : ∀ nn, (wr.drewN nn).cell? ⟨q, 0, none⟩ = some (.slice (some ⟨b, off, none⟩) n1 c1) := fun nn => HX.out.qb.cell 0
    have t1 : ∀ nn, (wr.drewN nn).cell? ⟨p, 0, none⟩ = some (.slice (some ⟨b', off', none⟩) n1 d1) := fun nn => HX.out.pk.cell 0
    clear q0 q1 q2 q3 r0 r1 r2 r3
    have HF : Hid (∀ nn, VS w q p [.slice (some ⟨b, off, none⟩) n1 c1, .slice a2 n2 c2, .slice a3 n3 c3] [.slice (some ⟨b', off', none⟩) n1 d1, .slice b2 n2 d2, .slice b3 n3 d3] (wr.drewN nn)) := hid (fun nn => HX.out.drewN nn)
    clear HX
    go_upto_region 6 with fail
    go_quiet (fail)
    go_wp2
    exact ⟨⟨i + 1, by omega, by go_num, hid (HF.out _)⟩, by simp [intOf]; omega⟩
  as_aux_lemma =>
  have di : decide ((i : Int) < (n1 : Int)) = false := decide_eq_false (by omega)
  obtain ⟨w3, hw3⟩ : ∃ wa, wa = wr := ⟨_, rfl⟩
  subst hw3
  have HY1 := hid HX.out
  have v0 : w3.cell? ⟨q, 1, none⟩ = some (.slice a2 n2 c2) := HX.out.qb.cell 1
  clear HX
  go_upto_region 10 with fail
  clear v0 di hin hi
  go_loopw [54] (fun v wr => ∃ i : Nat, i ≤ n2 ∧ v = .int .i64 (i : Int) ∧ Hid (VS w q p [.slice a1 n1 c1, .slice a2 n2 c2, .slice a3 n3 c3] [.slice b1 n1 d1, .slice b2 n2 d2, .slice b3 n3 d3] wr)) (fun v _ => n2 - (intOf v).toNat)
  case atStart => exact ⟨0, by omega, rfl, HY1⟩
  case round =>
  clear HY1
  obtain ⟨i, hi, rfl, HX⟩ := hrel
  by_cases hin : i < n2
  · as_aux_lemma =>
    have di : decide ((i : Int) < (n2 : Int)) = true := decide_eq_true (by omega)
    have hii : (i : Int) < (n2 : Int) := by omega
    obtain ⟨t, b, off, ht, rfl, q0, q1, q2, q3⟩ := rowE_at (HR2.out.1.below HX.out.bel) hin
    obtain ⟨t', b', off', ht', rfl, r0, r1, r2, r3⟩ := rowE_at (HR2.out.2.below HX.out.bel) hin
    have htt : t' = t := by rw [ht] at ht'; exact (Option.some.inj ht').symm
    subst htt
    have hne := fun wz => neq_ent t' wz
    clear ht ht'
    have p0 : ∀ nn, (wr.drewN nn).cell? ⟨b, off + i * 4, none⟩ = some (.int .i64 t'.slot) := fun nn => q0
    have p1 : ∀ nn, (wr.drewN nn).cell? ⟨b, off + i * 4 + 1, none⟩ = some (.int .u64 t'.key) := fun nn => q1
    have p2 : ∀ nn, (wr.drewN nn).cell? ⟨b, off + i * 4 + 2, none⟩ = some (.int .i64 t'.pins) := fun nn => q2
    have p3 : ∀ nn, (wr.drewN nn).cell? ⟨b, off + i * 4 + 3, none⟩ = some (.bool t'.neg) := fun nn => q3
    have s0 : ∀ nn, (wr.drewN nn).cell? ⟨b', off' + i * 4, none⟩ = some (.int .i64 t'.slot) := fun nn => r0
    have s1 : ∀ nn, (wr.drewN nn).cell? ⟨b', off' + i * 4 + 1, none⟩ = some (.int .u64 t'.key) := fun nn => r1
    have s2 : ∀ nn, (wr.drewN nn).cell? ⟨b', off' + i * 4 + 2, none⟩ = some (.int .i64 t'.pins) := fun nn => r2
    have s3 : ∀ nn, (wr.drewN nn).cell? ⟨b', off' + i * 4 + 3, none⟩ = some (.bool t'.neg) := fun nn => r3
    have t0 : ∀ nn, (wr.drewN nn).cell? ⟨q, 1, none⟩ = some (.slice (some ⟨b, off, none⟩) n2 c2) := fun nn => HX.out.qb.cell 1
    have t1 : ∀ nn, (wr.drewN nn).cell? ⟨p, 1, none⟩ = some (.slice (some ⟨b', off', none⟩) n2 d2) := fun nn => HX.out.pk.cell 1
    clear q0 q1 q2 q3 r0 r1 r2 r3
    have HF : Hid (∀ nn, VS w q p [.slice a1 n1 c1, .slice (some ⟨b, off, none⟩) n2 c2, .slice a3 n3 c3] [.slice b1 n1 d1, .slice (some ⟨b', off', none⟩) n2 d2, .slice b3 n3 d3] (wr.drewN nn)) := hid (fun nn => HX.out.drewN nn)
    clear HX
    go_upto_region 12 with fail
    go_quiet (fail)
    go_wp2
    exact ⟨⟨i + 1, by omega, by go_num, hid (HF.out _)⟩, by simp [intOf]; omega⟩
  as_aux_lemma =>
  have di : decide ((i : Int) < (n2 : Int)) = false := decide_eq_false (by omega)
  obtain ⟨w4, hw4⟩ : ∃ wa, wa = wr := ⟨_, rfl⟩
  subst hw4
  have HY2 := hid HX.out
  have v0 : w4.cell? ⟨q, 2, none⟩ = some (.slice a3 n3 c3) := HX.out.qb.cell 2
  clear HX
  go_upto_region 16 with fail
  clear v0 di hin hi
  go_loopw [72] (fun v wr => ∃ i : Nat, i ≤ n3 ∧ v = .int .i64 (i : Int) ∧ Hid (VS w q p [.slice a1 n1 c1, .slice a2 n2 c2, .slice a3 n3 c3] [.slice b1 n1 d1, .slice b2 n2 d2, .slice b3 n3 d3] wr)) (fun v _ => n3 - (intOf v).toNat)
  case atStart => exact ⟨0, by omega, rfl, HY2⟩
  case round =>
  clear HY2
  obtain ⟨i, hi, rfl, HX⟩ := hrel
  by_cases hin : i < n3
  · as_aux_lemma =>
    have di : decide ((i : Int) < (n3 : Int)) = true := decide_eq_true (by omega)
    have hii : (i : Int) < (n3 : Int) := by omega
    obtain ⟨y, hy, b, off, rfl, hb, hc⟩ := (HR3.out.1.below HX.out.bel).cell hin
    obtain ⟨y', hy', b', off', rfl, hb', hc'⟩ := (HR3.out.2.below HX.out.bel).cell hin
    have htt : y' = y := by rw [hy] at hy'; exact (Option.some.inj hy').symm
    subst htt
    have q0 : wr.cell? ⟨b, off + i, none⟩ = some (.int .u64 (y' : Int)) := by simpa [keyC] using hc 0 (by omega)
    have r0 : wr.cell? ⟨b', off' + i, none⟩ = some (.int .u64 (y' : Int)) := by simpa [keyC] using hc' 0 (by omega)
    have hne : ((y' : Int) != (y' : Int)) = false := by rw [key_bneI]; simp
    clear hy hy' hb hb' hc hc'
    have p0 : ∀ nn, (wr.drewN nn).cell? ⟨b, off + i, none⟩ = some (.int .u64 (y' : Int)) := fun nn => q0
    have s0 : ∀ nn, (wr.drewN nn).cell? ⟨b', off' + i, none⟩ = some (.int .u64 (y' : Int)) := fun nn => r0
    have t0 : ∀ nn, (wr.drewN nn).cell? ⟨q, 2, none⟩ = some (.slice (some ⟨b, off, none⟩) n3 c3) := fun nn => HX.out.qb.cell 2
    have t1 : ∀ nn, (wr.drewN nn).cell? ⟨p, 2, none⟩ = some (.slice (some ⟨b', off', none⟩) n3 d3) := fun nn => HX.out.pk.cell 2
    clear q0 r0
    have HF : Hid (∀ nn, VS w q p [.slice a1 n1 c1, .slice a2 n2 c2, .slice (some ⟨b, off, none⟩) n3 c3] [.slice b1 n1 d1, .slice b2 n2 d2, .slice (some ⟨b', off', none⟩) n3 d3] (wr.drewN nn)) := hid (fun nn => HX.out.drewN nn)
    clear HX
    go_upto_region 18 with fail
    go_quiet (fail)
    go_wp2
    exact ⟨⟨i + 1, by omega, by go_num, hid (HF.out _)⟩, by simp [intOf]; omega⟩
  as_aux_lemma =>
  have di : decide ((i : Int) < (n3 : Int)) = false := decide_eq_false (by omega)
  have HF := hid HX.out.bel
  clear HX
  go_wp2
  go_ret
  exact ⟨rfl, HF.out⟩
end Go.Proofs.Qxb6500892aDoor
