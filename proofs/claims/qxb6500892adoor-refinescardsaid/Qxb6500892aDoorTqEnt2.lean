/- enter, leave, pageOut: the walks. -/
import Derived.Test.Qxb6500892aDoorTqEnt
namespace Go.Proofs.Qxb6500892aDoor
open Go.RowKit
set_option linter.unusedSimpArgs false
set_option linter.unusedVariables false

section
variable {e gn gb : Nat} {w0 : World} {s : ES} {L C : Nat → List Nat} {w : World}
set_option maxRecDepth 100000 in
set_option maxHeartbeats 1000000 in
theorem enter_ee (h : EE e gn gb w0 s L C w) {i k q : Nat} {B : Bool} (hi : i < s.slots) (hw : s.whr i = 0) (hq : q = 1 ∨ q = 2) (hB : B = true → q = 1) (hk : ∀ j, Hs s j → s.key j ≠ k) :
    Calls Tryd.prog 44 #[.pointer (some ⟨e, 0, none⟩), .int .i64 (i : Int), .int .u64 (k : Int), .bool B, .int .u8 (q : Int)] w fun x w' => x = .returned (.tuple #[]) ∧ ∃ s' L' C', EE e gn gb w0 s' L' C' w' ∧ EntS i k B q s L s' L' := by
  have HE := hid h
  have hin : i < s.n := by rw [h.ei.nn]; omega
  have hii : (i : Int) < (s.n : Int) := by omega
  have hib : i < 65536 := by have := h.ei.s1; omega
  have h32 : wrap32 (i : Int) = (i : Int) := by unfold wrap32; omega
  have h32b : IntKind.i32.wrap (i : Int) = (i : Int) := by rw [IntKind.wrap_i32]; omega
  have hnh : ¬ Hs s i := fun hh => by unfold Hs at hh; omega
  have e4 : w.cell? ⟨e, 4, none⟩ = some (.slice (some ⟨gn, 0, none⟩) s.n s.n) := h.em.nds
  have E1 := h.em.setKey hin k
  have E2 := E1.setNeg hin B
  have E3 : EM e gn gb { s with key := upd s.key i k, neg := upd s.neg i B, pin := upd s.pin i 0 } (((w.setCell ⟨gn, i * 7 + 4, none⟩ (.int .u64 (k : Int))).setCell ⟨gn, i * 7 + 6, none⟩ (.bool B)).setCell ⟨gn, i * 7 + 3, none⟩ (.int .i32 0)) := E2.setPin hin 0
  have a1 := h.em.key hin
  have b1 := h.em.nb.frozen (i * 7 + 4)
  have a2 := E1.neg hin
  have b2 := E1.nb.frozen (i * 7 + 6)
  have a3 := E2.pin hin
  have b3 := E2.nb.frozen (i * 7 + 3)
  have HS1 : Hid (SI e gn gb w0 { s with key := upd s.key i k, neg := upd s.neg i B, pin := upd s.pin i 0 } L C (Hs s) (((w.setCell ⟨gn, i * 7 + 4, none⟩ (.int .u64 (k : Int))).setCell ⟨gn, i * 7 + 6, none⟩ (.bool B)).setCell ⟨gn, i * 7 + 3, none⟩ (.int .i32 0))) := hid ⟨E3, ((h.u3.trans (U3.set gn _ _ (.inr (.inl rfl)))).trans (U3.set gn _ _ (.inr (.inl rfl)))).trans (U3.set gn _ _ (.inr (.inl rfl))), h.ei.q.of rfl rfl rfl rfl rfl rfl rfl, h.ei.c.of rfl rfl rfl rfl rfl (fun j hj => upd_ne _ _ (fun e1 => hnh (e1 ▸ hj)))⟩
  have Hw := hid hw
  have Hk := hid hk
  have HBq := hid hB
  have Hq := hid hq
  have hq5 : q < 5 := by omega
  clear E1 E2 E3 h hw hk hB hq
  go_enter Tryd.func44, Tryd.ntmps44
  go_upto_region 2 with fail
  generalize ((w.setCell ⟨gn, i * 7 + 4, none⟩ (.int .u64 (k : Int))).setCell ⟨gn, i * 7 + 6, none⟩ (.bool B)).setCell ⟨gn, i * 7 + 3, none⟩ (.int .i32 0) = w1 at HS1 ⊢
  clear e4 a1 b1 a2 b2 a3 b3
  obtain ⟨z, hz⟩ : ∃ z, s.negs = z := ⟨_, rfl⟩
  have Hz := hid hz
  have hzb : 0 ≤ z ∧ z ≤ 1000000 := by
    rw [← hz, HE.out.ei.negs]
    have h1 := List.countP_le_length (p := s.neg) (l := L 1)
    have h2 := HE.out.ei.q.len (q := 1) (by omega)
    have h3 := HE.out.ei.q.nb
    omega
  have hz1 := hzb.1
  have hz2 := hzb.2
  have c1 : w1.cell? ⟨e, 22, none⟩ = some (.int .i64 z) := by rw [← hz]; exact HS1.out.em.negs
  clear hz hzb
  have HCt : Hid (∀ (s2 : ES) (w2 : World), SI e gn gb w0 s2 L C (Hs s) w2 → s2.n = s.n → s2.whr = s.whr → (∀ (s3 : ES), Fx s2 s3 → s3.whr = upd s2.whr i q → ∀ L3, L3 = upd L q (i :: L q) → EntS i k B q s L s3 L3) → Calls Tryd.prog 62 #[.pointer (some ⟨e, 0, none⟩), .int .i32 (i : Int)] w2 fun x w3 => x = .returned (.tuple #[]) ∧ Hid (Calls Tryd.prog 40 #[.pointer (some ⟨e, 0, none⟩), .int .u8 (q : Int), .int .i32 (i : Int)] w3 fun x w' => x = .returned (.tuple #[]) ∧ Hid (∃ s' L' C', EE e gn gb w0 s' L' C' w' ∧ EntS i k B q s L s' L'))) := hid (fun s2 w2 hS hn2 hr2 hfin => by
    refine (hashIn_si hS (i := i) (by rw [hn2]; exact hin) hnh).mono ?_
    rintro x w3 ⟨rfl, s3, C3, h3, f3, r3⟩
    refine ⟨rfl, hid ?_⟩
    refine (pushHead_si h3 (q := q) (i := i) hq5 (by have := Hq.out; omega) (by rw [f3.n, hn2]; exact hin) (by rw [r3, hr2]; exact Hw.out)).mono ?_
    rintro x w4 ⟨rfl, s4, h4, f4, r4⟩
    have hEn := hfin s4 (f3.trans f4) (by rw [r4, r3]) _ rfl
    exact ⟨rfl, hid ⟨s4, _, C3, ⟨h4.em, h4.u3, HE.out.ei.enter hi Hw.out Hq.out HBq.out Hk.out hEn h4.q h4.c⟩, hEn⟩⟩)
  cases B with
  | true =>
    as_aux_lemma =>
    have fz := HS1.out.em.eb.frozen 22
    have HS2 : Hid (SI e gn gb w0 { s with key := upd s.key i k, neg := upd s.neg i true, pin := upd s.pin i 0, negs := z + 1 } L C (Hs s) (w1.setCell ⟨e, 22, none⟩ (.int .i64 (z + 1)))) := hid ⟨HS1.out.em.setNegs (z + 1), HS1.out.u3.trans (U3.set e _ _ (.inl rfl)), HS1.out.q.of rfl rfl rfl rfl rfl rfl rfl, HS1.out.c.of rfl rfl rfl rfl rfl (fun _ _ => rfl)⟩
    go_upto_region 4 with fail
    generalize w1.setCell ⟨e, 22, none⟩ (.int .i64 (z + 1)) = w2 at HS2 ⊢
    have HC2 := hid (HCt.out _ w2 HS2.out rfl rfl (fun s3 f3 r3 L3 e3 => ⟨⟨f3.n, f3.m, f3.slots, f3.kin, f3.kout, f3.kneg, f3.shift⟩, r3, f3.key, f3.neg, f3.pin, by rw [f3.negs]; show z + 1 = _; rw [Hz.out, if_pos rfl], f3.pinned, e3⟩))
    clear HCt fz c1
    go_wp2_with fail
    refine HC2.out.mono ?_
    rintro x w3 ⟨rfl, HP⟩
    go_wp2_with fail
    refine HP.out.mono ?_
    rintro x w4 ⟨rfl, HG⟩
    go_wp2
    refine bodyPost_end (results_none Tryd.results44 _ _ _) rfl ?_
    exact ⟨rfl, HG.out⟩
  | false =>
    as_aux_lemma =>
    have HC2 := hid (HCt.out _ w1 HS1.out rfl rfl (fun s3 f3 r3 L3 e3 => ⟨⟨f3.n, f3.m, f3.slots, f3.kin, f3.kout, f3.kneg, f3.shift⟩, r3, f3.key, f3.neg, f3.pin, by rw [f3.negs]; show s.negs = _; rw [if_neg (by decide)]; omega, f3.pinned, e3⟩))
    clear HCt c1
    go_wp2_with fail
    refine HC2.out.mono ?_
    rintro x w3 ⟨rfl, HP⟩
    go_wp2_with fail
    refine HP.out.mono ?_
    rintro x w4 ⟨rfl, HG⟩
    go_wp2
    refine bodyPost_end (results_none Tryd.results44 _ _ _) rfl ?_
    exact ⟨rfl, HG.out⟩
set_option maxRecDepth 100000 in
set_option maxHeartbeats 1000000 in
theorem leave_ee (h : EE e gn gb w0 s L C w) {i : Nat} (hi : i < s.slots) (hw : s.whr i = 1 ∨ s.whr i = 2) (hp : s.pin i = 0) :
    Calls Tryd.prog 47 #[.pointer (some ⟨e, 0, none⟩), .int .i64 (i : Int)] w fun x w' => x = .returned (.tuple #[]) ∧ ∃ s' L' C', EE e gn gb w0 s' L' C' w' ∧ LeaS i s L s' L' := by
  have HE := hid h
  have hin : i < s.n := by rw [h.ei.nn]; omega
  have hii : (i : Int) < (s.n : Int) := by omega
  have hib : i < 65536 := by have := h.ei.s1; omega
  have h32 : wrap32 (i : Int) = (i : Int) := by unfold wrap32; omega
  have h32b : IntKind.i32.wrap (i : Int) = (i : Int) := by rw [IntKind.wrap_i32]; omega
  have hh : Hs s i := ⟨hin, by omega⟩
  have e4 : w.cell? ⟨e, 4, none⟩ = some (.slice (some ⟨gn, 0, none⟩) s.n s.n) := h.em.nds
  obtain ⟨B, hB⟩ : ∃ B, s.neg i = B := ⟨_, rfl⟩
  have a1 : w.cell? ⟨gn, i * 7 + 6, none⟩ = some (.bool B) := by rw [h.em.neg hin, hB]
  obtain ⟨z, hz⟩ : ∃ z, s.negs = z := ⟨_, rfl⟩
  have hzb : 0 ≤ z ∧ z ≤ 1000000 := by
    rw [← hz, h.ei.negs]
    have h1 := List.countP_le_length (p := s.neg) (l := L 1)
    have h2 := h.ei.q.len (q := 1) (by omega)
    have h3 := h.ei.q.nb
    omega
  have hz1 := hzb.1
  have hz2 := hzb.2
  have c1 : w.cell? ⟨e, 22, none⟩ = some (.int .i64 z) := by rw [← hz]; exact h.em.negs
  have fz := h.em.eb.frozen 22
  have Hz := hid hz
  have HBv := hid hB
  have Hw := hid hw
  have Hp := hid hp
  clear h hz hzb hB hw hp
  have HCt : Hid (∀ (s2 : ES) (w2 : World), SI e gn gb w0 s2 L C (Hs s) w2 → Cf s s2 → s2.whr = s.whr → s2.key = s.key → s2.neg = s.neg → s2.pin = s.pin → s2.pinned = s.pinned → s2.negs = s.negs - (if s.neg i = true then 1 else 0) → Calls Tryd.prog 61 #[.pointer (some ⟨e, 0, none⟩), .int .i32 (i : Int)] w2 fun x w3 => x = .returned (.tuple #[]) ∧ Hid (Calls Tryd.prog 45 #[.pointer (some ⟨e, 0, none⟩), .int .i32 (i : Int)] w3 fun x w' => x = .returned (.tuple #[]) ∧ Hid (∃ s4 C4, SI e gn gb w0 s4 (upd L (s.whr i) ((L (s.whr i)).erase i)) C4 (fun j => Hs s j ∧ j ≠ i) w' ∧ Cf s s4 ∧ s4.whr = upd s.whr i 0 ∧ s4.key = s.key ∧ s4.neg = s.neg ∧ s4.pin = s.pin ∧ s4.pinned = s.pinned ∧ s4.negs = s.negs - (if s.neg i = true then 1 else 0)))) := hid (fun s2 w2 hS hcf hr hky hng hpn hpd hngs => by
    refine (hashOut_si hS (i := i) (by rw [hcf.n]; exact hin) hh).mono ?_
    rintro x w3 ⟨rfl, s3, C3, h3, f3, r3⟩
    refine ⟨rfl, hid ?_⟩
    have hw := Hw.out
    refine (unlink_si h3 (q := s.whr i) (i := i) (by omega) (by omega) (by rw [f3.n, hcf.n]; exact hin) (by rw [r3, hr])).mono ?_
    rintro x w4 ⟨rfl, s4, h4, f4, r4⟩
    have ff := f3.trans f4
    exact ⟨rfl, hid ⟨s4, C3, h4, hcf.trans ff.cf, by rw [r4, r3, hr], by rw [ff.key, hky], by rw [ff.neg, hng], by rw [ff.pin, hpn], by rw [ff.pinned, hpd], by rw [ff.negs, hngs]⟩⟩)
  go_enter Tryd.func47, Tryd.ntmps47
  go_upto_if 11 with fail
  go_cut [] from 12 to 18 (fun wc => Hid (∃ s2, SI e gn gb w0 s2 L C (Hs s) wc ∧ Cf s s2 ∧ s2.whr = s.whr ∧ s2.key = s.key ∧ s2.neg = s.neg ∧ s2.pin = s.pin ∧ s2.pinned = s.pinned ∧ s2.negs = s.negs - (if s.neg i = true then 1 else 0)))
  case first =>
    as_aux_lemma =>
    cases B with
    | true =>
      have HG : Hid (∃ s2, SI e gn gb w0 s2 L C (Hs s) (w.setCell ⟨e, 22, none⟩ (.int .i64 (z - 1))) ∧ Cf s s2 ∧ s2.whr = s.whr ∧ s2.key = s.key ∧ s2.neg = s.neg ∧ s2.pin = s.pin ∧ s2.pinned = s.pinned ∧ s2.negs = s.negs - (if s.neg i = true then 1 else 0)) := hid ⟨{ s with negs := z - 1 }, ⟨HE.out.em.setNegs (z - 1), HE.out.u3.trans (U3.set e _ _ (.inl rfl)), HE.out.ei.q.of rfl rfl rfl rfl rfl rfl rfl, HE.out.ei.c.of rfl rfl rfl rfl rfl (fun _ _ => rfl)⟩, ⟨rfl, rfl, rfl, rfl, rfl, rfl, rfl⟩, rfl, rfl, rfl, rfl, rfl, by show z - 1 = _; rw [HBv.out, if_pos rfl, Hz.out]⟩
      go_wp2
      go_meet
      case rel => exact HG
    | false =>
      have HG : Hid (∃ s2, SI e gn gb w0 s2 L C (Hs s) w ∧ Cf s s2 ∧ s2.whr = s.whr ∧ s2.key = s.key ∧ s2.neg = s.neg ∧ s2.pin = s.pin ∧ s2.pinned = s.pinned ∧ s2.negs = s.negs - (if s.neg i = true then 1 else 0)) := hid ⟨s, HE.out.si, Cf.refl s, rfl, rfl, rfl, rfl, rfl, by rw [HBv.out, if_neg (by decide)]; omega⟩
      go_wp2
      go_meet
      case rel => exact HG
  case rest =>
  as_aux_lemma =>
  obtain ⟨s2, h2, g1, g2, g3, g4, g5, g6, g7⟩ := hcut.out
  have HC2 := hid (HCt.out s2 wc h2 g1 g2 g3 g4 g5 g6 g7)
  clear hcut h2 g1 g2 g3 g4 g5 g6 g7 HCt e4 a1 c1 fz
  go_wp2_with fail
  refine HC2.out.mono ?_
  rintro x w3 ⟨rfl, HP⟩
  go_wp2_with fail
  refine HP.out.mono ?_
  rintro x w4 ⟨rfl, HG⟩
  clear HC2 HP
  obtain ⟨s4, C4, h4, g1, g2, g3, g4, g5, g6, g7⟩ := HG.out
  have hin4 : i < s4.n := by rw [g1.n]; exact hin
  have hn4 : s4.n = s.n := g1.n
  have t0 : w4.cell? ⟨e, 4, none⟩ = some (.slice (some ⟨gn, 0, none⟩) s.n s.n) := by rw [h4.em.nds, g1.n]
  have a1 := h4.em.key hin4
  have b1 := h4.em.nb.frozen (i * 7 + 4)
  have a2 := h4.em.neg hin4
  have b2 := h4.em.nb.frozen (i * 7 + 6)
  have E1 : EM e gn gb { s4 with key := upd s4.key i 0 } (w4.setCell ⟨gn, i * 7 + 4, none⟩ (.int .u64 0)) := h4.em.setKey hin4 0
  have t1 : (w4.setCell ⟨gn, i * 7 + 4, none⟩ (.int .u64 0)).cell? ⟨e, 4, none⟩ = some (.slice (some ⟨gn, 0, none⟩) s.n s.n) := by rw [E1.nds]; show some (Value.slice _ s4.n s4.n) = _; rw [g1.n]
  have a3 : (w4.setCell ⟨gn, i * 7 + 4, none⟩ (.int .u64 0)).cell? ⟨gn, i * 7 + 6, none⟩ = some (.bool (s4.neg i)) := E1.neg hin4
  have b3 := E1.nb.frozen (i * 7 + 6)
  have E2 := E1.setNeg hin4 false
  have hneq : gn ≠ e := h4.em.nb.tne h4.em.eb (by decide)
  have hneq2 : e ≠ gn := Ne.symm hneq
  have HG2 : Hid (∃ s' L' C', EE e gn gb w0 s' L' C' ((w4.setCell ⟨gn, i * 7 + 4, none⟩ (.int .u64 0)).setCell ⟨gn, i * 7 + 6, none⟩ (.bool false)) ∧ LeaS i s L s' L') := hid (by
    have hS : LeaS i s L { s4 with key := upd s4.key i 0, neg := upd s4.neg i false } (upd L (s.whr i) ((L (s.whr i)).erase i)) := ⟨⟨g1.n, g1.m, g1.slots, g1.kin, g1.kout, g1.kneg, g1.shift⟩, g2, by show upd s4.key i 0 = _; rw [g3], by show upd s4.neg i false = _; rw [g4], g5, g7, g6, rfl⟩
    refine ⟨_, _, C4, ⟨E2, (h4.u3.trans (U3.set gn _ _ (.inr (.inl rfl)))).trans (U3.set gn _ _ (.inr (.inl rfl))), HE.out.ei.leave hi Hw.out Hp.out hS (h4.q.of rfl rfl rfl rfl rfl rfl rfl) (h4.c.of rfl rfl rfl rfl rfl (fun j hj => upd_ne _ _ hj.2))⟩, hS⟩)
  have HG3 : Hid (∃ s' L' C', EE e gn gb w0 s' L' C' ((w4.setCell ⟨gn, i * 7 + 4, none⟩ (.int .u64 0)).setCell ⟨gn, i * 7 + 6, none⟩ (.bool false)).drew ∧ LeaS i s L s' L') := hid (by
    obtain ⟨a, b, c, h1, h2⟩ := HG2.out
    exact ⟨a, b, c, h1.below (Drew.below ⟨1, rfl⟩ _), h2⟩)
  clear E1 E2 h4 HG g1 g2 g3 g4 g5 g6 g7 HG2
  go_upto_region 4 with fail
  go_region
  go_wp2
  refine bodyPost_end (results_none Tryd.results47 _ _ _) rfl ?_
  exact ⟨rfl, HG3.out⟩
/-- What pageOut does. -/
def PgS (i : Nat) (s : ES) (L : Nat → List Nat) (s' : ES) (L' : Nat → List Nat) : Prop := ∃ s1 L1, LeaS i s L s1 L1 ∧ ((s.whr i = 1 ∧ s.neg i = false ∧ Rem (s.key i) s1 L1 s' L') ∨ (¬ (s.whr i = 1 ∧ s.neg i = false) ∧ s' = s1 ∧ L' = L1))
theorem LeaS.fresh (h : EI s L C) {i : Nat} {s1 : ES} {L1 : Nat → List Nat} (hi : i < s.slots) (hw : s.whr i = 1 ∨ s.whr i = 2) (hS : LeaS i s L s1 L1) : ∀ j, Hs s1 j → s1.key j ≠ s.key i := fun j hj e1 => by
  have hji : j ≠ i := fun e2 => by
    subst e2
    unfold Hs at hj
    rw [hS.whr, upd_same] at hj
    omega
  rw [hS.key, upd_ne _ _ hji] at e1
  have hsj : Hs s j := by
    unfold Hs at hj ⊢
    rw [hS.whr, upd_ne _ _ hji, hS.cf.n] at hj
    exact hj
  exact hji (h.uq j i hsj ⟨by rw [h.nn]; omega, by omega⟩ e1)
theorem U3.cell {e gn gb : Nat} {w w' : World} (h : U3 e gn gb w w') {k o : Nat} (hk : k < w.heap.size) (h1 : k ≠ e) (h2 : k ≠ gn) (h3 : k ≠ gb) : w'.cell? ⟨k, o, none⟩ = w.cell? ⟨k, o, none⟩ := by
  simp only [World.cell?, h.block k hk h1 h2 h3]
set_option maxRecDepth 100000 in
set_option maxHeartbeats 1000000 in
theorem pageOut_ee (h : EE e gn gb w0 s L C w) {i : Nat} (hi : i < s.slots) (hw : s.whr i = 1 ∨ s.whr i = 2) (hp : s.pin i = 0) :
    Calls Tryd.prog 48 #[.pointer (some ⟨e, 0, none⟩), .int .i64 (i : Int)] w fun x w' => x = .returned (.tuple #[]) ∧ ∃ s' L' C', EE e gn gb w0 s' L' C' w' ∧ PgS i s L s' L' := by
  have HE := hid h
  have hin : i < s.n := by rw [h.ei.nn]; omega
  have hii : (i : Int) < (s.n : Int) := by omega
  have e4 : w.cell? ⟨e, 4, none⟩ = some (.slice (some ⟨gn, 0, none⟩) s.n s.n) := h.em.nds
  obtain ⟨v0, h0⟩ : ∃ v, s.prv i = v := ⟨_, rfl⟩
  obtain ⟨v1, h1⟩ : ∃ v, s.nxt i = v := ⟨_, rfl⟩
  obtain ⟨v2, h2⟩ : ∃ v, s.chn i = v := ⟨_, rfl⟩
  obtain ⟨v3, h3⟩ : ∃ v, s.pin i = v := ⟨_, rfl⟩
  obtain ⟨v4, h4⟩ : ∃ v, s.key i = v := ⟨_, rfl⟩
  obtain ⟨v5, h5⟩ : ∃ v, s.whr i = v := ⟨_, rfl⟩
  obtain ⟨v6, h6⟩ : ∃ v, s.neg i = v := ⟨_, rfl⟩
  have a0 : w.cell? ⟨gn, i * 7, none⟩ = some (.int .i32 v0) := by rw [h.em.prv hin, h0]
  have a1 : w.cell? ⟨gn, i * 7 + 1, none⟩ = some (.int .i32 v1) := by rw [h.em.nxt hin, h1]
  have a2 : w.cell? ⟨gn, i * 7 + 2, none⟩ = some (.int .i32 v2) := by rw [h.em.chn hin, h2]
  have a3 : w.cell? ⟨gn, i * 7 + 3, none⟩ = some (.int .i32 v3) := by rw [h.em.pin hin, h3]
  have a4 : w.cell? ⟨gn, i * 7 + 4, none⟩ = some (.int .u64 (v4 : Int)) := by rw [h.em.key hin, h4]
  have a5 : w.cell? ⟨gn, i * 7 + 5, none⟩ = some (.int .u8 (v5 : Int)) := by rw [h.em.whr hin, h5]
  have a6 : w.cell? ⟨gn, i * 7 + 6, none⟩ = some (.bool v6) := by rw [h.em.neg hin, h6]
  obtain ⟨nb, hnb⟩ : ∃ nb, w.heap.size = nb := ⟨_, rfl⟩
  have hne : nb ≠ e ∧ nb ≠ gn ∧ nb ≠ gb := by
    have h7 := h.em.eb.lt
    have h8 := h.em.nb.lt
    have h9 := h.em.bb.lt
    omega
  have HB : Hid (EM e gn gb s (w.alloc (.cells #[.int .i32 v0, .int .i32 v1, .int .i32 v2, .int .i32 v3, .int .u64 (v4 : Int), .int .u8 (v5 : Int), .bool v6] 86)) ∧ U3 e gn gb w0 (w.alloc (.cells #[.int .i32 v0, .int .i32 v1, .int .i32 v2, .int .i32 v3, .int .u64 (v4 : Int), .int .u8 (v5 : Int), .bool v6] 86)) ∧ Blk (w.alloc (.cells #[.int .i32 v0, .int .i32 v1, .int .i32 v2, .int .i32 v3, .int .u64 (v4 : Int), .int .u8 (v5 : Int), .bool v6] 86)) nb 86 [.int .i32 v0, .int .i32 v1, .int .i32 v2, .int .i32 v3, .int .u64 (v4 : Int), .int .u8 (v5 : Int), .bool v6]) := hid ⟨h.em.below (nbel w _), h.u3.trans (U3.ofBelow (nbel w _)), by
    have := Blk.new w [.int .i32 v0, .int .i32 v1, .int .i32 v2, .int .i32 v3, .int .u64 (v4 : Int), .int .u8 (v5 : Int), .bool v6] 86
    rw [hnb] at this
    exact this⟩
  have Hne := hid hne
  have H5 := hid h5
  have H6 := hid h6
  have H4 := hid h4
  have Hw := hid hw
  have Hp := hid hp
  clear h h0 h1 h2 h3 h4 h5 h6 hne hw hp
  go_enter Tryd.func48, Tryd.ntmps48
  go_upto_region 1 with fail
  generalize w.alloc (.cells #[.int .i32 v0, .int .i32 v1, .int .i32 v2, .int .i32 v3, .int .u64 (v4 : Int), .int .u8 (v5 : Int), .bool v6] 86) = w1 at HB ⊢
  clear e4 a0 a1 a2 a3 a4 a5 a6 hnb
  have HL := hid (leave_ee (w0 := w1) ⟨HB.out.1, U3.refl e gn gb w1, HE.out.ei⟩ hi Hw.out Hp.out)
  go_wp2_with fail
  refine HL.out.mono ?_
  rintro x w2 ⟨rfl, s2, L2, C2, hE2, hS2⟩
  have hlt := HB.out.2.2.lt
  have b5 : w2.cell? ⟨nb, 5, none⟩ = some (.int .u8 (v5 : Int)) := by rw [hE2.u3.cell hlt Hne.out.1 Hne.out.2.1 Hne.out.2.2]; exact HB.out.2.2.cell 5
  have b6 : w2.cell? ⟨nb, 6, none⟩ = some (.bool v6) := by rw [hE2.u3.cell hlt Hne.out.1 Hne.out.2.1 Hne.out.2.2]; exact HB.out.2.2.cell 6
  have b4 : w2.cell? ⟨nb, 4, none⟩ = some (.int .u64 (v4 : Int)) := by rw [hE2.u3.cell hlt Hne.out.1 Hne.out.2.1 Hne.out.2.2]; exact HB.out.2.2.cell 4
  have HE2 : Hid (EE e gn gb w0 s2 L2 C2 w2 ∧ LeaS i s L s2 L2) := hid ⟨⟨hE2.em, HB.out.2.1.trans hE2.u3, hE2.ei⟩, hS2⟩
  have HFr : Hid (∀ j, Hs s2 j → s2.key j ≠ v4) := hid (by rw [← H4.out]; exact LeaS.fresh HE.out.ei hi Hw.out hS2)
  clear hE2 hS2 HL hlt
  by_cases h1 : v5 = 1
  · cases v6 with
    | false =>
      as_aux_lemma =>
      subst h1
      have b5' : w2.cell? ⟨nb, 5, none⟩ = some (.int .u8 1) := b5
      clear b5
      have HR := hid (remember_ee HE2.out.1 HFr.out)
      go_wp2_with fail
      refine HR.out.mono ?_
      rintro x w3 ⟨rfl, s3, L3, C3, hE3, hS3⟩
      have HG : Hid (∃ s' L' C', EE e gn gb w0 s' L' C' w3 ∧ PgS i s L s' L') := hid ⟨s3, L3, C3, hE3, s2, L2, HE2.out.2, .inl ⟨H5.out, H6.out, by rw [H4.out]; exact hS3⟩⟩
      clear hE3 hS3 HR
      go_wp2
      refine bodyPost_end (results_none Tryd.results48 _ _ _) rfl ?_
      exact ⟨rfl, HG.out⟩
    | true =>
      as_aux_lemma =>
      subst h1
      have b5' : w2.cell? ⟨nb, 5, none⟩ = some (.int .u8 1) := b5
      clear b5
      have HG : Hid (∃ s' L' C', EE e gn gb w0 s' L' C' w2 ∧ PgS i s L s' L') := hid ⟨s2, L2, C2, HE2.out.1, s2, L2, HE2.out.2, .inr ⟨(fun h => by have := H6.out; rw [h.2] at this; cases this), rfl, rfl⟩⟩
      go_wp2
      refine bodyPost_end (results_none Tryd.results48 _ _ _) rfl ?_
      exact ⟨rfl, HG.out⟩
  · as_aux_lemma =>
    have dv : ((v5 : Int) == 1) = false := by rw [beq_eq_false_iff_ne]; omega
    have HG : Hid (∃ s' L' C', EE e gn gb w0 s' L' C' w2 ∧ PgS i s L s' L') := hid ⟨s2, L2, C2, HE2.out.1, s2, L2, HE2.out.2, .inr ⟨fun h => h1 (by rw [← H5.out]; exact h.1), rfl, rfl⟩⟩
    go_wp2
    refine bodyPost_end (results_none Tryd.results48 _ _ _) rfl ?_
    exact ⟨rfl, HG.out⟩
end
end Go.Proofs.Qxb6500892aDoor
