/- Touch, SetNegative, Forget. -/
import Derived.Test.Qxb6500892aDoorTqOp2
namespace Go.Proofs.Qxb6500892aDoor
open Go.RowKit
set_option linter.unusedSimpArgs false
set_option linter.unusedVariables false

/-- The attributes are as they were. -/
structure Sm (s s' : ES) : Prop where
  cf : Cf s s'
  whr : s'.whr = s.whr
  key : s'.key = s.key
  pin : s'.pin = s.pin
  neg : s'.neg = s.neg
  negs : s'.negs = s.negs
  pinned : s'.pinned = s.pinned
theorem Sm.refl (s : ES) : Sm s s := ⟨Cf.refl s, rfl, rfl, rfl, rfl, rfl, rfl⟩
def TouS (i : Nat) (s : ES) (L : Nat → List Nat) (s' : ES) (L' : Nat → List Nat) : Prop := Sm s s' ∧ L' = if s.whr i = 2 then upd L 2 (i :: (L 2).erase i) else L
def SngS (i : Nat) (B : Bool) (s : ES) (L : Nat → List Nat) (s' : ES) (L' : Nat → List Nat) : Prop := (s.neg i = B ∧ s' = s ∧ L' = L) ∨ (s.neg i ≠ B ∧ MovS i 1 s L s' L' ∧ s'.neg = upd s.neg i B)
theorem upd_self' {α : Type} (f : Nat → α) (i : Nat) (v : α) (h : f i = v) : upd f i v = f := by
  funext j
  rw [upd_ev]
  split
  · rename_i e; rw [e, h]
  · rfl
section
variable {e gn gb : Nat} {w0 : World} {s : ES} {L C : Nat → List Nat} {w : World}
set_option maxRecDepth 100000 in
set_option maxHeartbeats 1000000 in
theorem touch_ee (h : EE e gn gb w0 s L C w) (x : Int) :
    Calls Tryd.prog 26 #[.pointer (some ⟨e, 0, none⟩), .int .i64 x] w fun y w' => y = Rtn (liveC s x) ∧ ∃ s' L' C', EE e gn gb w0 s' L' C' w' ∧ ((liveC s x ≠ 0 ∧ s' = s ∧ L' = L) ∨ (liveC s x = 0 ∧ TouS x.toNat s L s' L')) := by
  have HE := hid h
  have HI := hid (live_walk h.em h.ei.sn x)
  obtain ⟨c, hc⟩ : ∃ c, liveC s x = c := ⟨_, rfl⟩
  obtain ⟨p, hp⟩ : ∃ p, liveP gn s x = p := ⟨_, rfl⟩
  rw [hc, hp] at HI
  have Hc := hid hc
  have Hpp := hid hp
  clear h hc hp
  go_enter Tryd.func26, Tryd.ntmps26
  go_wp2_with fail
  refine HI.out.mono ?_
  rintro y w1 ⟨rfl, rfl⟩
  by_cases h0 : c = 0
  rotate_left
  · as_aux_lemma =>
    have dc : ((c : Int) != 0) = true := bne_iff_ne.2 (by omega)
    have HG : Hid (∃ s' L' C', EE e gn gb w0 s' L' C' w1 ∧ ((liveC s x ≠ 0 ∧ s' = s ∧ L' = L) ∨ (liveC s x = 0 ∧ TouS x.toNat s L s' L'))) := hid ⟨s, L, C, HE.out, .inl ⟨by rw [Hc.out]; exact h0, rfl, rfl⟩⟩
    go_wp2
    go_ret
    exact ⟨by rw [Hc.out]; rfl, HG.out⟩
  subst h0
  obtain ⟨i, rfl, hi, hw⟩ := liveC_live HE.out.ei Hc.out
  have hpp : p = .pointer (some ⟨gn, i * 7, none⟩) := by rw [← Hpp.out]; unfold liveP; rw [if_pos Hc.out, Int.toNat_natCast]
  subst hpp
  have hin : i < s.n := by rw [HE.out.ei.nn]; omega
  have hib : i < 65536 := by have := HE.out.ei.s1; omega
  have h32 : wrap32 (i : Int) = (i : Int) := by unfold wrap32; omega
  have h32b : IntKind.i32.wrap (i : Int) = (i : Int) := by rw [IntKind.wrap_i32]; omega
  obtain ⟨v5, h5⟩ : ∃ v, s.whr i = v := ⟨_, rfl⟩
  have c1 : w1.cell? ⟨gn, i * 7 + 5, none⟩ = some (.int .u8 (v5 : Int)) := by rw [HE.out.em.whr hin, h5]
  have Hw := hid hw
  have H5 := hid h5
  clear hw h5
  by_cases hv : v5 = 2
  rotate_left
  · as_aux_lemma =>
    have dv : ((v5 : Int) == 2) = false := by rw [beq_eq_false_iff_ne]; omega
    have HG : Hid (∃ s' L' C', EE e gn gb w0 s' L' C' w1 ∧ ((liveC s (i : Int) ≠ 0 ∧ s' = s ∧ L' = L) ∨ (liveC s (i : Int) = 0 ∧ TouS (i : Int).toNat s L s' L'))) := hid ⟨s, L, C, HE.out, .inr ⟨Hc.out, Sm.refl s, by rw [Int.toNat_natCast, H5.out, if_neg hv]⟩⟩
    go_wp2
    go_ret
    exact ⟨by rw [Hc.out]; rfl, HG.out⟩
  subst hv
  have c1' : w1.cell? ⟨gn, i * 7 + 5, none⟩ = some (.int .u8 2) := c1
  clear c1
  obtain ⟨y, hy⟩ : ∃ y, s.hd 2 = y := ⟨_, rfl⟩
  have c2 : w1.cell? ⟨e, 11, none⟩ = some (.int .i32 y) := by rw [← hy]; exact HE.out.em.hd (q := 2) (by omega)
  have Hy := hid hy
  clear hy
  by_cases hyi : y = (i : Int)
  · as_aux_lemma =>
    subst hyi
    have dy : ((i : Int) != (i : Int)) = false := by simp
    have HG : Hid (∃ s' L' C', EE e gn gb w0 s' L' C' w1 ∧ ((liveC s (i : Int) ≠ 0 ∧ s' = s ∧ L' = L) ∨ (liveC s (i : Int) = 0 ∧ TouS (i : Int).toNat s L s' L'))) := hid ⟨s, L, C, HE.out, .inr ⟨Hc.out, Sm.refl s, by
      rw [Int.toNat_natCast, H5.out, if_pos rfl]
      have hd := (HE.out.ei.q.dl 2 (by omega)).hd
      rw [Hy.out] at hd
      cases hl : L 2 with
      | nil => rw [hl] at hd; simp [headI] at hd
      | cons a T =>
        rw [hl] at hd
        have : a = i := by have hd : (i : Int) = (a : Int) := hd; omega
        subst this
        rw [List.erase_cons_head]
        exact (upd_self' L 2 _ hl).symm⟩⟩
    go_wp2
    go_ret
    exact ⟨by rw [Hc.out]; rfl, HG.out⟩
  · as_aux_lemma =>
    have dy : (y != (i : Int)) = true := bne_iff_ne.2 hyi
    have HMv := hid (move_si HE.out HE.out.si (Cf.refl s) rfl (q := 2) hi Hw.out (.inr rfl))
    go_wp2_with fail
    refine HMv.out.mono ?_
    rintro x w2 ⟨rfl, HP⟩
    go_wp2_with fail
    refine HP.out.mono ?_
    rintro x w3 ⟨rfl, HX⟩
    have HG : Hid (∃ s' L' C', EE e gn gb w0 s' L' C' w3 ∧ ((liveC s (i : Int) ≠ 0 ∧ s' = s ∧ L' = L) ∨ (liveC s (i : Int) = 0 ∧ TouS (i : Int).toNat s L s' L'))) := hid (by
      obtain ⟨s3, h3, f3, r3⟩ := HX.out
      have hmv : MovS i 2 s L s3 _ := ⟨f3.cf, r3, f3.key, f3.pin, f3.pinned, rfl⟩
      have hni : s.neg i = false := by
        cases hb : s.neg i with
        | false => rfl
        | true => have := HE.out.ei.ng i hin hb; have := H5.out; omega
      have hei := HE.out.ei.mov (B := false) hi Hw.out (.inr rfl) hmv (fun h => by cases h) (by rw [f3.neg]; exact (upd_self' s.neg i false hni).symm) (by rw [f3.negs, hni]; simp) h3.q h3.c
      refine ⟨s3, _, C, ⟨h3.em, h3.u3, hei⟩, .inr ⟨Hc.out, ⟨f3.cf, by rw [r3]; exact upd_self' s.whr i 2 H5.out, f3.key, f3.pin, f3.neg, f3.negs, f3.pinned⟩, ?_⟩⟩
      rw [Int.toNat_natCast, H5.out, if_pos rfl, upd_same, upd_upd])
    clear HMv HP HX
    go_wp2
    go_ret
    exact ⟨by rw [Hc.out]; rfl, HG.out⟩
set_option maxRecDepth 100000 in
set_option maxHeartbeats 1000000 in
theorem setNeg_ee (h : EE e gn gb w0 s L C w) (x : Int) (B : Bool) :
    Calls Tryd.prog 33 #[.pointer (some ⟨e, 0, none⟩), .int .i64 x, .bool B] w fun y w' => y = Rtn (liveC s x) ∧ ∃ s' L' C', EE e gn gb w0 s' L' C' w' ∧ ((liveC s x ≠ 0 ∧ s' = s ∧ L' = L) ∨ (liveC s x = 0 ∧ SngS x.toNat B s L s' L')) := by
  have HE := hid h
  have HI := hid (live_walk h.em h.ei.sn x)
  obtain ⟨c, hc⟩ : ∃ c, liveC s x = c := ⟨_, rfl⟩
  obtain ⟨p, hp⟩ : ∃ p, liveP gn s x = p := ⟨_, rfl⟩
  rw [hc, hp] at HI
  have Hc := hid hc
  have Hpp := hid hp
  clear h hc hp
  go_enter Tryd.func33, Tryd.ntmps33
  go_wp2_with fail
  refine HI.out.mono ?_
  rintro y w1 ⟨rfl, rfl⟩
  by_cases h0 : c = 0
  rotate_left
  · as_aux_lemma =>
    have dc : ((c : Int) != 0) = true := bne_iff_ne.2 (by omega)
    have HG : Hid (∃ s' L' C', EE e gn gb w0 s' L' C' w1 ∧ ((liveC s x ≠ 0 ∧ s' = s ∧ L' = L) ∨ (liveC s x = 0 ∧ SngS x.toNat B s L s' L'))) := hid ⟨s, L, C, HE.out, .inl ⟨by rw [Hc.out]; exact h0, rfl, rfl⟩⟩
    go_wp2
    go_ret
    exact ⟨by rw [Hc.out]; rfl, HG.out⟩
  subst h0
  obtain ⟨i, rfl, hi, hw⟩ := liveC_live HE.out.ei Hc.out
  have hpp : p = .pointer (some ⟨gn, i * 7, none⟩) := by rw [← Hpp.out]; unfold liveP; rw [if_pos Hc.out, Int.toNat_natCast]
  subst hpp
  have hin : i < s.n := by rw [HE.out.ei.nn]; omega
  have hib : i < 65536 := by have := HE.out.ei.s1; omega
  have h32 : wrap32 (i : Int) = (i : Int) := by unfold wrap32; omega
  have h32b : IntKind.i32.wrap (i : Int) = (i : Int) := by rw [IntKind.wrap_i32]; omega
  obtain ⟨b0, hb0⟩ : ∃ v, s.neg i = v := ⟨_, rfl⟩
  have c1 : w1.cell? ⟨gn, i * 7 + 6, none⟩ = some (.bool b0) := by rw [HE.out.em.neg hin, hb0]
  obtain ⟨z, hz⟩ : ∃ z, s.negs = z := ⟨_, rfl⟩
  have hzb : 0 ≤ z ∧ z ≤ 1000000 := by
    rw [← hz, HE.out.ei.negs]
    have h1 := List.countP_le_length (p := s.neg) (l := L 1)
    have h2 := HE.out.ei.q.len (q := 1) (by omega)
    have h3 := HE.out.ei.q.nb
    omega
  have hz1 := hzb.1
  have hz2 := hzb.2
  have Hw := hid hw
  have Hb0 := hid hb0
  have Hz := hid hz
  clear hw hb0 hz hzb
  by_cases hbb : b0 = B
  · as_aux_lemma =>
    subst hbb
    have db : (b0 == b0) = true := by simp
    have HG : Hid (∃ s' L' C', EE e gn gb w0 s' L' C' w1 ∧ ((liveC s (i : Int) ≠ 0 ∧ s' = s ∧ L' = L) ∨ (liveC s (i : Int) = 0 ∧ SngS (i : Int).toNat b0 s L s' L'))) := hid ⟨s, L, C, HE.out, .inr ⟨Hc.out, .inl ⟨by rw [Int.toNat_natCast]; exact Hb0.out, rfl, rfl⟩⟩⟩
    go_wp2
    go_ret
    exact ⟨by rw [Hc.out]; rfl, HG.out⟩
  have f1 := HE.out.em.nb.frozen (i * 7 + 6)
  have E1 := HE.out.em.setNeg hin B
  have a2 : (w1.setCell ⟨gn, i * 7 + 6, none⟩ (.bool B)).cell? ⟨e, 22, none⟩ = some (.int .i64 z) := by rw [E1.negs]; show some (Value.int .i64 s.negs) = _; rw [Hz.out]
  have f2 := E1.eb.frozen 22
  have HCt : Hid (∀ (v : Int) (w2 : World), v = z - (if b0 = true then 1 else 0) + (if B = true then 1 else 0) → w2 = (w1.setCell ⟨gn, i * 7 + 6, none⟩ (.bool B)).setCell ⟨e, 22, none⟩ (.int .i64 v) → Calls Tryd.prog 45 #[.pointer (some ⟨e, 0, none⟩), .int .i32 (i : Int)] w2 fun x w2 => x = .returned (.tuple #[]) ∧ Hid (Calls Tryd.prog 40 #[.pointer (some ⟨e, 0, none⟩), .int .u8 1, .int .i32 (i : Int)] w2 fun x w3 => x = .returned (.tuple #[]) ∧ Hid (∃ s' L' C', EE e gn gb w0 s' L' C' w3 ∧ ((liveC s (i : Int) ≠ 0 ∧ s' = s ∧ L' = L) ∨ (liveC s (i : Int) = 0 ∧ SngS (i : Int).toNat B s L s' L'))))) := hid (fun v w2 hv hw2 => by
    subst hw2
    have hsi : SI e gn gb w0 { s with neg := upd s.neg i B, negs := v } L C (Hs s) ((w1.setCell ⟨gn, i * 7 + 6, none⟩ (.bool B)).setCell ⟨e, 22, none⟩ (.int .i64 v)) := ⟨E1.setNegs v, (HE.out.u3.trans (U3.set gn _ _ (.inr (.inl rfl)))).trans (U3.set e _ _ (.inl rfl)), HE.out.ei.q.of rfl rfl rfl rfl rfl rfl rfl, HE.out.ei.c.of rfl rfl rfl rfl rfl (fun _ _ => rfl)⟩
    refine (move_si HE.out hsi ⟨rfl, rfl, rfl, rfl, rfl, rfl, rfl⟩ rfl (q := 1) hi Hw.out (.inl rfl)).mono ?_
    rintro x w2 ⟨rfl, HP⟩
    refine ⟨rfl, hid (HP.out.mono ?_)⟩
    rintro x w3 ⟨rfl, HX⟩
    refine ⟨rfl, hid ?_⟩
    obtain ⟨s3, h3, f3, r3⟩ := HX.out
    have hmv : MovS i 1 s L s3 _ := ⟨⟨f3.n, f3.m, f3.slots, f3.kin, f3.kout, f3.kneg, f3.shift⟩, r3, f3.key, f3.pin, f3.pinned, rfl⟩
    have hei := HE.out.ei.mov (B := B) hi Hw.out (.inl rfl) hmv (fun _ => rfl) f3.neg (by rw [f3.negs, Hb0.out, Hz.out]; exact hv) h3.q h3.c
    exact ⟨s3, _, C, ⟨h3.em, h3.u3, hei⟩, .inr ⟨Hc.out, .inr ⟨by rw [Int.toNat_natCast, Hb0.out]; exact hbb, by rw [Int.toNat_natCast]; exact hmv, by rw [Int.toNat_natCast]; exact f3.neg⟩⟩⟩)
  cases B with
  | true =>
    as_aux_lemma =>
    have hb0 : b0 = false := by cases b0 with | false => rfl | true => exact absurd rfl hbb
    subst hb0
    have HC2 := hid (HCt.out (z + 1) _ (by simp) rfl)
    clear E1 HCt hbb
    go_wp2_with fail
    refine HC2.out.mono ?_
    rintro x w2 ⟨rfl, HP⟩
    go_wp2_with fail
    refine HP.out.mono ?_
    rintro x w3 ⟨rfl, HG⟩
    go_wp2
    go_ret
    exact ⟨by rw [Hc.out]; rfl, HG.out⟩
  | false =>
    as_aux_lemma =>
    have hb0 : b0 = true := by cases b0 with | true => rfl | false => exact absurd rfl hbb
    subst hb0
    have HC2 := hid (HCt.out (z - 1) _ (by simp) rfl)
    clear E1 HCt hbb
    go_wp2_with fail
    refine HC2.out.mono ?_
    rintro x w2 ⟨rfl, HP⟩
    go_wp2_with fail
    refine HP.out.mono ?_
    rintro x w3 ⟨rfl, HG⟩
    go_wp2
    go_ret
    exact ⟨by rw [Hc.out]; rfl, HG.out⟩
end
end Go.Proofs.Qxb6500892aDoor
