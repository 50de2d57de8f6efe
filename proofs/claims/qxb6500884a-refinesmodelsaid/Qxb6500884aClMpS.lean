/- Len, Block, Representative, sameTable. -/
import Derived.Test.Qxb6500884aClMpP
namespace Go.Proofs.Qxb6500884a
open Go.RowKit
set_option linter.unusedSimpArgs false
set_option linter.unusedVariables false

set_option maxRecDepth 100000 in
theorem len_walk (Ls : List (List (Int × Int))) (pb g : Nat) (T : List (Option Addr × Nat × Nat)) (P : PSt) (pt : Int → List UInt8) (sa : Option Addr) (sc : Nat) (oa : Option Addr) (oc : Nat) (w : World) (h : PartV Ls pb g T P pt sa sc oa oc w) :
    Calls Try.prog 59 #[.pointer (some ⟨pb, 0, none⟩)] w fun e w' => e = .returned (.int .i64 (P.lists.length : Int)) ∧ w' = w := by
  obtain ⟨N, hN⟩ : ∃ N, P.lists.length = N := ⟨_, rfl⟩
  have c0 : w.cell? ⟨pb, 0, none⟩ = some (.slice (some ⟨g, 0, none⟩) N N) := by have := h.pbk.cell 0; simp only [List.getElem?_cons_zero, hN] at this; exact this
  rw [hN]
  clear h
  go_enter Try.func59, Try.ntmps59
  go_wp2
  go_ret
  exact ⟨rfl, rfl⟩
set_option maxRecDepth 100000 in
theorem block_walk (Ls : List (List (Int × Int))) (pb g : Nat) (T : List (Option Addr × Nat × Nat)) (P : PSt) (pt : Int → List UInt8) (sa : Option Addr) (sc : Nat) (oa : Option Addr) (oc : Nat) (b xn xc : Nat) (xa : Option Addr) (w : World) (h : PartV Ls pb g T P pt sa sc oa oc w) (hb : T[b]? = some (xa, xn, xc)) :
    Calls Try.prog 61 #[.pointer (some ⟨pb, 0, none⟩), .int .i64 (b : Int)] w fun e w' => e = .returned (.agg #[.slice xa xn xc]) ∧ Below w.heap.size w w' := by
  obtain ⟨N, hN⟩ : ∃ N, P.lists.length = N := ⟨_, rfl⟩
  have hbN : b < N := by rw [← hN, ← h.tlen]; exact (List.getElem?_eq_some_iff.1 hb).1
  have hN2 := (h.pi.bounds (by omega)).1
  rw [hN] at hN2
  obtain ⟨r, hr⟩ : ∃ r, w.heap.size = r := ⟨_, rfl⟩
  have hnb := nbel w (.cells #[.slice none 0 0] 30)
  have hbl := Blk.new w [.slice none 0 0] 30
  rw [hr] at hbl
  obtain ⟨w1, hw1⟩ : ∃ w1, w.alloc (.cells #[.slice none 0 0] 30) = w1 := ⟨_, rfl⟩
  have hw1' : w.alloc (.cells [Value.slice none 0 0].toArray 30) = w1 := hw1
  rw [hw1'] at hbl
  rw [hw1] at hnb
  have c0 : w1.cell? ⟨pb, 0, none⟩ = some (.slice (some ⟨g, 0, none⟩) N N) := by have := (h.pbk.below hnb).cell 0; simp only [List.getElem?_cons_zero, hN] at this; exact this
  have c1 : w1.cell? ⟨g, b, none⟩ = some (.slice xa xn xc) := by rw [(h.blk.below hnb).cell, List.getElem?_map, hb]; rfl
  have i1 : (b : Int) < (N : Int) := by omega
  have HB := hid hbl
  have HBe := hid hnb
  have I0 : Hid ((Try.prog.info? 30).map (·.size) = some [Value.slice xa xn xc].length) := hid info_reg
  clear hbl hnb h hb hw1'
  go_enter Try.func61, Try.ntmps61
  go_upto_region 1 with fail
  try simp only [hw1]
  clear hw1
  go_wp2_with (refine wpList_store_blk rfl 30 _ _ rfl r rfl [.slice xa xn xc] rfl HB.out rfl I0.out (fun v hv => by simp at hv; subst hv; rfl) ?_; intro w9 HB9 HU9)
  exact bodyPost_ret (results_blk Try.results61 rfl (show AggOf Try.prog 30 (List.length [_]) from AggOf.struct Try.underlying30 info_reg) HB9.out) rfl
    ⟨rfl, HBe.out.trans (HU9.out.below (by omega) HBe.out.size)⟩
set_option maxRecDepth 100000 in
theorem repr_walk (Ls : List (List (Int × Int))) (pb g : Nat) (T : List (Option Addr × Nat × Nat)) (P : PSt) (pt : Int → List UInt8) (sa : Option Addr) (sc : Nat) (oa : Option Addr) (oc : Nat) (b : Nat) (w : World) (h : PartV Ls pb g T P pt sa sc oa oc w) (hb : b < P.lists.length) :
    Calls Try.prog 60 #[.pointer (some ⟨pb, 0, none⟩), .int .i64 (b : Int)] w fun e w' => e = .returned (.int .i64 (leaN P b)) ∧ w' = w := by
  obtain ⟨⟨xa, xn, xc⟩, l, h1, h2, h3, h4, h5⟩ := h.cls.at hb
  obtain ⟨_, hne⟩ := h.pi.lsNe h2
  dsimp only at h3
  have hl := h3.len
  have hxn : 0 < xn := by have := List.length_pos_iff.2 hne; omega
  obtain ⟨p, hp, fp, _, xb, xo, rfl, _, e1, _⟩ := h3.get hxn
  have hx47 := h3.1.2.2.1.1
  have hm : leaN P b = p.1 := by
    rw [leaN_at h2]
    cases l with
    | nil => exact absurd rfl hne
    | cons q t => simp at hp; subst hp; rfl
  rw [hm]
  obtain ⟨N, hN⟩ : ∃ N, P.lists.length = N := ⟨_, rfl⟩
  have hN2 := (h.pi.bounds (by omega)).1
  rw [hN] at hN2 hb
  have c0 : w.cell? ⟨pb, 0, none⟩ = some (.slice (some ⟨g, 0, none⟩) N N) := by have := h.pbk.cell 0; simp only [List.getElem?_cons_zero, hN] at this; exact this
  have c1 : w.cell? ⟨g, b, none⟩ = some (.slice (some ⟨xb, xo, none⟩) xn xc) := by rw [h.blk.cell, List.getElem?_map, h1]; rfl
  have i1 : (b : Int) < (N : Int) := by omega
  have i2 : (0 : Int) < (xn : Int) := by omega
  have e1' : w.cell? ⟨xb, xo, none⟩ = some (.int .i64 p.1) := by rw [Nat.zero_mul, Nat.add_zero] at e1; exact e1
  clear h h1 h2 h3 h4 h5 hp e1 hm hne
  go_enter Try.func60, Try.ntmps60
  go_wp2
  go_ret
  exact ⟨rfl, rfl⟩
set_option maxRecDepth 100000 in
set_option maxHeartbeats 2000000 in
theorem sameTab2_walk (g1 g2 n : Nat) (f f' : Nat → Bool) (w : World) (h1 : Blk w g1 4 (bolL n f)) (h2 : Blk w g2 4 (bolL n f')) (hn : n ≤ 1000000) :
    Calls Try.prog 16 #[.slice (some ⟨g1, 0, none⟩) n n, .slice (some ⟨g2, 0, none⟩) n n] w fun e w' => ∃ B : Bool, e = .returned (.bool B) ∧ Below w.heap.size w w' ∧ (B = true ↔ ∀ i, i < n → f i = f' i) := by
  have H1 := hid h1
  have H2 := hid h2
  clear h1 h2
  have dn : ((n : Int) != (n : Int)) = false := by simp
  go_enter Try.func16, Try.ntmps16
  go_upto_region 4 with fail
  go_loopw [13] (fun i wr => ∃ k : Nat, k ≤ n ∧ i = .int .i64 k ∧ Hid (Below w.heap.size w wr) ∧ Hid (∀ i, i < k → f i = f' i)) (fun i _ => n - (intOf i).toNat)
  case atStart => exact ⟨0, Nat.zero_le _, rfl, hid (Below.refl _ _), hid (fun i h => by omega)⟩
  case round =>
    obtain ⟨k, hk, rfl, HO, HE⟩ := hrel
    by_cases hlt : k < n
    rotate_left
    · as_aux_lemma =>
      have dk : decide ((k : Int) < (n : Int)) = false := decide_eq_false (by omega)
      go_wp2
      go_ret
      exact ⟨true, rfl, HO.out, fun _ i hi => HE.out i (by omega), fun _ => rfl⟩
    as_aux_lemma =>
    have dk : decide ((k : Int) < (n : Int)) = true := decide_eq_true (by omega)
    have i1 : (k : Int) < (n : Int) := by omega
    obtain ⟨B1, hB1⟩ : ∃ B, f k = B := ⟨_, rfl⟩
    obtain ⟨B2, hB2⟩ : ∃ B, f' k = B := ⟨_, rfl⟩
    have t1 : ∀ nn, (wr.drewN nn).cell? ⟨g1, k, none⟩ = some (.bool B1) := fun nn => by
      have := (H1.out.below HO.out).cell k
      rw [bolL_get _ hlt, hB1] at this
      exact this
    have t2 : ∀ nn, (wr.drewN nn).cell? ⟨g2, k, none⟩ = some (.bool B2) := fun nn => by
      have := (H2.out.below HO.out).cell k
      rw [bolL_get _ hlt, hB2] at this
      exact this
    have HK1 := hid hB1
    have HK2 := hid hB2
    clear hB1 hB2
    by_cases hB : B1 = B2
    · as_aux_lemma =>
      subst hB
      have HE2 : Hid (∀ i, i < k + 1 → f i = f' i) := hid (fun i hi => if e : i = k then by rw [e, HK1.out, HK2.out] else HE.out i (by omega))
      go_upto_region 6 with fail
      go_quiet (fail)
      have HO3 := hid (HO.out.trans ((Drew.below ⟨nq, rfl⟩ _ : Below wr.heap.size wr (wr.drewN nq)).mono HO.out.size))
      generalize wr.drewN nq = w3 at HO3 ⊢
      clear t1 t2
      go_wp2
      exact ⟨⟨k + 1, by omega, by go_num, HO3, HE2⟩, by simp [intOf]; omega⟩
    · as_aux_lemma =>
      have HNe : Hid (¬ ∀ i, i < n → f i = f' i) := hid (fun h => hB (by rw [← HK1.out, ← HK2.out]; exact h k hlt))
      clear HK1 HK2
      cases B1 <;> cases B2 <;> first | exact absurd rfl hB | skip
      all_goals
        go_upto_region 6 with fail
        go_quiet (fail)
        have HO3 := hid (HO.out.trans ((Drew.below ⟨nq, rfl⟩ _ : Below wr.heap.size wr (wr.drewN nq)).mono HO.out.size))
        generalize wr.drewN nq = w3 at HO3 ⊢
        clear t1 t2
        go_wp2
        go_ret
        exact ⟨false, rfl, HO3.out, ⟨fun h => Bool.noConfusion h, fun h => absurd h HNe.out⟩⟩
end Go.Proofs.Qxb6500884a
