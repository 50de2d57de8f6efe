/- Occupy, Vacate. -/
import Derived.Test.Qxb6500887aGreatArTal
namespace Go.Proofs.Qxb6500887aGreat
open Go.RowKit
set_option linter.unusedSimpArgs false
set_option linter.unusedVariables false

/-- An extent as the law holds it: word and words. -/
structure EOk (k n : Nat) : Prop where
  n0 : 1 ≤ n
  kn : k + n ≤ 32768
  ev : k % 2 = 0
def loL (k : Nat) : Nat := k / 16
def hiL (k n : Nat) : Nat := (k + n - 1) / 16
theorem EOk.ext {k n : Nat} (h : EOk k n) : ExtOk (k : Int) (n : Int) := ⟨Int.natCast_nonneg _, by have := h.n0; omega, by have := h.kn; omega⟩
theorem EOk.lo {k n : Nat} (h : EOk k n) : loL k ≤ hiL k n ∧ hiL k n < 2048 := by
  have h1 := h.n0
  have h2 := h.kn
  unfold loL hiL
  omega
theorem extFirst_nat {k n : Nat} (h : EOk k n) (w : World) : Calls Tryz.prog 209 #[.agg #[.int .i64 (k : Int), .int .i64 (n : Int)]] w fun e w' => e = .returned (.int .i64 ((loL k : Nat) : Int)) ∧ Below w.heap.size w w' := by
  have := extFirstLine_walk (k : Int) (n : Int) h.ext w
  unfold extV at this
  rw [show (k : Int) / 16 = ((loL k : Nat) : Int) by unfold loL; omega] at this
  exact this
theorem extLast_nat {k n : Nat} (h : EOk k n) (w : World) : Calls Tryz.prog 210 #[.agg #[.int .i64 (k : Int), .int .i64 (n : Int)]] w fun e w' => e = .returned (.int .i64 ((hiL k n : Nat) : Int)) ∧ Below w.heap.size w w' := by
  have := extLastLine_walk (k : Int) (n : Int) h.ext w
  unfold extV at this
  rw [show ((k : Int) + (n : Int) - 1) / 16 = ((hiL k n : Nat) : Int) by have := h.n0; unfold hiL; omega] at this
  exact this
theorem extentOf_nat {k n : Nat} (h : EOk k n) (w : World) : Calls Tryz.prog 257 #[.int .u64 (65536 + (k : Int)), .int .i64 (n : Int)] w fun e w' => e = .returned (.tuple #[.agg #[.int .i64 (k : Int), .int .i64 (n : Int)], .int .u8 0]) ∧ Below w.heap.size w w' := by
  have h1 := h.n0
  have h2 := h.kn
  have h3 := h.ev
  have := extentOf_ok (65536 + (k : Int)) (n : Int) ⟨by omega, by omega⟩ (by omega) (by omega) (by omega) w
  unfold extV at this
  rw [show 65536 + (k : Int) - 65536 = (k : Int) by omega] at this
  exact this
section
variable {A t b : Nat} {f : Nat → Nat} {w : World}
set_option maxRecDepth 100000 in
set_option maxHeartbeats 2000000 in
theorem occupy_walk (h : AT A t b f w) {k n : Nat} (hE : EOk k n) : Calls Tryz.prog 233 #[.pointer (some ⟨A, 0, none⟩), .int .u64 (65536 + (k : Int)), .int .i64 (n : Int)] w fun e w' => ∃ c : Nat, e = .returned (.int .u8 (c : Int)) ∧ Hid ((c = 10 ∧ (∃ i, loL k ≤ i ∧ i < hiL k n + 1 ∧ f i = 15) ∧ AT A t b f w' ∧ UA A b w w') ∨ (c = 0 ∧ (∀ i, loL k ≤ i → i < hiL k n + 1 → f i ≠ 15) ∧ AT A t b (incR (loL k) (hiL k n + 1) f) w' ∧ UA A b w w')) := by
  have HA := hid h
  have HX := hid (extentOf_nat hE w)
  have HFl := hid (fun wz => extFirst_nat hE wz)
  have HLl := hid (fun wz => extLast_nat hE wz)
  have hlh := hE.lo
  have HIn := hid (fun (wz : World) (hz : T4 t b f wz) => incRange_walk hz (loL k) (hiL k n + 1) (by omega) (by omega))
  obtain ⟨hl1, hl2⟩ := hlh
  have hkb := hE.kn
  clear h
  generalize loL k = lo at *
  generalize hiL k n = la at *
  go_enter Tryz.func233, Tryz.ntmps233
  go_wp2_with fail
  refine HX.out.mono ?_
  rintro e w1 ⟨rfl, hb1⟩
  have HB1 := hid hb1
  clear hb1 HX
  obtain ⟨p, hp⟩ : ∃ p, w1.heap.size = p := ⟨_, rfl⟩
  go_upto_region 4 with fail
  obtain ⟨w2, hw2⟩ : ∃ w2, w1.alloc (.cells #[.int .i64 (k : Int), .int .i64 (n : Int)] 84) = w2 := ⟨_, rfl⟩
  have H2 : Hid (Below w.heap.size w w2 ∧ AT A t b f w2 ∧ Blk w2 p 84 [.int .i64 (k : Int), .int .i64 (n : Int)] ∧ w.heap.size ≤ p) := hid (by
    have k1 := Blk.new w1 [.int .i64 (k : Int), .int .i64 (n : Int)] 84
    rw [hp] at k1
    have hb := HB1.out.trans ((bel_alloc w1 (.cells #[.int .i64 (k : Int), .int .i64 (n : Int)] 84)).mono HB1.out.size)
    rw [← hw2]
    have := HB1.out.size
    exact ⟨hb, HA.out.below hb, k1, by omega⟩)
  (try simp only [hw2])
  clear hw2 hp HB1
  refine wp_region_heavy (fun wz => wz.cell? ⟨A, 4, none⟩ = some (.pointer (some ⟨t, 0, none⟩)) ∧ Blk wz p 84 [.int .i64 (k : Int), .int .i64 (n : Int)]) 11 [0, 1, 2, 3, 4, 6] [5, 7, 8, 9, 10] rfl (by kernel_rfl) (by kernel_rfl) (fun d _ _ _ _ h => by cases d <;> exact h) ⟨(H2.out.2.1.below (Drew.below ⟨1, rfl⟩ _)).ptr, H2.out.2.2.1.below (Drew.below ⟨1, rfl⟩ _)⟩ ?_
  apply Exists.intro
  refine ⟨?_, ?_⟩
  · intro W hW
    have a4 : ∀ u, (W u).cell? ⟨A, 4, none⟩ = some (.pointer (some ⟨t, 0, none⟩)) := fun u => (hW u).1
    have p0 : ∀ u, (W u).cell? ⟨p, 0, none⟩ = some (.int .i64 (k : Int)) := fun u => (hW u).2.cell 0
    have p1 : ∀ u, (W u).cell? ⟨p, 1, none⟩ = some (.int .i64 (n : Int)) := fun u => (hW u).2.cell 1
    clear hW
    simp only [List.take, opsAt, List.drop, List.cons_append, List.nil_append]
    repeat (go_big_quiet_step (fail))
    exact rfl
  simp only [List.take, List.drop, opsAt, List.cons_append, List.nil_append, wpHv]
  have H3 : Hid (Below w.heap.size w w2.drew ∧ AT A t b f w2.drew ∧ Blk w2.drew p 84 [.int .i64 (k : Int), .int .i64 (n : Int)] ∧ w.heap.size ≤ p) := hid ⟨H2.out.1.trans (Drew.below ⟨1, rfl⟩ _), H2.out.2.1.below (Drew.below ⟨1, rfl⟩ _), H2.out.2.2.1.below (Drew.below ⟨1, rfl⟩ _), H2.out.2.2.2⟩
  generalize w2.drew = w3 at H3 ⊢
  clear H2
  go_wp2_with fail
  refine (HFl.out w3).mono ?_
  rintro e w4 ⟨rfl, hb4⟩
  have H4 : Hid (Below w.heap.size w w4 ∧ AT A t b f w4 ∧ Blk w4 p 84 [.int .i64 (k : Int), .int .i64 (n : Int)] ∧ w.heap.size ≤ p) := hid ⟨H3.out.1.trans (hb4.mono H3.out.1.size), H3.out.2.1.below hb4, H3.out.2.2.1.below hb4, H3.out.2.2.2⟩
  clear hb4 H3 HFl
  go_wp2_with fail
  refine ⟨⟨H4.out.2.1.ptr, H4.out.2.2.1⟩, ?_⟩
  go_wp2_with fail
  refine (HLl.out w4).mono ?_
  rintro e w5 ⟨rfl, hb5⟩
  have H5 : Hid (Below w.heap.size w w5 ∧ AT A t b f w5 ∧ Blk w5 p 84 [.int .i64 (k : Int), .int .i64 (n : Int)] ∧ w.heap.size ≤ p) := hid ⟨H4.out.1.trans (hb5.mono H4.out.1.size), H4.out.2.1.below hb5, H4.out.2.2.1.below hb5, H4.out.2.2.2⟩
  clear hb5 H4 HLl
  go_wp2_with fail
  refine ⟨⟨H5.out.2.1.ptr, H5.out.2.2.1⟩, ?_⟩
  have HI5 : Hid (Calls Tryz.prog 258 #[.pointer (some ⟨t, 0, none⟩), .int .i64 (lo : Int), .int .i64 ((la : Int) + 1)] w5 fun e w' => ∃ ok : Bool, e = .returned (.bool ok) ∧ Hid ((ok = false ∧ (∃ i, lo ≤ i ∧ i < la + 1 ∧ f i = 15) ∧ Below w5.heap.size w5 w') ∨ (ok = true ∧ (∀ i, lo ≤ i → i < la + 1 → f i ≠ 15) ∧ T4 t b (incR lo (la + 1) f) w' ∧ Upd b w5 w'))) := hid (by
    have := HIn.out w5 H5.out.2.1.t4
    rw [show ((la + 1 : Nat) : Int) = (la : Int) + 1 by omega] at this
    exact this)
  clear HIn
  go_wp2_with fail
  refine ⟨⟨H5.out.2.1.ptr, H5.out.2.2.1⟩, ?_⟩
  go_wp2_with fail
  refine HI5.out.mono ?_
  rintro e w6 ⟨ok, rfl, HK⟩
  clear HI5
  have HR6 : Hid ((ok = false ∧ (∃ i, lo ≤ i ∧ i < la + 1 ∧ f i = 15) ∧ AT A t b f w6 ∧ UA A b w w6) ∨ (ok = true ∧ (∀ i, lo ≤ i → i < la + 1 → f i ≠ 15) ∧ AT A t b (incR lo (la + 1) f) w6 ∧ UA A b w w6)) := hid (by
    rcases HK.out with ⟨a1, a2, a3⟩ | ⟨a1, a2, a3, a4⟩
    · exact .inl ⟨a1, a2, H5.out.2.1.below a3, (UA.ofBelow H5.out.1).trans (UA.ofBelow a3)⟩
    · obtain ⟨v0, v1, v2, v3, ver, kk⟩ := H5.out.2.1.ar
      obtain ⟨_, ⟨c2, b2⟩⟩ := H5.out.2.1.t4.blks
      exact .inr ⟨a1, a2, ⟨⟨v0, v1, v2, v3, ver, kk.upd a4 (kk.tneA b2 (by decide))⟩, a3⟩, (UA.ofBelow H5.out.1).trans (UA.ofb a4)⟩)
  have HS6 : Hid (w6.cell? ⟨A, 4, none⟩ = some (.pointer (some ⟨t, 0, none⟩)) ∧ Blk w6 p 84 [.int .i64 (k : Int), .int .i64 (n : Int)]) := hid (by
    obtain ⟨_, ⟨c2, b2⟩⟩ := H5.out.2.1.t4.blks
    rcases HK.out with ⟨_, _, a3⟩ | ⟨_, _, _, a4⟩
    · exact ⟨(H5.out.2.1.below a3).ptr, H5.out.2.2.1.below a3⟩
    · rcases HR6.out with ⟨_, _, q3, _⟩ | ⟨_, _, q3, _⟩
      · exact ⟨q3.ptr, H5.out.2.2.1.upd a4 (H5.out.2.2.1.tneA b2 (by decide))⟩
      · exact ⟨q3.ptr, H5.out.2.2.1.upd a4 (H5.out.2.2.1.tneA b2 (by decide))⟩)
  clear HK H5
  go_wp2_with fail
  refine ⟨HS6.out, ?_⟩
  go_wp2_with fail
  refine ⟨HS6.out, ?_⟩
  simp only [QN]
  clear HS6
  cases ok with
  | false =>
    as_aux_lemma =>
    have HF : Hid ((∃ i, lo ≤ i ∧ i < la + 1 ∧ f i = 15) ∧ AT A t b f w6 ∧ UA A b w w6) := hid (by
      rcases HR6.out with ⟨_, q⟩ | ⟨q, _⟩
      · exact q
      · cases q)
    clear HR6
    go_wp2
    go_ret
    exact ⟨10, rfl, hid (.inl ⟨rfl, HF.out⟩)⟩
  | true =>
    as_aux_lemma =>
    have HF : Hid ((∀ i, lo ≤ i → i < la + 1 → f i ≠ 15) ∧ AT A t b (incR lo (la + 1) f) w6 ∧ UA A b w w6) := hid (by
      rcases HR6.out with ⟨q, _⟩ | ⟨_, q⟩
      · cases q
      · exact q)
    clear HR6
    have HTc := hid (touchT_walk HF.out.2.1)
    go_wp2_with fail
    refine HTc.out.mono ?_
    rintro e w7 ⟨rfl, ha7, hu7⟩
    have HG : Hid ((∀ i, lo ≤ i → i < la + 1 → f i ≠ 15) ∧ AT A t b (incR lo (la + 1) f) w7 ∧ UA A b w w7) := hid ⟨HF.out.1, ha7, HF.out.2.2.trans (UA.ofA hu7)⟩
    clear ha7 hu7 HTc HF
    go_wp2
    go_ret
    exact ⟨0, rfl, hid (.inr ⟨rfl, HG.out⟩)⟩
set_option maxRecDepth 100000 in
set_option maxHeartbeats 2000000 in
theorem vacate_walk (h : AT A t b f w) {k n : Nat} (hE : EOk k n) : Calls Tryz.prog 234 #[.pointer (some ⟨A, 0, none⟩), .int .u64 (65536 + (k : Int)), .int .i64 (n : Int)] w fun e w' => ∃ c : Nat, e = .returned (.int .u8 (c : Int)) ∧ Hid ((c = 10 ∧ (∃ i, loL k ≤ i ∧ i < hiL k n + 1 ∧ f i = 0) ∧ AT A t b f w' ∧ UA A b w w') ∨ (c = 0 ∧ (∀ i, loL k ≤ i → i < hiL k n + 1 → f i ≠ 0) ∧ AT A t b (decR (loL k) (hiL k n + 1) f) w' ∧ UA A b w w')) := by
  have HA := hid h
  have HX := hid (extentOf_nat hE w)
  have HFl := hid (fun wz => extFirst_nat hE wz)
  have HLl := hid (fun wz => extLast_nat hE wz)
  have hlh := hE.lo
  have HIn := hid (fun (wz : World) (hz : T4 t b f wz) => decRange_walk hz (loL k) (hiL k n + 1) (by omega) (by omega))
  obtain ⟨hl1, hl2⟩ := hlh
  have hkb := hE.kn
  clear h
  generalize loL k = lo at *
  generalize hiL k n = la at *
  go_enter Tryz.func234, Tryz.ntmps234
  go_wp2_with fail
  refine HX.out.mono ?_
  rintro e w1 ⟨rfl, hb1⟩
  have HB1 := hid hb1
  clear hb1 HX
  obtain ⟨p, hp⟩ : ∃ p, w1.heap.size = p := ⟨_, rfl⟩
  go_upto_region 4 with fail
  obtain ⟨w2, hw2⟩ : ∃ w2, w1.alloc (.cells #[.int .i64 (k : Int), .int .i64 (n : Int)] 84) = w2 := ⟨_, rfl⟩
  have H2 : Hid (Below w.heap.size w w2 ∧ AT A t b f w2 ∧ Blk w2 p 84 [.int .i64 (k : Int), .int .i64 (n : Int)] ∧ w.heap.size ≤ p) := hid (by
    have k1 := Blk.new w1 [.int .i64 (k : Int), .int .i64 (n : Int)] 84
    rw [hp] at k1
    have hb := HB1.out.trans ((bel_alloc w1 (.cells #[.int .i64 (k : Int), .int .i64 (n : Int)] 84)).mono HB1.out.size)
    rw [← hw2]
    have := HB1.out.size
    exact ⟨hb, HA.out.below hb, k1, by omega⟩)
  (try simp only [hw2])
  clear hw2 hp HB1
  refine wp_region_heavy (fun wz => wz.cell? ⟨A, 4, none⟩ = some (.pointer (some ⟨t, 0, none⟩)) ∧ Blk wz p 84 [.int .i64 (k : Int), .int .i64 (n : Int)]) 11 [0, 1, 2, 3, 4, 6] [5, 7, 8, 9, 10] rfl (by kernel_rfl) (by kernel_rfl) (fun d _ _ _ _ h => by cases d <;> exact h) ⟨(H2.out.2.1.below (Drew.below ⟨1, rfl⟩ _)).ptr, H2.out.2.2.1.below (Drew.below ⟨1, rfl⟩ _)⟩ ?_
  apply Exists.intro
  refine ⟨?_, ?_⟩
  · intro W hW
    have a4 : ∀ u, (W u).cell? ⟨A, 4, none⟩ = some (.pointer (some ⟨t, 0, none⟩)) := fun u => (hW u).1
    have p0 : ∀ u, (W u).cell? ⟨p, 0, none⟩ = some (.int .i64 (k : Int)) := fun u => (hW u).2.cell 0
    have p1 : ∀ u, (W u).cell? ⟨p, 1, none⟩ = some (.int .i64 (n : Int)) := fun u => (hW u).2.cell 1
    clear hW
    simp only [List.take, opsAt, List.drop, List.cons_append, List.nil_append]
    repeat (go_big_quiet_step (fail))
    exact rfl
  simp only [List.take, List.drop, opsAt, List.cons_append, List.nil_append, wpHv]
  have H3 : Hid (Below w.heap.size w w2.drew ∧ AT A t b f w2.drew ∧ Blk w2.drew p 84 [.int .i64 (k : Int), .int .i64 (n : Int)] ∧ w.heap.size ≤ p) := hid ⟨H2.out.1.trans (Drew.below ⟨1, rfl⟩ _), H2.out.2.1.below (Drew.below ⟨1, rfl⟩ _), H2.out.2.2.1.below (Drew.below ⟨1, rfl⟩ _), H2.out.2.2.2⟩
  generalize w2.drew = w3 at H3 ⊢
  clear H2
  go_wp2_with fail
  refine (HFl.out w3).mono ?_
  rintro e w4 ⟨rfl, hb4⟩
  have H4 : Hid (Below w.heap.size w w4 ∧ AT A t b f w4 ∧ Blk w4 p 84 [.int .i64 (k : Int), .int .i64 (n : Int)] ∧ w.heap.size ≤ p) := hid ⟨H3.out.1.trans (hb4.mono H3.out.1.size), H3.out.2.1.below hb4, H3.out.2.2.1.below hb4, H3.out.2.2.2⟩
  clear hb4 H3 HFl
  go_wp2_with fail
  refine ⟨⟨H4.out.2.1.ptr, H4.out.2.2.1⟩, ?_⟩
  go_wp2_with fail
  refine (HLl.out w4).mono ?_
  rintro e w5 ⟨rfl, hb5⟩
  have H5 : Hid (Below w.heap.size w w5 ∧ AT A t b f w5 ∧ Blk w5 p 84 [.int .i64 (k : Int), .int .i64 (n : Int)] ∧ w.heap.size ≤ p) := hid ⟨H4.out.1.trans (hb5.mono H4.out.1.size), H4.out.2.1.below hb5, H4.out.2.2.1.below hb5, H4.out.2.2.2⟩
  clear hb5 H4 HLl
  go_wp2_with fail
  refine ⟨⟨H5.out.2.1.ptr, H5.out.2.2.1⟩, ?_⟩
  have HI5 : Hid (Calls Tryz.prog 259 #[.pointer (some ⟨t, 0, none⟩), .int .i64 (lo : Int), .int .i64 ((la : Int) + 1)] w5 fun e w' => ∃ ok : Bool, e = .returned (.bool ok) ∧ Hid ((ok = false ∧ (∃ i, lo ≤ i ∧ i < la + 1 ∧ f i = 0) ∧ Below w5.heap.size w5 w') ∨ (ok = true ∧ (∀ i, lo ≤ i → i < la + 1 → f i ≠ 0) ∧ T4 t b (decR lo (la + 1) f) w' ∧ Upd b w5 w'))) := hid (by
    have := HIn.out w5 H5.out.2.1.t4
    rw [show ((la + 1 : Nat) : Int) = (la : Int) + 1 by omega] at this
    exact this)
  clear HIn
  go_wp2_with fail
  refine ⟨⟨H5.out.2.1.ptr, H5.out.2.2.1⟩, ?_⟩
  go_wp2_with fail
  refine HI5.out.mono ?_
  rintro e w6 ⟨ok, rfl, HK⟩
  clear HI5
  have HR6 : Hid ((ok = false ∧ (∃ i, lo ≤ i ∧ i < la + 1 ∧ f i = 0) ∧ AT A t b f w6 ∧ UA A b w w6) ∨ (ok = true ∧ (∀ i, lo ≤ i → i < la + 1 → f i ≠ 0) ∧ AT A t b (decR lo (la + 1) f) w6 ∧ UA A b w w6)) := hid (by
    rcases HK.out with ⟨a1, a2, a3⟩ | ⟨a1, a2, a3, a4⟩
    · exact .inl ⟨a1, a2, H5.out.2.1.below a3, (UA.ofBelow H5.out.1).trans (UA.ofBelow a3)⟩
    · obtain ⟨v0, v1, v2, v3, ver, kk⟩ := H5.out.2.1.ar
      obtain ⟨_, ⟨c2, b2⟩⟩ := H5.out.2.1.t4.blks
      exact .inr ⟨a1, a2, ⟨⟨v0, v1, v2, v3, ver, kk.upd a4 (kk.tneA b2 (by decide))⟩, a3⟩, (UA.ofBelow H5.out.1).trans (UA.ofb a4)⟩)
  have HS6 : Hid (w6.cell? ⟨A, 4, none⟩ = some (.pointer (some ⟨t, 0, none⟩)) ∧ Blk w6 p 84 [.int .i64 (k : Int), .int .i64 (n : Int)]) := hid (by
    obtain ⟨_, ⟨c2, b2⟩⟩ := H5.out.2.1.t4.blks
    rcases HK.out with ⟨_, _, a3⟩ | ⟨_, _, _, a4⟩
    · exact ⟨(H5.out.2.1.below a3).ptr, H5.out.2.2.1.below a3⟩
    · rcases HR6.out with ⟨_, _, q3, _⟩ | ⟨_, _, q3, _⟩
      · exact ⟨q3.ptr, H5.out.2.2.1.upd a4 (H5.out.2.2.1.tneA b2 (by decide))⟩
      · exact ⟨q3.ptr, H5.out.2.2.1.upd a4 (H5.out.2.2.1.tneA b2 (by decide))⟩)
  clear HK H5
  go_wp2_with fail
  refine ⟨HS6.out, ?_⟩
  go_wp2_with fail
  refine ⟨HS6.out, ?_⟩
  simp only [QN]
  clear HS6
  cases ok with
  | false =>
    as_aux_lemma =>
    have HF : Hid ((∃ i, lo ≤ i ∧ i < la + 1 ∧ f i = 0) ∧ AT A t b f w6 ∧ UA A b w w6) := hid (by
      rcases HR6.out with ⟨_, q⟩ | ⟨q, _⟩
      · exact q
      · cases q)
    clear HR6
    go_wp2
    go_ret
    exact ⟨10, rfl, hid (.inl ⟨rfl, HF.out⟩)⟩
  | true =>
    as_aux_lemma =>
    have HF : Hid ((∀ i, lo ≤ i → i < la + 1 → f i ≠ 0) ∧ AT A t b (decR lo (la + 1) f) w6 ∧ UA A b w w6) := hid (by
      rcases HR6.out with ⟨q, _⟩ | ⟨_, q⟩
      · cases q
      · exact q)
    clear HR6
    have HTc := hid (touchT_walk HF.out.2.1)
    go_wp2_with fail
    refine HTc.out.mono ?_
    rintro e w7 ⟨rfl, ha7, hu7⟩
    have HG : Hid ((∀ i, lo ≤ i → i < la + 1 → f i ≠ 0) ∧ AT A t b (decR lo (la + 1) f) w7 ∧ UA A b w w7) := hid ⟨HF.out.1, ha7, HF.out.2.2.trans (UA.ofA hu7)⟩
    clear ha7 hu7 HTc HF
    go_wp2
    go_ret
    exact ⟨0, rfl, hid (.inr ⟨rfl, HG.out⟩)⟩
end
end Go.Proofs.Qxb6500887aGreat
