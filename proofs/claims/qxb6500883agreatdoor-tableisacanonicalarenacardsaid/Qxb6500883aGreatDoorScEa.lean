/- Words exactly; other role maps; apply. -/
import Derived.Test.Qxb6500883aGreatDoorScDl
namespace Go.Proofs.Qxb6500883aGreatDoor
open Go.RowKit
set_option linter.unusedSimpArgs false
set_option linter.unusedVariables false
def opS (k : Nat) : ByteArray := if k = 2 then ⟨#[43]⟩ else if k = 3 then ⟨#[45]⟩ else if k = 4 then ⟨#[42]⟩ else if k = 5 then ⟨#[47]⟩ else ⟨#[42, 42]⟩
theorem opS_size (k : Nat) : (opS k).size ≤ 2 := by unfold opS; split <;> (try split) <;> (try split) <;> (try split) <;> decide
theorem operatorTextX (k : Nat) (h1 : 2 ≤ k) (h2 : k ≤ 6) (w : World) : Calls Tryz.prog 146 #[.int .u8 (k : Int)] w fun e w' => e = .returned (.string (opS k)) ∧ w' = w := by
  rcases (by omega : k = 2 ∨ k = 3 ∨ k = 4 ∨ k = 5 ∨ k = 6) with rfl | rfl | rfl | rfl | rfl
  all_goals (
    go_enter Tryz.func146, Tryz.ntmps146
    go_wp2
    go_ret
    exact ⟨rfl, rfl⟩)
theorem Fr.mono' {X Y : Nat → Bool} {ρ ρ' : Rl} {w w' : World} (h : Fr X ρ w ρ' w') (hx : ∀ g, g < w.heap.size → X (ρ g) = true → Y (ρ g) = true) : Fr Y ρ w ρ' w' :=
  ⟨h.os, h.tape, h.output, h.size, h.old, h.nw, fun g hg h0 => h.blk g hg (by cases e : X (ρ g) with | false => rfl | true => rw [hx g hg e] at h0; cases h0)⟩
section
variable {N mg : Nat} {ρ ρ' : Rl} {w w' w0 w1 w2 : World} {l : PL} {bs : List UInt8} {F : FS} {U : FV} {c n : Nat} {V V' : CV} {errs : List (Nat × Nat)} {v : Value}
theorem CM.rho (h : CM N mg ρ w l bs F U c V errs) (hk : ∀ g k, k ≠ 0 → k ≤ 11 → ρ g = k → ρ' g = k) (h0 : ∀ g, ρ g = 0 → ρ' g = 0) : CM N mg ρ' w l bs F U c V errs := by
  refine ⟨⟨h.r.src, h.r.gl, ?_, hk _ _ (by decide) (by decide) h.r.rp, hk _ _ (by decide) (by decide) h.r.rf, fun ad ha => h0 _ (h.r.rs ad ha), fun g hg => h0 _ (h.r.rN g hg), fun g hg => h.r.dom g (fun e => hg (h0 g e))⟩, h.fb, ⟨h.fr.d.rho (fun g => hk g _ (by decide) (by decide)), h.fr.t.rho (fun g => hk g _ (by decide) (by decide)), h.fr.e.rho (fun g => hk g _ (by decide) (by decide)), h.fr.f.rho (fun g => hk g _ (by decide) (by decide)), h.fr.o.rho (fun g => hk g _ (by decide) (by decide))⟩, h.cb, hk _ _ (by decide) (by decide) h.rc, ⟨?_, h.dg.pos⟩⟩
  · obtain ⟨V, h1, h2⟩ := h.r.rows
    exact ⟨V, h1, ⟨h2.d.rho (fun g => hk g _ (by decide) (by decide)), h2.t.rho (fun g => hk g _ (by decide) (by decide)), h2.e.rho (fun g => hk g _ (by decide) (by decide)), h2.f.rho (fun g => hk g _ (by decide) (by decide)), h2.o.rho (fun g => hk g _ (by decide) (by decide))⟩⟩
  · obtain ⟨qs, h1, h2, h3, h4⟩ := h.dg.row
    refine ⟨qs, h1.rho (fun g => hk g _ (by decide) (by decide)), h2, h3, fun i q hq => ?_⟩
    obtain ⟨k, m, e1, e2, e3, e4, e5⟩ := h4 i q hq
    exact ⟨k, m, e1, e2, e3, e4, hk _ _ (by decide) (by decide) e5⟩
theorem CM.noR (h : CM N mg ρ w l bs F U c V errs) {r : Nat} (hr : 11 < r) : CM N mg (noR r ρ) w l bs F U c V errs :=
  h.rho (fun g k _ hk hg => noR_keep (by omega) hg) (fun g hg => noR_keep (by omega) hg)
def ApR (N mg : Nat) (ρ : Rl) (w : World) (l : PL) (bs : List UInt8) (F : FS) (U : FV) (c : Nat) (V : CV) (errs : List (Nat × Nat)) (pos : Nat) (ok : Bool) (w' : World) : Prop := (ok = true ∧ Below w.heap.size w w') ∨ (ok = false ∧ ∃ k, CAd N mg ρ w l bs F U c V (errs ++ [(k, pos)]) w')
/-- What apply comes to. -/
def ApQ (N mg : Nat) (ρ : Rl) (w : World) (l : PL) (bs : List UInt8) (F : FS) (U : FV) (c : Nat) (V : CV) (errs : List (Nat × Nat)) (pos : Nat) (e : Ending) (w' : World) : Prop :=
  ∃ (x : Nat) (ok : Bool), e = .returned (.tuple #[.int .u64 (x : Int), .bool ok]) ∧ x < 18446744073709551616 ∧ Hid (ApR N mg ρ w l bs F U c V errs pos ok w')
set_option maxRecDepth 100000 in
set_option maxHeartbeats 4000000 in
theorem applyW (h : CM N mg ρ w l bs F U c V errs) {g o f pos a b : Nat} (hf0 : w.cell? ⟨g, o, none⟩ = some (.int .u8 (f : Int))) (hf1 : w.cell? ⟨g, o + 1, none⟩ = some (.int .i64 (pos : Int))) (hg : g < w.heap.size) (h2 : 2 ≤ f) (h6 : f ≤ 6) (hp : pos ≤ l.n) (ha : a < 18446744073709551616) (hb : b < 18446744073709551616) (hl : errs.length ≤ 1000000000000) :
    Calls Tryz.prog 119 #[.pointer (some ⟨c, 0, none⟩), .pointer (some ⟨g, o, none⟩), .int .u64 (a : Int), .int .u64 (b : Int)] w (ApQ N mg ρ w l bs F U c V errs pos) := by
  have HM := hid h
  have HC : Hid (∀ wz, Below w.heap.size w wz → wz.cell? ⟨g, o, none⟩ = some (.int .u8 (f : Int)) ∧ wz.cell? ⟨g, o + 1, none⟩ = some (.int .i64 (pos : Int))) := hid (fun wz hz => ⟨by rw [keepCell _ (hz.block g hg)]; exact hf0, by rw [keepCell _ (hz.block g hg)]; exact hf1⟩)
  have Hua := hid (fun wz => utoaX a ha wz)
  have Hub := hid (fun wz => utoaX b hb wz)
  have hua := uS_size a ha
  have hub := uS_size b hb
  generalize uS a = sa at Hua hua
  generalize uS b = sb at Hub hub
  have Hot := hid (fun wz => operatorTextX f h2 h6 wz)
  have hot := opS_size f
  generalize opS f = so at Hot hot
  clear h hf1 hg
  rcases (by omega : f = 2 ∨ f = 3 ∨ f = 4 ∨ f = 5 ∨ f = 6) with rfl | rfl | rfl | rfl | rfl
  · as_aux_lemma =>
    have HCa := hid (addCheckedW a b ha hb w)
    go_enter Tryz.func119, Tryz.ntmps119
    go_wp2_with fail
    refine HCa.out.mono ?_
    rintro e w1 ⟨rfl, hw1⟩
    have HBw : Hid (Below w.heap.size w w1) := hid (by rw [hw1]; exact Below.refl _ _)
    clear hw1
    clear HCa hf0
    obtain ⟨vv, hvv⟩ : ∃ v, (a + b) % 18446744073709551616 = v := ⟨_, rfl⟩
    have hvb : vv < 18446744073709551616 := by omega
    rw [hvv]
    clear hvv
    obtain ⟨bb, hbb⟩ : ∃ bb, decide (a + b < 18446744073709551616) = bb := ⟨_, rfl⟩
    rw [hbb]
    clear hbb
    cases bb with
    | true =>
      have HQ : Hid (ApR N mg ρ w l bs F U c V errs pos true w1) := hid (.inl ⟨rfl, HBw.out⟩)
      clear HBw
      go_wp2
      refine bodyPost_ret (v := .tuple #[.int .u64 (vv : Int), .bool true]) (by simp [results, Tryz.results119, go_sem]) rfl ⟨vv, true, rfl, hvb, HQ⟩
    | false =>
      have z1 : (sa ++ ({ data := #[32] } : ByteArray)).size = sa.size + 1 := by rw [ba_size]; rfl
      have z2 : (sa ++ ({ data := #[32] } : ByteArray) ++ so).size = sa.size + 1 + so.size := by rw [ba_size, z1]
      have z3 : (sa ++ ({ data := #[32] } : ByteArray) ++ so ++ { data := #[32] }).size = sa.size + 1 + so.size + 1 := by rw [ba_size, z2]; rfl
      have z4 : (sa ++ ({ data := #[32] } : ByteArray) ++ so ++ { data := #[32] } ++ sb).size = sa.size + 1 + so.size + 1 + sb.size := by rw [ba_size, z3]
      have z5 : (sa ++ ({ data := #[32] } : ByteArray) ++ so ++ { data := #[32] } ++ sb ++ { data := #[32, 105, 115, 32, 111, 118, 101, 114, 32, 50, 94, 54, 52, 45, 49] }).size = sa.size + 1 + so.size + 1 + sb.size + 15 := by rw [ba_size, z4]; rfl
      have HCw : Hid (∀ wy, Below w1.heap.size w1 wy → wy.cell? ⟨g, o, none⟩ = some (.int .u8 2) ∧ wy.cell? ⟨g, o + 1, none⟩ = some (.int .i64 (pos : Int))) := hid (fun wy hy => HC.out wy (HBw.out.trans (hy.mono HBw.out.size)))
      go_upto_region 21 with fail
      obtain ⟨X0, W, hT, hI⟩ := class_mk (fun w' => Below w1.heap.size w1 w')
      have H0 : Hid (∃ y, w1.drew = W y) := hid (hI _ (Drew.below ⟨1, rfl⟩ _))
      have HW0 : Hid (∀ x w', Below (W x).heap.size (W x) w' → ∃ y, w' = W y) := hid (fun x w' hb => hI _ ((hT x).trans (hb.mono (hT x).size)))
      have hne : Nonempty X0 := ⟨H0.out.choose⟩
      have HTT := hid hT
      have a0 : ∀ z, (W z).cell? ⟨g, o, none⟩ = some (.int .u8 2) := fun y => (fun wy hy => (HCw.out wy hy).1) (W y) (hT y)
      have a1 : ∀ z, (W z).cell? ⟨g, o + 1, none⟩ = some (.int .i64 (pos : Int)) := fun y => (fun wy hy => (HCw.out wy hy).2) (W y) (hT y)
      clear hT hI
      refine wp_region_class_tailT W 21 (by kernel_rfl) (by kernel_rfl) (by kernel_rfl) H0.out ?_
      dsimp only [List.take, List.drop]
      repeat (go_big_quiet_step ((first | (go_at_call 103; first | with_reducible exact Calls.class_of HW0.out (Hua.out _) | with_reducible exact Calls.class_of HW0.out (Hub.out _)) | (go_at_call 146; with_reducible exact Calls.class_same (Hot.out _)))))
      refine wpQuiet_nil ?_
      intro z
      have HB := hid (HTT.out z)
      have a0z := a0 z
      have a1z := a1 z
      generalize W z = wz at HB a0z a1z ⊢
      clear H0 HTT HW0 a0 a1
      clear a0z a1z
      have hbz := HBw.out.trans (HB.out.mono HBw.out.size)
      have HA := hid (addDW (HM.out.below hbz) 10 pos _ hp (show 0 < ByteArray.size _ by rw [z5]; omega) (by rw [z5]; omega) hl)
      have Hbz := hid hbz
      clear hbz HB
      go_wp2_with fail
      refine HA.out.mono ?_
      rintro e w4 ⟨rfl, h4⟩
      have HQ : Hid (ApR N mg ρ w l bs F U c V errs pos false w4) := hid (.inr ⟨rfl, 10, CAd.pre Hbz.out h4.out⟩)
      clear HA h4
      go_wp2
      refine bodyPost_ret (v := .tuple #[.int .u64 0, .bool false]) (by simp [results, Tryz.results119, go_sem]) rfl ⟨0, false, rfl, by decide, HQ⟩
  · as_aux_lemma =>
    have HCa := hid (subCheckedW a b ha hb w)
    go_enter Tryz.func119, Tryz.ntmps119
    go_wp2_with fail
    refine HCa.out.mono ?_
    rintro e w1 ⟨vv, rfl, hvb, hw1⟩
    have HBw : Hid (Below w.heap.size w w1) := hid (by rw [hw1]; exact Below.refl _ _)
    clear hw1
    clear HCa hf0
    obtain ⟨bb, hbb⟩ : ∃ bb, decide (b ≤ a) = bb := ⟨_, rfl⟩
    rw [hbb]
    clear hbb
    cases bb with
    | true =>
      have HQ : Hid (ApR N mg ρ w l bs F U c V errs pos true w1) := hid (.inl ⟨rfl, HBw.out⟩)
      clear HBw
      go_wp2
      refine bodyPost_ret (v := .tuple #[.int .u64 (vv : Int), .bool true]) (by simp [results, Tryz.results119, go_sem]) rfl ⟨vv, true, rfl, hvb, HQ⟩
    | false =>
      have z1 : (sa ++ ({ data := #[32, 45, 32] } : ByteArray)).size = sa.size + 3 := by rw [ba_size]; rfl
      have z2 : (sa ++ ({ data := #[32, 45, 32] } : ByteArray) ++ sb).size = sa.size + 3 + sb.size := by rw [ba_size, z1]
      have z3 : (sa ++ ({ data := #[32, 45, 32] } : ByteArray) ++ sb ++ { data := #[32, 105, 115, 32, 110, 101, 103, 97, 116, 105, 118, 101] }).size = sa.size + 3 + sb.size + 12 := by rw [ba_size, z2]; rfl
      have HCw : Hid (∀ wy, Below w1.heap.size w1 wy → wy.cell? ⟨g, o, none⟩ = some (.int .u8 3) ∧ wy.cell? ⟨g, o + 1, none⟩ = some (.int .i64 (pos : Int))) := hid (fun wy hy => HC.out wy (HBw.out.trans (hy.mono HBw.out.size)))
      go_upto_region 9 with fail
      obtain ⟨X0, W, hT, hI⟩ := class_mk (fun w' => Below w1.heap.size w1 w')
      have H0 : Hid (∃ y, w1.drew = W y) := hid (hI _ (Drew.below ⟨1, rfl⟩ _))
      have HW0 : Hid (∀ x w', Below (W x).heap.size (W x) w' → ∃ y, w' = W y) := hid (fun x w' hb => hI _ ((hT x).trans (hb.mono (hT x).size)))
      have hne : Nonempty X0 := ⟨H0.out.choose⟩
      have HTT := hid hT
      have a0 : ∀ z, (W z).cell? ⟨g, o, none⟩ = some (.int .u8 3) := fun y => (fun wy hy => (HCw.out wy hy).1) (W y) (hT y)
      have a1 : ∀ z, (W z).cell? ⟨g, o + 1, none⟩ = some (.int .i64 (pos : Int)) := fun y => (fun wy hy => (HCw.out wy hy).2) (W y) (hT y)
      clear hT hI
      refine wp_region_class_tailT W 14 (by kernel_rfl) (by kernel_rfl) (by kernel_rfl) H0.out ?_
      dsimp only [List.take, List.drop]
      repeat (go_big_quiet_step ((go_at_call 103; first | with_reducible exact Calls.class_of HW0.out (Hua.out _) | with_reducible exact Calls.class_of HW0.out (Hub.out _))))
      refine wpQuiet_nil ?_
      intro z
      have HB := hid (HTT.out z)
      have a0z := a0 z
      have a1z := a1 z
      generalize W z = wz at HB a0z a1z ⊢
      clear H0 HTT HW0 a0 a1
      clear a0z a1z
      have hbz := HBw.out.trans (HB.out.mono HBw.out.size)
      have HA := hid (addDW (HM.out.below hbz) 10 pos _ hp (show 0 < ByteArray.size _ by rw [z3]; omega) (by rw [z3]; omega) hl)
      have Hbz := hid hbz
      clear hbz HB
      go_wp2_with fail
      refine HA.out.mono ?_
      rintro e w4 ⟨rfl, h4⟩
      have HQ : Hid (ApR N mg ρ w l bs F U c V errs pos false w4) := hid (.inr ⟨rfl, 10, CAd.pre Hbz.out h4.out⟩)
      clear HA h4
      go_wp2
      refine bodyPost_ret (v := .tuple #[.int .u64 0, .bool false]) (by simp [results, Tryz.results119, go_sem]) rfl ⟨0, false, rfl, by decide, HQ⟩
  · as_aux_lemma =>
    have HCa := hid (mulCheckedW a b ha hb w)
    go_enter Tryz.func119, Tryz.ntmps119
    go_wp2_with fail
    refine HCa.out.mono ?_
    rintro e w1 ⟨rfl, hd1⟩
    have HBw : Hid (Below w.heap.size w w1) := hid (hd1.below _)
    clear hd1
    clear HCa hf0
    obtain ⟨vv, hvv⟩ : ∃ v, a * b % 18446744073709551616 = v := ⟨_, rfl⟩
    have hvb : vv < 18446744073709551616 := by rw [← hvv]; exact Nat.mod_lt _ (by decide)
    rw [hvv]
    clear hvv
    obtain ⟨bb, hbb⟩ : ∃ bb, decide (a * b < 18446744073709551616) = bb := ⟨_, rfl⟩
    rw [hbb]
    clear hbb
    cases bb with
    | true =>
      have HQ : Hid (ApR N mg ρ w l bs F U c V errs pos true w1) := hid (.inl ⟨rfl, HBw.out⟩)
      clear HBw
      go_wp2
      refine bodyPost_ret (v := .tuple #[.int .u64 (vv : Int), .bool true]) (by simp [results, Tryz.results119, go_sem]) rfl ⟨vv, true, rfl, hvb, HQ⟩
    | false =>
      have z1 : (sa ++ ({ data := #[32] } : ByteArray)).size = sa.size + 1 := by rw [ba_size]; rfl
      have z2 : (sa ++ ({ data := #[32] } : ByteArray) ++ so).size = sa.size + 1 + so.size := by rw [ba_size, z1]
      have z3 : (sa ++ ({ data := #[32] } : ByteArray) ++ so ++ { data := #[32] }).size = sa.size + 1 + so.size + 1 := by rw [ba_size, z2]; rfl
      have z4 : (sa ++ ({ data := #[32] } : ByteArray) ++ so ++ { data := #[32] } ++ sb).size = sa.size + 1 + so.size + 1 + sb.size := by rw [ba_size, z3]
      have z5 : (sa ++ ({ data := #[32] } : ByteArray) ++ so ++ { data := #[32] } ++ sb ++ { data := #[32, 105, 115, 32, 111, 118, 101, 114, 32, 50, 94, 54, 52, 45, 49] }).size = sa.size + 1 + so.size + 1 + sb.size + 15 := by rw [ba_size, z4]; rfl
      have HCw : Hid (∀ wy, Below w1.heap.size w1 wy → wy.cell? ⟨g, o, none⟩ = some (.int .u8 4) ∧ wy.cell? ⟨g, o + 1, none⟩ = some (.int .i64 (pos : Int))) := hid (fun wy hy => HC.out wy (HBw.out.trans (hy.mono HBw.out.size)))
      go_upto_region 21 with fail
      obtain ⟨X0, W, hT, hI⟩ := class_mk (fun w' => Below w1.heap.size w1 w')
      have H0 : Hid (∃ y, w1.drew = W y) := hid (hI _ (Drew.below ⟨1, rfl⟩ _))
      have HW0 : Hid (∀ x w', Below (W x).heap.size (W x) w' → ∃ y, w' = W y) := hid (fun x w' hb => hI _ ((hT x).trans (hb.mono (hT x).size)))
      have hne : Nonempty X0 := ⟨H0.out.choose⟩
      have HTT := hid hT
      have a0 : ∀ z, (W z).cell? ⟨g, o, none⟩ = some (.int .u8 4) := fun y => (fun wy hy => (HCw.out wy hy).1) (W y) (hT y)
      have a1 : ∀ z, (W z).cell? ⟨g, o + 1, none⟩ = some (.int .i64 (pos : Int)) := fun y => (fun wy hy => (HCw.out wy hy).2) (W y) (hT y)
      clear hT hI
      refine wp_region_class_tailT W 21 (by kernel_rfl) (by kernel_rfl) (by kernel_rfl) H0.out ?_
      dsimp only [List.take, List.drop]
      repeat (go_big_quiet_step ((first | (go_at_call 103; first | with_reducible exact Calls.class_of HW0.out (Hua.out _) | with_reducible exact Calls.class_of HW0.out (Hub.out _)) | (go_at_call 146; with_reducible exact Calls.class_same (Hot.out _)))))
      refine wpQuiet_nil ?_
      intro z
      have HB := hid (HTT.out z)
      have a0z := a0 z
      have a1z := a1 z
      generalize W z = wz at HB a0z a1z ⊢
      clear H0 HTT HW0 a0 a1
      clear a0z a1z
      have hbz := HBw.out.trans (HB.out.mono HBw.out.size)
      have HA := hid (addDW (HM.out.below hbz) 10 pos _ hp (show 0 < ByteArray.size _ by rw [z5]; omega) (by rw [z5]; omega) hl)
      have Hbz := hid hbz
      clear hbz HB
      go_wp2_with fail
      refine HA.out.mono ?_
      rintro e w4 ⟨rfl, h4⟩
      have HQ : Hid (ApR N mg ρ w l bs F U c V errs pos false w4) := hid (.inr ⟨rfl, 10, CAd.pre Hbz.out h4.out⟩)
      clear HA h4
      go_wp2
      refine bodyPost_ret (v := .tuple #[.int .u64 0, .bool false]) (by simp [results, Tryz.results119, go_sem]) rfl ⟨0, false, rfl, by decide, HQ⟩
  · skip
    have HBw : Hid (Below w.heap.size w w) := hid (Below.refl _ _)
    by_cases hb0 : b = 0
    · have d0 : ((b : Int) == 0) = true := by simp; omega
      clear hb0
      go_enter Tryz.func119, Tryz.ntmps119
      have z1 : (sa ++ ({ data := #[32, 105, 115, 32, 100, 105, 118, 105, 100, 101, 100, 32, 98, 121, 32, 122, 101, 114, 111] } : ByteArray)).size = sa.size + 19 := by rw [ba_size]; rfl
      have HCw : Hid (∀ wy, Below w.heap.size w wy → wy.cell? ⟨g, o, none⟩ = some (.int .u8 5) ∧ wy.cell? ⟨g, o + 1, none⟩ = some (.int .i64 (pos : Int))) := hid (fun wy hy => HC.out wy (HBw.out.trans (hy.mono HBw.out.size)))
      go_upto_region 15 with fail
      obtain ⟨X0, W, hT, hI⟩ := class_mk (fun w' => Below w.heap.size w w')
      have H0 : Hid (∃ y, w.drew = W y) := hid (hI _ (Drew.below ⟨1, rfl⟩ _))
      have HW0 : Hid (∀ x w', Below (W x).heap.size (W x) w' → ∃ y, w' = W y) := hid (fun x w' hb => hI _ ((hT x).trans (hb.mono (hT x).size)))
      have hne : Nonempty X0 := ⟨H0.out.choose⟩
      have HTT := hid hT
      have a0 : ∀ z, (W z).cell? ⟨g, o, none⟩ = some (.int .u8 5) := fun y => (fun wy hy => (HCw.out wy hy).1) (W y) (hT y)
      have a1 : ∀ z, (W z).cell? ⟨g, o + 1, none⟩ = some (.int .i64 (pos : Int)) := fun y => (fun wy hy => (HCw.out wy hy).2) (W y) (hT y)
      clear hT hI
      refine wp_region_class_tailT W 10 (by kernel_rfl) (by kernel_rfl) (by kernel_rfl) H0.out ?_
      dsimp only [List.take, List.drop]
      repeat (go_big_quiet_step ((go_at_call 103; first | with_reducible exact Calls.class_of HW0.out (Hua.out _) | with_reducible exact Calls.class_of HW0.out (Hub.out _))))
      refine wpQuiet_nil ?_
      intro z
      have HB := hid (HTT.out z)
      have a0z := a0 z
      have a1z := a1 z
      generalize W z = wz at HB a0z a1z ⊢
      clear H0 HTT HW0 a0 a1
      clear a0z a1z
      have hbz := HBw.out.trans (HB.out.mono HBw.out.size)
      have HA := hid (addDW (HM.out.below hbz) 11 pos _ hp (show 0 < ByteArray.size _ by rw [z1]; omega) (by rw [z1]; omega) hl)
      have Hbz := hid hbz
      clear hbz HB
      go_wp2_with fail
      refine HA.out.mono ?_
      rintro e w4 ⟨rfl, h4⟩
      have HQ : Hid (ApR N mg ρ w l bs F U c V errs pos false w4) := hid (.inr ⟨rfl, 11, CAd.pre Hbz.out h4.out⟩)
      clear HA h4
      go_wp2
      refine bodyPost_ret (v := .tuple #[.int .u64 0, .bool false]) (by simp [results, Tryz.results119, go_sem]) rfl ⟨0, false, rfl, by decide, HQ⟩
    · have d0 : ((b : Int) == 0) = false := by simp; omega
      obtain ⟨vv, hvv⟩ : ∃ v, a / b = v := ⟨_, rfl⟩
      have hvb : vv < 18446744073709551616 := by rw [← hvv]; exact Nat.lt_of_le_of_lt (Nat.div_le_self _ _) ha
      have hq : ((a : Int) / (b : Int)) = (vv : Int) := by rw [← hvv]; simp
      have hq2 : ((a : Int).tdiv (b : Int)) = (vv : Int) := by rw [← hvv]; exact Int.ofNat_tdiv a b
      go_enter Tryz.func119, Tryz.ntmps119
      have HQ : Hid (ApR N mg ρ w l bs F U c V errs pos true w) := hid (.inl ⟨rfl, HBw.out⟩)
      clear HBw
      go_wp2
      refine bodyPost_ret (v := .tuple #[.int .u64 (vv : Int), .bool true]) (by simp [results, Tryz.results119, go_sem]) rfl ⟨vv, true, rfl, hvb, HQ⟩
  · as_aux_lemma =>
    have HCa := hid (powCheckedW a b ha hb w)
    go_enter Tryz.func119, Tryz.ntmps119
    go_wp2_with fail
    refine HCa.out.mono ?_
    rintro e w1 ⟨vv, bb, rfl, hvb, hd1⟩
    have HBw : Hid (Below w.heap.size w w1) := hid (hd1.out.2.2.below _)
    clear hd1
    clear HCa hf0
    cases bb with
    | true =>
      have HQ : Hid (ApR N mg ρ w l bs F U c V errs pos true w1) := hid (.inl ⟨rfl, HBw.out⟩)
      clear HBw
      go_wp2
      refine bodyPost_ret (v := .tuple #[.int .u64 (vv : Int), .bool true]) (by simp [results, Tryz.results119, go_sem]) rfl ⟨vv, true, rfl, hvb, HQ⟩
    | false =>
      have z1 : (sa ++ ({ data := #[32] } : ByteArray)).size = sa.size + 1 := by rw [ba_size]; rfl
      have z2 : (sa ++ ({ data := #[32] } : ByteArray) ++ so).size = sa.size + 1 + so.size := by rw [ba_size, z1]
      have z3 : (sa ++ ({ data := #[32] } : ByteArray) ++ so ++ { data := #[32] }).size = sa.size + 1 + so.size + 1 := by rw [ba_size, z2]; rfl
      have z4 : (sa ++ ({ data := #[32] } : ByteArray) ++ so ++ { data := #[32] } ++ sb).size = sa.size + 1 + so.size + 1 + sb.size := by rw [ba_size, z3]
      have z5 : (sa ++ ({ data := #[32] } : ByteArray) ++ so ++ { data := #[32] } ++ sb ++ { data := #[32, 105, 115, 32, 111, 118, 101, 114, 32, 50, 94, 54, 52, 45, 49] }).size = sa.size + 1 + so.size + 1 + sb.size + 15 := by rw [ba_size, z4]; rfl
      have HCw : Hid (∀ wy, Below w1.heap.size w1 wy → wy.cell? ⟨g, o, none⟩ = some (.int .u8 6) ∧ wy.cell? ⟨g, o + 1, none⟩ = some (.int .i64 (pos : Int))) := hid (fun wy hy => HC.out wy (HBw.out.trans (hy.mono HBw.out.size)))
      go_upto_region 21 with fail
      obtain ⟨X0, W, hT, hI⟩ := class_mk (fun w' => Below w1.heap.size w1 w')
      have H0 : Hid (∃ y, w1.drew = W y) := hid (hI _ (Drew.below ⟨1, rfl⟩ _))
      have HW0 : Hid (∀ x w', Below (W x).heap.size (W x) w' → ∃ y, w' = W y) := hid (fun x w' hb => hI _ ((hT x).trans (hb.mono (hT x).size)))
      have hne : Nonempty X0 := ⟨H0.out.choose⟩
      have HTT := hid hT
      have a0 : ∀ z, (W z).cell? ⟨g, o, none⟩ = some (.int .u8 6) := fun y => (fun wy hy => (HCw.out wy hy).1) (W y) (hT y)
      have a1 : ∀ z, (W z).cell? ⟨g, o + 1, none⟩ = some (.int .i64 (pos : Int)) := fun y => (fun wy hy => (HCw.out wy hy).2) (W y) (hT y)
      clear hT hI
      refine wp_region_class_tailT W 21 (by kernel_rfl) (by kernel_rfl) (by kernel_rfl) H0.out ?_
      dsimp only [List.take, List.drop]
      repeat (go_big_quiet_step ((first | (go_at_call 103; first | with_reducible exact Calls.class_of HW0.out (Hua.out _) | with_reducible exact Calls.class_of HW0.out (Hub.out _)) | (go_at_call 146; with_reducible exact Calls.class_same (Hot.out _)))))
      refine wpQuiet_nil ?_
      intro z
      have HB := hid (HTT.out z)
      have a0z := a0 z
      have a1z := a1 z
      generalize W z = wz at HB a0z a1z ⊢
      clear H0 HTT HW0 a0 a1
      clear a0z a1z
      have hbz := HBw.out.trans (HB.out.mono HBw.out.size)
      have HA := hid (addDW (HM.out.below hbz) 10 pos _ hp (show 0 < ByteArray.size _ by rw [z5]; omega) (by rw [z5]; omega) hl)
      have Hbz := hid hbz
      clear hbz HB
      go_wp2_with fail
      refine HA.out.mono ?_
      rintro e w4 ⟨rfl, h4⟩
      have HQ : Hid (ApR N mg ρ w l bs F U c V errs pos false w4) := hid (.inr ⟨rfl, 10, CAd.pre Hbz.out h4.out⟩)
      clear HA h4
      go_wp2
      refine bodyPost_ret (v := .tuple #[.int .u64 0, .bool false]) (by simp [results, Tryz.results119, go_sem]) rfl ⟨0, false, rfl, by decide, HQ⟩
end
end Go.Proofs.Qxb6500883aGreatDoor
