/- The machine: PushRoot, PopRoot, Safepoint, Collect. -/
import Derived.Test.Qxb6500889aDoorMuX6
namespace Go.Proofs.Qxb6500889aDoor
open Go.RowKit
set_option linter.unusedSimpArgs false
set_option linter.unusedVariables false

section
variable {w w' w'' : World} {ρ ρ' ρ'' : Rl} {L L' : HL} {T : XL} {H H' : HS} {X : XS}
theorem MM.scells (h : MM w ρ L T H X) : w.cell? ⟨T.xB, 270, none⟩ = some (.int .u64 (X.st : Int)) ∧ w.cell? ⟨T.xB, 271, none⟩ = some (.int .u64 (X.rf : Int)) ∧ w.cell? ⟨T.xB, 272, none⟩ = some (.int .u64 (X.al : Int)) ∧ w.cell? ⟨T.xB, 273, none⟩ = some (.int .u64 (X.sf : Int)) := by
  rw [h.xcell, h.xcell, h.xcell, h.xcell, show 270 = 268 + 2 from rfl, xC_tl, show 271 = 268 + 3 from rfl, xC_tl, show 272 = 268 + 4 from rfl, xC_tl, show 273 = 268 + 5 from rfl, xC_tl]
  exact ⟨rfl, rfl, rfl, rfl⟩
theorem MM.setSt (h : MM w ρ L T H X) (v : Nat) : MM (w.setCell ⟨T.xB, 270, none⟩ (.int .u64 (v : Int))) ρ L T H { X with st := v } ∧ Fx ρ w ρ (w.setCell ⟨T.xB, 270, none⟩ (.int .u64 (v : Int))) :=
  h.setX (i := 268 + 2) (tv' := T.tv) (X' := { X with st := v }) (xC_set_tl _ _ _ _ rfl rfl rfl) h.tr
theorem MM.setRf (h : MM w ρ L T H X) (v : Nat) : MM (w.setCell ⟨T.xB, 271, none⟩ (.int .u64 (v : Int))) ρ L T H { X with rf := v } ∧ Fx ρ w ρ (w.setCell ⟨T.xB, 271, none⟩ (.int .u64 (v : Int))) :=
  h.setX (i := 268 + 3) (tv' := T.tv) (X' := { X with rf := v }) (xC_set_tl _ _ _ _ rfl rfl rfl) h.tr
theorem MM.setAl (h : MM w ρ L T H X) (v : Nat) : MM (w.setCell ⟨T.xB, 272, none⟩ (.int .u64 (v : Int))) ρ L T H { X with al := v } ∧ Fx ρ w ρ (w.setCell ⟨T.xB, 272, none⟩ (.int .u64 (v : Int))) :=
  h.setX (i := 268 + 4) (tv' := T.tv) (X' := { X with al := v }) (xC_set_tl _ _ _ _ rfl rfl rfl) h.tr
theorem MM.setSf (h : MM w ρ L T H X) (v : Nat) : MM (w.setCell ⟨T.xB, 273, none⟩ (.int .u64 (v : Int))) ρ L T H { X with sf := v } ∧ Fx ρ w ρ (w.setCell ⟨T.xB, 273, none⟩ (.int .u64 (v : Int))) :=
  h.setX (i := 268 + 5) (tv' := T.tv) (X' := { X with sf := v }) (xC_set_tl _ _ _ _ rfl rfl rfl) h.tr
def psR (H : HS) (X : XS) (m v : Nat) : HS × Nat :=
  if (tgtX X m v).2 = 0 then (if (H.roots m).length = 64 then (H, 9) else ({ H with roots := fup H.roots m (H.roots m ++ [(tgtX X m v).1]) }, 0)) else (H, (tgtX X m v).2)
set_option maxRecDepth 1000000 in
set_option maxHeartbeats 2000000 in
theorem mpush_walk (h : MM w ρ L T H X) {m : Nat} (hm : m < 4) (hb : XB X) (hrl : ∀ m, m < 4 → (H.roots m).length ≤ 64) (v : Nat) (hv : v < 18446744073709551616) :
    Calls Tryd.prog 59 #[.pointer (some ⟨T.xB, 0, none⟩), .int .i64 (m : Int), .int .u64 (v : Int)] w fun e w' => e = .returned (.int .u8 ((psR H X m v).2 : Int)) ∧ Out w ρ L T (psR H X m v).1 X w' := by
  have HTb := hid (fun w => table_walk T.xB m hm w)
  have HTg := hid (target_walk h hm hb v hv)
  have htc := (tgtX_code X m v).1
  have HH := hid h
  have cH := h.heapP
  unfold psR
  obtain ⟨ta, hta⟩ : ∃ t, (tgtX X m v).1 = t := ⟨_, rfl⟩
  obtain ⟨tc, htcd⟩ : ∃ t, (tgtX X m v).2 = t := ⟨_, rfl⟩
  rw [hta, htcd] at HTg
  rw [htcd] at htc
  rw [hta, htcd]
  have HPs := hid (pushRoot_walk h.hm hm (hrl m hm) ta)
  obtain ⟨xB, hxB⟩ : ∃ b, T.xB = b := ⟨_, rfl⟩
  obtain ⟨hB, hhB⟩ : ∃ b, L.hB = b := ⟨_, rfl⟩
  rw [hxB] at HTb HTg cH
  rw [hhB] at HPs cH
  rw [hxB]
  clear h hb hrl hta htcd hxB hhB
  by_cases hc : tc = 0
  · subst hc
    rw [if_pos rfl]
    go_enter Tryd.func59, Tryd.ntmps59
    go_wp2_with fail
    refine (HTb.out _).mono ?_
    rintro e w1 ⟨rfl, rfl⟩
    go_wp2_with fail
    refine (HTg.out).mono ?_
    rintro e w2 ⟨rfl, rfl⟩
    go_wp2_with fail
    refine (HPs.out).mono ?_
    rintro e w3 hp
    unfold PushP at hp
    by_cases h64 : (H.roots m).length = 64
    · rw [if_pos h64] at hp
      obtain ⟨rfl, rfl⟩ := hp
      have H64 := hid h64
      clear h64
      go_wp2
      go_ret
      exact ⟨rfl, Out.same HH.out (Below.refl _ _)⟩
    · rw [if_neg h64] at hp
      obtain ⟨rfl, L', ρ', g1, g2, g3⟩ := hp
      have HO := hid (Out.heap HH.out (Below.refl _ _) g1 g2 g3)
      have H64 := hid h64
      clear h64 g1 g2 g3
      go_wp2
      go_ret
      exact ⟨rfl, HO.out⟩
  · rw [if_neg hc]
    have dc : ((tc : Int) != 0) = true := by simp; omega
    clear hc
    go_enter Tryd.func59, Tryd.ntmps59
    go_wp2_with fail
    refine (HTb.out _).mono ?_
    rintro e w1 ⟨rfl, rfl⟩
    go_wp2_with fail
    refine (HTg.out).mono ?_
    rintro e w2 ⟨rfl, rfl⟩
    go_wp2
    go_ret
    exact ⟨rfl, Out.same HH.out (Below.refl _ _)⟩
def ppR (H : HS) (X : XS) (m : Nat) : HS × XS × Nat × Nat := match (H.roots m).getLast? with
  | none => (H, X, 0, 10)
  | some x => if fullB (X.tb m) = true then (H, X, 0, 11) else ({ H with roots := fup H.roots m (H.roots m).dropLast, run := fup H.run m true }, givX X m x, hN (X.tb m).gen m (X.tb m).ad.length, 0)
set_option maxRecDepth 1000000 in
set_option maxHeartbeats 2000000 in
theorem mpop_walk (h : MM w ρ L T H X) {m : Nat} (hm : m < 4) (hb : XB X) (hrl : ∀ m, m < 4 → (H.roots m).length ≤ 64) :
    Calls Tryd.prog 60 #[.pointer (some ⟨T.xB, 0, none⟩), .int .i64 (m : Int)] w fun e w' => e = .returned (.tuple #[.int .u64 ((ppR H X m).2.2.1 : Int), .int .u8 ((ppR H X m).2.2.2 : Int)]) ∧ Out w ρ L T (ppR H X m).1 (ppR H X m).2.1 w' := by
  have HTb := hid (fun w => table_walk T.xB m hm w)
  have HDp := hid (depth_walk h.hm hm)
  have HFl := hid (full_walk h hm hb)
  have hrm := hrl m hm
  have HH := hid h
  have cH := h.heapP
  have hl := hb.len m
  unfold ppR
  rcases List.eq_nil_or_concat (H.roots m) with he | ⟨xs, x, he⟩
  · rw [he] at HDp
    rw [he]
    simp only [List.getLast?_nil]
    generalize T.xB = xB at *
    generalize L.hB = hB at *
    have HDp2 : Hid (Calls Tryd.prog 45 #[.pointer (some ⟨hB, 0, none⟩), .int .i64 (m : Int)] w fun e w' => e = .returned (.int .i64 0) ∧ w' = w) := hid HDp.out
    clear h hb hrl he hrm HDp hl
    go_enter Tryd.func60, Tryd.ntmps60
    go_wp2_with fail
    refine (HTb.out _).mono ?_
    rintro e w1 ⟨rfl, rfl⟩
    go_wp2_with fail
    refine (HDp2.out).mono ?_
    rintro e w2 ⟨rfl, rfl⟩
    go_wp2
    exact bodyPost_ret (v := .tuple #[.int .u64 0, .int .u8 10]) (by simp [results, Tryd.results60, go_sem]) rfl ⟨rfl, Out.same HH.out (Below.refl _ _)⟩
  rw [List.concat_eq_append] at he
  rw [he] at HDp hrm
  have hgl : (H.roots m).getLast? = some x := by rw [he]; simp
  have hdl : (H.roots m).dropLast = xs := by rw [he]; simp
  rw [hgl, hdl]
  dsimp only
  obtain ⟨n, hn⟩ : ∃ n, xs.length = n := ⟨_, rfl⟩
  rw [List.length_append, List.length_singleton, hn] at HDp hrm
  have HDp2 : Hid (Calls Tryd.prog 45 #[.pointer (some ⟨L.hB, 0, none⟩), .int .i64 (m : Int)] w fun e w' => e = .returned (.int .i64 ((n : Int) + 1)) ∧ w' = w) := hid (by have := HDp.out; rw [show ((n + 1 : Nat) : Int) = (n : Int) + 1 by omega] at this; exact this)
  have dn : ((n : Int) + 1 == 0) = false := by simp; omega
  have HPp := hid (popRoot_walk h.hm hm he)
  have HGv : Hid (fullB (X.tb m) = false → ∀ L' H' w', HM w' ρ L' H' → L'.hB = L.hB → Fr ρ w ρ w' → Calls Tryd.prog 67 #[.pointer (some ⟨T.xB, 0, none⟩), .pointer (some ⟨T.xB, 1 + m * 3, none⟩), .int .u64 (x : Int)] w' fun e w'' => e = .returned (.int .u64 ((hN (X.tb m).gen m (X.tb m).ad.length : Nat) : Int)) ∧ Out w ρ L T H' (givX X m x) w'') := hid (fun hf L' H' w' g1 g2 g3 => by
    have hlen : (X.tb m).ad.length < 128 := by
      unfold fullB at hf
      simp at hf
      omega
    have := give_walk (HH.out.heap g1 g2 g3) hm hb hlen x
    refine this.mono ?_
    rintro e w'' ⟨rfl, T', ρ', k1, k2, k3⟩
    exact ⟨rfl, ρ', L', T', k1, g2, k2, g3.fx.trans k3⟩)
  obtain ⟨fb, hfb⟩ : ∃ b, fullB (X.tb m) = b := ⟨_, rfl⟩
  rw [hfb] at HFl HGv
  rw [hfb]
  obtain ⟨hn', hhn⟩ : ∃ n, hN (X.tb m).gen m (X.tb m).ad.length = n := ⟨_, rfl⟩
  rw [hhn] at HGv
  rw [hhn]
  obtain ⟨xB, hxB⟩ : ∃ b, T.xB = b := ⟨_, rfl⟩
  obtain ⟨hB, hhB⟩ : ∃ b, L.hB = b := ⟨_, rfl⟩
  rw [hxB] at HTb HFl HGv cH
  rw [hhB] at HDp2 HPp HGv cH
  rw [hxB]
  have HcH : Hid (∀ w', Below w.heap.size w w' → w'.cell? ⟨xB, 0, none⟩ = some (.pointer (some ⟨hB, 0, none⟩))) := hid (fun w' hb' => by rw [← hxB, ← hhB]; exact (HH.out.below hb').heapP)
  clear h hb hrl he hgl hdl hn HDp hl hfb hhn hxB hhB
  go_enter Tryd.func60, Tryd.ntmps60
  go_wp2_with fail
  refine (HTb.out _).mono ?_
  rintro e w1 ⟨rfl, rfl⟩
  go_wp2_with fail
  refine (HDp2.out).mono ?_
  rintro e w2 ⟨rfl, rfl⟩
  cases fb with
  | true =>
    go_wp2_with fail
    refine (HFl.out).mono ?_
    rintro e w3 ⟨rfl, rfl⟩
    go_wp2
    exact bodyPost_ret (v := .tuple #[.int .u64 0, .int .u8 11]) (by simp [results, Tryd.results60, go_sem]) rfl ⟨rfl, Out.same HH.out (Below.refl _ _)⟩
  | false =>
    go_wp2_with fail
    refine (HFl.out).mono ?_
    rintro e w3 ⟨rfl, rfl⟩
    go_wp2_with fail
    refine (HPp.out).mono ?_
    rintro e w4 ⟨rfl, L', g1, g2, g3⟩
    have HG4 := hid (HGv.out (by first | rfl | trivial) L' _ w4 g1 g2 g3)
    clear g1 g2 g3
    go_wp2_with fail
    refine (HG4.out).mono ?_
    rintro e w5 ⟨rfl, ho5⟩
    have HO5 := hid ho5
    clear ho5
    go_wp2
    exact bodyPost_ret (v := .tuple #[.int .u64 (hn' : Int), .int .u8 0]) (by simp [results, Tryd.results60, go_sem]) rfl ⟨rfl, HO5.out⟩
end
end Go.Proofs.Qxb6500889aDoor
