/- The barrier: applyIncrements, the walk. -/
import Derived.Test.Qxb6500888aBaP6
namespace Go.Proofs.Qxb6500888a
open Go.RowKit
set_option linter.unusedSimpArgs false
set_option linter.unusedVariables false

section
variable {x : Nat} {w w' : World} {ρ ρ' : Rl} {L L' : GL} {T T' : BL} {hB : Nat} {V : Nat → Value} {G G' : GS} {B B' : BS} {hv : Nat → List Nat}
theorem ApM.elem0 {hv0 : Nat → List Nat} {C : Nat} {p : GS × (Nat → List Nat)} {V' : Nat → Value} {wr : World} (h : ApM w ρ L T hB V B hv0 C p L' V' ρ' wr) {i : Nat} (hi : i < 8) (h4 : i ≠ 4) (h5 : i ≠ 5) {a : Option Addr} {n c : Nat} (hV : V i = .slice a n c) {k : Nat} (hk : k < (hv0 i).length) : ∃ g, a = some ⟨g, 0, none⟩ ∧ wr.cell? ⟨g, k, none⟩ = some (.int .u64 (((hv0 i).getD k 0 : Nat) : Int)) := by
  have := h.pm.elem hi (by rw [h.vk i h4 h5]; exact hV) (k := k) (by rw [h.ap.k i h4 h5]; exact hk)
  rw [h.ap.k i h4 h5] at this
  exact this
/-- The births under way. -/
def BiR (w : World) (ρ : Rl) (L : GL) (T : BL) (hB : Nat) (V : Nat → Value) (B : BS) (hv0 : Nat → List Nat) (C : Nat) (R : GS × (Nat → List Nat)) (n : Nat) (v : Value) (wr : World) : Prop :=
  ∃ (k : Nat) (p : GS × (Nat → List Nat)) (L' : GL) (V' : Nat → Value) (ρ' : Rl), v = .int .i64 (k : Int) ∧ k ≤ (p.2 4).length ∧ ApM w ρ L T hB V B hv0 (C + k) p L' V' ρ' wr ∧ births n k p = R ∧ (32769 - nz p.1.cnt) * 8193 + ((p.2 4).length - k) ≤ n
theorem getD_mem {l : List Nat} {k : Nat} (h : k < l.length) : l.getD k 0 ∈ l := by
  rw [List.getD_eq_getElem?_getD, List.getElem?_eq_getElem h]
  exact List.getElem_mem h
set_option maxRecDepth 1000000 in
set_option maxHeartbeats 8000000 in
theorem apply_walk (h : PMx 5 w ρ L T hB V G B hv) {C : Nat} (ha : ApS hv C G hv) (hC : C ≤ 100000000000) (h0 : ∀ o ∈ hv 0, 65536 ≤ o ∧ o < 98304) (h2 : ∀ o ∈ hv 2, 65536 ≤ o ∧ o < 98304) (hl : ∀ i, (hv i).length ≤ 100000000000) :
    Calls Try.prog 76 #[.pointer (some ⟨T.bB, 0, none⟩), .pointer (some ⟨hB, 0, none⟩)] w fun e w' => e = .returned (.tuple #[]) ∧ ∃ L' V' ρ' C', C' ≤ C + (hv 0).length + (hv 2).length + 268435456 ∧ ApM w ρ L T hB V B hv C' (applyP (G, hv)) L' V' ρ' w' := by
  have HH := hid h
  have HC := hid hC
  have H0 := hid h0
  have H2 := hid h2
  have Hl := hid hl
  obtain ⟨a0, q0, hV0⟩ := (h.hm.rw 0 (by decide)).shape
  obtain ⟨a2, q2, hV2⟩ := (h.hm.rw 2 (by decide)).shape
  have c0 := h.hcell (i := 0) (by decide)
  rw [hV0] at c0
  obtain ⟨n0, hn0⟩ : ∃ n, (hv 0).length = n := ⟨_, rfl⟩
  obtain ⟨n2, hn2⟩ : ∃ n, (hv 2).length = n := ⟨_, rfl⟩
  rw [hn0] at c0 hV0
  rw [hn2] at hV2
  have HV := hid (And.intro hV0 hV2)
  have Hn := hid (And.intro hn0 hn2)
  have i0 : (n0 : Int) ≤ 100000000000 := by have := hl 0; omega
  have i2 : (n2 : Int) ≤ 100000000000 := by have := hl 2; omega
  have HA0 : Hid (ApM w ρ L T hB V B hv (C + 0) (incs (G, hv) ((hv 0).take 0)) L V ρ w) := hid ⟨h, GL.Same.refl _, Fr.refl _ _ _, fun _ _ _ => rfl, ha⟩
  clear h ha hC h0 h2 hl hV0 hV2
  rw [hn0, hn2]
  clear hn0 hn2
  go_enter Try.func76, Try.ntmps76
  go_wp2_with fail
  clear c0
  go_loopw [14] (fun v wr => ∃ i : Nat, i ≤ n0 ∧ v = .int .i64 (i : Int) ∧ Hid (∃ L' V' ρ', ApM w ρ L T hB V B hv (C + i) (incs (G, hv) ((hv 0).take i)) L' V' ρ' wr)) (fun v _ => n0 - (intOf v).toNat)
  case atStart => exact ⟨0, by omega, rfl, hid ⟨L, V, ρ, HA0.out⟩⟩
  case round =>
    obtain ⟨i, hi, rfl, HX⟩ := hrel
    obtain ⟨L1, V1, ρ1, ha1⟩ := HX.out
    have HA1 := hid ha1
    clear HX ha1 HA0
    by_cases hlt : i < n0
    · as_aux_lemma =>
      have dk : decide ((i : Int) < (n0 : Int)) = true := decide_eq_true (by omega)
      have hil : i < (hv 0).length := by rw [Hn.out.1]; exact hlt
      obtain ⟨g, rfl, cg⟩ := HA1.out.elem0 (by decide) (by decide) (by decide) HV.out.1 hil
      have hmem := getD_mem hil
      have htk : (hv 0).take (i + 1) = (hv 0).take i ++ [(hv 0).getD i 0] := by rw [List.take_add_one, List.getElem?_eq_getElem hil, List.getD_eq_getElem?_getD, List.getElem?_eq_getElem hil]; rfl
      have HI := hid (HA1.out.inc (o := (hv 0).getD i 0) (H0.out _ hmem).1 (H0.out _ hmem).2 (by have := HC.out; omega) (fun j => by have := Hl.out j; omega))
      rw [← incs_s, ← htk] at HI
      generalize (hv 0).getD i 0 = o at cg HI
      clear hmem htk hil
      have ii : (i : Int) < (n0 : Int) := by omega
      go_wp2_with fail
      refine HI.out.mono ?_
      rintro e2 w2 ⟨rfl, h3⟩
      have HX2 : Hid (∃ L' V' ρ', ApM w ρ L T hB V B hv (C + (i + 1)) (incs (G, hv) ((hv 0).take (i + 1))) L' V' ρ' w2) := hid h3
      clear h3 HI HA1 cg
      go_wp2
      exact ⟨⟨i + 1, by omega, by go_num, HX2⟩, by simp [intOf]; omega⟩
    · have dk : decide ((i : Int) < (n0 : Int)) = false := decide_eq_false (by omega)
      have hin : i = n0 := by omega
      rw [hin, List.take_of_length_le (by rw [Hn.out.1]; exact Nat.le_refl _)] at HA1
      have c2 := HA1.out.pm.hcell (i := 2) (by decide)
      rw [HA1.out.vk 2 (by decide) (by decide), HV.out.2] at c2
      have HB0 : Hid (ApM w ρ L T hB V B hv (C + n0 + 0) (incs (incs (G, hv) (hv 0)) ((hv 2).take 0)) L1 V1 ρ1 wr) := hid HA1.out
      clear HA1 hin
      as_aux_lemma =>
      go_wp2_with fail
      clear c2 dk
      go_loopw [28] (fun v wr => ∃ i : Nat, i ≤ n2 ∧ v = .int .i64 (i : Int) ∧ Hid (∃ L' V' ρ', ApM w ρ L T hB V B hv (C + n0 + i) (incs (incs (G, hv) (hv 0)) ((hv 2).take i)) L' V' ρ' wr)) (fun v _ => n2 - (intOf v).toNat)
      case atStart => exact ⟨0, by omega, rfl, hid ⟨L1, V1, ρ1, HB0.out⟩⟩
      case round =>
        obtain ⟨j, hj, rfl, HX⟩ := hrel
        obtain ⟨L2, V2, ρ2, ha2⟩ := HX.out
        have HA2 := hid ha2
        clear HX ha2 HB0
        by_cases hlt2 : j < n2
        · have dk : decide ((j : Int) < (n2 : Int)) = true := decide_eq_true (by omega)
          have hil : j < (hv 2).length := by rw [Hn.out.2]; exact hlt2
          obtain ⟨g, rfl, cg⟩ := HA2.out.elem0 (by decide) (by decide) (by decide) HV.out.2 hil
          have hmem := getD_mem hil
          have htk : (hv 2).take (j + 1) = (hv 2).take j ++ [(hv 2).getD j 0] := by rw [List.take_add_one, List.getElem?_eq_getElem hil, List.getD_eq_getElem?_getD, List.getElem?_eq_getElem hil]; rfl
          have HI := hid (HA2.out.inc (o := (hv 2).getD j 0) (H2.out _ hmem).1 (H2.out _ hmem).2 (by have := HC.out; omega) (fun j => by have := Hl.out j; omega))
          rw [← incs_s, ← htk] at HI
          generalize (hv 2).getD j 0 = o at cg HI
          clear hmem htk hil
          have ii : (j : Int) < (n2 : Int) := by omega
          go_wp2_with fail
          refine HI.out.mono ?_
          rintro e2 w2 ⟨rfl, h3⟩
          have HX2 : Hid (∃ L' V' ρ', ApM w ρ L T hB V B hv (C + n0 + (j + 1)) (incs (incs (G, hv) (hv 0)) ((hv 2).take (j + 1))) L' V' ρ' w2) := hid h3
          clear h3 HI HA2 cg
          go_wp2
          exact ⟨⟨j + 1, by omega, by go_num, HX2⟩, by simp [intOf]; omega⟩
        · have dk : decide ((j : Int) < (n2 : Int)) = false := decide_eq_false (by omega)
          have hjn : j = n2 := by omega
          rw [hjn, List.take_of_length_le (by rw [Hn.out.2]; exact Nat.le_refl _)] at HA2
          have HC0 : Hid (BiR w ρ L T hB V B hv (C + n0 + n2) (applyP (G, hv)) 400000000 (.int .i64 ((0 : Nat) : Int)) wr) := hid ⟨0, incs (incs (G, hv) (hv 0)) (hv 2), L2, V2, ρ2, rfl, Nat.zero_le _, HA2.out, rfl, by
            have := HA2.out.ap.b4
            have := nz_le (incs (incs (G, hv) (hv 0)) (hv 2)).1.cnt
            omega⟩
          clear HA2 hjn
          go_wp2_with fail
          clear dk
          go_loopw [8] (fun v wr => Hid (∃ n, BiR w ρ L T hB V B hv (C + n0 + n2) (applyP (G, hv)) n v wr)) (fun v wr => leastN (fun n => BiR w ρ L T hB V B hv (C + n0 + n2) (applyP (G, hv)) n v wr))
          case atStart => exact hid ⟨_, HC0.out⟩
          case round =>
            have Hsp := hid (leastN_spec hrel.out)
            clear hrel HC0
            obtain ⟨k, p, L3, V3, ρ3, rfl, hk, hap, hbi, hmu⟩ := Hsp.out
            obtain ⟨N, hN⟩ : ∃ N, leastN (fun n => BiR w ρ L T hB V B hv (C + n0 + n2) (applyP (G, hv)) n (.int .i64 (k : Int)) wr) = N := ⟨_, rfl⟩
            rw [hN] at hbi hmu
            have HN := hid hN
            have HAp := hid hap
            have Hbi := hid hbi
            clear Hsp hN hap hbi
            obtain ⟨a4, q4, hV4⟩ := (HAp.out.pm.hm.rw 4 (by decide)).shape
            have c4 := HAp.out.pm.hcell (i := 4) (by decide)
            obtain ⟨n4, hn4⟩ : ∃ n, (p.2 4).length = n := ⟨_, rfl⟩
            rw [hn4] at hV4 hk hmu
            rw [hV4] at c4
            have HV4 := hid hV4
            have Hn4 := hid hn4
            have hnz := nz_le p.1.cnt
            have hb4 := HAp.out.ap.b4
            rw [hn4] at hb4
            have Hb4 : Hid (n4 ≤ 268435456) := hid (by omega)
            clear hV4 hn4 hb4
            have i4 : (n4 : Int) ≤ 268435456 := by have := Hb4.out; omega
            have Hmu := hid hmu
            clear hmu hnz
            by_cases hlt : k < n4
            · have dk : decide ((k : Int) < (n4 : Int)) = true := decide_eq_true (by omega)
              have dk2 : decide (k < n4) = true := decide_eq_true hlt
              have hil : k < (p.2 4).length := by rw [Hn4.out]; exact hlt
              obtain ⟨g, rfl, cg⟩ := HAp.out.pm.elem (by decide) HV4.out hil
              have hmem := getD_mem hil
              have HI := hid (HAp.out.inc (o := (p.2 4).getD k 0) (HAp.out.ap.r _ hmem).1 (HAp.out.ap.r _ hmem).2 (by have := HC.out; have := Hb4.out; omega) (fun j => by have := Hl.out j; omega))
              have HRn : Hid (∀ L' V' ρ' w', ApM w ρ L T hB V B hv (C + n0 + n2 + k + 1) (incP p ((p.2 4).getD k 0)) L' V' ρ' w' → BiR w ρ L T hB V B hv (C + n0 + n2) (applyP (G, hv)) (N - 1) (.int .i64 ((k + 1 : Nat) : Int)) w' ∧ N - 1 < N) := hid (fun L' V' ρ' w' ha => by
                have hmu := Hmu.out
                have hpos : 1 ≤ N := by omega
                have hbi := Hbi.out
                obtain ⟨N', rfl⟩ : ∃ N', N = N' + 1 := ⟨N - 1, by omega⟩
                have hst : births (N' + 1) k p = births N' (k + 1) (incP p ((p.2 4).getD k 0)) := by
                  show (if k < (p.2 4).length then _ else _) = _
                  rw [if_pos hil]
                rw [hst] at hbi
                have hoin := HAp.out.ap.r _ hmem
                have hnz := nz_inc (G := p.1) hoin.1 hoin.2
                have hle := nz_le (incG p.1 ((p.2 4).getD k 0)).cnt
                have hrl : (refL p.1 ((p.2 4).getD k 0)).length ≤ 8192 := by
                  have h1 := refP_len p.1 ((p.2 4).getD k 0) (rfOf p.1 ((p.2 4).getD k 0))
                  have h2 := HAp.out.ap.ok.sz hoin.1 hoin.2
                  unfold refL
                  omega
                have hlen : ((incP p ((p.2 4).getD k 0)).2 4).length = (p.2 4).length + (if p.1.cnt ((p.2 4).getD k 0) = 0 then (refL p.1 ((p.2 4).getD k 0)).length else 0) := by
                  show (incH p.1 p.2 ((p.2 4).getD k 0) 4).length = _
                  unfold incH
                  by_cases e : p.1.cnt ((p.2 4).getD k 0) = 0
                  · rw [if_pos e, if_pos e, fup_self, List.length_append]
                  · rw [if_neg e, if_neg e, Nat.add_zero]
                refine ⟨⟨k + 1, incP p ((p.2 4).getD k 0), L', V', ρ', rfl, ?_, ha, hbi, ?_⟩, by omega⟩
                · rw [hlen]; omega
                · rw [hlen, Hn4.out]
                  show (32769 - nz (incG p.1 ((p.2 4).getD k 0)).cnt) * 8193 + _ ≤ _
                  by_cases e : p.1.cnt ((p.2 4).getD k 0) = 0
                  · rw [if_pos e] at hnz ⊢
                    omega
                  · rw [if_neg e] at hnz ⊢
                    omega)
              generalize (p.2 4).getD k 0 = o at cg HI HRn
              clear hmem hil
              have ii : (k : Int) < (n4 : Int) := by omega
              go_wp2_with fail
              refine HI.out.mono ?_
              rintro e2 w2 ⟨rfl, L4, V4, ρ4, h3⟩
              have HX2 := hid (HRn.out L4 V4 ρ4 w2 h3)
              clear h3 HI HAp cg HRn c4
              go_wp2
              refine ⟨hid ⟨N - 1, HX2.out.1⟩, ?_⟩
              rw [HN.out]
              exact Nat.lt_of_le_of_lt (leastN_le HX2.out.1) HX2.out.2
            · as_aux_lemma =>
              have dk : decide ((k : Int) < (n4 : Int)) = false := decide_eq_false (by omega)
              have dk2 : decide (k < n4) = false := decide_eq_false hlt
              have HR : Hid (∃ L' V' ρ' C', C' ≤ C + n0 + n2 + 268435456 ∧ ApM w ρ L T hB V B hv C' (applyP (G, hv)) L' V' ρ' wr) := hid (by
                have hbi := Hbi.out
                have hp : births N k p = p := by
                  cases N with
                  | zero => rfl
                  | succ N => show (if k < (p.2 4).length then _ else _) = _; rw [if_neg (by rw [Hn4.out]; exact hlt)]
                rw [hp] at hbi
                rw [← hbi]
                exact ⟨L3, V3, ρ3, C + n0 + n2 + k, by have := Hb4.out; omega, HAp.out⟩)
              clear HAp Hbi HN Hmu
              go_wp2
              exact bodyPost_end (v := .tuple #[]) (by simp [results, Try.results76, go_sem]) rfl ⟨rfl, HR.out⟩
end
end Go.Proofs.Qxb6500888a
