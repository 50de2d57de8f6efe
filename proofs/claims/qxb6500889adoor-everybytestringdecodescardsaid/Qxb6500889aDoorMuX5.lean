/- The machine: field, ReadField, WriteField, ReadData, WriteData. -/
import Derived.Test.Qxb6500889aDoorMuX4
namespace Go.Proofs.Qxb6500889aDoor
open Go.RowKit
set_option linter.unusedSimpArgs false
set_option linter.unusedVariables false

def obN (x : Ob) (refs : Bool) : Nat := if refs then x.refs.length else x.data.length
/-- A handle resolved, an index checked: the address, the code. -/
def fldX (H : HS) (X : XS) (m h : Nat) (i : Int) (refs : Bool) : Nat × Nat :=
  if (tgtX X m h).2 = 0 then (match H.objs (tgtX X m h).1 with
    | none => (0, 5)
    | some x => if i < 0 ∨ (obN x refs : Int) ≤ i then (0, 5) else ((tgtX X m h).1, 0))
  else (0, (tgtX X m h).2)
/-- What stands behind live handles is there. -/
def Live (H : HS) (X : XS) : Prop := ∀ m, m < 4 → ∀ a ∈ (X.tb m).ad, ∃ x, H.objs a = some x
theorem lookX_mem {X : XS} {m h a : Nat} (hl : lookX X m h = some a) : a ∈ (X.tb m).ad := by
  unfold lookX at hl
  split at hl
  · exact List.mem_of_getElem? hl
  · cases hl
theorem tgtX_ok {X : XS} {m h : Nat} (hc : (tgtX X m h).2 = 0) : (tgtX X m h).1 ∈ (X.tb m).ad := by
  unfold tgtX at hc ⊢
  split
  · rename_i h0; rw [if_pos h0] at hc; simp at hc
  · rename_i h0
    rw [if_neg h0] at hc
    cases hl : lookX X m h with
    | none => rw [hl] at hc; simp at hc
    | some a => exact lookX_mem hl
theorem tgtX_code (X : XS) (m h : Nat) : (tgtX X m h).2 ≤ 4 ∧ ((tgtX X m h).2 ≠ 0 → (tgtX X m h).1 = 0) := by
  unfold tgtX
  split
  · exact ⟨by simp, fun _ => rfl⟩
  · cases lookX X m h with
    | none => exact ⟨by simp, fun _ => rfl⟩
    | some a => exact ⟨by simp, fun h => absurd rfl h⟩
section
variable {w w' w'' : World} {ρ ρ' ρ'' : Rl} {L L' : HL} {T : XL} {H H' : HS} {X : XS}
set_option maxRecDepth 1000000 in
set_option maxHeartbeats 2000000 in
theorem field_walk (h : MM w ρ L T H X) {m : Nat} (hm : m < 4) (hb : XB X) (hlv : Live H X) (v : Nat) (hv : v < 18446744073709551616) (i : Int) (refs : Bool) :
    Calls Tryd.prog 68 #[.pointer (some ⟨T.xB, 0, none⟩), .pointer (some ⟨T.xB, 1 + m * 3, none⟩), .int .u64 (v : Int), .int .i64 i, .bool refs] w fun e w' => e = .returned (.tuple #[.int .u64 ((fldX H X m v i refs).1 : Int), .int .u8 ((fldX H X m v i refs).2 : Int)]) ∧ Below w.heap.size w w' := by
  have HTg := hid (target_walk h hm hb v hv)
  have cH := h.heapP
  have hok := @tgtX_ok X m v
  have htc := tgtX_code X m v
  unfold fldX
  obtain ⟨ta, hta⟩ : ∃ t, (tgtX X m v).1 = t := ⟨_, rfl⟩
  obtain ⟨tc, htcd⟩ : ∃ t, (tgtX X m v).2 = t := ⟨_, rfl⟩
  rw [hta, htcd] at HTg hok htc
  rw [hta, htcd]
  have HH := hid h
  generalize T.xB = xB at *
  obtain ⟨hB, hhB⟩ : ∃ b, L.hB = b := ⟨_, rfl⟩
  have HhB := hid hhB
  rw [hhB] at cH
  by_cases hc : tc = 0
  rotate_left
  · rw [if_neg hc]
    have dc : ((tc : Int) != 0) = true := by simp; omega
    obtain rfl := htc.2 hc
    clear h hb hlv hok htc hc hhB hta htcd
    go_enter Tryd.func68, Tryd.ntmps68
    go_wp2_with fail
    refine (HTg.out).mono ?_
    rintro e w1 ⟨rfl, rfl⟩
    go_wp2
    exact bodyPost_ret (v := .tuple #[.int .u64 0, .int .u8 (tc : Int)]) (by simp [results, Tryd.results68, go_sem]) rfl ⟨rfl, Below.refl _ _⟩
  subst hc
  rw [if_pos rfl]
  obtain ⟨x, hx⟩ := hlv m hm ta (hok rfl)
  rw [hx]
  have HSh := hid (shape_walk h.hm hx)
  have hsz := (h.hm.o ta x hx).sz
  rw [hhB] at HSh
  dsimp only
  obtain ⟨n, hn⟩ : ∃ n, x.refs.length = n := ⟨_, rfl⟩
  obtain ⟨k, hk⟩ : ∃ k, x.data.length = k := ⟨_, rfl⟩
  obtain ⟨q, hq⟩ : ∃ q, obN x refs = q := ⟨_, rfl⟩
  have Hq : Hid (q = if refs then n else k) := hid (by rw [← hq, ← hn, ← hk]; rfl)
  rw [hn, hk] at HSh hsz
  rw [hq]
  clear h hb hlv hok htc hhB hta htcd hx hn hk hq
  go_enter Tryd.func68, Tryd.ntmps68
  go_wp2_with fail
  refine (HTg.out).mono ?_
  rintro e w1 ⟨rfl, rfl⟩
  clear HTg
  go_wp2_with fail
  refine (HSh.out).mono ?_
  rintro e w2 ⟨rfl, hb2⟩
  have HB2 := hid hb2
  clear hb2 HSh
  go_upto_if 35 with fail
  go_cut [14] from 34 to 36 (fun v wc => v = .int .i64 ((q : Nat) : Int) ∧ wc = w2)
  case first =>
    as_aux_lemma =>
    cases refs with
    | true =>
      obtain rfl : q = n := Hq.out
      go_wp2_with fail
      go_meet
      case rel => exact ⟨rfl, rfl⟩
    | false =>
      obtain rfl : q = k := Hq.out
      go_wp2_with fail
      go_meet
      case rel => exact ⟨rfl, rfl⟩
  case rest =>
  obtain ⟨rfl, rfl⟩ := hcut
  by_cases h1 : i < 0
  · have d1 : decide (i < 0) = true := decide_eq_true h1
    go_wp2
    exact bodyPost_ret (v := .tuple #[.int .u64 0, .int .u8 5]) (by simp [results, Tryd.results68, go_sem]) rfl ⟨rfl, HB2.out⟩
  · have d1 : decide (i < 0) = false := decide_eq_false h1
    by_cases h2 : (q : Int) ≤ i
    · have d2 : decide ((q : Int) ≤ i) = true := decide_eq_true h2
      have d2' : decide (i ≥ (q : Int)) = true := decide_eq_true h2
      go_wp2
      exact bodyPost_ret (v := .tuple #[.int .u64 0, .int .u8 5]) (by simp [results, Tryd.results68, go_sem]) rfl ⟨rfl, HB2.out⟩
    · have d2 : decide ((q : Int) ≤ i) = false := decide_eq_false h2
      have d2' : decide (i ≥ (q : Int)) = false := decide_eq_false h2
      go_wp2
      exact bodyPost_ret (v := .tuple #[.int .u64 (ta : Int), .int .u8 0]) (by simp [results, Tryd.results68, go_sem]) rfl ⟨rfl, HB2.out⟩
theorem fldX_ok {m v : Nat} {i : Int} {refs : Bool} (hc : (fldX H X m v i refs).2 = 0) : ∃ x, H.objs (fldX H X m v i refs).1 = some x ∧ 0 ≤ i ∧ i < (obN x refs : Int) ∧ (fldX H X m v i refs).1 ∈ (X.tb m).ad := by
  unfold fldX at hc ⊢
  split
  · rename_i h0
    rw [if_pos h0] at hc
    cases hx : H.objs (tgtX X m v).1 with
    | none => rw [hx] at hc; simp at hc
    | some x =>
      rw [hx] at hc
      dsimp only at hc ⊢
      by_cases h1 : i < 0 ∨ (obN x refs : Int) ≤ i
      · rw [if_pos h1] at hc; simp at hc
      · rw [if_neg h1]
        exact ⟨x, hx, by omega, by omega, tgtX_ok h0⟩
  · rename_i h0
    rw [if_neg h0] at hc
    exact absurd hc h0
theorem fldX_code (m v : Nat) (i : Int) (refs : Bool) : (fldX H X m v i refs).2 ≤ 5 := by
  have := (tgtX_code X m v).1
  unfold fldX
  split
  · cases H.objs (tgtX X m v).1 with
    | none => simp
    | some x => dsimp only; split <;> simp
  · dsimp only; omega
/-- What a request leaves. -/
def Out (w : World) (ρ : Rl) (L : HL) (T : XL) (H' : HS) (X' : XS) (w' : World) : Prop := ∃ ρ' L' T', MM w' ρ' L' T' H' X' ∧ L'.hB = L.hB ∧ T'.xB = T.xB ∧ Fx ρ w ρ' w'
theorem Out.same (h : MM w ρ L T H X) (hb : Below w.heap.size w w') : Out w ρ L T H X w' := ⟨ρ, L, T, h.below hb, rfl, rfl, Fx.below hb⟩
/-- ReadData: the word, the code. -/
def rdD (H : HS) (X : XS) (m v : Nat) (i : Int) : Nat × Nat :=
  if (fldX H X m v i false).2 = 0 then (match H.objs (fldX H X m v i false).1 with
    | none => (0, 0)
    | some x => (x.data.getD i.toNat 0, 0))
  else (0, (fldX H X m v i false).2)
set_option maxRecDepth 1000000 in
set_option maxHeartbeats 2000000 in
theorem readData_walk (h : MM w ρ L T H X) {m : Nat} (hm : m < 4) (hb : XB X) (hlv : Live H X) (v : Nat) (hv : v < 18446744073709551616) (i : Int) :
    Calls Tryd.prog 57 #[.pointer (some ⟨T.xB, 0, none⟩), .int .i64 (m : Int), .int .u64 (v : Int), .int .i64 i] w fun e w' => e = .returned (.tuple #[.int .u64 ((rdD H X m v i).1 : Int), .int .u8 ((rdD H X m v i).2 : Int)]) ∧ Out w ρ L T H X w' := by
  have HTb := hid (fun w => table_walk T.xB m hm w)
  have HFd := hid (field_walk h hm hb hlv v hv i false)
  have hok := @fldX_ok H X m v i false
  have hcd := fldX_code (H := H) (X := X) m v i false
  have HH := hid h
  unfold rdD
  obtain ⟨fa, hfa⟩ : ∃ t, (fldX H X m v i false).1 = t := ⟨_, rfl⟩
  obtain ⟨fc, hfc⟩ : ∃ t, (fldX H X m v i false).2 = t := ⟨_, rfl⟩
  rw [hfa, hfc] at HFd hok
  rw [hfc] at hcd
  rw [hfa, hfc]
  obtain ⟨xB, hxB⟩ : ∃ b, T.xB = b := ⟨_, rfl⟩
  have HxB := hid hxB
  rw [hxB] at HTb HFd
  rw [hxB]
  by_cases hc : fc = 0
  rotate_left
  · rw [if_neg hc]
    have dc : ((fc : Int) != 0) = true := by simp; omega
    clear h hb hlv hok hcd hc hfa hfc hxB
    go_enter Tryd.func57, Tryd.ntmps57
    go_wp2_with fail
    refine (HTb.out _).mono ?_
    rintro e w1 ⟨rfl, rfl⟩
    go_wp2_with fail
    refine (HFd.out).mono ?_
    rintro e w2 ⟨rfl, hb2⟩
    have HB2 := hid hb2
    clear hb2
    go_wp2
    exact bodyPost_ret (v := .tuple #[.int .u64 0, .int .u8 (fc : Int)]) (by simp [results, Tryd.results57, go_sem]) rfl ⟨rfl, Out.same HH.out HB2.out⟩
  subst hc
  rw [if_pos rfl]
  obtain ⟨x, hx, hi0, hi1, _⟩ := hok rfl
  rw [hx]
  obtain ⟨j, rfl⟩ := Int.eq_ofNat_of_zero_le hi0
  have hj : j < x.data.length := by unfold obN at hi1; simp at hi1; exact hi1
  obtain ⟨d, hd⟩ : ∃ d, x.data[j]? = some d := ⟨_, List.getElem?_eq_getElem hj⟩
  have hgd : x.data.getD j 0 = d := by simp [hd]
  dsimp only
  rw [Int.toNat_natCast, hgd]
  have HLd : Hid (∀ w', Below w.heap.size w w' → Calls Tryd.prog 72 #[.pointer (some ⟨L.hB, 0, none⟩), .int .u64 (fa : Int), .int .i64 (j : Int)] w' fun e w'' => e = .returned (.int .u64 (d : Int)) ∧ w'' = w') := hid (fun w' hb' => loadData_walk (HH.out.hm.below hb') hx hd)
  have HcH : Hid (∀ w', Below w.heap.size w w' → w'.cell? ⟨xB, 0, none⟩ = some (.pointer (some ⟨L.hB, 0, none⟩))) := hid (fun w' hb' => by rw [← HxB.out]; exact (HH.out.below hb').heapP)
  obtain ⟨hB, hhB⟩ : ∃ b, L.hB = b := ⟨_, rfl⟩
  rw [hhB] at HLd HcH
  clear h hb hlv hok hcd hfa hfc hxB hx hi0 hi1 hj hd hgd hhB
  go_enter Tryd.func57, Tryd.ntmps57
  go_wp2_with fail
  refine (HTb.out _).mono ?_
  rintro e w1 ⟨rfl, rfl⟩
  go_wp2_with fail
  refine (HFd.out).mono ?_
  rintro e w2 ⟨rfl, hb2⟩
  have HB2 := hid hb2
  have cH := HcH.out w2 hb2
  clear hb2
  go_wp2_with fail
  refine (HLd.out w2 HB2.out).mono ?_
  rintro e w3 ⟨rfl, rfl⟩
  go_wp2
  exact bodyPost_ret (v := .tuple #[.int .u64 (d : Int), .int .u8 0]) (by simp [results, Tryd.results57, go_sem]) rfl ⟨rfl, Out.same HH.out HB2.out⟩
end
end Go.Proofs.Qxb6500889aDoor
