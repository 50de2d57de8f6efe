/- The machine: WriteData, ReadField, WriteField. -/
import Derived.Test.Qxb6500889aDoorMuX5
namespace Go.Proofs.Qxb6500889aDoor
open Go.RowKit
set_option linter.unusedSimpArgs false
set_option linter.unusedVariables false

section
variable {w w' w'' : World} {ρ ρ' ρ'' : Rl} {L L' : HL} {T : XL} {H H' : HS} {X : XS}
theorem Out.heap (h : MM w ρ L T H X) {w1 : World} (hb : Below w.heap.size w w1) {ρ' : Rl} {L' : HL} {H' : HS} (hm : HM w' ρ' L' H') (hB : L'.hB = L.hB) (hf : Fr ρ w1 ρ' w') : Out w ρ L T H' X w' :=
  ⟨ρ', L', T, (h.below hb).heap hm hB hf, hB, rfl, (Fx.below hb).trans hf.fx⟩
def setD (H : HS) (a : Nat) (i v : Nat) : HS := match H.objs a with
  | none => H
  | some x => { H with objs := fup H.objs a (some { x with data := x.data.set i v }) }
def setR (H : HS) (a : Nat) (i v : Nat) : HS := match H.objs a with
  | none => H
  | some x => { H with objs := fup H.objs a (some { x with refs := x.refs.set i v }) }
/-- WriteData. -/
def wrD (H : HS) (X : XS) (m v : Nat) (i : Int) (d : Nat) : HS × Nat := if (fldX H X m v i false).2 = 0 then (setD H (fldX H X m v i false).1 i.toNat d, 0) else (H, (fldX H X m v i false).2)
/-- ReadField: the state, the handle, the code. -/
def rdF (H : HS) (X : XS) (m v : Nat) (i : Int) : XS × Nat × Nat :=
  if (fldX H X m v i true).2 = 0 then (match H.objs (fldX H X m v i true).1 with
    | none => (X, 0, 0)
    | some x => if x.refs.getD i.toNat 0 = 0 then (X, 0, 0) else if fullB (X.tb m) = true then (X, 0, 11) else (givX X m (x.refs.getD i.toNat 0), hN (X.tb m).gen m (X.tb m).ad.length, 0))
  else (X, 0, (fldX H X m v i true).2)
/-- WriteField. -/
def wrF (H : HS) (X : XS) (m v : Nat) (i : Int) (r : Nat) : HS × Nat :=
  if (fldX H X m v i true).2 = 0 then (if r = 0 then (setR H (fldX H X m v i true).1 i.toNat 0, 0) else if (tgtX X m r).2 = 0 then (setR H (fldX H X m v i true).1 i.toNat (tgtX X m r).1, 0) else (H, (tgtX X m r).2))
  else (H, (fldX H X m v i true).2)
set_option maxRecDepth 1000000 in
set_option maxHeartbeats 2000000 in
theorem writeData_walk (h : MM w ρ L T H X) {m : Nat} (hm : m < 4) (hb : XB X) (hlv : Live H X) (v : Nat) (hv : v < 18446744073709551616) (i : Int) (d : Nat) :
    Calls Tryd.prog 58 #[.pointer (some ⟨T.xB, 0, none⟩), .int .i64 (m : Int), .int .u64 (v : Int), .int .i64 i, .int .u64 (d : Int)] w fun e w' => e = .returned (.int .u8 ((wrD H X m v i d).2 : Int)) ∧ Out w ρ L T (wrD H X m v i d).1 X w' := by
  unfold wrD
  have HTb := hid (fun w => table_walk T.xB m hm w)
  have HFd := hid (field_walk h hm hb hlv v hv i false)
  have hok := @fldX_ok H X m v i false
  have hcd := fldX_code (H := H) (X := X) m v i false
  have HH := hid h
  obtain ⟨fa, hfa⟩ : ∃ t, (fldX H X m v i false).1 = t := ⟨_, rfl⟩
  obtain ⟨fc, hfc⟩ : ∃ t, (fldX H X m v i false).2 = t := ⟨_, rfl⟩
  rw [hfa, hfc] at HFd hok
  rw [hfc] at hcd
  rw [hfa, hfc]
  obtain ⟨xB, hxB⟩ : ∃ b, T.xB = b := ⟨_, rfl⟩
  have HxB := hid hxB
  rw [hxB] at HTb HFd
  rw [hxB]
  by_cases hc : fc = 0
  rotate_left
  · rw [if_neg hc]
    have dc : ((fc : Int) != 0) = true := by simp; omega
    clear h hb hlv hok hcd hc hfa hfc hxB
    go_enter Tryd.func58, Tryd.ntmps58
    go_wp2_with fail
    refine (HTb.out _).mono ?_
    rintro e w1 ⟨rfl, rfl⟩
    go_wp2_with fail
    refine (HFd.out).mono ?_
    rintro e w2 ⟨rfl, hb2⟩
    have HB2 := hid hb2
    clear hb2
    go_wp2
    go_ret
    exact ⟨rfl, Out.same HH.out HB2.out⟩
  subst hc
  rw [if_pos rfl]
  obtain ⟨x, hx, hi0, hi1, hin⟩ := hok rfl
  obtain ⟨j, rfl⟩ := Int.eq_ofNat_of_zero_le hi0
  have hj : j < x.data.length := by unfold obN at hi1; simp at hi1; exact hi1
  rw [Int.toNat_natCast]
  have HSt : Hid (∀ w', Below w.heap.size w w' → Calls Tryd.prog 73 #[.pointer (some ⟨L.hB, 0, none⟩), .int .u64 (fa : Int), .int .i64 (j : Int), .int .u64 (d : Int)] w' fun e w'' => e = .returned (.tuple #[]) ∧ Out w ρ L T (setD H fa j d) X w'') := hid (fun w' hb' => (storeData_walk (HH.out.hm.below hb') hx hj d).mono (by
    rintro e w'' ⟨rfl, h1, h2⟩
    refine ⟨rfl, Out.heap HH.out hb' (L' := L) ?_ rfl h2⟩
    unfold setD
    rw [hx]
    exact h1))
  have HcH : Hid (∀ w', Below w.heap.size w w' → w'.cell? ⟨xB, 0, none⟩ = some (.pointer (some ⟨L.hB, 0, none⟩))) := hid (fun w' hb' => by rw [← HxB.out]; exact (HH.out.below hb').heapP)
  obtain ⟨hB, hhB⟩ : ∃ b, L.hB = b := ⟨_, rfl⟩
  rw [hhB] at HSt HcH
  clear h hb hlv hok hcd hfa hfc hxB hx hi0 hi1 hj hhB hin
  go_enter Tryd.func58, Tryd.ntmps58
  go_wp2_with fail
  refine (HTb.out _).mono ?_
  rintro e w1 ⟨rfl, rfl⟩
  go_wp2_with fail
  refine (HFd.out).mono ?_
  rintro e w2 ⟨rfl, hb2⟩
  have HB2 := hid hb2
  have cH := HcH.out w2 hb2
  clear hb2
  go_wp2_with fail
  refine (HSt.out w2 HB2.out).mono ?_
  rintro e w3 ⟨rfl, ho3⟩
  have HO3 := hid ho3
  clear ho3
  go_wp2
  go_ret
  exact ⟨rfl, HO3.out⟩
set_option maxRecDepth 1000000 in
set_option maxHeartbeats 2000000 in
theorem readField_walk (h : MM w ρ L T H X) {m : Nat} (hm : m < 4) (hb : XB X) (hlv : Live H X) (v : Nat) (hv : v < 18446744073709551616) (i : Int) :
    Calls Tryd.prog 54 #[.pointer (some ⟨T.xB, 0, none⟩), .int .i64 (m : Int), .int .u64 (v : Int), .int .i64 i] w fun e w' => e = .returned (.tuple #[.int .u64 ((rdF H X m v i).2.1 : Int), .int .u8 ((rdF H X m v i).2.2 : Int)]) ∧ Out w ρ L T H (rdF H X m v i).1 w' := by
  unfold rdF
  have HTb := hid (fun w => table_walk T.xB m hm w)
  have HFd := hid (field_walk h hm hb hlv v hv i true)
  have hok := @fldX_ok H X m v i true
  have hcd := fldX_code (H := H) (X := X) m v i true
  have HH := hid h
  obtain ⟨fa, hfa⟩ : ∃ t, (fldX H X m v i true).1 = t := ⟨_, rfl⟩
  obtain ⟨fc, hfc⟩ : ∃ t, (fldX H X m v i true).2 = t := ⟨_, rfl⟩
  rw [hfa, hfc] at HFd hok
  rw [hfc] at hcd
  rw [hfa, hfc]
  obtain ⟨xB, hxB⟩ : ∃ b, T.xB = b := ⟨_, rfl⟩
  have HxB := hid hxB
  rw [hxB] at HTb HFd
  rw [hxB]
  by_cases hc : fc = 0
  rotate_left
  · rw [if_neg hc]
    have dc : ((fc : Int) != 0) = true := by simp; omega
    clear h hb hlv hok hcd hc hfa hfc hxB
    go_enter Tryd.func54, Tryd.ntmps54
    go_wp2_with fail
    refine (HTb.out _).mono ?_
    rintro e w1 ⟨rfl, rfl⟩
    go_wp2_with fail
    refine (HFd.out).mono ?_
    rintro e w2 ⟨rfl, hb2⟩
    have HB2 := hid hb2
    clear hb2
    go_wp2
    exact bodyPost_ret (v := .tuple #[.int .u64 0, .int .u8 (fc : Int)]) (by simp [results, Tryd.results54, go_sem]) rfl ⟨rfl, Out.same HH.out HB2.out⟩
  subst hc
  rw [if_pos rfl]
  obtain ⟨x, hx, hi0, hi1, hin⟩ := hok rfl
  rw [hx]
  obtain ⟨j, rfl⟩ := Int.eq_ofNat_of_zero_le hi0
  have hj : j < x.refs.length := by unfold obN at hi1; simp at hi1; exact hi1
  obtain ⟨d, hd⟩ : ∃ d, x.refs[j]? = some d := ⟨_, List.getElem?_eq_getElem hj⟩
  have hgd : x.refs.getD j 0 = d := by simp [hd]
  dsimp only
  rw [Int.toNat_natCast, hgd]
  have HLd : Hid (∀ w', Below w.heap.size w w' → Calls Tryd.prog 69 #[.pointer (some ⟨L.hB, 0, none⟩), .int .u64 (fa : Int), .int .i64 (j : Int)] w' fun e w'' => e = .returned (.int .u64 (d : Int)) ∧ w'' = w') := hid (fun w' hb' => loadRef_walk (HH.out.hm.below hb') hx hd)
  have HFl : Hid (∀ w', Below w.heap.size w w' → Calls Tryd.prog 65 #[.pointer (some ⟨xB, 1 + m * 3, none⟩)] w' fun e w'' => e = .returned (.bool (fullB (X.tb m))) ∧ w'' = w') := hid (fun w' hb' => by rw [← HxB.out]; exact full_walk (HH.out.below hb') hm hb)
  have HGv : Hid (fullB (X.tb m) = false → ∀ w', Below w.heap.size w w' → Calls Tryd.prog 67 #[.pointer (some ⟨xB, 0, none⟩), .pointer (some ⟨xB, 1 + m * 3, none⟩), .int .u64 (d : Int)] w' fun e w'' => e = .returned (.int .u64 ((hN (X.tb m).gen m (X.tb m).ad.length : Nat) : Int)) ∧ Out w ρ L T H (givX X m d) w'') := hid (fun hf w' hb' => by
    have hlen : (X.tb m).ad.length < 128 := by
      have := hb.len m
      unfold fullB at hf
      simp at hf
      omega
    have := give_walk (HH.out.below hb') hm hb hlen d
    rw [HxB.out] at this
    refine this.mono ?_
    rintro e w'' ⟨rfl, T', ρ', g1, g2, g3⟩
    exact ⟨rfl, ρ', L, T', g1, rfl, by rw [g2]; exact HxB.out.symm, (Fx.below hb').trans g3⟩)
  have HcH : Hid (∀ w', Below w.heap.size w w' → w'.cell? ⟨xB, 0, none⟩ = some (.pointer (some ⟨L.hB, 0, none⟩))) := hid (fun w' hb' => by rw [← HxB.out]; exact (HH.out.below hb').heapP)
  obtain ⟨hB, hhB⟩ : ∃ b, L.hB = b := ⟨_, rfl⟩
  rw [hhB] at HLd HcH
  obtain ⟨fb, hfb⟩ : ∃ b, fullB (X.tb m) = b := ⟨_, rfl⟩
  rw [hfb] at HFl HGv
  rw [hfb]
  obtain ⟨hn, hhn⟩ : ∃ n, hN (X.tb m).gen m (X.tb m).ad.length = n := ⟨_, rfl⟩
  rw [hhn] at HGv
  rw [hhn]
  clear h hb hlv hok hcd hfa hfc hxB hx hi0 hi1 hj hd hgd hhB hfb hhn hin
  go_enter Tryd.func54, Tryd.ntmps54
  go_wp2_with fail
  refine (HTb.out _).mono ?_
  rintro e w1 ⟨rfl, rfl⟩
  go_wp2_with fail
  refine (HFd.out).mono ?_
  rintro e w2 ⟨rfl, hb2⟩
  have HB2 := hid hb2
  have cH := HcH.out w2 hb2
  clear hb2
  go_wp2_with fail
  refine (HLd.out w2 HB2.out).mono ?_
  rintro e w3 ⟨rfl, rfl⟩
  by_cases hd0 : d = 0
  · subst hd0
    go_wp2
    exact bodyPost_ret (v := .tuple #[.int .u64 0, .int .u8 0]) (by simp [results, Tryd.results54, go_sem]) rfl ⟨rfl, Out.same HH.out HB2.out⟩
  have dd : ((d : Int) == 0) = false := by simp; omega
  cases fb with
  | true =>
    go_wp2_with fail
    refine (HFl.out _ HB2.out).mono ?_
    rintro e w4 ⟨rfl, rfl⟩
    go_wp2
    exact bodyPost_ret (v := .tuple #[.int .u64 0, .int .u8 11]) (by simp [results, Tryd.results54, go_sem]) rfl ⟨rfl, Out.same HH.out HB2.out⟩
  | false =>
    go_wp2_with fail
    refine (HFl.out _ HB2.out).mono ?_
    rintro e w4 ⟨rfl, rfl⟩
    go_wp2_with fail
    refine (HGv.out (by first | rfl | trivial) _ HB2.out).mono ?_
    rintro e w5 ⟨rfl, ho5⟩
    have HO5 := hid ho5
    clear ho5
    go_wp2
    exact bodyPost_ret (v := .tuple #[.int .u64 (hn : Int), .int .u8 0]) (by simp [results, Tryd.results54, go_sem]) rfl ⟨rfl, HO5.out⟩
set_option maxRecDepth 1000000 in
set_option maxHeartbeats 2000000 in
theorem writeField_walk (h : MM w ρ L T H X) {m : Nat} (hm : m < 4) (hb : XB X) (hlv : Live H X) (v : Nat) (hv : v < 18446744073709551616) (i : Int) (r : Nat) (hr : r < 18446744073709551616) :
    Calls Tryd.prog 56 #[.pointer (some ⟨T.xB, 0, none⟩), .int .i64 (m : Int), .int .u64 (v : Int), .int .i64 i, .int .u64 (r : Int)] w fun e w' => e = .returned (.int .u8 ((wrF H X m v i r).2 : Int)) ∧ Out w ρ L T (wrF H X m v i r).1 X w' := by
  unfold wrF
  have HTb := hid (fun w => table_walk T.xB m hm w)
  have HFd := hid (field_walk h hm hb hlv v hv i true)
  have hok := @fldX_ok H X m v i true
  have hcd := fldX_code (H := H) (X := X) m v i true
  have HH := hid h
  obtain ⟨fa, hfa⟩ : ∃ t, (fldX H X m v i true).1 = t := ⟨_, rfl⟩
  obtain ⟨fc, hfc⟩ : ∃ t, (fldX H X m v i true).2 = t := ⟨_, rfl⟩
  rw [hfa, hfc] at HFd hok
  rw [hfc] at hcd
  rw [hfa, hfc]
  obtain ⟨xB, hxB⟩ : ∃ b, T.xB = b := ⟨_, rfl⟩
  have HxB := hid hxB
  rw [hxB] at HTb HFd
  rw [hxB]
  by_cases hc : fc = 0
  rotate_left
  · rw [if_neg hc]
    have dc : ((fc : Int) != 0) = true := by simp; omega
    clear h hb hlv hok hcd hc hfa hfc hxB
    go_enter Tryd.func56, Tryd.ntmps56
    go_wp2_with fail
    refine (HTb.out _).mono ?_
    rintro e w1 ⟨rfl, rfl⟩
    go_wp2_with fail
    refine (HFd.out).mono ?_
    rintro e w2 ⟨rfl, hb2⟩
    have HB2 := hid hb2
    clear hb2
    go_wp2
    go_ret
    exact ⟨rfl, Out.same HH.out HB2.out⟩
  subst hc
  rw [if_pos rfl]
  obtain ⟨x, hx, hi0, hi1, hin⟩ := hok rfl
  obtain ⟨j, rfl⟩ := Int.eq_ofNat_of_zero_le hi0
  have hj : j < x.refs.length := by unfold obN at hi1; simp at hi1; exact hi1
  rw [Int.toNat_natCast]
  have HSt : Hid (∀ d w', Below w.heap.size w w' → Calls Tryd.prog 71 #[.pointer (some ⟨L.hB, 0, none⟩), .int .u64 (fa : Int), .int .i64 (j : Int), .int .u64 ((d : Nat) : Int)] w' fun e w'' => e = .returned (.tuple #[]) ∧ Out w ρ L T (setR H fa j d) X w'') := hid (fun d w' hb' => (storeRef_walk (HH.out.hm.below hb') hx hj d).mono (by
    rintro e w'' ⟨rfl, h1, h2⟩
    refine ⟨rfl, Out.heap HH.out hb' (L' := L) ?_ rfl h2⟩
    unfold setR
    rw [hx]
    exact h1))
  have HTg : Hid (∀ w', Below w.heap.size w w' → Calls Tryd.prog 26 #[.pointer (some ⟨xB, 1 + m * 3, none⟩), .int .u64 (r : Int)] w' fun e w'' => e = .returned (.tuple #[.int .u64 ((tgtX X m r).1 : Int), .int .u8 ((tgtX X m r).2 : Int)]) ∧ w'' = w') := hid (fun w' hb' => by rw [← HxB.out]; exact target_walk (HH.out.below hb') hm hb r hr)
  have htc := (tgtX_code X m r).1
  have HcH : Hid (∀ w', Below w.heap.size w w' → w'.cell? ⟨xB, 0, none⟩ = some (.pointer (some ⟨L.hB, 0, none⟩))) := hid (fun w' hb' => by rw [← HxB.out]; exact (HH.out.below hb').heapP)
  obtain ⟨hB, hhB⟩ : ∃ b, L.hB = b := ⟨_, rfl⟩
  rw [hhB] at HSt HcH
  obtain ⟨ta, hta⟩ : ∃ t, (tgtX X m r).1 = t := ⟨_, rfl⟩
  obtain ⟨tc, htcd⟩ : ∃ t, (tgtX X m r).2 = t := ⟨_, rfl⟩
  rw [hta, htcd] at HTg
  rw [htcd] at htc
  rw [hta, htcd]
  clear h hb hlv hok hcd hfa hfc hxB hx hi0 hi1 hj hhB hin hta htcd
  go_enter Tryd.func56, Tryd.ntmps56
  go_wp2_with fail
  refine (HTb.out _).mono ?_
  rintro e w1 ⟨rfl, rfl⟩
  go_wp2_with fail
  refine (HFd.out).mono ?_
  rintro e w2 ⟨rfl, hb2⟩
  have HB2 := hid hb2
  have cH := HcH.out w2 hb2
  clear hb2
  by_cases hr0 : r = 0
  · subst hr0
    have HS0 := hid (HSt.out 0 w2 HB2.out)
    go_wp2_with fail
    refine (HS0.out).mono ?_
    rintro e w3 ⟨rfl, ho3⟩
    have HO3 := hid ho3
    clear ho3
    go_wp2
    go_ret
    exact ⟨rfl, HO3.out⟩
  have dr : ((r : Int) != 0) = true := by simp; omega
  have HS1 := hid (HSt.out ta w2 HB2.out)
  go_wp2_with fail
  refine (HTg.out w2 HB2.out).mono ?_
  rintro e w3 ⟨rfl, rfl⟩
  by_cases hc : tc = 0
  · subst hc
    go_wp2_with fail
    refine (HS1.out).mono ?_
    rintro e w4 ⟨rfl, ho4⟩
    have HO4 := hid ho4
    clear ho4
    go_wp2
    go_ret
    exact ⟨rfl, HO4.out⟩
  · have dc : ((tc : Int) != 0) = true := by simp; omega
    go_wp2
    go_ret
    exact ⟨rfl, Out.same HH.out HB2.out⟩
end
end Go.Proofs.Qxb6500889aDoor
