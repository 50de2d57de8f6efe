/- Swap, Set, Clear, IncRange, DecRange, Each on a table told by its words. -/
import Derived.Test.Qxb6500887aGreatAz8
namespace Go.Proofs.Qxb6500887aGreat
open Go.RowKit
set_option linter.unusedSimpArgs false
set_option linter.unusedVariables false

section
variable {t b n wd per len : Nat} {X : Nat → Nat} {w w0 w' : World}
theorem set_range_map (X : Nat → Nat) (q y len : Nat) (hq : q < len) : ((List.range len).map X).set q y = (List.range len).map (fup X q y) := by
  apply List.ext_getElem?
  intro j
  by_cases hj : j = q
  · subst hj
    rw [List.getElem?_set_self (by simpa using hq), List.getElem?_map, List.getElem?_range hq]
    simp [fup_self]
  · rw [List.getElem?_set_ne (fun e => hj e.symm)]
    by_cases hj2 : j < len
    · rw [List.getElem?_map, List.getElem?_map, List.getElem?_range hj2]
      simp [fup_ne _ _ hj]
    · rw [List.getElem?_eq_none (by simp; omega), List.getElem?_eq_none (by simp; omega)]
theorem TB.ofTab {y q : Nat} (h : TB t b n wd per len X w) (h' : Tab w' t b n wd per (2 ^ wd - 1) ((onW wd : Nat) : Int) (((List.range len).map X).set q y)) (hq : q < len) (hy : y < 18446744073709551616) : TB t b n wd per len (fup X q y) w' := by
  rw [set_range_map X q y len hq] at h'
  refine ⟨?_, ?_, fun q' => ?_, h.ne, h.k⟩
  · have := h'.tb
    unfold tbC
    simpa using this
  · have := h'.wb
    unfold wdC fnC
    rw [List.map_map] at this
    exact this
  · by_cases e : q' = q
    · rw [e, fup_self]; exact hy
    · rw [fup_ne _ _ e]; exact h.lt q'
/-- A table with one entry written. -/
def setX (wd per : Nat) (X : Nat → Nat) (i v : Nat) : Nat → Nat := fup X (i / per) (putE (X (i / per)) (i % per * wd) (2 ^ wd - 1) v)
theorem setX_lt {i v : Nat} (hw : Wd wd per) (hX : ∀ q, X q < 18446744073709551616) (hv : v ≤ 2 ^ wd - 1) : putE (X (i / per)) (i % per * wd) (2 ^ wd - 1) v < 18446744073709551616 := by
  refine putE_lt ?_ (hX _) hv
  rcases hw with ⟨rfl, rfl⟩ | ⟨rfl, rfl⟩ | ⟨rfl, rfl⟩ <;> omega
theorem TB.swap (h : TB t b n wd per len X w) (i v : Nat) (hi : i < n) (hv : v ≤ 2 ^ wd - 1) : Calls Tryz.prog 174 #[.pointer (some ⟨t, 0, none⟩), .int .i64 (i : Int), .int .u64 (v : Int)] w fun e w' => e = .returned (.tuple #[.int .u64 ((eN wd per X i : Nat) : Int), .bool true]) ∧ Hid (TB t b n wd per len (setX wd per X i v) w' ∧ Upd b w w') := by
  have k := h.k.wd.mul
  refine (tabSwap_walk h.tab h.ne i v hv hi h.k.n k.2.1 k.2.2.1 k.2.2.2.2 k.1 rfl (X (i / per)) (by rw [List.getElem?_map, List.getElem?_range (h.k.div hi)]; rfl) (by rw [List.length_map, List.length_range]; have := h.k.small; omega) (h.lt _) (two_small k.2.2.2.2)).mono ?_
  rintro e w1 ⟨rfl, hu, ht⟩
  exact ⟨rfl, hid ⟨h.ofTab ht (h.k.div hi) (setX_lt h.k.wd h.lt hv), hu⟩⟩
theorem TB.set (h : TB t b n wd per len X w) (i v : Nat) (hi : i < n) (hv : v ≤ 2 ^ wd - 1) : Calls Tryz.prog 172 #[.pointer (some ⟨t, 0, none⟩), .int .i64 (i : Int), .int .u64 (v : Int)] w fun e w' => e = .returned (.bool true) ∧ Hid (TB t b n wd per len (setX wd per X i v) w' ∧ Upd b w w') := by
  have k := h.k.wd.mul
  refine (tabSet_walk h.tab h.ne i v hv hi h.k.n k.2.1 k.2.2.1 k.2.2.2.2 k.1 rfl (X (i / per)) (by rw [List.getElem?_map, List.getElem?_range (h.k.div hi)]; rfl) (by rw [List.length_map, List.length_range]; have := h.k.small; omega) (h.lt _) (two_small k.2.2.2.2)).mono ?_
  rintro e w1 ⟨rfl, hu, ht⟩
  exact ⟨rfl, hid ⟨h.ofTab ht (h.k.div hi) (setX_lt h.k.wd h.lt hv), hu⟩⟩
/-- The words below k are zero. -/
def clrX (X : Nat → Nat) (k : Nat) : Nat → Nat := fun q => if q < k then 0 else X q
theorem clrX_step (X : Nat → Nat) (k : Nat) : clrX X (k + 1) = fup (clrX X k) k 0 := by
  funext q
  by_cases e : q = k
  · subst e; rw [fup_self]; unfold clrX; rw [if_pos (by omega)]
  · rw [fup_ne _ _ e]; unfold clrX
    by_cases h : q < k
    · rw [if_pos h, if_pos (by omega)]
    · rw [if_neg h, if_neg (by omega)]
set_option maxRecDepth 100000 in
set_option maxHeartbeats 1000000 in
theorem TB.clear (h : TB t b n wd per len X w) : Calls Tryz.prog 156 #[.pointer (some ⟨t, 0, none⟩)] w fun e w' => e = .returned (.tuple #[]) ∧ Hid (TB t b n wd per len (clrX X len) w' ∧ Upd b w w') := by
  have HT := hid h
  have hsm := h.k.small
  have c0 := h.cells.1
  clear h
  go_enter Tryz.func156, Tryz.ntmps156
  go_upto_region 1 with fail
  clear c0
  go_loopw [8] (fun u wr => ∃ q : Nat, u = .int .i64 (q : Int) ∧ q ≤ len ∧ Hid (TB t b n wd per len (clrX X q) wr ∧ Upd b w wr)) (fun u _ => len - (intOf u).toNat)
  case atStart => exact ⟨0, rfl, Nat.zero_le _, hid ⟨by rw [show clrX X 0 = X by funext q; unfold clrX; rw [if_neg (by omega)]]; exact HT.out, Upd.refl _ _⟩⟩
  case round =>
  obtain ⟨q, rfl, hq, HK⟩ := hrel
  by_cases hql : q < len
  · as_aux_lemma =>
    have dq : decide ((q : Int) < (len : Int)) = true := decide_eq_true (by omega)
    have c0 := HK.out.1.cells.1
    have cw := HK.out.1.word hql
    have fz := HK.out.1.wb.frozen q
    have HF : Hid (TB t b n wd per len (clrX X (q + 1)) (wr.setCell ⟨b, q, none⟩ (.int .u64 0)) ∧ Upd b w (wr.setCell ⟨b, q, none⟩ (.int .u64 0))) := hid (by
      obtain ⟨k1, k2⟩ := HK.out.1.put (x := 0) hql (by decide)
      rw [clrX_step]
      exact ⟨k1, HK.out.2.trans k2⟩)
    clear HK HT
    generalize clrX X q q = y at cw
    go_wp2
    exact ⟨⟨q + 1, by go_num, by omega, HF⟩, by simp [intOf]; omega⟩
  · as_aux_lemma =>
    have dq : decide ((q : Int) < (len : Int)) = false := decide_eq_false (by omega)
    have HF : Hid (TB t b n wd per len (clrX X len) wr ∧ Upd b w wr) := hid (by
      have e : q = len := by omega
      have := HK.out
      rw [e] at this
      exact this)
    clear HK HT
    go_wp2
    exact bodyPost_end (v := .tuple #[]) (by simp [results, Tryz.results156, go_sem]) rfl ⟨rfl, HF⟩
end
/-- The word that holds sixteen entries. -/
noncomputable def wOf (f : Nat → Nat) (q : Nat) : Nat := open Classical in if h : ∃ x, x < 18446744073709551616 ∧ ∀ j, j < 16 → nib x j = f (16 * q + j) then h.choose else 0
theorem wOf_eq {f : Nat → Nat} {q x : Nat} (hx : x < 18446744073709551616) (h : ∀ j, j < 16 → nib x j = f (16 * q + j)) : wOf f q = x := by
  unfold wOf
  have he : ∃ x, x < 18446744073709551616 ∧ ∀ j, j < 16 → nib x j = f (16 * q + j) := ⟨x, hx, h⟩
  rw [dif_pos he]
  exact nib_ext he.choose_spec.1 hx (fun j hj => by rw [he.choose_spec.2 j hj, h j hj])
theorem wOf_lt (f : Nat → Nat) (q : Nat) : wOf f q < 18446744073709551616 := by
  unfold wOf
  split
  · next h => exact h.choose_spec.1
  · decide
theorem nib_enW (x j : Nat) : nib x j = enW 4 x j := (nib_ent x j).symm
section
variable {t b : Nat} {X : Nat → Nat} {w w0 w' : World}
theorem TB.t4 (h : TB t b 2048 4 16 128 X w) : T4 t b (eN 4 16 X) w := by
  refine ⟨⟨(List.range 128).map X, h.tab, by simp, fun q hq => ⟨X q, by rw [List.getElem?_map, List.getElem?_range hq]; rfl, h.lt q, fun j hj => ?_⟩⟩, h.ne⟩
  rw [nib_enW, eN_at (Or.inr (Or.inr ⟨rfl, rfl⟩)) q j hj]
theorem T4.tb {f : Nat → Nat} (h : T4 t b f w) : TB t b 2048 4 16 128 (wOf f) w := by
  obtain ⟨l, h1, h2, h3⟩ := h.ws
  have hl : l = (List.range 128).map (wOf f) := by
    apply List.ext_getElem?
    intro q
    by_cases hq : q < 128
    · obtain ⟨x, e1, e2, e3⟩ := h3 q hq
      rw [e1, List.getElem?_map, List.getElem?_range hq, Option.map_some, wOf_eq e2 e3]
    · rw [List.getElem?_eq_none (by omega), List.getElem?_eq_none (by simp; omega)]
  rw [hl] at h1
  refine ⟨?_, ?_, wOf_lt f, h.ne, ⟨.inr (.inr ⟨rfl, rfl⟩), rfl, by decide⟩⟩
  · have := h1.tb
    unfold tbC
    rw [show onW 4 = ones4 from rfl]
    simpa using this
  · have := h1.wb
    unfold wdC fnC
    rw [List.map_map] at this
    exact this
noncomputable def incX (lo hi : Nat) (X : Nat → Nat) : Nat → Nat := wOf (incR lo hi (eN 4 16 X))
noncomputable def decX (lo hi : Nat) (X : Nat → Nat) : Nat → Nat := wOf (decR lo hi (eN 4 16 X))
theorem TB.incRange (h : TB t b 2048 4 16 128 X w) (lo hi : Nat) (h1 : lo < hi) (h2 : hi ≤ 2048) : Calls Tryz.prog 258 #[.pointer (some ⟨t, 0, none⟩), .int .i64 (lo : Int), .int .i64 (hi : Int)] w fun e w' => ∃ ok : Bool, e = .returned (.bool ok) ∧ Hid ((ok = false ∧ (∃ i, lo ≤ i ∧ i < hi ∧ eN 4 16 X i = 15) ∧ Below w.heap.size w w') ∨ (ok = true ∧ (∀ i, lo ≤ i → i < hi → eN 4 16 X i ≠ 15) ∧ TB t b 2048 4 16 128 (incX lo hi X) w' ∧ Upd b w w')) := by
  refine (incRange_walk h.t4 lo hi h1 h2).mono ?_
  rintro e w1 ⟨ok, rfl, H⟩
  refine ⟨ok, rfl, hid ?_⟩
  rcases H.out with ⟨a1, a2, a3⟩ | ⟨a1, a2, a3, a4⟩
  · exact .inl ⟨a1, a2, a3⟩
  · exact .inr ⟨a1, a2, a3.tb, a4⟩
theorem TB.decRange (h : TB t b 2048 4 16 128 X w) (lo hi : Nat) (h1 : lo < hi) (h2 : hi ≤ 2048) : Calls Tryz.prog 259 #[.pointer (some ⟨t, 0, none⟩), .int .i64 (lo : Int), .int .i64 (hi : Int)] w fun e w' => ∃ ok : Bool, e = .returned (.bool ok) ∧ Hid ((ok = false ∧ (∃ i, lo ≤ i ∧ i < hi ∧ eN 4 16 X i = 0) ∧ Below w.heap.size w w') ∨ (ok = true ∧ (∀ i, lo ≤ i → i < hi → eN 4 16 X i ≠ 0) ∧ TB t b 2048 4 16 128 (decX lo hi X) w' ∧ Upd b w w')) := by
  refine (decRange_walk h.t4 lo hi h1 h2).mono ?_
  rintro e w1 ⟨ok, rfl, H⟩
  refine ⟨ok, rfl, hid ?_⟩
  rcases H.out with ⟨a1, a2, a3⟩ | ⟨a1, a2, a3, a4⟩
  · exact .inl ⟨a1, a2, a3⟩
  · exact .inr ⟨a1, a2, a3.tb, a4⟩
end
section
variable {t b n wd per len : Nat} {X : Nat → Nat} {w w0 w' : World}
set_option maxRecDepth 100000 in
set_option maxHeartbeats 2000000 in
/-- Each, whatever the closure: an invariant that leaves the table as it is. -/
theorem TB.each (fid : FuncId) (cp : Array Value) (I : World → Prop) (hI : I w) (hT : ∀ w1, I w1 → TB t b n wd per len X w1) (hbel : ∀ w1 w2, I w1 → Below w1.heap.size w1 w2 → I w2) (lo hi : Nat) (h1 : lo ≤ hi) (h2 : hi ≤ n)
    (hcall : ∀ (k : Nat) w1, lo ≤ k → k < hi → eN wd per X k ≠ 0 → I w1 → Calls Tryz.prog fid (#[.int .i64 (k : Int), .int .u64 ((eN wd per X k : Nat) : Int)] ++ cp) w1 (fun e w' => ∃ ok : Bool, e = .returned (.bool ok) ∧ I w')) (hent : ∀ args w, (callFunc fid args).run Tryz.prog w = .ok (.enter fid args) w) :
    Calls Tryz.prog 230 #[.pointer (some ⟨t, 0, none⟩), .int .i64 (lo : Int), .int .i64 (hi : Int), .func (.func fid) #[] cp] w fun e w' => e = .returned (.bool true) ∧ I w' := by
  have HT := hid hT
  have HBe := hid hbel
  have HCa := hid hcall
  have HI := hid hI
  have HH := hid ((hT w hI).hasRange lo hi h1 h2)
  have hn := (hT w hI).k.n
  clear hT hbel hcall hI
  go_enter Tryz.func230, Tryz.ntmps230
  go_wp2_with fail
  refine HH.out.mono ?_
  rintro e w1 ⟨rfl, hw1⟩
  have hw1' := hw1.symm
  clear hw1
  subst hw1'
  clear HH
  go_upto_region 4 with fail
  go_loopw [9] (fun u wr => ∃ a : Nat, u = .int .i64 (a : Int) ∧ lo ≤ a ∧ a ≤ hi ∧ Hid (I wr)) (fun u _ => hi - (intOf u).toNat)
  case atStart => exact ⟨lo, rfl, Nat.le_refl _, h1, HI⟩
  case round =>
  clear HI
  obtain ⟨a, rfl, hla, hah, HK⟩ := hrel
  by_cases hlt : a < hi
  rotate_left
  · as_aux_lemma =>
    have dq : decide ((a : Int) < (hi : Int)) = false := decide_eq_false (by omega)
    go_wp2
    go_ret
    exact ⟨rfl, HK.out⟩
  as_aux_lemma =>
  have dq : decide ((a : Int) < (hi : Int)) = true := decide_eq_true (by omega)
  have HN := hid ((HT.out wr HK.out).nextNonzero a hi (by omega) h2)
  go_wp2_with fail
  refine HN.out.mono ?_
  rintro e w2 ⟨r, rfl, HB⟩
  have HI2 := hid (HBe.out _ _ HK.out HB.out.2)
  clear HN HK
  rcases HB.out.1 with ⟨rfl, _⟩ | ⟨k, rfl, hk1, hk2, hk3, _⟩
  · as_aux_lemma =>
    clear HB
    go_wp2
    go_ret
    exact ⟨rfl, HI2.out⟩
  · as_aux_lemma =>
    have hk3' : eN wd per X k ≠ 0 := by
      unfold nzP at hk3
      simpa using hk3
    clear HB hk3
    have d0 : decide ((k : Int) < 0) = false := decide_eq_false (by omega)
    have HG := hid ((HT.out _ HI2.out).get k (by omega))
    have HCk := hid (fun w1 hw => HCa.out k w1 (by omega) hk2 hk3' hw)
    go_wp2_with fail
    refine HG.out.mono ?_
    rintro e w3 ⟨rfl, hd3⟩
    have HI3 := hid (HBe.out _ _ HI2.out (hd3.below _))
    clear hd3 HI2 HG HCa hk3'
    generalize eN wd per X k = v at HCk
    go_wp2_with fail
    refine (HCk.out _ HI3.out).mono ?_
    rintro e w4 ⟨ok, rfl, hi4⟩
    have HI4 := hid hi4
    clear hi4 HI3 HCk
    cases ok with
    | false =>
      as_aux_lemma =>
      go_wp2
      go_ret
      exact ⟨rfl, HI4.out⟩
    | true =>
      as_aux_lemma =>
      go_wp2
      exact ⟨⟨k + 1, by go_num, by omega, by omega, HI4⟩, by simp [intOf]; omega⟩
end
end Go.Proofs.Qxb6500887aGreat
