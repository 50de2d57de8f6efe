/- Decimal digits exactly: appendUint, utoa, itoa (written by tools/mk_sct.py). -/
import Derived.Test.Qxb6500883aGreatDoorScS
namespace Go.Proofs.Qxb6500883aGreatDoor
open Go.RowKit
set_option linter.unusedSimpArgs false
set_option linter.unusedVariables false
/-- The digits of a number. -/
def dgL (n : Nat) : List UInt8 := if h : n < 10 then [(48 + n).toUInt8] else dgL (n / 10) ++ [(48 + n % 10).toUInt8]
termination_by n
decreasing_by omega
theorem dgL_small {n : Nat} (h : n < 10) : dgL n = [(48 + n).toUInt8] := by rw [dgL, dif_pos h]
theorem dgL_big {n : Nat} (h : ¬ n < 10) : dgL n = dgL (n / 10) ++ dgL (n % 10) := by rw [dgL, dif_neg h, dgL_small (show n % 10 < 10 by omega)]
theorem dgL_len : ∀ (k n : Nat), n < 10 ^ (k + 1) → (dgL n).length ≤ k + 1
  | 0, n, h => by rw [dgL_small (by simpa using h)]; exact Nat.le_refl _
  | k + 1, n, h => by
    by_cases hb : n < 10
    · rw [dgL_small hb]; simp
    · rw [dgL_big hb, dgL_small (show n % 10 < 10 by omega), List.length_append]
      have := dgL_len k (n / 10) (by rw [Nat.pow_succ] at h; omega)
      simp only [List.length_singleton]
      omega
section
variable {w w' w0 w1 : World} {n0 : Nat} {v v' : Value} {bs : List UInt8}
/-- What appending these bytes gives. -/
structure ApX (n0 : Nat) (w : World) (bs : List UInt8) (k : Nat) (d : List UInt8) (w' : World) (v' : Value) : Prop where
  le : d.length ≤ k
  row : OwR rtB n0 w' v' (bs ++ d)
  bel : Below n0 w w'
  kt : ∀ g t cs, Blk w g t cs → t ≠ 5 → Blk w' g t cs
theorem ApX.start (h : OwR rtB n0 w v bs) : ApX n0 w bs 0 [] w v := ⟨Nat.le_refl _, by rw [List.append_nil]; exact h, Below.refl _ _, fun _ _ _ h _ => h⟩
theorem ApX.below {k : Nat} {d : List UInt8} (h : ApX n0 w bs k d w' v') {w'' : World} (h0 : n0 ≤ w.heap.size) (hb : Below w'.heap.size w' w'') : ApX n0 w bs k d w'' v' := ⟨h.le, h.row.below hb, h.bel.trans (hb.mono (Nat.le_trans h0 h.bel.size)), fun g t cs hg ht => (h.kt g t cs hg ht).below hb⟩
theorem ApX.trans {k k' : Nat} {d e : List UInt8} {w'' : World} {v'' : Value} (h : ApX n0 w bs k d w' v') (h2 : ApX n0 w' (bs ++ d) k' e w'' v'') : ApX n0 w bs (k + k') (d ++ e) w'' v'' := by
  have h1 := h.le
  have h3 := h2.le
  exact ⟨by rw [List.length_append]; omega, by rw [← List.append_assoc]; exact h2.row, h.bel.trans h2.bel, fun g t cs hg ht => h2.kt g t cs (h.kt g t cs hg ht) ht⟩
theorem ApX.kep {k : Nat} {d es : List UInt8} {w'' : World} {v'' : Value} (h : ApX n0 w bs k d w' v') (h0 : n0 ≤ w.heap.size) (hk : Kep w' v' w'') (hr2 : OwR rtB n0 w'' v'' (bs ++ d ++ es)) : ApX n0 w bs (k + es.length) (d ++ es) w'' v'' :=
  h.trans ⟨Nat.le_refl _, hr2, hk.below h.row.hi (Nat.le_trans h0 h.bel.size), fun g t cs hg ht => hk.keep hg (h.row.ne hg ht)⟩
theorem ApX.mono {k k' : Nat} {d : List UInt8} (h : ApX n0 w bs k d w' v') (hk : k ≤ k') : ApX n0 w bs k' d w' v' := ⟨Nat.le_trans h.le hk, h.row, h.bel, h.kt⟩
theorem ApX.updG {k g : Nat} {d : List UInt8} {t : TypeId} {cs : List Value} (h : ApX n0 w bs k d w' v') {w'' : World} (h0 : n0 ≤ w.heap.size) (hg : w.heap.size ≤ g) (hb : Blk w' g t cs) (ht : t ≠ 5) (hu : Upd g w' w'') : ApX n0 w bs k d w'' v' :=
  ⟨h.le, h.row.upd hu (h.row.ne hb ht), h.bel.trans (hu.below (Nat.le_trans h0 hg) (Nat.le_trans h0 h.bel.size)), fun g' t' cs' hg' ht' => (h.kt g' t' cs' hg' ht').upd hu (by have := hg'.lt; omega)⟩
theorem ApX.other {k g : Nat} {d : List UInt8} {t : TypeId} {cs : List Value} (h : ApX n0 w bs k d w' v') (h0 : n0 ≤ w.heap.size) (hg : w.heap.size ≤ g) (hb : Blk w' g t cs) (ht : t ≠ 5) (i : Nat) (u : Value) : ApX n0 w bs k d (w'.setCell ⟨g, i, none⟩ u) v' := h.updG h0 hg hb ht ((Upd.refl g w').setCell rfl _)
/-- Twenty digits, those from k on done. -/
def DgX (g n y k : Nat) (w : World) : Prop := ∃ ds : List UInt8, ds.length = 20 ∧ Blk w g 142 (ds.map byV) ∧ dgL n = dgL y ++ ds.drop k
theorem DgX.cell {g n y k : Nat} (h : DgX g n y k w) {i : Nat} (hi : i < 20) : (∃ v : Value, w.cell? ⟨g, i, none⟩ = some v) ∧ w.frozen? ⟨g, i, none⟩ = false := by
  obtain ⟨ds, h1, h2, _⟩ := h
  exact DBk.cell ⟨ds, h1, h2⟩ hi
theorem DgX.put {g n y j d : Nat} (h : DgX g n y (j + 1) w) (hj : j < 20) (hd : 48 + y % 10 = d) : ∃ ds : List UInt8, ds.length = 20 ∧ Blk (w.setCell ⟨g, j, none⟩ (.int .u8 (d : Int))) g 142 (ds.map byV) ∧ (y / 10 ≠ 0 → dgL n = dgL (y / 10) ++ ds.drop j) ∧ (y / 10 = 0 → dgL n = ds.drop j) := by
  obtain ⟨ds, h1, h2, h3⟩ := h
  have hs := h2.set j (.int .u8 (d : Int))
  have e : Value.int .u8 (d : Int) = byV (48 + y % 10).toUInt8 := by
    unfold byV
    congr 1
    show (d : Int) = (((48 + y % 10) % 256 : Nat) : Int)
    omega
  rw [e, ← List.map_set] at hs
  have hdrop : (ds.set j (48 + y % 10).toUInt8).drop j = (48 + y % 10).toUInt8 :: ds.drop (j + 1) := by
    rw [List.drop_eq_getElem_cons (by rw [List.length_set]; omega), List.getElem_set_self, List.drop_set_of_lt (by omega)]
  refine ⟨ds.set j (48 + y % 10).toUInt8, by rw [List.length_set]; exact h1, by rw [e]; exact hs, fun hz => ?_, fun hz => ?_⟩
  · rw [hdrop, h3, dgL_big (n := y) (by omega), dgL_small (n := y % 10) (by omega), List.append_assoc]; rfl
  · rw [hdrop, h3, dgL_small (n := y) (by omega), show y % 10 = y by omega]; rfl
set_option maxRecDepth 100000 in
set_option maxHeartbeats 2000000 in
theorem appendUintX {ax : Option Addr} {m q : Nat} (hr : OwR rtB n0 w (.slice ax m q) bs) (h0 : n0 ≤ w.heap.size) (n : Nat) (hn : n < 18446744073709551616) (hl : bs.length ≤ 140000000000000) : Calls Tryz.prog 50 #[.slice ax m q, .int .u64 (n : Int)] w fun e w' => ∃ v : Value, e = .returned v ∧ Hid (ApX n0 w bs 20 (dgL n) w' v) := by
  obtain ⟨g, hg⟩ : ∃ g, w.heap.size = g := ⟨_, rfl⟩
  have HR := hid hr
  have HG : Hid (w.heap.size ≤ g) := hid (by omega)
  have H1 : Hid (ApX n0 w bs 0 [] (w.alloc (.cells (List.replicate 20 (.int .u8 0)).toArray 142)) (.slice ax m q) ∧ DgX g n n 20 (w.alloc (.cells (List.replicate 20 (.int .u8 0)).toArray 142))) := hid (by
    have kk := Blk.new w (List.replicate 20 (.int .u8 0)) 142
    rw [hg] at kk
    exact ⟨(ApX.start hr).below h0 (nbel w _), ⟨List.replicate 20 0, rfl, kk, by rw [List.drop_of_length_le (by simp), List.append_nil]⟩⟩)
  simp only [List.replicate] at H1
  clear hr
  go_enter Tryz.func50, Tryz.ntmps50
  go_upto_region 2 with fail
  (try simp only [hg])
  generalize hw1 : w.alloc _ = w1 at H1 ⊢
  clear hw1 hg
  go_upto_region 3 with fail
  go_loopw [1, 6] (fun t u wr => ∃ y k : Nat, t = .int .u64 (y : Int) ∧ u = .int .i64 (k : Int) ∧ 1 ≤ k ∧ k ≤ 20 ∧ y < 18446744073709551616 ∧ Hid (y < 10 ^ k) ∧ Hid (ApX n0 w bs 0 [] wr (.slice ax m q) ∧ DgX g n y k wr)) (fun _ u _ => (intOf u).toNat)
  case atStart => exact ⟨n, 20, rfl, rfl, by omega, by omega, hn, hid (Nat.lt_of_lt_of_le hn (by decide)), H1⟩
  case round =>
  clear H1
  obtain ⟨y, k, rfl, rfl, hk1, hk2, hy, Hy, HK⟩ := hrel
  obtain ⟨j, rfl⟩ : ∃ j, k = j + 1 := ⟨k - 1, by omega⟩
  obtain ⟨⟨cv, cc⟩, cz⟩ := HK.out.2.cell (i := j) (by omega)
  have e0 : ((j + 1 : Nat) : Int) - 1 = (j : Int) := by omega
  have hd256 : 48 + y % 10 < 58 := by omega
  have ed : 48 + (y : Int) % 10 = ((48 + y % 10 : Nat) : Int) := by omega
  generalize hdd : 48 + y % 10 = d at *
  have Hdd := hid hdd
  clear hdd
  go_upto_region 5 with fail
  have HP_ := hid (HK.out.2.put (by omega) Hdd.out)
  have HU_ : Hid (ApX n0 w bs 0 [] (wr.setCell ⟨g, j, none⟩ (.int .u8 (d : Int))) (.slice ax m q)) := hid (by
    obtain ⟨ds, _, hd, _⟩ := HK.out.2
    exact HK.out.1.other h0 HG.out hd (by decide) _ _)
  generalize hz_ : World.setCell _ (⟨g, j, none⟩ : Addr) _ = w2 at HP_ HU_ ⊢
  clear hz_ cc cz HK ed
  have e1 : (y : Int) / 10 = ((y / 10 : Nat) : Int) := by omega
  have Hy2 : Hid (y / 10 < 10 ^ j) := hid (by
    have := Hy.out
    rw [Nat.pow_succ] at this
    omega)
  have hy2 : y / 10 < 18446744073709551616 := by omega
  obtain ⟨z, hz⟩ : ∃ z, y / 10 = z := ⟨_, rfl⟩
  rw [hz] at e1 Hy2 hy2 HP_
  clear hz Hy
  by_cases h1 : z = 0
  rotate_left
  · as_aux_lemma =>
    have d1 : ((z : Int) == 0) = false := by simp; omega
    have hj : 1 ≤ j := by
      rcases Nat.eq_zero_or_pos j with h | h
      · subst h
        have := Hy2.out
        simp at this
        omega
      · exact h
    go_wp2
    exact ⟨⟨z, j, by first | rfl | rw [e1], by go_num, hj, by omega, hy2, Hy2, hid ⟨HU_.out, by obtain ⟨ds, p1, p2, p3, _⟩ := HP_.out; exact ⟨ds, p1, p2, p3 h1⟩⟩⟩, by simp [intOf]⟩
  as_aux_lemma =>
  have d1 : ((z : Int) == 0) = true := by simp [h1]
  have hsl := slice_dg g j (by omega)
  go_wp2_with (at_builtin; refine stopHere ?_)
  intro _
  obtain ⟨ds, hd1, hd2, _, hd4⟩ := HP_.out
  have HD4 := hid (hd4 h1)
  clear hd4
  have Hd2 := hid hd2
  have he2 := HU_.out.row
  rw [List.append_nil] at he2
  refine wpList_app_l okB rfl _ _ he2 rfl (ds.drop j) rfl (some ⟨g, j, none⟩) (20 - j) (20 - j) rfl (by rw [List.length_drop, hd1]) (fun h => by cases h) (fun ad had i u hu => ?_) (by
    show (bs.length + (20 - j)) * 1 ≤ _
    omega) (Nat.le_trans h0 HU_.out.bel.size) ?_
  · cases had
    rw [rtB_flat, List.getElem?_map, List.getElem?_drop] at hu
    have ea : (⟨g, j, none⟩ : Addr).add i = ⟨g, j + i, none⟩ := by unfold Addr.add; split <;> simp_all
    rw [ea, hd2.cell, List.getElem?_map]
    exact hu
  intro v9 w9 hr9 hk9 _
  have HF : Hid (ApX n0 w bs 20 (dgL n) w9 v9) := hid (by rw [HD4.out]; exact (HU_.out.kep (es := ds.drop j) h0 hk9.out (by rw [List.append_nil]; exact hr9.out)).mono (by rw [List.length_drop]; omega))
  clear hr9 hk9 he2 hd2
  go_wp2
  go_ret
  exact ⟨_, rfl, HF⟩
def uS (n : Nat) : ByteArray := ⟨(dgL n).toArray⟩
theorem uS_size (n : Nat) (h : n < 18446744073709551616) : (uS n).size ≤ 20 := by
  have := dgL_len 19 n (Nat.lt_of_lt_of_le h (by decide))
  exact this
set_option maxRecDepth 100000 in
theorem utoaX (v : Nat) (hv : v < 18446744073709551616) (w : World) : Calls Tryz.prog 103 #[.int .u64 (v : Int)] w fun e w' => e = .returned (.string (uS v)) ∧ Below w.heap.size w w' := by
  have HA := hid (appendUintX (bs := []) (OwR.nil rtB w.heap.size w) (Nat.le_refl _) v hv (by decide))
  obtain ⟨ss, hss⟩ : ∃ ss, uS v = ss := ⟨_, rfl⟩
  have Hss := hid hss
  rw [hss]
  clear hss
  go_enter Tryz.func103, Tryz.ntmps103
  go_wp2_with fail
  refine HA.out.mono ?_
  rintro e w2 ⟨v2, rfl, H2⟩
  have h2 := H2.out.row
  rw [List.nil_append] at h2
  obtain ⟨a2, q2, rfl⟩ := h2.shape
  have hcv := h2.str
  have hu : (⟨(dgL v).toArray⟩ : ByteArray) = ss := Hss.out
  rw [hu] at hcv
  generalize (dgL v).length = m2 at hcv ⊢
  have HB := hid H2.out.bel
  clear h2 H2 HA hu Hss
  go_wp2
  go_ret
  exact ⟨rfl, HB.out⟩
set_option maxRecDepth 100000 in
theorem itoaX (v : Nat) (hv : v < 9223372036854775808) (w : World) : Calls Tryz.prog 64 #[.int .i64 (v : Int)] w fun e w' => e = .returned (.string (uS v)) ∧ Below w.heap.size w w' := by
  have HU := hid (utoaX v (by omega) w)
  have ew : IntKind.u64.wrap (v : Int) = (v : Int) := by rw [IntKind.wrap_u64]; omega
  generalize uS v = s at HU ⊢
  go_enter Tryz.func64, Tryz.ntmps64
  go_wp2_with fail
  refine HU.out.mono ?_
  rintro e w2 ⟨rfl, hb⟩
  have HB := hid hb
  clear hb
  go_wp2
  go_ret
  exact ⟨rfl, HB.out⟩
end
end Go.Proofs.Qxb6500883aGreatDoor
