/- appendUint, appendLabel, appendAddr, FormatAddr, exactly (written by tools/mk_at9.py). -/
import Derived.Test.Qxb6500887aGreatAt8
namespace Go.Proofs.Qxb6500887aGreat
open Go.RowKit
set_option linter.unusedSimpArgs false
set_option linter.unusedVariables false
section
variable {w w' w0 w1 : World} {n0 : Nat} {v v' : Value} {bs : List UInt8} {l : AL} {S : AS}
/-- What appending these bytes gives. -/
structure ApX (n0 : Nat) (w : World) (bs : List UInt8) (k : Nat) (d : List UInt8) (w' : World) (v' : Value) : Prop where
  le : d.length ≤ k
  row : OwR rtB n0 w' v' (bs ++ d)
  bel : Below n0 w w'
  kt : ∀ g t cs, Blk w g t cs → t ≠ 5 → Blk w' g t cs
theorem ApX.start (h : OwR rtB n0 w v bs) : ApX n0 w bs 0 [] w v := ⟨Nat.le_refl _, by rw [List.append_nil]; exact h, Below.refl _ _, fun _ _ _ h _ => h⟩
theorem ApX.below {k : Nat} {d : List UInt8} (h : ApX n0 w bs k d w' v') {w'' : World} (h0 : n0 ≤ w.heap.size) (hb : Below w'.heap.size w' w'') : ApX n0 w bs k d w'' v' := ⟨h.le, h.row.below hb, h.bel.trans (hb.mono (Nat.le_trans h0 h.bel.size)), fun g t cs hg ht => (h.kt g t cs hg ht).below hb⟩
theorem ApX.trans {k k' : Nat} {d e : List UInt8} {w'' : World} {v'' : Value} (h : ApX n0 w bs k d w' v') (h2 : ApX n0 w' (bs ++ d) k' e w'' v'') : ApX n0 w bs (k + k') (d ++ e) w'' v'' := by
  have h1 := h.le
  have h3 := h2.le
  exact ⟨by rw [List.length_append]; omega, by rw [← List.append_assoc]; exact h2.row, h.bel.trans h2.bel, fun g t cs hg ht => h2.kt g t cs (h.kt g t cs hg ht) ht⟩
theorem ApX.kep {k : Nat} {d es : List UInt8} {w'' : World} {v'' : Value} (h : ApX n0 w bs k d w' v') (h0 : n0 ≤ w.heap.size) (hk : Kep w' v' w'') (hr2 : OwR rtB n0 w'' v'' (bs ++ d ++ es)) : ApX n0 w bs (k + es.length) (d ++ es) w'' v'' :=
  h.trans ⟨Nat.le_refl _, hr2, hk.below h.row.hi (Nat.le_trans h0 h.bel.size), fun g t cs hg ht => hk.keep hg (h.row.ne hg ht)⟩
theorem ApX.mono {k k' : Nat} {d : List UInt8} (h : ApX n0 w bs k d w' v') (hk : k ≤ k') : ApX n0 w bs k' d w' v' := ⟨Nat.le_trans h.le hk, h.row, h.bel, h.kt⟩
theorem ApX.updG {k g : Nat} {d : List UInt8} {t : TypeId} {cs : List Value} (h : ApX n0 w bs k d w' v') {w'' : World} (h0 : n0 ≤ w.heap.size) (hg : w.heap.size ≤ g) (hb : Blk w' g t cs) (ht : t ≠ 5) (hu : Upd g w' w'') : ApX n0 w bs k d w'' v' :=
  ⟨h.le, h.row.upd hu (h.row.ne hb ht), h.bel.trans (hu.below (Nat.le_trans h0 hg) (Nat.le_trans h0 h.bel.size)), fun g' t' cs' hg' ht' => (h.kt g' t' cs' hg' ht').upd hu (by have := hg'.lt; omega)⟩
theorem ApX.other {k g : Nat} {d : List UInt8} {t : TypeId} {cs : List Value} (h : ApX n0 w bs k d w' v') (h0 : n0 ≤ w.heap.size) (hg : w.heap.size ≤ g) (hb : Blk w' g t cs) (ht : t ≠ 5) (i : Nat) (u : Value) : ApX n0 w bs k d (w'.setCell ⟨g, i, none⟩ u) v' := h.updG h0 hg hb ht ((Upd.refl g w').setCell rfl _)
/-- Twenty digits, those from k on done. -/
def DgX (g n y k : Nat) (w : World) : Prop := ∃ ds : List UInt8, ds.length = 20 ∧ Blk w g 256 (ds.map byV) ∧ dgL n = dgL y ++ ds.drop k
theorem DgX.cell {g n y k : Nat} (h : DgX g n y k w) {i : Nat} (hi : i < 20) : (∃ v : Value, w.cell? ⟨g, i, none⟩ = some v) ∧ w.frozen? ⟨g, i, none⟩ = false := by
  obtain ⟨ds, h1, h2, _⟩ := h
  exact DBk.cell ⟨ds, h1, h2⟩ hi
theorem DgX.put {g n y j d : Nat} (h : DgX g n y (j + 1) w) (hj : j < 20) (hd : 48 + y % 10 = d) : ∃ ds : List UInt8, ds.length = 20 ∧ Blk (w.setCell ⟨g, j, none⟩ (.int .u8 (d : Int))) g 256 (ds.map byV) ∧ (y / 10 ≠ 0 → dgL n = dgL (y / 10) ++ ds.drop j) ∧ (y / 10 = 0 → dgL n = ds.drop j) := by
  obtain ⟨ds, h1, h2, h3⟩ := h
  have hs := h2.set j (.int .u8 (d : Int))
  have e : Value.int .u8 (d : Int) = byV (48 + y % 10).toUInt8 := by
    unfold byV
    congr 1
    show (d : Int) = (((48 + y % 10) % 256 : Nat) : Int)
    omega
  rw [e, ← List.map_set] at hs
  have hdrop : (ds.set j (48 + y % 10).toUInt8).drop j = (48 + y % 10).toUInt8 :: ds.drop (j + 1) := by
    rw [List.drop_eq_getElem_cons (by rw [List.length_set]; omega), List.getElem_set_self, List.drop_set_of_lt (by omega)]
  refine ⟨ds.set j (48 + y % 10).toUInt8, by rw [List.length_set]; exact h1, by rw [e]; exact hs, fun hz => ?_, fun hz => ?_⟩
  · rw [hdrop, h3, dgL_big (n := y) (by omega), dgL_small (n := y % 10) (by omega), List.append_assoc]; rfl
  · rw [hdrop, h3, dgL_small (n := y) (by omega), show y % 10 = y by omega]; rfl
set_option maxRecDepth 100000 in
set_option maxHeartbeats 2000000 in
theorem appendUintX {ax : Option Addr} {m q : Nat} (hr : OwR rtB n0 w (.slice ax m q) bs) (h0 : n0 ≤ w.heap.size) (n : Nat) (hn : n < 18446744073709551616) (hl : bs.length ≤ 1000000) : Calls Tryz.prog 276 #[.slice ax m q, .int .u64 (n : Int)] w fun e w' => ∃ v : Value, e = .returned v ∧ Hid (ApX n0 w bs 20 (dgL n) w' v) := by
  obtain ⟨g, hg⟩ : ∃ g, w.heap.size = g := ⟨_, rfl⟩
  have HR := hid hr
  have HG : Hid (w.heap.size ≤ g) := hid (by omega)
  have H1 : Hid (ApX n0 w bs 0 [] (w.alloc (.cells (List.replicate 20 (.int .u8 0)).toArray 256)) (.slice ax m q) ∧ DgX g n n 20 (w.alloc (.cells (List.replicate 20 (.int .u8 0)).toArray 256))) := hid (by
    have kk := Blk.new w (List.replicate 20 (.int .u8 0)) 256
    rw [hg] at kk
    exact ⟨(ApX.start hr).below h0 (nbel w _), ⟨List.replicate 20 0, rfl, kk, by rw [List.drop_of_length_le (by simp), List.append_nil]⟩⟩)
  simp only [List.replicate] at H1
  clear hr
  go_enter Tryz.func276, Tryz.ntmps276
  go_upto_region 2 with fail
  (try simp only [hg])
  generalize hw1 : w.alloc _ = w1 at H1 ⊢
  clear hw1 hg
  go_upto_region 3 with fail
  go_loopw [1, 6] (fun t u wr => ∃ y k : Nat, t = .int .u64 (y : Int) ∧ u = .int .i64 (k : Int) ∧ 1 ≤ k ∧ k ≤ 20 ∧ y < 18446744073709551616 ∧ Hid (y < 10 ^ k) ∧ Hid (ApX n0 w bs 0 [] wr (.slice ax m q) ∧ DgX g n y k wr)) (fun _ u _ => (intOf u).toNat)
  case atStart => exact ⟨n, 20, rfl, rfl, by omega, by omega, hn, hid (Nat.lt_of_lt_of_le hn (by decide)), H1⟩
  case round =>
  clear H1
  obtain ⟨y, k, rfl, rfl, hk1, hk2, hy, Hy, HK⟩ := hrel
  obtain ⟨j, rfl⟩ : ∃ j, k = j + 1 := ⟨k - 1, by omega⟩
  obtain ⟨⟨cv, cc⟩, cz⟩ := HK.out.2.cell (i := j) (by omega)
  have e0 : ((j + 1 : Nat) : Int) - 1 = (j : Int) := by omega
  have hd256 : 48 + y % 10 < 58 := by omega
  have ed : 48 + (y : Int) % 10 = ((48 + y % 10 : Nat) : Int) := by omega
  generalize hdd : 48 + y % 10 = d at *
  have Hdd := hid hdd
  clear hdd
  go_upto_region 5 with fail
  have HP_ := hid (HK.out.2.put (by omega) Hdd.out)
  have HU_ : Hid (ApX n0 w bs 0 [] (wr.setCell ⟨g, j, none⟩ (.int .u8 (d : Int))) (.slice ax m q)) := hid (by
    obtain ⟨ds, _, hd, _⟩ := HK.out.2
    exact HK.out.1.other h0 HG.out hd (by decide) _ _)
  generalize hz_ : World.setCell _ (⟨g, j, none⟩ : Addr) _ = w2 at HP_ HU_ ⊢
  clear hz_ cc cz HK ed
  have e1 : (y : Int) / 10 = ((y / 10 : Nat) : Int) := by omega
  have Hy2 : Hid (y / 10 < 10 ^ j) := hid (by
    have := Hy.out
    rw [Nat.pow_succ] at this
    omega)
  have hy2 : y / 10 < 18446744073709551616 := by omega
  obtain ⟨z, hz⟩ : ∃ z, y / 10 = z := ⟨_, rfl⟩
  rw [hz] at e1 Hy2 hy2 HP_
  clear hz Hy
  by_cases h1 : z = 0
  rotate_left
  · as_aux_lemma =>
    have d1 : ((z : Int) == 0) = false := by simp; omega
    have hj : 1 ≤ j := by
      rcases Nat.eq_zero_or_pos j with h | h
      · subst h
        have := Hy2.out
        simp at this
        omega
      · exact h
    go_wp2
    exact ⟨⟨z, j, by first | rfl | rw [e1], by go_num, hj, by omega, hy2, Hy2, hid ⟨HU_.out, by obtain ⟨ds, p1, p2, p3, _⟩ := HP_.out; exact ⟨ds, p1, p2, p3 h1⟩⟩⟩, by simp [intOf]⟩
  as_aux_lemma =>
  have d1 : ((z : Int) == 0) = true := by simp [h1]
  have hsl := slice_dg g j (by omega)
  go_wp2_with (at_builtin; refine stopHere ?_)
  intro _
  obtain ⟨ds, hd1, hd2, _, hd4⟩ := HP_.out
  have HD4 := hid (hd4 h1)
  clear hd4
  have Hd2 := hid hd2
  have he2 := HU_.out.row
  rw [List.append_nil] at he2
  refine wpList_app_l okB rfl _ _ he2 rfl (ds.drop j) rfl (some ⟨g, j, none⟩) (20 - j) (20 - j) rfl (by rw [List.length_drop, hd1]) (fun h => by cases h) (fun ad had i u hu => ?_) (by
    show (bs.length + (20 - j)) * 1 ≤ _
    omega) (Nat.le_trans h0 HU_.out.bel.size) ?_
  · cases had
    rw [rtB_flat, List.getElem?_map, List.getElem?_drop] at hu
    have ea : (⟨g, j, none⟩ : Addr).add i = ⟨g, j + i, none⟩ := by unfold Addr.add; split <;> simp_all
    rw [ea, hd2.cell, List.getElem?_map]
    exact hu
  intro v9 w9 hr9 hk9 _
  have HF : Hid (ApX n0 w bs 20 (dgL n) w9 v9) := hid (by rw [HD4.out]; exact (HU_.out.kep (es := ds.drop j) h0 hk9.out (by rw [List.append_nil]; exact hr9.out)).mono (by rw [List.length_drop]; omega))
  clear hr9 hk9 he2 hd2
  go_wp2
  go_ret
  exact ⟨_, rfl, HF⟩
theorem ApX.uint {ax : Option Addr} {m q k : Nat} {d : List UInt8} (h : ApX n0 w bs k d w1 (.slice ax m q)) (h0 : n0 ≤ w.heap.size) (n : Nat) (hn : n < 18446744073709551616) (hl : bs.length + k ≤ 1000000) : Calls Tryz.prog 276 #[.slice ax m q, .int .u64 (n : Int)] w1 fun e w' => ∃ (a' : Option Addr) (m' q' : Nat), e = .returned (.slice a' m' q') ∧ Hid (ApX n0 w bs (k + 20) (d ++ dgL n) w' (.slice a' m' q')) := by
  have h1 := h.le
  refine (appendUintX h.row (Nat.le_trans h0 h.bel.size) n hn (by rw [List.length_append]; omega)).mono ?_
  rintro e w2 ⟨v, rfl, H⟩
  obtain ⟨a', q', rfl⟩ := H.out.row.shape
  exact ⟨a', _, q', rfl, hid (h.trans H.out)⟩
set_option maxRecDepth 100000 in
set_option maxHeartbeats 2000000 in
theorem ApX.label {ax : Option Addr} {m q k : Nat} {d : List UInt8} (h : ApX n0 w bs k d w1 (.slice ax m q)) (h0 : n0 ≤ w.heap.size) (s : ByteArray) (hs : s.size ≤ 16) (n : Nat) (hn : n ≤ 9223372036854775807) (hl : bs.length + k ≤ 900000) : Calls Tryz.prog 270 #[.slice ax m q, .string s, .int .i64 (n : Int)] w1 fun e w' => ∃ (a' : Option Addr) (m' q' : Nat), e = .returned (.slice a' m' q') ∧ Hid (ApX n0 w bs (k + 36) (d ++ s.data.toList ++ dgL n) w' (.slice a' m' q')) := by
  have HA := hid h
  have H0 := hid h0
  have h1 := h.le
  have h2 := h.row
  have HR := hid h2
  have Hd := hid h1
  have hwr : IntKind.u64.wrap (n : Int) = (n : Int) := by rw [IntKind.wrap_u64]; omega
  have Hl := hid hl
  clear h h1 h2 h0 hl
  go_enter Tryz.func270, Tryz.ntmps270
  go_wp2_with (at_builtin; refine stopHere ?_)
  intro _
  refine wpList_app_s rfl _ _ HR.out rfl rfl s rfl (by have := Hl.out; have := Hd.out; rw [List.length_append]; omega) (Nat.le_trans H0.out HA.out.bel.size) ?_
  intro v2 w2 hr2 hk2
  obtain ⟨a2, q2, rfl⟩ := hr2.out.shape
  have HA2 := hid (HA.out.kep H0.out hk2.out hr2.out)
  generalize hmm : (bs ++ d ++ s.data.toList).length = m2 at HA2 ⊢
  clear hmm
  have HA3 := hid (HA2.out.mono (show k + s.data.toList.length ≤ k + 16 by
    have : s.data.toList.length = s.size := by rw [Array.length_toList]; rfl
    omega))
  clear HR hr2 hk2 HA HA2
  have HU := hid (HA3.out.uint H0.out n (by omega) (by have := Hl.out; omega))
  clear HA3
  go_wp2_with fail
  refine HU.out.mono ?_
  rintro e w3 ⟨a3, m3, q3, rfl, H3⟩
  clear HU
  go_wp2
  go_ret
  exact ⟨a3, m3, q3, rfl, H3⟩
theorem ApX.labelK {ax : Option Addr} {m q k g : Nat} {d : List UInt8} {t : TypeId} {cs : List Value} (h : ApX n0 w bs k d w1 (.slice ax m q)) (h0 : n0 ≤ w.heap.size) (hb : Blk w1 g t cs) (ht : t ≠ 5) (s : ByteArray) (hs : s.size ≤ 16) (n : Nat) (hn : n ≤ 9223372036854775807) (hl : bs.length + k ≤ 900000) : Calls Tryz.prog 270 #[.slice ax m q, .string s, .int .i64 (n : Int)] w1 fun e w' => ∃ (a' : Option Addr) (m' q' : Nat), e = .returned (.slice a' m' q') ∧ Hid (ApX n0 w bs (k + 36) (d ++ s.data.toList ++ dgL n) w' (.slice a' m' q') ∧ Blk w' g t cs) := by
  have h1 := h.le
  have h3 := (ApX.start h.row).label (Nat.le_trans h0 h.bel.size) s hs n hn (by rw [List.length_append]; omega)
  refine h3.mono ?_
  rintro e w9 ⟨a9, m9, q9, rfl, H9⟩
  refine ⟨a9, m9, q9, rfl, hid ⟨?_, H9.out.kt _ _ _ hb ht⟩⟩
  have := h.trans H9.out
  rw [Nat.zero_add, List.nil_append, ← List.append_assoc] at this
  exact this
set_option maxRecDepth 100000 in
set_option maxHeartbeats 4000000 in
theorem appendAddrX (hr : OwR rtB n0 w (.slice none 0 0) bs) (h0 : n0 ≤ w.heap.size) (x : Int) (hx : U64 x) (hb : bs.length ≤ 1000) : Calls Tryz.prog 269 #[.slice none 0 0, .int .u64 x] w fun e w' => ∃ (a' : Option Addr) (m' q' : Nat), e = .returned (.slice a' m' q') ∧ Hid (ApX n0 w bs 120 (placeL x.toNat) w' (.slice a' m' q')) := by
  have HPl0 : Hid (∀ z : Nat, x = (z : Int) → placeL x.toNat = placeL z) := hid (fun z hz => by rw [hz]; rfl)
  obtain ⟨PD, hPD⟩ : ∃ PD, placeL x.toNat = PD := ⟨_, rfl⟩
  rw [hPD]
  have HPD := hid hPD
  clear hPD HPl0
  have H0 := hid h0
  have HA := hid (ApX.start hr)
  have Hl : Hid (bs.length ≤ 1000) := hid hb
  clear hr h0 hb
  by_cases hz : x = 0
  · as_aux_lemma =>
    have HP0 : Hid (PD = [110, 105, 108]) := hid (by rw [← HPD.out, hz]; rfl)
    clear HPD
    subst hz
    go_enter Tryz.func269, Tryz.ntmps269
    go_wp2_with (at_builtin; refine stopHere ?_)
    intro _
    have hd2 := HA.out.row
    refine wpList_app_s rfl _ _ hd2 rfl rfl { data := #[110, 105, 108] } rfl (by have := Hl.out; rw [List.length_append, List.length_nil]; show _ + 3 ≤ _; omega) (Nat.le_trans H0.out HA.out.bel.size) ?_
    intro v2_ w2_ hr2_ hk2_
    obtain ⟨a2_, q2_, rfl⟩ := hr2_.out.shape
    have HAs_ : Hid (ApX n0 w bs (0 + 3) ([] ++ ({ data := #[110, 105, 108] } : ByteArray).data.toList) w2_ (.slice a2_ (bs ++ [] ++ ({ data := #[110, 105, 108] } : ByteArray).data.toList).length q2_)) := hid (HA.out.kep H0.out hk2_.out hr2_.out)
    generalize hmm : (bs ++ [] ++ ({ data := #[110, 105, 108] } : ByteArray).data.toList).length = m2_ at HAs_ ⊢
    clear hmm hr2_ hk2_ hd2
    go_wp2
    go_ret
    exact ⟨a2_, m2_, q2_, rfl, hid (by rw [HP0.out]; exact HAs_.out.mono (by decide))⟩
  have dz : (x == 0) = false := by simpa using hz
  have HZ0 := hid hz
  clear hz
  by_cases hi : InH x
  rotate_left
  · as_aux_lemma =>
    have HD := hid (decode_no x hi w)
    obtain ⟨n, hn⟩ : ∃ n : Nat, x = (n : Int) := ⟨x.toNat, by have := hx.1; omega⟩
    have hn2 : n < 18446744073709551616 := by have := hx.2; omega
    have HP0 : Hid (PD = [119, 105, 108, 100, 58] ++ dgL n) := hid (by
      rw [← HPD.out, hn, Int.toNat_natCast]
      unfold placeL
      rw [if_neg (by have := HZ0.out; omega), if_neg (by rw [← hn]; exact hi)])
    clear HPD HZ0
    subst hn
    clear hi hx
    go_enter Tryz.func269, Tryz.ntmps269
    go_wp2_with fail
    refine HD.out.mono ?_
    rintro e w2 ⟨rfl, hb2⟩
    have HA2 := hid (HA.out.below H0.out hb2)
    clear hb2 HA HD
    go_upto_region 4 with fail
    have HA3 := hid (HA2.out.below H0.out (nbel w2 (.cells #[.int .i64 0, .int .i64 0, .int .i64 0, .int .i64 0, .int .i64 0] 236)))
    generalize hw3 : w2.alloc _ = w3 at HA3 ⊢
    clear hw3 HA2
    go_wp2_with (at_builtin; refine stopHere ?_)
    intro _
    have hd2 := HA3.out.row
    refine wpList_app_s rfl _ _ hd2 rfl rfl { data := #[119, 105, 108, 100, 58] } rfl (by have := Hl.out; rw [List.length_append, List.length_nil]; show _ + 5 ≤ _; omega) (Nat.le_trans H0.out HA3.out.bel.size) ?_
    intro v2_ w2_ hr2_ hk2_
    obtain ⟨a2_, q2_, rfl⟩ := hr2_.out.shape
    have HAs_ : Hid (ApX n0 w bs (0 + 5) ([] ++ ({ data := #[119, 105, 108, 100, 58] } : ByteArray).data.toList) w2_ (.slice a2_ (bs ++ [] ++ ({ data := #[119, 105, 108, 100, 58] } : ByteArray).data.toList).length q2_)) := hid (HA3.out.kep H0.out hk2_.out hr2_.out)
    generalize hmm : (bs ++ [] ++ ({ data := #[119, 105, 108, 100, 58] } : ByteArray).data.toList).length = m2_ at HAs_ ⊢
    clear hmm hr2_ hk2_ hd2
    have HU := hid (HAs_.out.uint H0.out n hn2 (by have := Hl.out; omega))
    clear HAs_
    go_wp2_with fail
    refine HU.out.mono ?_
    rintro e w5 ⟨a5, m5, q5, rfl, H5⟩
    go_wp2
    go_ret
    exact ⟨a5, m5, q5, rfl, hid (by rw [HP0.out]; exact H5.out.mono (by decide))⟩
  as_aux_lemma =>
  have HD := hid (decode_ok x hi w)
  have hi1 := hi.1
  have hi2 := hi.2
  obtain ⟨b1, hb1⟩ : ∃ b1 : Nat, (x - 65536) / 512 = (b1 : Int) := ⟨((x - 65536) / 512).toNat, by omega⟩
  obtain ⟨b3, hb3⟩ : ∃ b3 : Nat, (x - 65536) / 16 % 32 = (b3 : Int) := ⟨((x - 65536) / 16 % 32).toNat, by omega⟩
  obtain ⟨b4, hb4⟩ : ∃ b4 : Nat, (x - 65536) % 16 = (b4 : Int) := ⟨((x - 65536) % 16).toNat, by omega⟩
  have HP0 : Hid (PD = [98] ++ dgL b1 ++ [46, 108] ++ dgL b3 ++ [46, 119] ++ dgL b4) := hid (by
    rw [← HPD.out]
    unfold placeL
    rw [if_neg (by omega), if_pos (by rw [show ((x.toNat : Nat) : Int) = x by omega]; exact hi), show (x.toNat - 65536) / 512 = b1 by omega, show (x.toNat - 65536) % 512 / 16 = b3 by omega, show (x.toNat - 65536) % 16 = b4 by omega])
  clear HPD HZ0
  have l1 : b1 < 64 := by omega
  have l3 : b3 < 32 := by omega
  have l4 : b4 < 16 := by omega
  rw [hb1, hb3, hb4] at HD
  generalize x - 65536 = p0 at HD
  generalize p0 / 16 = p2 at HD
  clear hi hi1 hi2 hx hb1 hb3 hb4
  go_enter Tryz.func269, Tryz.ntmps269
  go_wp2_with fail
  refine HD.out.mono ?_
  rintro e w2 ⟨rfl, hb2⟩
  have HA2 := hid (HA.out.below H0.out hb2)
  clear hb2 HA HD
  obtain ⟨g, hg⟩ : ∃ g, w2.heap.size = g := ⟨_, rfl⟩
  have HA3 : Hid (ApX n0 w bs 0 [] (w2.alloc (.cells #[.int .i64 p0, .int .i64 (b1 : Int), .int .i64 p2, .int .i64 (b3 : Int), .int .i64 (b4 : Int)] 236)) (.slice none 0 0) ∧ Blk (w2.alloc (.cells #[.int .i64 p0, .int .i64 (b1 : Int), .int .i64 p2, .int .i64 (b3 : Int), .int .i64 (b4 : Int)] 236)) g 236 [.int .i64 p0, .int .i64 (b1 : Int), .int .i64 p2, .int .i64 (b3 : Int), .int .i64 (b4 : Int)]) := hid (by
    have kk := Blk.new w2 [.int .i64 p0, .int .i64 (b1 : Int), .int .i64 p2, .int .i64 (b3 : Int), .int .i64 (b4 : Int)] 236
    rw [hg] at kk
    exact ⟨HA2.out.below H0.out (nbel w2 _), kk⟩)
  go_upto_region 4 with fail
  (try simp only [hg])
  generalize hw3 : w2.alloc _ = w3 at HA3 ⊢
  clear hw3 HA2 hg
  have c1 := HA3.out.2.cell 1
  simp only [List.getElem?_cons_zero, List.getElem?_cons_succ] at c1
  have HL1 : Hid (Calls Tryz.prog 270 #[.slice none 0 0, .string { data := #[98] }, .int .i64 (b1 : Int)] w3 fun e w' => ∃ (a' : Option Addr) (m' q' : Nat), e = .returned (.slice a' m' q') ∧ Hid (ApX n0 w bs (0 + 36) ([98] ++ dgL b1) w' (.slice a' m' q') ∧ Blk w' g 236 [.int .i64 p0, .int .i64 (b1 : Int), .int .i64 p2, .int .i64 (b3 : Int), .int .i64 (b4 : Int)])) := hid (HA3.out.1.labelK H0.out HA3.out.2 (by decide) { data := #[98] } (by decide) b1 (by omega) (by have := Hl.out; omega))
  go_wp2_with fail
  refine HL1.out.mono ?_
  rintro e w4 ⟨a4, m4, q4, rfl, HA4⟩
  clear HL1 HA3 c1
  have c3 := HA4.out.2.cell 3
  simp only [List.getElem?_cons_zero, List.getElem?_cons_succ] at c3
  have HL2 : Hid (Calls Tryz.prog 270 #[.slice a4 m4 q4, .string { data := #[46, 108] }, .int .i64 (b3 : Int)] w4 fun e w' => ∃ (a' : Option Addr) (m' q' : Nat), e = .returned (.slice a' m' q') ∧ Hid (ApX n0 w bs (0 + 36 + 36) ([98] ++ dgL b1 ++ [46, 108] ++ dgL b3) w' (.slice a' m' q') ∧ Blk w' g 236 [.int .i64 p0, .int .i64 (b1 : Int), .int .i64 p2, .int .i64 (b3 : Int), .int .i64 (b4 : Int)])) := hid (HA4.out.1.labelK H0.out HA4.out.2 (by decide) { data := #[46, 108] } (by decide) b3 (by omega) (by have := Hl.out; omega))
  go_wp2_with fail
  refine HL2.out.mono ?_
  rintro e w5 ⟨a5, m5, q5, rfl, HA5⟩
  clear HL2 HA4 c3
  have c4 := HA5.out.2.cell 4
  simp only [List.getElem?_cons_zero, List.getElem?_cons_succ] at c4
  have HL3 := hid (HA5.out.1.label H0.out { data := #[46, 119] } (by decide) b4 (by omega) (by have := Hl.out; omega))
  go_wp2_with fail
  refine HL3.out.mono ?_
  rintro e w6 ⟨a6, m6, q6, rfl, HA6⟩
  clear HL3 HA5 c4
  go_wp2
  go_ret
  exact ⟨a6, m6, q6, rfl, hid (by rw [HP0.out]; exact HA6.out.mono (by decide))⟩
set_option maxRecDepth 100000 in
theorem formatAddrX (x : Int) (hx : U64 x) (w : World) : Calls Tryz.prog 244 #[.int .u64 x] w fun e w' => ∃ s : ByteArray, e = .returned (.string s) ∧ Hid (s = bsA (placeL x.toNat) ∧ Below w.heap.size w w') := by
  have HA := hid (appendAddrX (OwR.nil rtB w.heap.size w) (Nat.le_refl _) x hx (by decide))
  go_enter Tryz.func244, Tryz.ntmps244
  go_wp2_with fail
  refine HA.out.mono ?_
  rintro e w2 ⟨a2, m2, q2, rfl, H2⟩
  have hcv := H2.out.row.str
  generalize hss : (⟨([] ++ placeL x.toNat).toArray⟩ : ByteArray) = ss at hcv
  have HS : Hid (ss = bsA (placeL x.toNat)) := hid (by rw [← hss]; rfl)
  have HB := hid H2.out.bel
  clear H2 HA hss
  go_wp2
  go_ret
  exact ⟨ss, rfl, hid ⟨HS.out, HB.out⟩⟩
end
end Go.Proofs.Qxb6500887aGreat
