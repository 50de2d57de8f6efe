/- The packed tables. -/
import Derived.Test.Qxb6500887aGreatArAddr
import Derived.Test.Qxb6500887aGreatLate
import Derived.Deep.QuietTactic
import Derived.BigQuiet
import Derived.Deep.DeepCutAuto
namespace Go.Proofs.Qxb6500887aGreat
open Go.RowKit
set_option linter.unusedSimpArgs false
set_option linter.unusedVariables false

/-- A table of n entries of wd bits, per to a word. -/
structure Tab (w : World) (t b n wd per mask : Nat) (ones : Int) (ws : List Nat) : Prop where
  tb : Blk w t 216 [.slice (some ⟨b, 0, none⟩) ws.length ws.length, .int .i64 n, .int .u64 wd, .int .i64 per, .int .u64 mask, .int .u64 ones]
  wb : Blk w b 29 (ws.map fun (x : Nat) => .int .u64 (x : Int))
theorem Tab.below {w w' : World} {t b n wd per mask : Nat} {ones : Int} {ws : List Nat} (h : Tab w t b n wd per mask ones ws) (hb : Below w.heap.size w w') : Tab w' t b n wd per mask ones ws :=
  ⟨h.tb.below hb, h.wb.below hb⟩
theorem Tab.word {w : World} {t b n wd per mask : Nat} {ones : Int} {ws : List Nat} (h : Tab w t b n wd per mask ones ws) {q x : Nat} (hx : ws[q]? = some x) : w.cell? ⟨b, q, none⟩ = some (.int .u64 x) := by
  rw [h.wb.cell q]
  simp [hx]

theorem wrap64_nat {x : Int} (h0 : 0 ≤ x) (h1 : x < 9223372036854775808) : wrap64 x = x := by unfold wrap64; omega
theorem u64_nat {x : Int} (h0 : 0 ≤ x) (h1 : x < 18446744073709551616) : IntKind.u64.wrap x = x := by rw [IntKind.wrap_u64]; exact Int.emod_eq_of_lt h0 h1
theorem loc1 (i per : Nat) (hi : i < 32768) : wrap64 ((i : Int) / per) = ((i / per : Nat) : Int) := by
  have h1 : i / per ≤ i := Nat.div_le_self _ _
  have h2 : ((i : Int) / per) = ((i / per : Nat) : Int) := by simp
  rw [h2]
  generalize i / per = q at *
  exact wrap64_nat (by omega) (by omega)
theorem loc2 (i per wd : Nat) (hp : 1 ≤ per) (hp' : per ≤ 64) (hw : wd ≤ 4) : IntKind.u64.wrap (IntKind.u64.wrap ((i : Int) % per) * wd) = ((i % per * wd : Nat) : Int) := by
  have h1 : i % per < per := Nat.mod_lt _ (by omega)
  have h2 : i % per * wd ≤ 64 * 4 := Nat.mul_le_mul (by omega) hw
  have h3 : ((i : Int) % per) = ((i % per : Nat) : Int) := by simp
  rw [h3]
  generalize i % per = q at *
  rw [u64_nat (x := (q : Int)) (by omega) (by omega), show ((q : Nat) : Int) * (wd : Int) = ((q * wd : Nat) : Int) by simp]
  exact u64_nat (by omega) (by omega)
/-- The wd bits of x from s on. -/
def ent (x s mask : Nat) : Nat := (x >>> s) &&& mask
/-- x, but v in the place of its bits from s on. -/
def putE (x s mask v : Nat) : Nat := (x &&& (18446744073709551615 - mask <<< s)) ||| (v <<< s)
theorem u64_andNot_nat (a b : Nat) (ha : a < 18446744073709551616) (hb : b < 18446744073709551616) : bits .andNot .u64 (a : Int) (b : Int) = ((a &&& (18446744073709551615 - b) : Nat) : Int) := by
  have hx : a &&& (18446744073709551615 - b) ≤ a := Nat.and_le_left
  show IntKind.u64.wrap ((BitVec.ofInt 64 (a : Int) &&& ~~~ BitVec.ofInt 64 (b : Int)).toNat : Int) = _
  rw [BitVec.toNat_and, BitVec.toNat_not]
  have e1 : (BitVec.ofInt 64 (a : Int)).toNat = a := by simp [BitVec.toNat_ofInt]; omega
  have e2 : (BitVec.ofInt 64 (b : Int)).toNat = b := by simp [BitVec.toNat_ofInt]; omega
  rw [e1, e2, show 2 ^ 64 - 1 - b = 18446744073709551615 - b by omega]
  exact u64_nat (by omega) (by omega)
theorem ent_int (x s mask : Nat) (hx : x < 18446744073709551616) (hm : mask < 18446744073709551616) : bits .and .u64 ((x : Int) / 2 ^ s) (mask : Int) = ((ent x s mask : Nat) : Int) := by
  have e : ((x : Int) / 2 ^ s) = ((x / 2 ^ s : Nat) : Int) := by simp
  have h1 : x / 2 ^ s ≤ x := Nat.div_le_self _ _
  have e2 : ent x s mask = x / 2 ^ s &&& mask := by unfold ent; rw [Nat.shiftRight_eq_div_pow]
  rw [e, e2]
  generalize x / 2 ^ s = y at *
  rw [u64_and _ _ (by omega) (by omega) (by omega) (by omega)]
  simp
theorem testBit_mask (wd i : Nat) : (2 ^ wd - 1).testBit i = decide (i < wd) := Nat.testBit_two_pow_sub_one wd i
theorem testBit_not (b i : Nat) (hb : b < 2 ^ 64) : (18446744073709551615 - b).testBit i = (decide (i < 64) && !b.testBit i) := by
  have := Nat.testBit_two_pow_sub_succ hb i
  rw [← this]
  congr 1
  omega
theorem mask_shift {wd s : Nat} (hs : s + wd ≤ 64) : (2 ^ wd - 1) <<< s < 2 ^ 64 := by
  rw [Nat.shiftLeft_eq]
  have h1 : 2 ^ wd * 2 ^ s ≤ 2 ^ 64 := by rw [← Nat.pow_add]; exact Nat.pow_le_pow_right (by omega) (by omega)
  have h2 : 0 < 2 ^ s := Nat.pow_pos (by omega)
  have h3 : 0 < 2 ^ wd := Nat.pow_pos (by omega)
  rw [Nat.sub_mul]
  omega
theorem val_shift {wd s v : Nat} (hs : s + wd ≤ 64) (hv : v ≤ 2 ^ wd - 1) : v <<< s < 2 ^ 64 := by
  have := mask_shift hs
  rw [Nat.shiftLeft_eq] at this ⊢
  have h := Nat.mul_le_mul_right (2 ^ s) hv
  omega
theorem testBit_putE {wd s x v : Nat} (hs : s + wd ≤ 64) (i : Nat) :
    (putE x s (2 ^ wd - 1) v).testBit i = ((x.testBit i && (decide (i < 64) && !(decide (s ≤ i) && decide (i - s < wd)))) || (decide (s ≤ i) && v.testBit (i - s))) := by
  unfold putE
  rw [Nat.testBit_or, Nat.testBit_and, testBit_not _ _ (mask_shift hs), Nat.testBit_shiftLeft, Nat.testBit_shiftLeft, testBit_mask]
theorem putE_lt {wd s x v : Nat} (hs : s + wd ≤ 64) (hx : x < 2 ^ 64) (hv : v ≤ 2 ^ wd - 1) : putE x s (2 ^ wd - 1) v < 2 ^ 64 := by
  unfold putE
  exact Nat.or_lt_two_pow (Nat.lt_of_le_of_lt Nat.and_le_left hx) (val_shift hs hv)
theorem ent_same {wd s x v : Nat} (hs : s + wd ≤ 64) (hv : v ≤ 2 ^ wd - 1) : ent (putE x s (2 ^ wd - 1) v) s (2 ^ wd - 1) = v := by
  have hvl : v < 2 ^ wd := by have : 0 < 2 ^ wd := Nat.pow_pos (by omega); omega
  apply Nat.eq_of_testBit_eq
  intro i
  unfold ent
  rw [Nat.testBit_and, Nat.testBit_shiftRight, testBit_putE hs, testBit_mask]
  by_cases h : i < wd
  · simp [h, show s ≤ s + i by omega, show s + i - s = i by omega]
  · rw [Nat.testBit_lt_two_pow (x := v) (i := i) (Nat.lt_of_lt_of_le hvl (Nat.pow_le_pow_right (by omega) (by omega)))]
    simp [h]
theorem ent_other {wd s s' x v : Nat} (hs : s + wd ≤ 64) (hs' : s' + wd ≤ 64) (hv : v ≤ 2 ^ wd - 1) (hd : s' + wd ≤ s ∨ s + wd ≤ s') : ent (putE x s (2 ^ wd - 1) v) s' (2 ^ wd - 1) = ent x s' (2 ^ wd - 1) := by
  have hvl : v < 2 ^ wd := by have : 0 < 2 ^ wd := Nat.pow_pos (by omega); omega
  apply Nat.eq_of_testBit_eq
  intro i
  unfold ent
  rw [Nat.testBit_and, Nat.testBit_shiftRight, testBit_putE hs, testBit_mask, Nat.testBit_and, Nat.testBit_shiftRight, testBit_mask]
  by_cases h : i < wd
  · by_cases h2 : s ≤ s' + i
    · have h3 : ¬ (s' + i - s < wd) := by omega
      rw [Nat.testBit_lt_two_pow (x := v) (Nat.lt_of_lt_of_le hvl (Nat.pow_le_pow_right (by omega) (by omega : wd ≤ s' + i - s)))]
      simp [h, h2, h3, show s' + i < 64 by omega]
    · simp [h, h2, show s' + i < 64 by omega]
  · simp [h]

theorem putE_int {wd s x v mask : Nat} (hmk : mask = 2 ^ wd - 1) (hs : s + wd ≤ 64) (hx : x < 18446744073709551616) (hv : v ≤ mask) :
    bits .or .u64 (bits .andNot .u64 (x : Int) (IntKind.u64.wrap ((mask : Int) * 2 ^ s))) (IntKind.u64.wrap ((v : Int) * 2 ^ s)) = ((putE x s mask v : Nat) : Int) := by
  have h1 : mask <<< s < 2 ^ 64 := by rw [hmk]; exact mask_shift hs
  have h2 : v <<< s < 2 ^ 64 := val_shift hs (by rw [← hmk]; exact hv)
  have e1 : (mask : Int) * 2 ^ s = ((mask <<< s : Nat) : Int) := by rw [Nat.shiftLeft_eq]; simp
  have e2 : (v : Int) * 2 ^ s = ((v <<< s : Nat) : Int) := by rw [Nat.shiftLeft_eq]; simp
  rw [e1, e2]
  unfold putE
  generalize mask <<< s = M at *
  generalize v <<< s = V at *
  rw [u64_nat (x := (M : Int)) (by omega) (by omega), u64_nat (x := (V : Int)) (by omega) (by omega), u64_andNot_nat x M hx (by omega)]
  have h3 : x &&& (18446744073709551615 - M) ≤ x := Nat.and_le_left
  exact u64_or_nat _ _ (by omega) (by omega)

set_option maxRecDepth 100000 in
theorem tabHas_walk {w : World} {t b n wd per mask : Nat} {ones : Int} {ws : List Nat} (h : Tab w t b n wd per mask ones ws) (i : Nat) (hi : i < n) (hn : n ≤ 32768) :
    Calls Tryz.prog 212 #[.pointer (some ⟨t, 0, none⟩), .int .i64 i] w fun e w' => e = .returned (.bool true) ∧ Drew w w' := by
  have c1 : w.cell? ⟨t, 1, none⟩ = some (.int .i64 n) := h.tb.cell 1
  clear h
  go_enter Tryz.func212, Tryz.ntmps212
  go_wp2
  go_ret
  exact ⟨rfl, Drew.refl _⟩

set_option maxRecDepth 100000 in
theorem tabLocate_walk {w : World} {t b n wd per mask : Nat} {ones : Int} {ws : List Nat} (h : Tab w t b n wd per mask ones ws) (i : Nat) (hi : i < n) (hn : n ≤ 32768) (hp : 1 ≤ per) (hp' : per ≤ 64) (hw : wd ≤ 4) (hpw : per * wd = 64) :
    Calls Tryz.prog 213 #[.pointer (some ⟨t, 0, none⟩), .int .i64 i] w fun e w' => e = .returned (.tuple #[.int .i64 ((i / per : Nat) : Int), .int .u64 ((i % per * wd : Nat) : Int)]) ∧ Drew w w' := by
  have c2 : w.cell? ⟨t, 2, none⟩ = some (.int .u64 wd) := h.tb.cell 2
  have c3 : w.cell? ⟨t, 3, none⟩ = some (.int .i64 per) := h.tb.cell 3
  clear h
  go_enter Tryz.func213, Tryz.ntmps213
  go_wp2_with fail
  go_quiet (fail)
  go_wp2
  rw [loc1 i per (by omega), loc2 i per wd hp hp' hw]
  exact bodyPost_ret (v := .tuple #[.int .i64 ((i / per : Nat) : Int), .int .u64 ((i % per * wd : Nat) : Int)]) (by simp [results, Tryz.results213, go_sem]) rfl ⟨rfl, ⟨nq, rfl⟩⟩

set_option maxRecDepth 100000 in
theorem tabGet_walk {w : World} {t b n wd per mask : Nat} {ones : Int} {ws : List Nat} (h : Tab w t b n wd per mask ones ws) (i : Nat) (hi : i < n) (hn : n ≤ 32768) (hp : 1 ≤ per) (hp' : per ≤ 64) (hw : wd ≤ 4) (hpw : per * wd = 64) (x : Nat) (hx : ws[i / per]? = some x) (hl : ws.length ≤ 65536) (hx64 : x < 18446744073709551616) (hm64 : mask < 18446744073709551616) :
    Calls Tryz.prog 153 #[.pointer (some ⟨t, 0, none⟩), .int .i64 i] w fun e w' => e = .returned (.tuple #[.int .u64 ((ent x (i % per * wd) mask : Nat) : Int), .bool true]) ∧ Drew w w' := by
  have H1 := hid (fun w h => tabHas_walk (w := w) (t := t) (b := b) (n := n) (wd := wd) (per := per) (mask := mask) (ones := ones) (ws := ws) h i hi hn)
  have H2 := hid (fun w h => tabLocate_walk (w := w) (t := t) (b := b) (n := n) (wd := wd) (per := per) (mask := mask) (ones := ones) (ws := ws) h i hi hn hp hp' hw hpw)
  have hlt : i / per < ws.length := (List.getElem?_eq_some_iff.1 hx).1
  have hs : i % per * wd < 64 := by
    have h1 : i % per < per := Nat.mod_lt _ (by omega)
    have h2 : (i % per + 1) * wd ≤ per * wd := Nat.mul_le_mul_right _ h1
    have h3 : 1 ≤ wd := by
      rcases Nat.eq_zero_or_pos wd with e | e
      · rw [e] at hpw; omega
      · exact e
    rw [Nat.add_mul] at h2
    omega
  generalize i / per = q at *
  generalize i % per * wd = s at *
  have HT := hid h
  have HX := hid hx
  clear h hx hi hn hp hp' hw hpw
  go_enter Tryz.func153, Tryz.ntmps153
  go_wp2_with fail
  refine (H1.out _ HT.out).mono ?_
  rintro e w1 ⟨rfl, hd1⟩
  have HT1 := hid (HT.out.below (hd1.below _))
  go_wp2_with fail
  refine (H2.out _ HT1.out).mono ?_
  rintro e w2 ⟨rfl, hd2⟩
  have HT2 := hid (HT1.out.below (hd2.below _))
  have HD := hid (hd1.trans hd2)
  clear hd1 hd2 H1 H2
  have c0 : w2.cell? ⟨t, 0, none⟩ = some (.slice (some ⟨b, 0, none⟩) ws.length ws.length) := HT2.out.tb.cell 0
  have c4 : w2.cell? ⟨t, 4, none⟩ = some (.int .u64 mask) := HT2.out.tb.cell 4
  have cw : w2.cell? ⟨b, q, none⟩ = some (.int .u64 x) := HT2.out.word HX.out
  go_wp2_with fail
  go_quiet (fail)
  go_wp2
  rw [ent_int x s mask hx64 hm64]
  exact bodyPost_ret (v := .tuple #[.int .u64 ((ent x s mask : Nat) : Int), .bool true]) (by simp [results, Tryz.results153, go_sem]) rfl ⟨rfl, HD.out.next nq⟩

theorem Tab.upd {w w' : World} {t b n wd per mask : Nat} {ones : Int} {ws : List Nat} {g : Nat} (h : Tab w t b n wd per mask ones ws) (hu : Upd g w w') (ht : t ≠ g) (hb : b ≠ g) : Tab w' t b n wd per mask ones ws :=
  ⟨h.tb.upd hu ht, h.wb.upd hu hb⟩
theorem Tab.put {w : World} {t b n wd per mask : Nat} {ones : Int} {ws : List Nat} (h : Tab w t b n wd per mask ones ws) (htb : t ≠ b) (q y : Nat) : Tab (w.setCell ⟨b, q, none⟩ (.int .u64 y)) t b n wd per mask ones (ws.set q y) := by
  refine ⟨?_, ?_⟩
  · have := h.tb.setOther (p := ⟨b, q, none⟩) (fun e => htb e.symm) (.int .u64 y)
    simpa using this
  · have := h.wb.set q (.int .u64 y)
    rw [List.map_set]
    exact this

set_option maxRecDepth 100000 in
set_option maxHeartbeats 1000000 in
theorem tabSwap_walk {w : World} {t b n wd per mask : Nat} {ones : Int} {ws : List Nat} (h : Tab w t b n wd per mask ones ws) (htb : t ≠ b) (i v : Nat) (hv : v ≤ mask) (hi : i < n) (hn : n ≤ 32768) (hp : 1 ≤ per) (hp' : per ≤ 64) (hw : wd ≤ 4) (hpw : per * wd = 64) (hmk : mask = 2 ^ wd - 1)
    (x : Nat) (hx : ws[i / per]? = some x) (hl : ws.length ≤ 65536) (hx64 : x < 18446744073709551616) (hm64 : mask < 18446744073709551616) :
    Calls Tryz.prog 174 #[.pointer (some ⟨t, 0, none⟩), .int .i64 i, .int .u64 v] w fun e w' => e = .returned (.tuple #[.int .u64 ((ent x (i % per * wd) mask : Nat) : Int), .bool true]) ∧ Upd b w w' ∧ Tab w' t b n wd per mask ones (ws.set (i / per) (putE x (i % per * wd) mask v)) := by
  have H1 := hid (fun w h => tabHas_walk (w := w) (t := t) (b := b) (n := n) (wd := wd) (per := per) (mask := mask) (ones := ones) (ws := ws) h i hi hn)
  have H2 := hid (fun w h => tabLocate_walk (w := w) (t := t) (b := b) (n := n) (wd := wd) (per := per) (mask := mask) (ones := ones) (ws := ws) h i hi hn hp hp' hw hpw)
  have hlt : i / per < ws.length := (List.getElem?_eq_some_iff.1 hx).1
  have hs : i % per * wd < 64 ∧ i % per * wd + wd ≤ 64 := by
    have h1 : i % per < per := Nat.mod_lt _ (by omega)
    have h2 : (i % per + 1) * wd ≤ per * wd := Nat.mul_le_mul_right _ h1
    have h3 : 1 ≤ wd := by
      rcases Nat.eq_zero_or_pos wd with e | e
      · rw [e] at hpw; omega
      · exact e
    rw [Nat.add_mul] at h2
    omega
  generalize i / per = q at *
  generalize i % per * wd = s at *
  have HT := hid h
  have HX := hid hx
  obtain ⟨hs, hsw⟩ := hs
  have Hsw := hid hsw
  have Hmk := hid hmk
  have dv : decide (mask < v) = false := decide_eq_false (by omega)
  clear h hx hi hn hp hp' hw hpw hmk hsw
  go_enter Tryz.func174, Tryz.ntmps174
  go_wp2_with fail
  refine (H1.out _ HT.out).mono ?_
  rintro e w1 ⟨rfl, hd1⟩
  have HT1 := hid (HT.out.below (hd1.below _))
  have c4 : w1.cell? ⟨t, 4, none⟩ = some (.int .u64 mask) := HT1.out.tb.cell 4
  go_wp2_with fail
  clear c4
  refine (H2.out _ HT1.out).mono ?_
  rintro e w2 ⟨rfl, hd2⟩
  have HT2 := hid (HT1.out.below (hd2.below _))
  have HD := hid (hd1.trans hd2)
  clear hd1 hd2 H1 H2
  have c0 : w2.cell? ⟨t, 0, none⟩ = some (.slice (some ⟨b, 0, none⟩) ws.length ws.length) := HT2.out.tb.cell 0
  have c4 : w2.cell? ⟨t, 4, none⟩ = some (.int .u64 mask) := HT2.out.tb.cell 4
  have cw : w2.cell? ⟨b, q, none⟩ = some (.int .u64 x) := HT2.out.word HX.out
  go_wp2_with fail
  go_quiet (fail)
  go_upto_region 5 with fail
  obtain ⟨X, W, hT, hI⟩ := class_mk (fun w' => Drew w w' ∧ Tab w' t b n wd per mask ones ws)
  have HC : Hid (∀ q w', Below (W q).heap.size (W q) w' → True) := hid (fun _ _ _ => trivial)
  have H0 : Hid (∃ q, (w2.drewN nq).drew = W q) := hid (hI _ ⟨(HD.out.next nq).trans ⟨1, rfl⟩, (HT2.out.below (Drew.below ⟨nq, rfl⟩ _)).below (Drew.below ⟨1, rfl⟩ _)⟩)
  have hne : Nonempty X := ⟨H0.out.choose⟩
  clear c0 c4 cw
  have c0 : ∀ x, (W x).cell? ⟨t, 0, none⟩ = some (.slice (some ⟨b, 0, none⟩) ws.length ws.length) := fun x => (hT x).2.tb.cell 0
  have c4 : ∀ x, (W x).cell? ⟨t, 4, none⟩ = some (.int .u64 mask) := fun x => (hT x).2.tb.cell 4
  have cw : ∀ y, (W y).cell? ⟨b, q, none⟩ = some (.int .u64 x) := fun y => (hT y).2.word HX.out
  have HTT := hid hT
  clear hT hI
  refine wp_region_class_last W rfl (by kernel_rfl) (by kernel_rfl) (by kernel_rfl) H0.out ?_
  dsimp only [List.dropLast, List.getLast]
  repeat (go_big_quiet_step (fail))
  refine wpQuiet_nil ?_
  intro z
  have HZ := hid (HTT.out z)
  have fz : (W z).frozen? ⟨b, q, none⟩ = false := HZ.out.2.wb.frozen q
  have cz := cw z
  generalize W z = wz at HZ fz cz ⊢
  clear c0 c4 cw
  go_wp2
  rw [ent_int x s mask hx64 hm64, putE_int Hmk.out Hsw.out hx64 hv]
  exact bodyPost_ret (v := .tuple #[.int .u64 ((ent x s mask : Nat) : Int), .bool true]) (by simp [results, Tryz.results174, go_sem]) rfl ⟨rfl, ((Upd.refl b w).drew HZ.out.1).setCell rfl _, HZ.out.2.put htb q _⟩

set_option maxRecDepth 100000 in
theorem tabSet_walk {w : World} {t b n wd per mask : Nat} {ones : Int} {ws : List Nat} (h : Tab w t b n wd per mask ones ws) (htb : t ≠ b) (i v : Nat) (hv : v ≤ mask) (hi : i < n) (hn : n ≤ 32768) (hp : 1 ≤ per) (hp' : per ≤ 64) (hw : wd ≤ 4) (hpw : per * wd = 64) (hmk : mask = 2 ^ wd - 1)
    (x : Nat) (hx : ws[i / per]? = some x) (hl : ws.length ≤ 65536) (hx64 : x < 18446744073709551616) (hm64 : mask < 18446744073709551616) :
    Calls Tryz.prog 172 #[.pointer (some ⟨t, 0, none⟩), .int .i64 i, .int .u64 v] w fun e w' => e = .returned (.bool true) ∧ Upd b w w' ∧ Tab w' t b n wd per mask ones (ws.set (i / per) (putE x (i % per * wd) mask v)) := by
  have H1 := hid (fun w h => tabSwap_walk (w := w) (t := t) (b := b) (n := n) (wd := wd) (per := per) (mask := mask) (ones := ones) (ws := ws) h htb i v hv hi hn hp hp' hw hpw hmk x hx hl hx64 hm64)
  have HT := hid h
  generalize putE x (i % per * wd) mask v = y at *
  generalize ent x (i % per * wd) mask = z at *
  clear h hx hi hn hp hp' hw hpw hmk
  go_enter Tryz.func172, Tryz.ntmps172
  go_wp2_with fail
  refine (H1.out _ HT.out).mono ?_
  rintro e w1 ⟨rfl, hu1, ht1⟩
  go_wp2
  go_ret
  exact ⟨rfl, hu1, ht1⟩
end Go.Proofs.Qxb6500887aGreat
