/- Excerpt (written by tools/mk_sb.py). -/
import Derived.Test.Qxb6500883aGreatDoorScSa
namespace Go.Proofs.Qxb6500883aGreatDoor
open Go.RowKit
set_option linter.unusedSimpArgs false
set_option linter.unusedVariables false
def shw8 (b : UInt8) : UInt8 := UInt8.ofNat (shwN b.toNat)
theorem shwN_lt (c : Nat) (h : c < 256) : shwN c < 256 ∧ shwN c ≠ 10 := by
  unfold shwN
  split
  · decide
  · split <;> omega
theorem shw8_nat (b : UInt8) : (shw8 b).toNat = shwN b.toNat := by
  unfold shw8
  rw [UInt8.toNat_ofNat']
  have := (shwN_lt b.toNat b.toNat_lt).1
  omega
/-- An excerpt: its first row, and where the caret stands. -/
structure ExP (bs : List UInt8) (n pos : Nat) (r0 : List UInt8) (at_ : Nat) : Prop where
  ne : ∀ x ∈ r0, x ≠ 10
  le : at_ ≤ r0.length
  sm : r0.length ≤ 200
  en : (pos = n ∨ cN bs pos = 10) ↔ at_ = r0.length
  ch : pos < n → 32 < cN bs pos → cN bs pos < 127 → ∃ x, r0[at_]? = some x ∧ x.toNat = cN bs pos
theorem ExP.mk' {bs : List UInt8} {n pos st en : Nat} {pre suf : List UInt8} (hl : bs.length = n) (h1 : st ≤ pos) (h2 : pos ≤ en) (h3 : en ≤ n) (h4 : pos - st ≤ 60) (h5 : en - pos ≤ 20) (hp : pre = [] ∨ pre = [46, 46, 46]) (hs : (suf = [] ∧ (en = n ∨ cN bs en = 10) ∧ ∀ j, pos ≤ j → j < en → cN bs j ≠ 10) ∨ (suf = [46, 46, 46] ∧ pos < en ∧ ∀ j, pos ≤ j → j < en → cN bs j ≠ 10)) : ExP bs n pos (pre ++ ((bs.drop st).take (en - st)).map shw8 ++ suf) (pre.length + (pos - st)) := by
  have hm : (((bs.drop st).take (en - st)).map shw8).length = en - st := by rw [List.length_map, List.length_take, List.length_drop]; omega
  have hpl : pre.length ≤ 3 := by rcases hp with rfl | rfl <;> decide
  have hsl : suf.length ≤ 3 := by rcases hs with ⟨rfl, _⟩ | ⟨rfl, _⟩ <;> decide
  refine ⟨fun x hx => ?_, ?_, ?_, ?_, fun hpn hc1 hc2 => ?_⟩
  · rcases List.mem_append.1 hx with hx | hx
    · rcases List.mem_append.1 hx with hx | hx
      · rcases hp with rfl | rfl
        · cases hx
        · simp at hx; rw [hx]; decide
      · obtain ⟨b, _, rfl⟩ := List.mem_map.1 hx
        intro e
        have := congrArg UInt8.toNat e
        rw [shw8_nat] at this
        exact (shwN_lt b.toNat b.toNat_lt).2 this
    · rcases hs with ⟨rfl, _⟩ | ⟨rfl, _⟩
      · cases hx
      · simp at hx; rw [hx]; decide
  · rw [List.length_append, List.length_append, hm]; omega
  · rw [List.length_append, List.length_append, hm]; omega
  · rw [List.length_append, List.length_append, hm]
    rcases hs with ⟨rfl, h6, h7⟩ | ⟨rfl, h6, h7⟩
    · rw [List.length_nil]
      constructor
      · intro h
        have : en = pos := by
          rcases Nat.lt_or_ge pos en with h8 | h8
          · rcases h with h | h
            · omega
            · exact absurd h (h7 pos (Nat.le_refl _) h8)
          · omega
        omega
      · intro h
        have : en = pos := by omega
        subst this
        exact h6
    · constructor
      · intro h
        rcases h with h | h
        · omega
        · exact absurd h (h7 pos (Nat.le_refl _) h6)
      · intro h
        simp at h
        omega
  · have hpe : pos < en := by
      rcases hs with ⟨_, h6, h7⟩ | ⟨_, h6, _⟩
      · rcases Nat.lt_or_ge pos en with h8 | h8
        · exact h8
        · have : en = pos := by omega
          subst this
          rcases h6 with h6 | h6
          · omega
          · omega
      · exact h6
    have hlt : pos < bs.length := by omega
    refine ⟨shw8 bs[pos], ?_, ?_⟩
    · rw [List.append_assoc, List.getElem?_append_right (by omega), List.getElem?_append_left (by rw [hm]; omega), List.getElem?_map, List.getElem?_take, if_pos (by omega), List.getElem?_drop]
      have e : st + (pre.length + (pos - st) - pre.length) = pos := by omega
      rw [e, List.getElem?_eq_getElem hlt]
      rfl
    · rw [shw8_nat]
      have e : cN bs pos = bs[pos].toNat := by unfold cN; rw [List.getD_eq_getElem?_getD, List.getElem?_eq_getElem hlt]; rfl
      rw [e] at hc1 hc2 ⊢
      unfold shwN
      rw [if_neg (by omega), if_neg (by omega)]
section
variable {w w' wr : World} {n0 : Nat} {v v' v8 v9 : Value} {bs l8 l9 : List UInt8}
/-- What may stand ahead. -/
structure PreP (pre : List UInt8) : Prop where
  h : pre = [] ∨ pre = [46, 46, 46]
/-- The two rows of an excerpt under way. -/
structure Ex2 (n0 : Nat) (w : World) (l8 l9 : List UInt8) (v8 v9 : Value) (wr : World) : Prop where
  r8 : OwR rtB n0 wr v8 l8
  r9 : OwR rtB n0 wr v9 l9
  ne : ∀ g, v8.ownBlock = some g → v9.ownBlock ≠ some g
  bel : Below n0 w wr
theorem Ex2.app8 {l : List UInt8} {v8' : Value} (h : Ex2 n0 w l8 l9 v8 v9 wr) (h0 : n0 ≤ w.heap.size) (ha : ApE n0 wr v8 l w' v8') : Ex2 n0 w l l9 v8' v9 w' := by
  obtain ⟨h1, h2⟩ := ha.other h.r9 h.ne
  exact ⟨ha.row, h1, h2, h.bel.trans (ha.kp.below h.r8.hi (Nat.le_trans h0 h.bel.size))⟩
theorem Ex2.app9 {l : List UInt8} {v9' : Value} (h : Ex2 n0 w l8 l9 v8 v9 wr) (h0 : n0 ≤ w.heap.size) (ha : ApE n0 wr v9 l w' v9') : Ex2 n0 w l8 l v8 v9' w' := by
  obtain ⟨h1, h2⟩ := ha.other h.r8 (fun g hg e => h.ne g e hg)
  exact ⟨h1, ha.row, fun g hg e => h2 g e hg, h.bel.trans (ha.kp.below h.r9.hi (Nat.le_trans h0 h.bel.size))⟩
theorem Ex2.below (h : Ex2 n0 w l8 l9 v8 v9 wr) (h0 : n0 ≤ w.heap.size) (hb : Below wr.heap.size wr w') : Ex2 n0 w l8 l9 v8 v9 w' := ⟨h.r8.below hb, h.r9.below hb, h.ne, h.bel.trans (hb.mono (Nat.le_trans h0 h.bel.size))⟩
/-- A built row of bytes appended, exactly. -/
theorem wpList_app_nx {ops : Array Oper} {rest : List Oper} {o : Oper} {a : Act} {Q : Exit → Act → World → Prop} (hgd : o.guard = none) (sl x : Operand) (ys : List UInt8) (hA : OwR rtB n0 w v bs)
    (ho : o.op = .call { callee := .builtin .append, args := #[sl, x], argTypes := #[28, 28] })
    (hs : a.eval sl = v) (cs : Array Value) (hcs : cs = (ys.map byV).toArray) (n : Nat) (hx : a.eval x = .slice (some ⟨w.heap.size, 0, none⟩) n n) (hn : ys.length = n) (hb : bs.length + n ≤ 140000000000000) (h0 : n0 ≤ w.heap.size)
    (h : ∀ v' w', Hid (ApE n0 w v (bs ++ ys) w' v') → wpList Tryz.prog ops Q rest (a.put o.dst v') w') : wpList Tryz.prog ops Q (o :: rest) a (w.alloc (.cells cs 5)) := by
  subst hcs
  have k := Blk.new w (ys.map byV) 5
  have hb1 := nbel w (.cells (ys.map byV).toArray 5)
  refine wpList_app_l okB hgd sl x (hA.below hb1) ho ys hs (some ⟨w.heap.size, 0, none⟩) n n hx hn (fun e => by cases e) (fun ad had j u hu => ?_) (by show (bs.length + n) * 1 ≤ _; omega) (Nat.le_trans h0 hb1.size) ?_
  · cases had
    rw [rtB_flat] at hu
    rw [add_lit, Nat.zero_add, k.cell]
    exact hu
  · intro v' w' hr hk hat
    refine h v' w' (hid ⟨hr.out, ⟨hk.out.os.trans hb1.os, hk.out.tape.trans hb1.tape, hk.out.output.trans hb1.output, Nat.le_trans hb1.size hk.out.size, fun q hq hne => ?_⟩, fun g hg => ?_⟩)
    · rw [hk.out.blk q (Nat.lt_of_lt_of_le hq hb1.size) hne, hb1.block q hq]
    · rcases hat g hg with h1 | h1
      · exact .inl h1
      · exact .inr (Nat.le_trans hb1.size h1)
theorem slice_lh {a : Option Addr} {n c : Nat} (hs : Src w a n c bs) {lo hi : Nat} (h1 : lo ≤ hi) (h2 : hi ≤ n) : ∃ ax cc, (∀ wz : World, (Instr.sliceAt 28 (.slice a n c) (some (.int .i64 (lo : Int))) (some (.int .i64 (hi : Int))) none).run Tryz.prog wz = .ok (.slice ax (hi - lo) cc) wz) ∧ ∀ i, i < hi - lo → ∃ b off, ax = some ⟨b, off, none⟩ ∧ b < w.heap.size ∧ w.cell? ⟨b, off + i, none⟩ = some (.int .u8 (cN bs (lo + i) : Int)) := by
  obtain ⟨hcap, _, _⟩ := hs.cap
  refine ⟨if c = lo then a else a.map (·.add lo), c - lo, fun wz => ?_, fun i hi' => ?_⟩
  · have e1 : (lo : Int) ≤ (hi : Int) := by omega
    have e2 : (hi : Int) ≤ (c : Int) := by omega
    have e3 : ¬ (c < hi) := by omega
    have e4 : ¬ (hi < lo) := by omega
    simp [Instr.sliceAt, go_sem, Instr.sliceBounds, e1, e2, e3, e4]
  · obtain ⟨b, off, rfl, hb, hc⟩ := hs.cell (show lo + i < n by omega)
    refine ⟨b, off + lo, by rw [if_neg (by omega)]; simp [add_lit], hb, ?_⟩
    rw [Nat.add_assoc]
    exact hc

set_option maxRecDepth 100000 in
set_option maxHeartbeats 16000000 in
theorem excerptW {q k pos : Nat} {a : Option Addr} {n c : Nat} (hs : Src w a n c bs) (hE : ErM w q bs k pos) (hp : pos ≤ n) : Calls Tryz.prog 17 #[.pointer (some ⟨q, 0, none⟩), .slice a n c] w fun e w' => ∃ (s : ByteArray) (r0 : List UInt8) (at_ : Nat), e = .returned (.string s) ∧ Hid (s.data.toList = r0 ++ [10] ++ List.replicate at_ 32 ++ [94, 10] ∧ ExP bs n pos r0 at_ ∧ Below w.heap.size w w') := by
  obtain ⟨m, _, _, hB⟩ := hE.e
  have cP : w.cell? ⟨q, 1, none⟩ = some (.int .i64 (pos : Int)) := hB.cell 1
  have hle := hs.le
  have hln := hs.len
  have Hln := hid hln
  have HS := hid hs
  have HN : Hid (Ex2 w.heap.size w [] [] (.slice none 0 0) (.slice none 0 0) w) := hid ⟨OwR.nil _ _ _, OwR.nil _ _ _, fun g hg => (by cases hg), Below.refl _ _⟩
  clear hE hB hs hln
  go_enter Tryz.func17, Tryz.ntmps17
  go_upto_region 3 with fail
  go_loopw [6] (fun t wr => w = wr ∧ ∃ i : Nat, t = .int .i64 (i : Int) ∧ i ≤ pos) (fun t _ => (intOf t).toNat)
  case atStart => exact ⟨rfl, pos, rfl, Nat.le_refl _⟩
  case round =>
  obtain ⟨rfl, i, rfl, hi⟩ := hrel
  obtain ⟨b1, hb1⟩ : ∃ b : Bool, b = true → 0 < i := ⟨false, fun h => by cases h⟩
  clear b1 hb1
  obtain ⟨b1, hb1⟩ : ∃ b : Bool, (decide (0 < i) && decide (cN bs (i - 1) ≠ 10)) = b := ⟨_, rfl⟩
  go_upto_region 3 with fail
  go_cut [32] from 23 to 34 (fun v wc => v = .bool b1 ∧ w = wc)
  case first =>
    by_cases hi0 : i = 0
    · obtain rfl : b1 = false := by rw [← hb1, hi0]; rfl
      subst hi0
      clear hb1
      go_wp2
      go_meet
      exact ⟨rfl, rfl⟩
    · obtain ⟨j, rfl⟩ : ∃ j, i = j + 1 := ⟨i - 1, by omega⟩
      have ej : ((j + 1 : Nat) : Int) - 1 = (j : Int) := by omega
      have d1 : decide ((0 : Int) < ((j + 1 : Nat) : Int)) = true := decide_eq_true (by omega)
      obtain ⟨b, off, rfl, hbl, hc⟩ := HS.out.cell (show j < n by omega)
      have hx : ((cN bs j : Int) != 10) = b1 := by
        rw [← hb1, Nat.add_sub_cancel, decide_eq_true (Nat.succ_pos j), Bool.true_and]
        exact Bool.eq_iff_iff.2 (by simp; omega)
      clear hb1
      generalize cN bs j = x at hc hx
      have ij : (j : Int) < (n : Int) := by omega
      go_wp2
      go_meet
      exact ⟨rfl, rfl⟩
  case rest =>
  obtain ⟨rfl, rfl⟩ := hcut
  cases b1 with
  | true =>
    have hi1 : 0 < i := by
      rw [Bool.and_eq_true] at hb1
      exact of_decide_eq_true hb1.1
    clear hb1
    obtain ⟨j, rfl⟩ : ∃ j, i = j + 1 := ⟨i - 1, by omega⟩
    go_wp2
    go_roundw
    case rel => exact ⟨trivial, j, by go_num, by omega⟩
    case measure => simp [intOf]
  | false =>
  clear hb1
  have Hst := hid hi
  go_upto_region 5 with fail
  go_loopw [7] (fun t wr => w = wr ∧ ∃ e : Nat, t = .int .i64 (e : Int) ∧ pos ≤ e ∧ e ≤ n ∧ Hid (∀ j, pos ≤ j → j < e → cN bs j ≠ 10)) (fun t _ => n - (intOf t).toNat)
  case atStart => exact ⟨rfl, pos, rfl, Nat.le_refl _, hp, hid (fun j h1 h2 => absurd h2 (by omega))⟩
  case round =>
  obtain ⟨rfl, e, rfl, he1, he2, HE⟩ := hrel
  obtain ⟨b2, hb2⟩ : ∃ b : Bool, (decide (e < n) && decide (cN bs e ≠ 10)) = b := ⟨_, rfl⟩
  go_upto_region 5 with fail
  go_cut [45] from 35 to 47 (fun v wc => v = .bool b2 ∧ w = wc)
  case first =>
    by_cases hen : e < n
    · have d1 : decide ((e : Int) < (n : Int)) = true := decide_eq_true (by omega)
      obtain ⟨b, off, rfl, hbl, hc⟩ := HS.out.cell hen
      have hx : ((cN bs e : Int) != 10) = b2 := by
        rw [← hb2, decide_eq_true hen, Bool.true_and]
        exact Bool.eq_iff_iff.2 (by simp; omega)
      clear hb2
      generalize cN bs e = x at hc hx
      have ij : (e : Int) < (n : Int) := by omega
      go_wp2
      go_meet
      exact ⟨rfl, rfl⟩
    · have d1 : decide ((e : Int) < (n : Int)) = false := decide_eq_false (by omega)
      obtain rfl : b2 = false := by rw [← hb2, decide_eq_false hen]; rfl
      clear hb2
      go_wp2
      go_meet
      exact ⟨rfl, rfl⟩
  case rest =>
  obtain ⟨rfl, rfl⟩ := hcut
  cases b2 with
  | true =>
    rw [Bool.and_eq_true] at hb2
    have hen : e < n := of_decide_eq_true hb2.1
    have hx : cN bs e ≠ 10 := of_decide_eq_true hb2.2
    clear hb2
    have HE2 : Hid (∀ j, pos ≤ j → j < e + 1 → cN bs j ≠ 10) := hid (fun j h1 h2 => by
      by_cases h : j = e
      · subst h; exact hx
      · exact HE.out j h1 (by omega))
    clear hx HE
    go_wp2
    go_roundw
    case rel => exact ⟨trivial, e + 1, by go_num, by omega, by omega, HE2⟩
    case measure => simp [intOf]; omega
  | false =>
  have HX : Hid (e = n ∨ cN bs e = 10) := hid (by
    rw [Bool.and_eq_false_iff] at hb2
    rcases hb2 with h | h
    · have := of_decide_eq_false h; left; omega
    · have := of_decide_eq_false h; right; simpa using this)
  clear hb2
  go_upto_if 51 with fail
  go_cut [6, 8, 9] from 48 to 57 (fun t v8 v9 wc => ∃ (st : Nat) (pre : List UInt8) (b8 b9 : Value), t = .int .i64 (st : Int) ∧ v8 = b8 ∧ v9 = b9 ∧ st ≤ pos ∧ pos - st ≤ 60 ∧ Hid (PreP pre ∧ Ex2 w.heap.size w pre (List.replicate pre.length 32) b8 b9 wc))
  case first =>
    by_cases hbig : 60 < pos - i
    · have d1 : decide ((60 : Int) < (pos : Int) - (i : Int)) = true := decide_eq_true (by omega)
      have d2 : (60 : Int) < (pos : Int) - (i : Int) := by omega
      have e60 : (pos : Int) - 60 = ((pos - 60 : Nat) : Int) := by omega
      go_wp2_with (at_builtin; refine stopHere ?_)
      intro _
      refine wpList_app_sx rfl _ _ HN.out.r8 rfl rfl _ rfl (by decide) (by decide) (Nat.le_refl _) ?_
      intro v8 w2 HR8 HK8 hat8
      have H2 := hid (HN.out.app8 (Nat.le_refl _) ⟨HR8.out, HK8.out, hat8⟩)
      clear HR8 HK8 hat8
      go_wp2_with (at_builtin; refine stopHere ?_)
      refine (appendSpacesW 3 (by decide) H2.out.r9 H2.out.bel.size (by decide)).mono ?_
      rintro ee w3 ⟨v9, rfl, HA⟩
      have H3 : Hid (PreP [46, 46, 46] ∧ Ex2 w.heap.size w [46, 46, 46] (List.replicate ([46, 46, 46] : List UInt8).length 32) v8 v9 w3) := hid ⟨⟨.inr rfl⟩, H2.out.app9 (Nat.le_refl _) HA.out⟩
      clear H2 HA
      go_wp2
      go_meet
      exact ⟨pos - 60, [46, 46, 46], _, _, by go_num, rfl, rfl, by omega, by omega, H3⟩
    · have d1 : decide ((60 : Int) < (pos : Int) - (i : Int)) = false := decide_eq_false (by omega)
      have d2 : ¬ (60 : Int) < (pos : Int) - (i : Int) := by omega
      have H3 : Hid (PreP [] ∧ Ex2 w.heap.size w [] (List.replicate ([] : List UInt8).length 32) (.slice none 0 0) (.slice none 0 0) w) := hid ⟨⟨.inl rfl⟩, HN.out⟩
      go_wp2
      go_meet
      exact ⟨i, [], _, _, rfl, rfl, rfl, hi, by omega, H3⟩
  case rest =>
  obtain ⟨st, pre, b8, b9, rfl, rfl, rfl, hst, hst60, HP⟩ := hcut
  clear HN hi Hst
  obtain ⟨ct, hct⟩ : ∃ b : Bool, decide ((20 : Int) < (e : Int) - (pos : Int)) = b := ⟨_, rfl⟩
  have Hct := hid hct
  go_upto_if 62 with fail
  (try simp only [hct])
  clear hct
  go_cut [7] from 62 to 64 (fun t wd => ∃ en : Nat, t = .int .i64 (en : Int) ∧ pos ≤ en ∧ en ≤ n ∧ Hid (en - pos ≤ 20 ∧ en ≤ e ∧ (ct = false → en = e) ∧ (ct = true → pos < en)) ∧ wc = wd)
  case first =>
    cases ct with
    | true =>
      have h20 := of_decide_eq_true Hct.out
      obtain ⟨p20, e20, h20b⟩ : ∃ p : Nat, (pos : Int) + 20 = (p : Int) ∧ p = pos + 20 := ⟨pos + 20, by omega, rfl⟩
      have H20 := hid h20b
      clear h20b
      go_wp2
      go_meet
      have h20b := H20.out
      exact ⟨p20, rfl, by omega, by omega, hid ⟨by omega, by omega, fun h => (by cases h), fun _ => by omega⟩, rfl⟩
    | false =>
      have h20 := of_decide_eq_false Hct.out
      go_wp2
      go_meet
      exact ⟨e, rfl, he1, he2, hid ⟨by omega, Nat.le_refl _, fun _ => rfl, fun h => (by cases h)⟩, rfl⟩
  case rest =>
  obtain ⟨en, rfl, hen1, hen2, HEn, rfl⟩ := hcut
  obtain ⟨axx, cc, hsl, hcl⟩ := slice_lh HS.out (show st ≤ en by omega) hen2
  have Hcl := hid hcl
  have hnn : ((en - st : Nat) : Int) ≤ (n : Int) := by omega
  obtain ⟨ln, hlnn⟩ : ∃ x, en - st = x := ⟨_, rfl⟩
  rw [hlnn] at hsl
  have Hlnn := hid hlnn
  clear hcl hlnn hnn
  have HI0 : Hid (Ex2 w.heap.size w (pre ++ ((bs.drop st).take 0).map shw8) (List.replicate pre.length 32) u8 u9 wc) := hid (by simpa using HP.out.2)
  have HPre := hid HP.out.1
  have hl80 : ln ≤ 80 := by have := HEn.out.1; have := Hlnn.out; omega
  clear HP
  go_upto_region 16 with fail
  clear hsl
  go_loopw [8, 70] (fun s t wr => ∃ (i : Nat) (b : Value), s = b ∧ t = .int .i64 (i : Int) ∧ i ≤ ln ∧ Hid (Ex2 w.heap.size w (pre ++ ((bs.drop st).take i).map shw8) (List.replicate pre.length 32) b u9 wr)) (fun _ t _ => ln - (intOf t).toNat)
  case atStart => exact ⟨0, _, rfl, rfl, Nat.zero_le _, HI0⟩
  case round =>
  obtain ⟨i, b, rfl, rfl, hi, HL⟩ := hrel
  clear HI0
  have hpl : pre.length ≤ 3 := by rcases HPre.out.h with rfl | rfl <;> decide
  by_cases hin : i < ln
  · have d1 : decide ((i : Int) < (ln : Int)) = true := decide_eq_true (by omega)
    have i1 : (i : Int) < (ln : Int) := by omega
    obtain ⟨bb, oo, rfl, hbl, hc⟩ := Hcl.out i (by rw [Hlnn.out]; exact hin)
    have hlt : st + i < bs.length := by rw [Hln.out]; have := Hlnn.out; omega
    have hc2 : wr.cell? ⟨bb, oo + i, none⟩ = some (.int .u8 (cN bs (st + i) : Int)) := (keepCell _ (HL.out.bel.block bb hbl)).trans hc
    have hx := cN_lt bs (st + i)
    have Hx : Hid (bs[st + i].toNat = cN bs (st + i)) := hid (by unfold cN; rw [List.getD_eq_getElem?_getD, List.getElem?_eq_getElem hlt]; rfl)
    generalize cN bs (st + i) = x at hc2 hx Hx
    have hz := HL.out.bel.size
    clear hc
    go_wp2_with (at_builtin; refine stopHere ?_)
    refine (shownW x hx _).mono ?_
    rintro ee w4 ⟨rfl, rfl⟩
    go_wp2_with (at_builtin; refine stopHere ?_)
    intro _
    refine wpList_app_nx rfl _ _ [shw8 bs[st + i]] HL.out.r8 rfl rfl _ (by show _ = #[byV (shw8 bs[st + i])]; unfold byV; rw [shw8_nat, Hx.out]) 1 rfl rfl (by rw [List.length_append, List.length_map, List.length_take]; omega) hz ?_
    intro v5 w5 HA
    have HQ : Hid (Ex2 w.heap.size w (pre ++ ((bs.drop st).take (i + 1)).map shw8) (List.replicate pre.length 32) v5 u9 w5) := hid (by
      have := HL.out.app8 (Nat.le_refl _) HA.out
      have e1 : (bs.drop st).take (i + 1) = (bs.drop st).take i ++ [bs[st + i]] := by
        rw [List.take_add_one, List.getElem?_drop, List.getElem?_eq_getElem hlt]; rfl
      rw [e1, List.map_append, ← List.append_assoc]
      exact this)
    clear HA HL Hx
    have Hi1 : Hid (i + 1 ≤ ln ∧ ln - (i + 1) < ln - i) := hid ⟨by omega, by omega⟩
    go_wp2
    exact ⟨⟨i + 1, _, rfl, by go_num, Hi1.out.1, HQ⟩, by have := Hi1.out.2; simp [intOf]; omega⟩
  have d1 : decide ((i : Int) < (ln : Int)) = false := decide_eq_false (by omega)
  obtain rfl : i = ln := by omega
  go_upto_if 80 with fail
  go_cut [8] from 80 to 82 (fun v wd => ∃ b : Value, v = b ∧ Hid (Ex2 w.heap.size w (pre ++ ((bs.drop st).take (en - st)).map shw8 ++ (if ct then [46, 46, 46] else [])) (List.replicate pre.length 32) b u9 wd))
  case first =>
    cases ct with
    | true =>
      have hz := HL.out.bel.size
      go_wp2_with (at_builtin; refine stopHere ?_)
      intro _
      refine wpList_app_sx rfl _ _ HL.out.r8 rfl rfl _ rfl (by decide) (by rw [List.length_append, List.length_map, List.length_take]; show _ + 3 ≤ _; omega) hz ?_
      intro v5 w5 HR8 HK8 hat8
      have HQ : Hid (Ex2 w.heap.size w (pre ++ ((bs.drop st).take (en - st)).map shw8 ++ (if true then [46, 46, 46] else [])) (List.replicate pre.length 32) v5 u9 w5) := hid (by rw [Hlnn.out]; exact HL.out.app8 (Nat.le_refl _) ⟨HR8.out, HK8.out, hat8⟩)
      clear HR8 HK8 hat8 HL
      go_wp2
      go_meet
      exact ⟨_, rfl, HQ⟩
    | false =>
      have HQ : Hid (Ex2 w.heap.size w (pre ++ ((bs.drop st).take (en - st)).map shw8 ++ (if false then [46, 46, 46] else [])) (List.replicate pre.length 32) u8 u9 wr) := hid (by rw [Hlnn.out]; simpa using HL.out)
      clear HL
      go_wp2
      go_meet
      exact ⟨_, rfl, HQ⟩
  case rest =>
  obtain ⟨b8, rfl, HM⟩ := hcut
  clear HL
  obtain ⟨r0, hr0⟩ : ∃ r, pre ++ ((bs.drop st).take (en - st)).map shw8 ++ (if ct then [46, 46, 46] else []) = r := ⟨_, rfl⟩
  obtain ⟨ps, hps⟩ : ∃ x, pos - st = x := ⟨_, rfl⟩
  have HX2 : Hid (ExP bs n pos r0 (pre.length + ps)) := hid (by
    rw [← hr0, ← hps]
    refine ExP.mk' Hln.out hst hen1 hen2 hst60 HEn.out.1 HPre.out.h ?_
    cases ct with
    | false =>
      have ee := HEn.out.2.2.1 rfl
      left
      exact ⟨rfl, by rw [ee]; exact HX.out, fun j h1 h2 => HE.out j h1 (by omega)⟩
    | true =>
      right
      exact ⟨rfl, HEn.out.2.2.2 rfl, fun j h1 h2 => HE.out j h1 (by have := HEn.out.2.1; omega)⟩)
  have hr0l : r0.length ≤ 200 := HX2.out.sm
  rw [hr0] at HM
  have eps : (pos : Int) - (st : Int) = (ps : Int) := by omega
  have hz := HM.out.bel.size
  clear hr0 HX HE HEn Hct
  go_wp2_with (at_builtin; refine stopHere ?_)
  refine (appendSpacesW ps (by omega) HM.out.r9 hz (by rw [List.length_replicate]; omega)).mono ?_
  rintro ee w5 ⟨v9, rfl, HA⟩
  have H5 := hid (HM.out.app9 (Nat.le_refl _) HA.out)
  clear HA HM
  go_wp2_with (at_builtin; refine stopHere ?_)
  intro _
  refine wpList_app_nx rfl _ _ [94, 10] H5.out.r9 rfl rfl _ rfl 2 rfl rfl (by rw [List.length_append, List.length_replicate, List.length_replicate]; omega) H5.out.bel.size ?_
  intro v9b w6 HA
  have H6 := hid (H5.out.app9 (Nat.le_refl _) HA.out)
  clear HA H5
  go_wp2_with (at_builtin; refine stopHere ?_)
  intro _
  refine wpList_app_nx rfl _ _ [10] H6.out.r8 rfl rfl _ rfl 1 rfl rfl (by omega) H6.out.bel.size ?_
  intro v8b w7 HA
  have H7 := hid (H6.out.app8 (Nat.le_refl _) HA.out)
  clear HA H6
  obtain ⟨a8, q8, rfl⟩ := H7.out.r8.shape
  obtain ⟨a9, q9, rfl⟩ := H7.out.r9.shape
  have hcv8 := H7.out.r8.str
  have hcv9 := H7.out.r9.str
  obtain ⟨s8, hs8⟩ : ∃ s : ByteArray, (⟨(r0 ++ [10]).toArray⟩ : ByteArray) = s := ⟨_, rfl⟩
  obtain ⟨s9, hs9⟩ : ∃ s : ByteArray, (⟨(List.replicate pre.length (32 : UInt8) ++ List.replicate ps 32 ++ [94, 10]).toArray⟩ : ByteArray) = s := ⟨_, rfl⟩
  rw [hs8] at hcv8
  rw [hs9] at hcv9
  have HQ : Hid ((s8 ++ s9).data.toList = r0 ++ [10] ++ List.replicate (pre.length + ps) 32 ++ [94, 10] ∧ ExP bs n pos r0 (pre.length + ps) ∧ Below w.heap.size w w7) := hid (by
    refine ⟨?_, HX2.out, H7.out.bel⟩
    rw [← hs8, ← hs9]
    show ((⟨(r0 ++ [10]).toArray⟩ : ByteArray) ++ ⟨(List.replicate pre.length (32 : UInt8) ++ List.replicate ps 32 ++ [94, 10]).toArray⟩).data.toList = _
    rw [ByteArray.data_append]
    rw [← List.replicate_append_replicate]
    simp)
  have hz8 : s8.size ≤ 300 := by rw [← hs8]; show (r0 ++ [10]).toArray.size ≤ 300; simp; omega
  have hz9 : s9.size ≤ 300 := by rw [← hs9]; show (List.replicate pre.length (32 : UInt8) ++ List.replicate ps 32 ++ [94, 10]).toArray.size ≤ 300; simp; omega
  clear H7 HX2 hs8 hs9
  generalize (r0 ++ [10]).length = m8 at hcv8 ⊢
  generalize (List.replicate pre.length (32 : UInt8) ++ List.replicate ps 32 ++ [94, 10]).length = m9 at hcv9 ⊢
  go_wp2
  go_ret
  exact ⟨_, r0, _, rfl, HQ⟩
end
end Go.Proofs.Qxb6500883aGreatDoor
