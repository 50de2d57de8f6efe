/- Error records: record, CodeName, Describe. -/
import Derived.Test.Qxb6500890aDoorTxE1
import Derived.Test.Qxb6500890aDoorTextOps
namespace Go.Proofs.Qxb6500890aDoor
open Go.RowKit
set_option linter.unusedSimpArgs false
set_option linter.unusedVariables false

def nmA : Nat → ByteArray
  | 0 => ⟨#[111, 107]⟩
  | 1 => ⟨#[98, 97, 100, 32, 105, 110, 116, 101, 103, 101, 114, 32, 115, 121, 110, 116, 97, 120]⟩
  | 2 => ⟨#[105, 110, 116, 101, 103, 101, 114, 32, 111, 117, 116, 32, 111, 102, 32, 114, 97, 110, 103, 101]⟩
  | 3 => ⟨#[105, 110, 116, 101, 103, 101, 114, 32, 111, 118, 101, 114, 102, 108, 111, 119]⟩
  | 4 => ⟨#[100, 105, 118, 105, 115, 105, 111, 110, 32, 98, 121, 32, 122, 101, 114, 111]⟩
  | 5 => ⟨#[115, 105, 122, 101, 32, 108, 105, 109, 105, 116, 32, 101, 120, 99, 101, 101, 100, 101, 100]⟩
  | _ => ⟨#[105, 110, 100, 101, 120, 32, 111, 117, 116, 32, 111, 102, 32, 98, 111, 117, 110, 100, 115]⟩
/-- The listed variable codeNames. -/
structure Nms (w : World) : Prop where
  lt : 1 < w.heap.size
  row : ∀ i : Nat, i < 7 → w.cell? ⟨1, i, none⟩ = some (.string (nmA i))
theorem Nms.below {w w' : World} (h : Nms w) (hb : Below w.heap.size w w') : Nms w' := ⟨Nat.lt_of_lt_of_le h.lt hb.size, fun i hi => by rw [hb.cell h.lt]; exact h.row i hi⟩
theorem Nms.fr {X : Nat → Bool} {ρ ρ' : Rl} {w w' : World} (h : Nms w) (hf : Fr X ρ w ρ' w') (h0 : X (ρ 1) = false) : Nms w' := ⟨Nat.lt_of_lt_of_le h.lt hf.size, fun i hi => by rw [keepCell i (hf.blk 1 h.lt h0)]; exact h.row i hi⟩
def nameP (c : Int) : ByteArray := if 0 ≤ c ∧ c < 7 then nmA c.toNat else ⟨#[99, 111, 100, 101, 32]⟩ ++ ⟨(fmtL c).toArray⟩
section
variable {w w' : World}
set_option maxRecDepth 100000
set_option maxHeartbeats 1000000
theorem codeName_walk (h : Nms w) (c : Int) (h1 : -9223372036854775808 ≤ c) (h2 : c ≤ 9223372036854775807) : Calls Tryd.prog 67 #[.int .i64 c] w fun r w' => r = .returned (.string (nameP c)) ∧ Below w.heap.size w w' := by
  by_cases h0 : 0 ≤ c ∧ c < 7
  · obtain ⟨i, rfl⟩ : ∃ i : Nat, c = (i : Int) := ⟨c.toNat, by omega⟩
    have e1 : nameP (i : Int) = nmA i := by unfold nameP; rw [if_pos h0, Int.toNat_natCast]
    have c1 := h.row i (by omega)
    rw [e1]
    generalize nmA i = s at c1 ⊢
    have d1 : decide ((i : Int) ≥ 0) = true := decide_eq_true (by omega)
    have d2 : decide ((i : Int) < 7) = true := decide_eq_true (by omega)
    have i1 : (i : Int) < 7 := by omega
    clear e1 h h0
    go_enter Tryd.func67, Tryd.ntmps67
    go_wp2
    go_ret
    exact ⟨rfl, Below.refl _ _⟩
  · have e1 : nameP c = ⟨#[99, 111, 100, 101, 32]⟩ ++ ⟨(fmtL c).toArray⟩ := by unfold nameP; rw [if_neg h0]
    rw [e1]
    have HF := hid (formatInt_walk c h1 h2)
    have hz := fmt_len c h1 h2
    have hz2 : (⟨(fmtL c).toArray⟩ : ByteArray).size ≤ 20 := hz
    generalize (⟨(fmtL c).toArray⟩ : ByteArray) = s at HF hz2 ⊢
    have hz3 : ¬ (9223372036854775807 < 5 + s.size) := by omega
    clear hz hz2
    by_cases hc : 0 ≤ c
    · have d1 : decide (c ≥ 0) = true := decide_eq_true hc
      have d2 : decide (c < 7) = false := decide_eq_false (by omega)
      clear e1 h h0
      go_enter Tryd.func67, Tryd.ntmps67
      go_wp2_with fail
      refine (HF.out _).mono ?_
      rintro e w1 ⟨rfl, hb⟩
      have HB := hid hb
      clear hb
      go_wp2
      go_ret
      exact ⟨rfl, HB.out⟩
    · have d1 : decide (c ≥ 0) = false := decide_eq_false hc
      have d3 : c < 0 := by omega
      clear e1 h h0
      go_enter Tryd.func67, Tryd.ntmps67
      go_wp2_with fail
      refine (HF.out _).mono ?_
      rintro e w1 ⟨rfl, hb⟩
      have HB := hid hb
      clear hb
      go_wp2
      go_ret
      exact ⟨rfl, HB.out⟩
theorem nameP_size (c : Int) (h1 : -9223372036854775808 ≤ c) (h2 : c ≤ 9223372036854775807) : (nameP c).size ≤ 25 := by
  unfold nameP
  split
  · generalize c.toNat = i
    match i with
    | 0 => decide
    | 1 => decide
    | 2 => decide
    | 3 => decide
    | 4 => decide
    | 5 => decide
    | _ + 6 => exact (show (nmA 6).size ≤ 25 by decide)
  · have hz := fmt_len c h1 h2
    rw [ByteArray.size_append]
    have : (⟨(fmtL c).toArray⟩ : ByteArray).size = (fmtL c).length := rfl
    rw [this]
    show 5 + _ ≤ 25
    omega
def descP (e : Er) : List UInt8 := ((((fmtL e.l ++ [58]) ++ fmtL e.k) ++ [58, 32]) ++ (nameP e.c).data.toList)
theorem room0 (n k : Nat) : roomP 0 n k = true := rfl
/-- Describe's own buffer under way. -/
structure Ds (w : World) (p : Nat) (e : Er) (ρ : Rl) (bs : List UInt8) (a : Option Addr) (q : Nat) (wr : World) : Prop where
  bu : Bu wr ρ (p + 1) 0 bs a q
  be : Below w.heap.size w wr
  b1 : Blk wr p 29 (erC e)
  r1 : ρ p = 0
  lo : ∀ g, g < w.heap.size → ρ g = 0
  dm : ∀ g, ρ g ≠ 0 → g < wr.heap.size
theorem Ds.next {w wr w' : World} {p : Nat} {e : Er} {ρ : Rl} {bs cs : List UInt8} {a : Option Addr} {q : Nat} (h : Ds w p e ρ bs a q wr) {r : Ending} (hA : AdP wr ρ (p + 1) 0 bs cs r w') : r = .returned (.bool true) ∧ ∃ ρ' a' q', Ds w p e ρ' (bs ++ cs) a' q' w' := by
  obtain ⟨a', q', ρ', h1, h2, h3⟩ := hA
  rw [room0] at h1 h2
  refine ⟨h1, ρ', a', q', h2, h.be.trans (h3.toBelow h.be.size h.lo rfl), h3.keep h.b1 h.r1 rfl, by rw [h3.old _ h.b1.lt]; exact h.r1, fun g hg => by rw [h3.old g (Nat.lt_of_lt_of_le hg h.be.size)]; exact h.lo g hg, h3.dom h.dm⟩
theorem Ds.below {w wr w' : World} {p : Nat} {e : Er} {ρ : Rl} {bs : List UInt8} {a : Option Addr} {q : Nat} (h : Ds w p e ρ bs a q wr) (hb : Below wr.heap.size wr w') : Ds w p e ρ bs a q w' := ⟨h.bu.below hb, h.be.trans (hb.mono h.be.size), h.b1.below hb, h.r1, h.lo, fun g hg => Nat.lt_of_lt_of_le (h.dm g hg) hb.size⟩
theorem Ds.new (w : World) (e : Er) : Ds w w.heap.size e (fup (fun _ => 0) (w.heap.size + 1) 2) [] none 0 ((w.alloc (.cells (erC e).toArray 29)).alloc (.cells #[.slice none 0 0, .int .i64 0] 93)) := by
  have n1 := nbel w (.cells (erC e).toArray 29)
  have k1 := Blk.new w (erC e) 29
  have s1 : (w.alloc (.cells (erC e).toArray 29)).heap.size = w.heap.size + 1 := by simp
  generalize w.alloc (.cells (erC e).toArray 29) = w1 at n1 k1 s1
  have n2 := nbel w1 (.cells #[.slice none 0 0, .int .i64 0] 93)
  have k2 := Blk.new w1 [.slice none 0 0, .int .i64 0] 93
  have s2 : (w1.alloc (.cells #[.slice none 0 0, .int .i64 0] 93)).heap.size = w1.heap.size + 1 := by simp
  rw [s1] at k2
  refine ⟨⟨k2, fup_self _ _ _, .inl ⟨rfl, rfl, rfl⟩, by omega, by omega⟩, n1.trans (n2.mono n1.size), k1.below n2, fup_ne _ _ (by omega), fun g hg => fup_ne _ _ (by omega), fun g hg => ?_⟩
  rw [s2, s1]
  by_cases h : g = w.heap.size + 1
  · omega
  · rw [fup_ne _ _ h] at hg
    exact absurd rfl hg
theorem describe_walk (h : Nms w) (e : Er) (hc : I64 e.c) (hl : I64 e.l) (hk : I64 e.k) : Calls Tryd.prog 37 #[.agg (erC e).toArray] w fun r w' => r = .returned (.string ⟨(descP e).toArray⟩) ∧ Below w.heap.size w w' := by
  have HN := hid h
  have HD := hid (Ds.new w e)
  have hz1 := fmt_len e.l hl.1 hl.2
  have hz2 := fmt_len e.k hk.1 hk.2
  have hz3 := nameP_size e.c hc.1 hc.2
  have HI := hid (And.intro hc (And.intro hl hk))
  have HC : Hid (∀ {ρ : Rl} {bs : List UInt8} {a : Option Addr} {q : Nat} {wr : World}, Ds w w.heap.size e ρ bs a q wr → wr.cell? ⟨w.heap.size, 0, none⟩ = some (.int .i64 e.c) ∧ wr.cell? ⟨w.heap.size, 1, none⟩ = some (.int .i64 e.l) ∧ wr.cell? ⟨w.heap.size, 2, none⟩ = some (.int .i64 e.k)) := hid (fun h => ⟨h.b1.cell 0, h.b1.cell 1, h.b1.cell 2⟩)
  obtain ⟨p, hp⟩ : ∃ p, w.heap.size = p := ⟨_, rfl⟩
  have Hp := hid hp
  rw [hp] at HD HC
  have hq : (descP e) = ((((fmtL e.l ++ [58]) ++ fmtL e.k) ++ [58, 32]) ++ (nameP e.c).data.toList) := rfl
  rw [hq]
  clear hq h hc hl hk
  obtain ⟨c, l, k⟩ := e
  dsimp only at hz1 hz2 hz3 HI HC ⊢
  obtain ⟨sd, hsd⟩ : ∃ s : ByteArray, (⟨((((fmtL l ++ [58]) ++ fmtL k) ++ [58, 32]) ++ (nameP c).data.toList).toArray⟩ : ByteArray) = s := ⟨_, rfl⟩
  rw [hsd]
  have Hsd := hid hsd
  clear hsd
  have e0 : (erC ⟨c, l, k⟩).toArray = #[.int .i64 c, .int .i64 l, .int .i64 k] := rfl
  rw [e0] at HD ⊢
  go_enter Tryd.func37, Tryd.ntmps37
  go_upto_region 2 with fail
  generalize hwr : ((w.alloc (Obj.cells #[.int .i64 c, .int .i64 l, .int .i64 k] 29)).alloc (Obj.cells #[.slice none 0 0, .int .i64 0] 93)) = wr at HD ⊢
  clear hwr
  obtain ⟨x0, x1, x2⟩ := HC.out HD.out
  have HA := hid (addInt_walk HD.out.bu HD.out.dm l HI.out.2.1.1 HI.out.2.1.2 (by simp))
  go_wp2_with fail
  refine HA.out.mono ?_
  intro r w1 h1
  obtain ⟨rfl, ρ1, a1, q1, d1⟩ := HD.out.next h1
  have HD1 := hid d1
  clear h1 d1 HD HA x0 x1 x2
  rw [List.nil_append] at HD1
  have HA := hid (addByte_walk HD1.out.bu 58 (by omega))
  have e58 : ((58 : UInt8).toNat : Int) = 58 := rfl
  rw [e58] at HA
  go_wp2_with fail
  refine HA.out.mono ?_
  intro r w2 h1
  obtain ⟨rfl, ρ2, a2, q2, d2⟩ := HD1.out.next h1
  have HD2 := hid d2
  clear h1 d2 HD1 HA
  obtain ⟨x0, x1, x2⟩ := HC.out HD2.out
  have HA := hid (addInt_walk HD2.out.bu HD2.out.dm k HI.out.2.2.1 HI.out.2.2.2 (by rw [List.length_append]; simp; omega))
  go_wp2_with fail
  refine HA.out.mono ?_
  intro r w3 h1
  obtain ⟨rfl, ρ3, a3, q3, d3⟩ := HD2.out.next h1
  have HD3 := hid d3
  clear h1 d3 HD2 HA x0 x1 x2
  have HA := hid (addString_walk HD3.out.bu ⟨#[58, 32]⟩ (by decide) (by rw [List.length_append, List.length_append]; have : (⟨#[58, 32]⟩ : ByteArray).size = 2 := rfl; rw [this, List.length_singleton]; omega))
  go_wp2_with fail
  refine HA.out.mono ?_
  intro r w4 h1
  obtain ⟨rfl, ρ4, a4, q4, d4⟩ := HD3.out.next h1
  have HD4 : Hid (Ds w p ⟨c, l, k⟩ ρ4 (((fmtL l ++ [58]) ++ fmtL k) ++ [58, 32]) a4 q4 w4) := hid d4
  clear h1 d4 HD3 HA
  obtain ⟨x0, x1, x2⟩ := HC.out HD4.out
  have HA := hid (codeName_walk (HN.out.below HD4.out.be) c HI.out.1.1 HI.out.1.2)
  go_wp2_with fail
  refine HA.out.mono ?_
  rintro r w5 ⟨rfl, hb5⟩
  have HD5 := hid (HD4.out.below hb5)
  clear HA HD4 hb5 x0 x1 x2
  have HA := hid (addString_walk HD5.out.bu (nameP c) (by omega) (by rw [List.length_append, List.length_append, List.length_append]; simp; omega))
  go_wp2_with fail
  refine HA.out.mono ?_
  intro r w6 h1
  obtain ⟨rfl, ρ6, a6, q6, d6⟩ := HD5.out.next h1
  have HD6 := hid d6
  clear h1 d6 HD5 HA
  have HA := hid (string_walk HD6.out.bu)
  rw [Hsd.out] at HA
  go_wp2_with fail
  refine HA.out.mono ?_
  rintro r w7 ⟨rfl, rfl⟩
  have HB := hid HD6.out.be
  clear HA HD6 HN
  go_wp2
  go_ret
  exact ⟨rfl, HB.out⟩
theorem record_walk (o : TOp) (w : World) : Calls Tryd.prog 38 #[.agg (opCells o).toArray] w fun r w' => FiP w ⟨o.a, o.b, o.c⟩ r w' := by
  obtain ⟨kind, oa, ob, oc, s, t, la, ln, lc, list, ra, rn, rc, recs⟩ := o
  obtain ⟨p, hp⟩ : ∃ p, w.heap.size = p := ⟨_, rfl⟩
  have hb0 := Blk.new (w.alloc (.cells (opCells ⟨kind, oa, ob, oc, s, t, la, ln, lc, list, ra, rn, rc, recs⟩).toArray 36)) (erC ⟨0, 0, 0⟩) 29
  have n1 := nbel w (.cells (opCells ⟨kind, oa, ob, oc, s, t, la, ln, lc, list, ra, rn, rc, recs⟩).toArray 36)
  have hs : (w.alloc (.cells (opCells ⟨kind, oa, ob, oc, s, t, la, ln, lc, list, ra, rn, rc, recs⟩).toArray 36)).heap.size = p + 1 := by simp [hp]
  rw [hs] at hb0
  have HB := hid hb0
  have HN := hid n1
  have I0 := hid info_er
  dsimp only [opCells] at HB HN ⊢
  clear hb0 n1 hs
  go_enter Tryd.func38, Tryd.ntmps38
  go_wp2_with (refine wpList_store_blk rfl 29 _ _ rfl (p + 1) rfl (erC ⟨oa, ob, oc⟩) rfl HB.out rfl I0.out (er_one _) ?_; intro w9 HB9 HU9)
  exact bodyPost_ret (results_blk (cs := erC ⟨oa, ob, oc⟩) Tryd.results38 rfl aggEr HB9.out) rfl ⟨rfl, (HN.out.trans ((nbel _ _).mono HN.out.size)).trans (HU9.out.below (by omega) (by simp; omega))⟩
end
end Go.Proofs.Qxb6500890aDoor
