/- expected. -/
import Derived.Test.Qxb6500892aDoorTqView
namespace Go.Proofs.Qxb6500892aDoor
open Go.RowKit
set_option linter.unusedSimpArgs false
set_option linter.unusedVariables false

def ordP (V1 V2 : List TEnt) (kin kneg : Int) : List TEnt := (if kneg < (V1.countP (·.neg) : Int) then V1.reverse.filter (·.neg) else []) ++ (if kin < (V1.length : Int) then V1.reverse ++ V2.reverse else V2.reverse ++ V1.reverse)
def expP (V1 V2 : List TEnt) (kin kneg : Int) : Option TEnt := (ordP V1 V2 kin kneg).find? fun t => decide (t.pins = 0)
def slotO : Option TEnt → Int
  | none => 0
  | some t => t.slot
theorem box_view (W : World) (x y z : Value) : (Instr.box 41 (.agg #[x, y, z])).run Tryd.prog W = .ok (.pointer (some ⟨W.heap.size, 0, none⟩)) (W.alloc (.cells #[x, y, z] 41)) := rfl
/-- The function under way: the view in p2, the quotas in p3, the order as an own row. -/
structure EX (w0 : World) (p2 p3 : Nat) (c1 c2 c3 : Value) (cf : List Value) (v : Value) (l : List TEnt) (w : World) : Prop where
  bel : Below w0.heap.size w0 w
  b2 : Blk w p2 41 [c1, c2, c3]
  b3 : Blk w p3 31 cf
  g2 : w0.heap.size ≤ p2
  g3 : w0.heap.size ≤ p3
  ow : OR w w0.heap.size 64 4 entC v l
section
variable {w0 : World} {p2 p3 : Nat} {c1 c2 c3 : Value} {cf : List Value} {v v' : Value} {l : List TEnt} {x : TEnt} {w w' : World}
theorem EX.below (h : EX w0 p2 p3 c1 c2 c3 cf v l w) (hb : Below w.heap.size w w') : EX w0 p2 p3 c1 c2 c3 cf v l w' := ⟨h.bel.trans (hb.mono h.bel.size), h.b2.below hb, h.b3.below hb, h.g2, h.g3, h.ow.below hb⟩
theorem EX.app (h : EX w0 p2 p3 c1 c2 c3 cf v l w) (ha : App w0.heap.size 64 4 entC v (l ++ [x]) w v' w') : EX w0 p2 p3 c1 c2 c3 cf v' (l ++ [x]) w' := by
  have kt : ∀ k t cs, Blk w k t cs → t ≠ 64 → Blk w' k t cs := fun k t cs hb ht => hb.same (ha.keep k hb.lt fun g hg e => by subst e; obtain ⟨_, c2, b2⟩ := h.ow.blk hg; exact hb.tne b2 ht rfl)
  exact ⟨h.bel.trans ha.bel, kt _ _ _ h.b2 (by decide), kt _ _ _ h.b3 (by decide), h.g2, h.g3, ha.ow⟩
end
theorem EX.at {w0 : World} {p2 p3 : Nat} {c1 c2 c3 : Value} {cf : List Value} {v : Value} {l : List TEnt} {w : World} (h : EX w0 p2 p3 c1 c2 c3 cf v l w) {a : Option Addr} {n c : Nat} {V : List TEnt} (hr : RowOf w0 4 entC a n c V) {j : Nat} (hj : j < n) :
    ∃ t b off, V[j]? = some t ∧ a = some ⟨b, off, none⟩ ∧ w.cell? ⟨b, off + j * 4, none⟩ = some (.int .i64 t.slot) ∧ w.cell? ⟨b, off + j * 4 + 1, none⟩ = some (.int .u64 t.key) ∧ w.cell? ⟨b, off + j * 4 + 2, none⟩ = some (.int .i64 t.pins) ∧ w.cell? ⟨b, off + j * 4 + 3, none⟩ = some (.bool t.neg) := by
  obtain ⟨t, ht, b, off, ha, hb, hc⟩ := (hr.below h.bel).cell hj
  exact ⟨t, b, off, ht, ha, by simpa [entC] using hc 0 (by omega), by simpa [entC] using hc 1 (by omega), by simpa [entC] using hc 2 (by omega), by simpa [entC] using hc 3 (by omega)⟩
theorem drop_rev {V : List TEnt} {j : Nat} {t : TEnt} (h : V[j]? = some t) : (V.drop j).reverse = (V.drop (j + 1)).reverse ++ [t] := by
  obtain ⟨hj, e⟩ := List.getElem?_eq_some_iff.1 h
  rw [List.drop_eq_getElem_cons hj, e, List.reverse_cons]
theorem take_count {V : List TEnt} {j : Nat} {t : TEnt} (h : V[j]? = some t) (p : TEnt → Bool) : (V.take (j + 1)).countP p = (V.take j).countP p + (if p t then 1 else 0) := by
  rw [List.take_add_one, h, List.countP_append]
  simp [List.countP_cons]
theorem find_first {α : Type} {l : List α} {p : α → Bool} {i : Nat} {t : α} (h : l[i]? = some t) (hp : p t = true) (hb : ∀ j, j < i → ∀ u, l[j]? = some u → p u = false) : l.find? p = some t := by
  induction l generalizing i with
  | nil => simp at h
  | cons x l ih =>
    cases i with
    | zero =>
      simp at h
      subst h
      simp [hp]
    | succ i =>
      have h0 := hb 0 (by omega) x (by simp)
      rw [List.find?_cons, h0]
      exact ih (by simpa using h) (fun j hj u hu => hb (j + 1) (by omega) u (by simpa using hu))
section
variable {w : World}
set_option maxRecDepth 100000 in
set_option maxHeartbeats 4000000 in
theorem expected_walk {a1 a2 a3 : Option Addr} {n1 c1 n2 c2 n3 c3 : Nat} {V1 V2 : List TEnt} (hr1 : RowOf w 4 entC a1 n1 c1 V1) (hr2 : RowOf w 4 entC a2 n2 c2 V2) (hn1 : n1 ≤ 131072) (hn2 : n2 ≤ 131072) (ka kin kb kneg : Int) :
    Calls Tryd.prog 17 #[.agg #[.slice a1 n1 c1, .slice a2 n2 c2, .slice a3 n3 c3], .agg #[.int .i64 ka, .int .i64 kin, .int .i64 kb, .int .i64 kneg]] w fun y w' => y = .returned (.tuple #[.int .i64 (slotO (expP V1 V2 kin kneg)), .bool (expP V1 V2 kin kneg).isSome]) ∧ Below w.heap.size w w' := by
  have HR1 := hid hr1
  have HR2 := hid hr2
  have hl1 : V1.length = n1 := hr1.1
  have hl2 : V2.length = n2 := hr2.1
  have HL := hid (And.intro hl1 hl2)
  clear hr1 hr2 hl1 hl2
  obtain ⟨p2, hp2⟩ : ∃ p, w.heap.size = p := ⟨_, rfl⟩
  obtain ⟨p3, hp3⟩ : ∃ p, p2 + 1 = p := ⟨_, rfl⟩
  obtain ⟨w2, hw2⟩ : ∃ w2, (w.alloc (.cells #[.slice a1 n1 c1, .slice a2 n2 c2, .slice a3 n3 c3] 41)).alloc (.cells #[.int .i64 ka, .int .i64 kin, .int .i64 kb, .int .i64 kneg] 31) = w2 := ⟨_, rfl⟩
  have HX0 : Hid (EX w p2 p3 (.slice a1 n1 c1) (.slice a2 n2 c2) (.slice a3 n3 c3) [.int .i64 ka, .int .i64 kin, .int .i64 kb, .int .i64 kneg] nilS [] w2) := hid (by
    have s1 : ∀ (x : World) (o : Obj), (x.alloc o).heap.size = x.heap.size + 1 := fun x o => by simp
    have hb : Below w.heap.size w w2 := by rw [← hw2]; exact ((Below.refl _ w).alloc (Nat.le_refl _) _).alloc (by rw [s1]; omega) _
    have k1 := (Blk.new w [.slice a1 n1 c1, .slice a2 n2 c2, .slice a3 n3 c3] 41).alloc (.cells #[.int .i64 ka, .int .i64 kin, .int .i64 kb, .int .i64 kneg] 31)
    have k2 := Blk.new (w.alloc (.cells #[.slice a1 n1 c1, .slice a2 n2 c2, .slice a3 n3 c3] 41)) [.int .i64 ka, .int .i64 kin, .int .i64 kb, .int .i64 kneg] 31
    rw [s1, hp2, hp3] at k2
    rw [hp2] at k1
    rw [← hw2] at *
    exact ⟨hb, k1, k2, by omega, by omega, OR.nil _ _ _ _ _⟩)
  obtain ⟨ie, hie, hze, hsz1, hby1⟩ := info_entz
  have IE := hid (And.intro hie (And.intro hze (And.intro hsz1 hby1)))
  clear hie hze hsz1 hby1
  go_enter Tryd.func17, Tryd.ntmps17
  go_upto_region 3 with fail
  try simp only [hw2, hp3]
  clear hw2 hp3 hp2
  have d0 : w2.cell? ⟨p2, 0, none⟩ = some (.slice a1 n1 c1) := HX0.out.b2.cell 0
  go_upto_region 4 with fail
  clear d0
  go_loopw [7, 20] (fun v7 v wr => ∃ i : Nat, i ≤ n1 ∧ v = .int .i64 (i : Int) ∧ ∃ z : Nat, z ≤ i ∧ v7 = .int .i64 (z : Int) ∧ Hid (z = (V1.take i).countP (·.neg) ∧ EX w p2 p3 (.slice a1 n1 c1) (.slice a2 n2 c2) (.slice a3 n3 c3) [.int .i64 ka, .int .i64 kin, .int .i64 kb, .int .i64 kneg] nilS [] wr)) (fun _ v _ => n1 - (intOf v).toNat)
  case atStart => exact ⟨0, by omega, rfl, 0, by omega, rfl, hid ⟨rfl, HX0.out⟩⟩
  case round =>
  clear HX0
  obtain ⟨i, hi, rfl, z, hz, rfl, HX⟩ := hrel
  by_cases hin : i < n1
  · as_aux_lemma =>
    have di : decide ((i : Int) < (n1 : Int)) = true := decide_eq_true (by omega)
    have hii : (i : Int) < (n1 : Int) := by omega
    obtain ⟨t, b, off, ht, rfl, q0, q1, q2, q3⟩ := HX.out.2.at HR1.out hin
    have hcn := take_count ht (·.neg)
    rw [← HX.out.1] at hcn
    have HX1 := hid HX.out.2
    obtain ⟨p9, hp9⟩ : ∃ p, wr.heap.size = p := ⟨_, rfl⟩
    have HB9 : Hid (EX w p2 p3 (.slice (some ⟨b, off, none⟩) n1 c1) (.slice a2 n2 c2) (.slice a3 n3 c3) [.int .i64 ka, .int .i64 kin, .int .i64 kb, .int .i64 kneg] nilS [] (wr.alloc (.cells #[.int .i64 t.slot, .int .u64 t.key, .int .i64 t.pins, .bool t.neg] 64)) ∧ Blk (wr.alloc (.cells #[.int .i64 t.slot, .int .u64 t.key, .int .i64 t.pins, .bool t.neg] 64)) p9 64 [.int .i64 t.slot, .int .u64 t.key, .int .i64 t.pins, .bool t.neg]) := hid (by
      have k1 := Blk.new wr [.int .i64 t.slot, .int .u64 t.key, .int .i64 t.pins, .bool t.neg] 64
      rw [hp9] at k1
      exact ⟨HX1.out.below (nbel wr _), k1⟩)
    obtain ⟨B, hB⟩ : ∃ B, t.neg = B := ⟨_, rfl⟩
    rw [hB] at hcn q3 HB9
    clear HX HX1 ht hB
    go_upto_region 6 with fail
    generalize wr.alloc (.cells #[.int .i64 t.slot, .int .u64 t.key, .int .i64 t.pins, .bool B] 64) = w9 at HB9 ⊢
    have m3 : w9.cell? ⟨p9, 3, none⟩ = some (.bool B) := HB9.out.2.cell 3
    cases B with
    | true =>
      have HF := hid (And.intro (show z + 1 = (V1.take (i + 1)).countP (·.neg) by rw [hcn]; simp) HB9.out.1)
      clear hcn HB9 hp9
      go_wp2
      exact ⟨⟨i + 1, by omega, by go_num, z + 1, by omega, by go_num, HF⟩, by simp [intOf]; omega⟩
    | false =>
      have HF := hid (And.intro (show z = (V1.take (i + 1)).countP (·.neg) by rw [hcn]; simp) HB9.out.1)
      clear hcn HB9 hp9
      go_wp2
      exact ⟨⟨i + 1, by omega, by go_num, z, by omega, rfl, HF⟩, by simp [intOf]; omega⟩
  have di : decide ((i : Int) < (n1 : Int)) = false := decide_eq_false (by omega)
  have HXa : Hid (z = V1.countP (·.neg) ∧ EX w p2 p3 (.slice a1 n1 c1) (.slice a2 n2 c2) (.slice a3 n3 c3) [.int .i64 ka, .int .i64 kin, .int .i64 kb, .int .i64 kneg] nilS [] wr) := hid (by
    have h1 := HX.out.1
    rw [List.take_of_length_le (by have := HL.out.1; omega)] at h1
    exact ⟨h1, HX.out.2⟩)
  clear HX
  obtain ⟨wa, hwa⟩ : ∃ wa, wa = wr := ⟨_, rfl⟩
  subst hwa
  have r3 : wa.cell? ⟨p3, 3, none⟩ = some (.int .i64 kneg) := HXa.out.2.b3.cell 3
  obtain ⟨B0, hB0⟩ : ∃ B, decide (kneg < (z : Int)) = B := ⟨_, rfl⟩
  have dg : decide ((z : Int) > kneg) = B0 := hB0
  go_upto_if 32 with fail
  obtain ⟨G, hG⟩ : ∃ G, (if kneg < (V1.countP (·.neg) : Int) then V1.reverse.filter (·.neg) else []) = G := ⟨_, rfl⟩
  have HG : Hid ((B0 = true → G = V1.reverse.filter (·.neg)) ∧ (B0 = false → G = [])) := hid (by
    rw [← HXa.out.1] at hG
    constructor
    · intro h
      rw [if_pos (of_decide_eq_true (hB0.trans h))] at hG
      exact hG.symm
    · intro h
      rw [if_neg (of_decide_eq_false (hB0.trans h))] at hG
      exact hG.symm)
  have HGG := hid hG
  have hgl : G.length ≤ 131072 := by
    rw [← hG]
    split
    · exact Nat.le_trans (List.length_filter_le _ _) (by rw [List.length_reverse]; have := HL.out.1; omega)
    · exact Nat.zero_le _
  clear hG hB0 dg r3
  have HXb := hid HXa.out.2
  clear HXa
  go_cut [6, 10] from 33 to 54 (fun v6 v10 wc => ∃ a6 n6 c6, v6 = .slice a6 n6 c6 ∧ Hid (EX w p2 p3 (.slice a1 n1 c1) (.slice a2 n2 c2) (.slice a3 n3 c3) [.int .i64 ka, .int .i64 kin, .int .i64 kb, .int .i64 kneg] (.slice a6 n6 c6) G wc))
  case first =>
    as_aux_lemma =>
    cases B0 with
    | false =>
      have HF : Hid (EX w p2 p3 (.slice a1 n1 c1) (.slice a2 n2 c2) (.slice a3 n3 c3) [.int .i64 ka, .int .i64 kin, .int .i64 kb, .int .i64 kneg] (.slice none 0 0) G wa) := hid (by rw [HG.out.2 rfl]; exact HXb.out)
      clear HXb HG HGG
      go_wp2
      go_meet
      case rel => exact ⟨none, 0, 0, rfl, HF⟩
    | true =>
    have HGt := hid (HG.out.1 rfl)
    have d0 : wa.cell? ⟨p2, 0, none⟩ = some (.slice a1 n1 c1) := HXb.out.b2.cell 0
    clear HG HGG
    go_upto_region 11 with fail
    clear d0
    go_loopw [6, 10] (fun v6 v wr => ∃ z : Int, v = .int .i64 z ∧ ∃ a6 n6 c6, v6 = .slice a6 n6 c6 ∧ Hid (∃ m : Nat, m ≤ n1 ∧ z = (m : Int) - 1 ∧ EX w p2 p3 (.slice a1 n1 c1) (.slice a2 n2 c2) (.slice a3 n3 c3) [.int .i64 ka, .int .i64 kin, .int .i64 kb, .int .i64 kneg] (.slice a6 n6 c6) ((V1.drop m).reverse.filter (·.neg)) wr)) (fun _ v _ => (intOf v + 1).toNat)
    case atStart => exact ⟨(n1 : Int) - 1, by go_num, none, 0, 0, rfl, hid ⟨n1, by omega, rfl, by rw [List.drop_eq_nil_of_le (by have := HL.out.1; omega)]; exact HXb.out⟩⟩
    case round =>
    clear HXb
    obtain ⟨z2, rfl, a6, n6, c6, rfl, HK⟩ := hrel
    obtain ⟨m, hm, hz2, hx6⟩ := HK.out
    have HX := hid hx6
    clear hx6 HK
    rcases m with _ | j
    · as_aux_lemma =>
      have hz3 : z2 = -1 := by omega
      clear hz2
      subst hz3
      have dz1 : decide ((-1 : Int) ≥ 0) = false := by decide
      have dz2 : decide ((0 : Int) ≤ -1) = false := by decide
      have HF : Hid (EX w p2 p3 (.slice a1 n1 c1) (.slice a2 n2 c2) (.slice a3 n3 c3) [.int .i64 ka, .int .i64 kin, .int .i64 kb, .int .i64 kneg] (.slice a6 n6 c6) G wr) := hid (by rw [HGt.out]; exact HX.out)
      clear HX HGt
      go_wp2
      go_meet
      case rel => exact ⟨a6, n6, c6, rfl, HF⟩
    as_aux_lemma =>
    have hz3 : z2 = (j : Int) := by omega
    clear hz2
    subst hz3
    have dz1 : decide ((j : Int) ≥ 0) = true := decide_eq_true (by omega)
    have dz2 : decide ((0 : Int) ≤ (j : Int)) = true := decide_eq_true (by omega)
    have hjn : (j : Int) < (n1 : Int) := by omega
    obtain ⟨t, b, off, ht, rfl, q0, q1, q2, q3⟩ := HX.out.at HR1.out (show j < n1 by omega)
    have hdr := drop_rev ht
    have d0 : wr.cell? ⟨p2, 0, none⟩ = some (.slice (some ⟨b, off, none⟩) n1 c1) := HX.out.b2.cell 0
    have Hlen : Hid (((V1.drop (j + 1)).reverse.filter (·.neg)).length ≤ 131072) := hid (Nat.le_trans (List.length_filter_le _ _) (by rw [List.length_reverse, List.length_drop]; have := HL.out.1; omega))
    obtain ⟨B, hB⟩ : ∃ B, t.neg = B := ⟨_, rfl⟩
    have HBn := hid hB
    rw [hB] at q3
    have HLF : Hid ((V1.drop j).reverse.filter (·.neg) = (V1.drop (j + 1)).reverse.filter (·.neg) ++ (if B = true then [t] else [])) := hid (by
      rw [hdr, List.filter_append]
      congr 1
      cases B <;> simp [hB])
    clear hB hdr ht
    cases B with
    | false =>
      have HF : Hid (∃ m : Nat, m ≤ n1 ∧ (j : Int) - 1 = (m : Int) - 1 ∧ EX w p2 p3 (.slice (some ⟨b, off, none⟩) n1 c1) (.slice a2 n2 c2) (.slice a3 n3 c3) [.int .i64 ka, .int .i64 kin, .int .i64 kb, .int .i64 kneg] (.slice a6 n6 c6) ((V1.drop m).reverse.filter (·.neg)) wr) := hid ⟨j, by omega, rfl, by
        rw [HLF.out]
        simp only [Bool.false_eq_true, if_false, List.append_nil]
        exact HX.out⟩
      clear HX HLF Hlen HBn
      go_wp2
      exact ⟨⟨(j : Int) - 1, by go_num, a6, n6, c6, rfl, HF⟩, by simp [intOf]; try omega⟩
    | true =>
    go_upto_region 14 with fail
    obtain ⟨w6, hw6⟩ : ∃ w6, wr.alloc (.cells #[.int .i64 t.slot, .int .u64 t.key, .int .i64 t.pins, .bool true] 64) = w6 := ⟨_, rfl⟩
    have HX6 : Hid (EX w p2 p3 (.slice (some ⟨b, off, none⟩) n1 c1) (.slice a2 n2 c2) (.slice a3 n3 c3) [.int .i64 ka, .int .i64 kin, .int .i64 kb, .int .i64 kneg] (.slice a6 n6 c6) ((V1.drop (j + 1)).reverse.filter (·.neg)) w6) := hid (by rw [← hw6]; exact HX.out.below (nbel wr _))
    have HNw := hid (newRow wr [.int .i64 t.slot, .int .u64 t.key, .int .i64 t.pins, .bool true] 64 wr.heap.size rfl)
    have HlT : Hid ([.int .i64 t.slot, .int .u64 t.key, .int .i64 t.pins, .bool true] = entC t) := hid (by unfold entC; rw [HBn.out])
    rw [show (wr.alloc (.cells [.int .i64 t.slot, .int .u64 t.key, .int .i64 t.pins, .bool true].toArray 64)) = w6 from hw6] at HNw
    obtain ⟨p6, hp6⟩ : ∃ p, wr.heap.size = p := ⟨_, rfl⟩
    rw [hp6] at HNw
    have hbs : w.heap.size ≤ w6.heap.size := HX6.out.bel.size
    go_wp2_with (at_builtin; refine stopHere ?_)
    intro _
    (try simp only [hw6])
    refine wpList_append_row _ rfl (.tmp 47) (.tmp 53) 38 rfl w.heap.size 64 ie (.agg #[.int .i64 0, .int .u64 0, .int .i64 0, .bool false]) 4 32 Tryd.underlying38 IE.out.1 IE.out.2.1 IE.out.2.2.1 IE.out.2.2.2 rfl (by decide) (.slice a6 n6 c6) _ _ (by simp [Act.eval, Act.put]; done) HX6.out.ow (some ⟨p6, 0, none⟩) 1 1 (entC t) (by simp [Act.eval, Act.put]; done) rfl (fun h => by cases h) (by rw [← HlT.out]; exact HNw.out) (entC_one t) (by have := Hlen.out; omega) (by decide) hbs ?_
    intro v7 w7 hown7 hb7 hk7 hg7
    have HA7 := hid (⟨by have := hown7; rw [flatMap_snoc] at this; unfold OR; rw [List.length_append]; exact this, hb7, hk7, hg7⟩ : App w.heap.size 64 4 entC (.slice a6 n6 c6) (((V1.drop (j + 1)).reverse.filter (·.neg)) ++ [t]) w6 v7 w7)
    clear hown7 hb7 hk7 hg7
    obtain ⟨a7, n7, c7, h7⟩ := HA7.out.ow.shape
    subst h7
    have HX8 := hid (HX6.out.app HA7.out)
    clear HA7 HX6 HNw HlT hw6 hp6 hbs
    have HF : Hid (∃ m : Nat, m ≤ n1 ∧ (j : Int) - 1 = (m : Int) - 1 ∧ EX w p2 p3 (.slice (some ⟨b, off, none⟩) n1 c1) (.slice a2 n2 c2) (.slice a3 n3 c3) [.int .i64 ka, .int .i64 kin, .int .i64 kb, .int .i64 kneg] (.slice a7 n7 c7) ((V1.drop m).reverse.filter (·.neg)) w7) := hid ⟨j, by omega, rfl, by
      rw [HLF.out]
      exact HX8.out⟩
    clear HX8 HX HLF Hlen HBn q0 q1 q2 q3 d0
    go_wp2
    exact ⟨⟨(j : Int) - 1, by go_num, a7, n7, c7, rfl, HF⟩, by simp [intOf]; try omega⟩
  case rest =>
  as_aux_lemma =>
  obtain ⟨a6, n6, c6, rfl, HX6⟩ := hcut
  clear HXb HG di
  have t0 : ∀ nn, (wc.drewN nn).cell? ⟨p2, 0, none⟩ = some (.slice a1 n1 c1) := fun nn => HX6.out.b2.cell 0
  have t1 : ∀ nn, (wc.drewN nn).cell? ⟨p2, 1, none⟩ = some (.slice a2 n2 c2) := fun nn => HX6.out.b2.cell 1
  go_upto_region 15 with fail
  go_quiet (fail)
  have HXc : Hid (EX w p2 p3 (.slice a1 n1 c1) (.slice a2 n2 c2) (.slice a3 n3 c3) [.int .i64 ka, .int .i64 kin, .int .i64 kb, .int .i64 kneg] (.slice a6 n6 c6) G (wc.drewN nq)) := hid (HX6.out.below (Drew.below ⟨nq, rfl⟩ _))
  generalize wc.drewN nq = w5 at HXc ⊢
  clear t0 t1 HX6
  have d0 : w5.cell? ⟨p2, 0, none⟩ = some (.slice a1 n1 c1) := HXc.out.b2.cell 0
  have r1 : w5.cell? ⟨p3, 1, none⟩ = some (.int .i64 kin) := HXc.out.b3.cell 1
  obtain ⟨B1, hB1⟩ : ∃ B, decide (kin < (n1 : Int)) = B := ⟨_, rfl⟩
  have dg : decide ((n1 : Int) > kin) = B1 := hB1
  go_upto_if 64 with fail
  have HB1 := hid hB1
  clear hB1 dg d0 r1
  go_cut [11, 12] from 65 to 68 (fun v11 v12 wc => ∃ fa fn fc sa sn sc, v11 = .slice fa fn fc ∧ v12 = .slice sa sn sc ∧ fn ≤ 131072 ∧ sn ≤ 131072 ∧ Hid (∃ FV SV, RowOf w 4 entC fa fn fc FV ∧ RowOf w 4 entC sa sn sc SV ∧ ordP V1 V2 kin kneg = G ++ FV.reverse ++ SV.reverse ∧ EX w p2 p3 (.slice a1 n1 c1) (.slice a2 n2 c2) (.slice a3 n3 c3) [.int .i64 ka, .int .i64 kin, .int .i64 kb, .int .i64 kneg] (.slice a6 n6 c6) G wc))
  case first =>
    as_aux_lemma =>
    cases B1 with
    | false =>
      have HF : Hid (∃ FV SV, RowOf w 4 entC a2 n2 c2 FV ∧ RowOf w 4 entC a1 n1 c1 SV ∧ ordP V1 V2 kin kneg = G ++ FV.reverse ++ SV.reverse ∧ EX w p2 p3 (.slice a1 n1 c1) (.slice a2 n2 c2) (.slice a3 n3 c3) [.int .i64 ka, .int .i64 kin, .int .i64 kb, .int .i64 kneg] (.slice a6 n6 c6) G w5) := hid ⟨V2, V1, HR2.out, HR1.out, by
        have h1 := of_decide_eq_false HB1.out
        rw [← HL.out.1] at h1
        unfold ordP
        rw [HGG.out, if_neg h1, List.append_assoc], HXc.out⟩
      clear HXc HGG
      go_wp2
      go_meet
      case rel => exact ⟨a2, n2, c2, a1, n1, c1, rfl, rfl, hn2, hn1, HF⟩
    | true =>
      have HF : ∀ nn, Hid (∃ FV SV, RowOf w 4 entC a1 n1 c1 FV ∧ RowOf w 4 entC a2 n2 c2 SV ∧ ordP V1 V2 kin kneg = G ++ FV.reverse ++ SV.reverse ∧ EX w p2 p3 (.slice a1 n1 c1) (.slice a2 n2 c2) (.slice a3 n3 c3) [.int .i64 ka, .int .i64 kin, .int .i64 kb, .int .i64 kneg] (.slice a6 n6 c6) G (w5.drewN nn)) := fun nn => hid ⟨V1, V2, HR1.out, HR2.out, by
        have h1 := of_decide_eq_true HB1.out
        rw [← HL.out.1] at h1
        unfold ordP
        rw [HGG.out, if_pos h1, List.append_assoc], HXc.out.below (Drew.below ⟨nn, rfl⟩ _)⟩
      have t0 : ∀ nn, (w5.drewN nn).cell? ⟨p2, 0, none⟩ = some (.slice a1 n1 c1) := fun nn => HXc.out.b2.cell 0
      have t1 : ∀ nn, (w5.drewN nn).cell? ⟨p2, 1, none⟩ = some (.slice a2 n2 c2) := fun nn => HXc.out.b2.cell 1
      clear HXc HGG
      go_upto_region 17 with fail
      go_quiet (fail)
      go_wp2_with fail
      go_meet
      case rel => exact ⟨a1, n1, c1, a2, n2, c2, rfl, rfl, hn1, hn2, HF _⟩
  case rest =>
  as_aux_lemma =>
  obtain ⟨fa, fn, fc, sa, sn, sc, rfl, rfl, hfn, hsn, HC⟩ := hcut
  clear HXc HGG HB1
  obtain ⟨FV, SV, hf, hs, hord, hx⟩ := HC.out
  have HFR := hid hf
  have HSR := hid hs
  have HO := hid hord
  have HXd := hid hx
  have HLf : Hid (FV.length = fn ∧ SV.length = sn) := hid ⟨hf.1, hs.1⟩
  clear hf hs hord hx HC HR1 HR2
  obtain ⟨w5, hw5⟩ : ∃ wx, wx = wc := ⟨_, rfl⟩
  subst hw5
  go_upto_region 19 with fail
  go_loopw [6, 13] (fun v6 v wr => ∃ z : Int, v = .int .i64 z ∧ ∃ a6 n6 c6, v6 = .slice a6 n6 c6 ∧ Hid (∃ m : Nat, m ≤ fn ∧ z = (m : Int) - 1 ∧ EX w p2 p3 (.slice a1 n1 c1) (.slice a2 n2 c2) (.slice a3 n3 c3) [.int .i64 ka, .int .i64 kin, .int .i64 kb, .int .i64 kneg] (.slice a6 n6 c6) (G ++ (FV.drop m).reverse) wr)) (fun _ v _ => (intOf v + 1).toNat)
  case atStart => exact ⟨(fn : Int) - 1, by go_num, a6, n6, c6, rfl, hid ⟨fn, by omega, rfl, by rw [List.drop_eq_nil_of_le (by have := HLf.out; omega), List.reverse_nil, List.append_nil]; exact HXd.out⟩⟩
  case round =>
  clear HXd
  obtain ⟨z2, rfl, a6, n6, c6, rfl, HK⟩ := hrel
  obtain ⟨m, hm, hz2, hx6⟩ := HK.out
  have HX := hid hx6
  clear hx6 HK
  rcases m with _ | j
  rotate_left
  · as_aux_lemma =>
    have hz3 : z2 = (j : Int) := by omega
    clear hz2
    subst hz3
    have dz1 : decide ((j : Int) ≥ 0) = true := decide_eq_true (by omega)
    have dz2 : decide ((0 : Int) ≤ (j : Int)) = true := decide_eq_true (by omega)
    have hjn : (j : Int) < (fn : Int) := by omega
    obtain ⟨t, b, off, ht, rfl, q0, q1, q2, q3⟩ := HX.out.at HFR.out (show j < fn by omega)
    have hdr := drop_rev ht
    have Hlen : Hid ((G ++ (FV.drop (j + 1)).reverse).length ≤ 1000000) := hid (by
      have := HLf.out
      simp only [List.length_append, List.length_reverse, List.length_drop]
      omega)
    have HLF : Hid (G ++ (FV.drop j).reverse = G ++ (FV.drop (j + 1)).reverse ++ [t]) := hid (by rw [hdr, ← List.append_assoc])
    clear hdr ht
    go_upto_region 21 with fail
    obtain ⟨w6, hw6⟩ : ∃ w6, wr.alloc (.cells #[.int .i64 t.slot, .int .u64 t.key, .int .i64 t.pins, .bool t.neg] 64) = w6 := ⟨_, rfl⟩
    have HX6 : Hid (EX w p2 p3 (.slice a1 n1 c1) (.slice a2 n2 c2) (.slice a3 n3 c3) [.int .i64 ka, .int .i64 kin, .int .i64 kb, .int .i64 kneg] (.slice a6 n6 c6) (G ++ (FV.drop (j + 1)).reverse) w6) := hid (by rw [← hw6]; exact HX.out.below (nbel wr _))
    have HNw := hid (newRow wr [.int .i64 t.slot, .int .u64 t.key, .int .i64 t.pins, .bool t.neg] 64 wr.heap.size rfl)
    have HlT : Hid ([.int .i64 t.slot, .int .u64 t.key, .int .i64 t.pins, .bool t.neg] = entC t) := hid (rfl)
    rw [show (wr.alloc (.cells [.int .i64 t.slot, .int .u64 t.key, .int .i64 t.pins, .bool t.neg].toArray 64)) = w6 from hw6] at HNw
    obtain ⟨p6, hp6⟩ : ∃ p, wr.heap.size = p := ⟨_, rfl⟩
    rw [hp6] at HNw
    have hbs : w.heap.size ≤ w6.heap.size := HX6.out.bel.size
    go_wp2_with (at_builtin; refine stopHere ?_)
    intro _
    (try simp only [hw6])
    refine wpList_append_row _ rfl (.tmp 76) (.tmp 81) 38 rfl w.heap.size 64 ie (.agg #[.int .i64 0, .int .u64 0, .int .i64 0, .bool false]) 4 32 Tryd.underlying38 IE.out.1 IE.out.2.1 IE.out.2.2.1 IE.out.2.2.2 rfl (by decide) (.slice a6 n6 c6) _ _ (by simp [Act.eval, Act.put]; done) HX6.out.ow (some ⟨p6, 0, none⟩) 1 1 (entC t) (by simp [Act.eval, Act.put]; done) rfl (fun h => by cases h) (by rw [← HlT.out]; exact HNw.out) (entC_one t) (by have := Hlen.out; omega) (by decide) hbs ?_
    intro v7 w7 hown7 hb7 hk7 hg7
    have HA7 := hid (⟨by have := hown7; rw [flatMap_snoc] at this; unfold OR; rw [List.length_append]; exact this, hb7, hk7, hg7⟩ : App w.heap.size 64 4 entC (.slice a6 n6 c6) ((G ++ (FV.drop (j + 1)).reverse) ++ [t]) w6 v7 w7)
    clear hown7 hb7 hk7 hg7
    obtain ⟨a7, n7, c7, h7⟩ := HA7.out.ow.shape
    subst h7
    have HX8 := hid (HX6.out.app HA7.out)
    clear HA7 HX6 HNw HlT hw6 hp6 hbs
    have HF : Hid (∃ m : Nat, m ≤ fn ∧ (j : Int) - 1 = (m : Int) - 1 ∧ EX w p2 p3 (.slice a1 n1 c1) (.slice a2 n2 c2) (.slice a3 n3 c3) [.int .i64 ka, .int .i64 kin, .int .i64 kb, .int .i64 kneg] (.slice a7 n7 c7) (G ++ (FV.drop m).reverse) w7) := hid ⟨j, by omega, rfl, by
      rw [HLF.out]
      exact HX8.out⟩
    clear HX8 HX HLF Hlen q0 q1 q2 q3
    go_wp2
    exact ⟨⟨(j : Int) - 1, by go_num, a7, n7, c7, rfl, HF⟩, by simp [intOf]; try omega⟩
  have hz3 : z2 = -1 := by omega
  clear hz2 hm
  subst hz3
  have dz1 : decide ((-1 : Int) ≥ 0) = false := by decide
  have dz2 : decide ((0 : Int) ≤ -1) = false := by decide
  have HXe : Hid (EX w p2 p3 (.slice a1 n1 c1) (.slice a2 n2 c2) (.slice a3 n3 c3) [.int .i64 ka, .int .i64 kin, .int .i64 kb, .int .i64 kneg] (.slice a6 n6 c6) (G ++ FV.reverse) wr) := hid HX.out
  clear HX
  obtain ⟨w6, hw6⟩ : ∃ wx, wx = wr := ⟨_, rfl⟩
  subst hw6
  go_upto_region 23 with fail
  go_loopw [6, 14] (fun v6 v wr => ∃ z : Int, v = .int .i64 z ∧ ∃ a6 n6 c6, v6 = .slice a6 n6 c6 ∧ Hid (∃ m : Nat, m ≤ sn ∧ z = (m : Int) - 1 ∧ EX w p2 p3 (.slice a1 n1 c1) (.slice a2 n2 c2) (.slice a3 n3 c3) [.int .i64 ka, .int .i64 kin, .int .i64 kb, .int .i64 kneg] (.slice a6 n6 c6) ((G ++ FV.reverse) ++ (SV.drop m).reverse) wr)) (fun _ v _ => (intOf v + 1).toNat)
  case atStart => exact ⟨(sn : Int) - 1, by go_num, a6, n6, c6, rfl, hid ⟨sn, by omega, rfl, by rw [List.drop_eq_nil_of_le (by have := HLf.out; omega), List.reverse_nil, List.append_nil]; exact HXe.out⟩⟩
  case round =>
  clear HXe
  obtain ⟨z2, rfl, a6, n6, c6, rfl, HK⟩ := hrel
  obtain ⟨m, hm, hz2, hx6⟩ := HK.out
  have HX := hid hx6
  clear hx6 HK
  rcases m with _ | j
  rotate_left
  · as_aux_lemma =>
    have hz3 : z2 = (j : Int) := by omega
    clear hz2
    subst hz3
    have dz1 : decide ((j : Int) ≥ 0) = true := decide_eq_true (by omega)
    have dz2 : decide ((0 : Int) ≤ (j : Int)) = true := decide_eq_true (by omega)
    have hjn : (j : Int) < (sn : Int) := by omega
    obtain ⟨t, b, off, ht, rfl, q0, q1, q2, q3⟩ := HX.out.at HSR.out (show j < sn by omega)
    have hdr := drop_rev ht
    have Hlen : Hid (((G ++ FV.reverse) ++ (SV.drop (j + 1)).reverse).length ≤ 1000000) := hid (by
      have := HLf.out
      simp only [List.length_append, List.length_reverse, List.length_drop]
      omega)
    have HLF : Hid ((G ++ FV.reverse) ++ (SV.drop j).reverse = (G ++ FV.reverse) ++ (SV.drop (j + 1)).reverse ++ [t]) := hid (by rw [hdr, ← List.append_assoc])
    clear hdr ht
    go_upto_region 25 with fail
    obtain ⟨w6, hw6⟩ : ∃ w6, wr.alloc (.cells #[.int .i64 t.slot, .int .u64 t.key, .int .i64 t.pins, .bool t.neg] 64) = w6 := ⟨_, rfl⟩
    have HX6 : Hid (EX w p2 p3 (.slice a1 n1 c1) (.slice a2 n2 c2) (.slice a3 n3 c3) [.int .i64 ka, .int .i64 kin, .int .i64 kb, .int .i64 kneg] (.slice a6 n6 c6) ((G ++ FV.reverse) ++ (SV.drop (j + 1)).reverse) w6) := hid (by rw [← hw6]; exact HX.out.below (nbel wr _))
    have HNw := hid (newRow wr [.int .i64 t.slot, .int .u64 t.key, .int .i64 t.pins, .bool t.neg] 64 wr.heap.size rfl)
    have HlT : Hid ([.int .i64 t.slot, .int .u64 t.key, .int .i64 t.pins, .bool t.neg] = entC t) := hid (rfl)
    rw [show (wr.alloc (.cells [.int .i64 t.slot, .int .u64 t.key, .int .i64 t.pins, .bool t.neg].toArray 64)) = w6 from hw6] at HNw
    obtain ⟨p6, hp6⟩ : ∃ p, wr.heap.size = p := ⟨_, rfl⟩
    rw [hp6] at HNw
    have hbs : w.heap.size ≤ w6.heap.size := HX6.out.bel.size
    go_wp2_with (at_builtin; refine stopHere ?_)
    intro _
    (try simp only [hw6])
    refine wpList_append_row _ rfl (.tmp 90) (.tmp 95) 38 rfl w.heap.size 64 ie (.agg #[.int .i64 0, .int .u64 0, .int .i64 0, .bool false]) 4 32 Tryd.underlying38 IE.out.1 IE.out.2.1 IE.out.2.2.1 IE.out.2.2.2 rfl (by decide) (.slice a6 n6 c6) _ _ (by simp [Act.eval, Act.put]; done) HX6.out.ow (some ⟨p6, 0, none⟩) 1 1 (entC t) (by simp [Act.eval, Act.put]; done) rfl (fun h => by cases h) (by rw [← HlT.out]; exact HNw.out) (entC_one t) (by have := Hlen.out; omega) (by decide) hbs ?_
    intro v7 w7 hown7 hb7 hk7 hg7
    have HA7 := hid (⟨by have := hown7; rw [flatMap_snoc] at this; unfold OR; rw [List.length_append]; exact this, hb7, hk7, hg7⟩ : App w.heap.size 64 4 entC (.slice a6 n6 c6) (((G ++ FV.reverse) ++ (SV.drop (j + 1)).reverse) ++ [t]) w6 v7 w7)
    clear hown7 hb7 hk7 hg7
    obtain ⟨a7, n7, c7, h7⟩ := HA7.out.ow.shape
    subst h7
    have HX8 := hid (HX6.out.app HA7.out)
    clear HA7 HX6 HNw HlT hw6 hp6 hbs
    have HF : Hid (∃ m : Nat, m ≤ sn ∧ (j : Int) - 1 = (m : Int) - 1 ∧ EX w p2 p3 (.slice a1 n1 c1) (.slice a2 n2 c2) (.slice a3 n3 c3) [.int .i64 ka, .int .i64 kin, .int .i64 kb, .int .i64 kneg] (.slice a7 n7 c7) ((G ++ FV.reverse) ++ (SV.drop m).reverse) w7) := hid ⟨j, by omega, rfl, by
      rw [HLF.out]
      exact HX8.out⟩
    clear HX8 HX HLF Hlen q0 q1 q2 q3
    go_wp2
    exact ⟨⟨(j : Int) - 1, by go_num, a7, n7, c7, rfl, HF⟩, by simp [intOf]; try omega⟩
  have hz3 : z2 = -1 := by omega
  clear hz2 hm
  subst hz3
  have dz1 : decide ((-1 : Int) ≥ 0) = false := by decide
  have dz2 : decide ((0 : Int) ≤ -1) = false := by decide
  have HXf : Hid (EX w p2 p3 (.slice a1 n1 c1) (.slice a2 n2 c2) (.slice a3 n3 c3) [.int .i64 ka, .int .i64 kin, .int .i64 kb, .int .i64 kneg] (.slice a6 n6 c6) ((G ++ FV.reverse) ++ SV.reverse) wr) := hid HX.out
  clear HX
  rw [← HO.out] at HXf
  obtain ⟨w7, hw7⟩ : ∃ wx, wx = wr := ⟨_, rfl⟩
  subst hw7
  have hol : (ordP V1 V2 kin kneg).length ≤ 1000000 := by
    rw [HO.out]
    simp only [List.length_append, List.length_reverse]
    have := HLf.out
    omega
  obtain ⟨a8, n8, c8, h8, r8⟩ := HXf.out.ow.row (by decide) (fun _ => rfl) (by omega)
  cases h8
  have HR8 := hid r8
  have hl8 : (ordP V1 V2 kin kneg).length = n6 := r8.1
  have HL8 := hid hl8
  rw [hl8] at hol
  have HB7 := hid HXf.out.bel
  clear r8 hl8 HO HLf HFR HSR HXf dz1 dz2
  go_upto_region 27 with fail
  go_loopw [99] (fun v wr => ∃ i : Nat, i ≤ n6 ∧ v = .int .i64 (i : Int) ∧ Hid (Below w7.heap.size w7 wr ∧ ∀ j, j < i → ∀ t, (ordP V1 V2 kin kneg)[j]? = some t → t.pins ≠ 0)) (fun v _ => n6 - (intOf v).toNat)
  case atStart => exact ⟨0, by omega, rfl, hid ⟨Below.refl _ _, fun j hj => by omega⟩⟩
  case round =>
  obtain ⟨i5, hi5, rfl, HQ⟩ := hrel
  by_cases hin : i5 < n6
  · as_aux_lemma =>
    have di : decide ((i5 : Int) < (n6 : Int)) = true := decide_eq_true (by omega)
    have hii : (i5 : Int) < (n6 : Int) := by omega
    obtain ⟨t, ht, b, off, rfl, hb, hc⟩ := (HR8.out.below HQ.out.1).cell hin
    have q0 : wr.cell? ⟨b, off + i5 * 4, none⟩ = some (.int .i64 t.slot) := by simpa [entC] using hc 0 (by omega)
    have q1 : wr.cell? ⟨b, off + i5 * 4 + 1, none⟩ = some (.int .u64 t.key) := by simpa [entC] using hc 1 (by omega)
    have q2 : wr.cell? ⟨b, off + i5 * 4 + 2, none⟩ = some (.int .i64 t.pins) := by simpa [entC] using hc 2 (by omega)
    have q3 : wr.cell? ⟨b, off + i5 * 4 + 3, none⟩ = some (.bool t.neg) := by simpa [entC] using hc 3 (by omega)
    have HT := hid ht
    obtain ⟨p9, hp9⟩ : ∃ p, wr.heap.size = p := ⟨_, rfl⟩
    obtain ⟨w9, hw9⟩ : ∃ w9, wr.alloc (.cells #[.int .i64 t.slot, .int .u64 t.key, .int .i64 t.pins, .bool t.neg] 64) = w9 := ⟨_, rfl⟩
    have HB9 : Hid (Below w7.heap.size w7 w9 ∧ Blk w9 p9 64 [.int .i64 t.slot, .int .u64 t.key, .int .i64 t.pins, .bool t.neg]) := hid (by
      have k1 := Blk.new wr [.int .i64 t.slot, .int .u64 t.key, .int .i64 t.pins, .bool t.neg] 64
      rw [hp9] at k1
      rw [← hw9]
      exact ⟨HQ.out.1.trans ((nbel wr _).mono HQ.out.1.size), k1⟩)
    clear hc ht hb
    go_upto_region 29 with fail
    try simp only [hw9]
    clear hw9 hp9 q0 q1 q2 q3
    have m0 : w9.cell? ⟨p9, 0, none⟩ = some (.int .i64 t.slot) := HB9.out.2.cell 0
    have m2 : w9.cell? ⟨p9, 2, none⟩ = some (.int .i64 t.pins) := HB9.out.2.cell 2
    by_cases hp : t.pins = 0
    · have HE : Hid (expP V1 V2 kin kneg = some t) := hid (by
        unfold expP
        exact find_first HT.out (decide_eq_true hp) (fun j hj u hu => decide_eq_false (HQ.out.2 j hj u hu)))
      have HBe := hid (HB7.out.trans (HB9.out.1.mono HB7.out.size))
      have dp : (t.pins == 0) = true := by rw [hp]; rfl
      clear hp HB9 HQ HR8
      go_wp2
      refine bodyPost_ret (results_tmp2 Tryd.results17 _ _ _) rfl ?_
      exact ⟨by rw [HE.out]; rfl, HBe.out⟩
    · have HF : Hid (Below w7.heap.size w7 w9 ∧ ∀ j, j < i5 + 1 → ∀ u, (ordP V1 V2 kin kneg)[j]? = some u → u.pins ≠ 0) := hid ⟨HB9.out.1, fun j hj u hu => by
        rcases Nat.lt_or_ge j i5 with h1 | h1
        · exact HQ.out.2 j h1 u hu
        · have h2 : j = i5 := by omega
          rw [h2, HT.out] at hu
          cases hu
          exact hp⟩
      have dp : (t.pins == 0) = false := by simpa using hp
      clear hp HB9 HQ HR8
      go_wp2
      exact ⟨⟨i5 + 1, by omega, by go_num, HF⟩, by simp [intOf]; omega⟩
  as_aux_lemma =>
  have di : decide ((i5 : Int) < (n6 : Int)) = false := decide_eq_false (by omega)
  have HE : Hid (expP V1 V2 kin kneg = none) := hid (by
    unfold expP
    rw [List.find?_eq_none]
    intro t ht
    obtain ⟨j, hj, e⟩ := List.mem_iff_getElem.1 ht
    have := HQ.out.2 j (by have := HL8.out; omega) t (by rw [List.getElem?_eq_getElem hj, e])
    simpa using this)
  have HBe := hid (HB7.out.trans (HQ.out.1.mono HB7.out.size))
  clear HQ HR8
  go_wp2
  refine bodyPost_ret (results_tmp2 Tryd.results17 _ _ _) rfl ?_
  exact ⟨by rw [HE.out]; rfl, HBe.out⟩
end
end Go.Proofs.Qxb6500892aDoor
