/- What the laws read: Fresh, allFresh, allLogs; the law's own copy of the words. -/
import Derived.Test.Qxb6500888aBaQ3
import Derived.Test.Qxb6500888aCopy
namespace Go.Proofs.Qxb6500888a
open Go.RowKit
set_option linter.unusedSimpArgs false
set_option linter.unusedVariables false

/-- A map of truths as a set. -/
def bsF (s : Nat → Bool) : Nat → Option Value := fun a => if s a = true then some (.bool true) else none
def BF (w : World) (m : Nat) (s : Nat → Bool) : Prop := MF w m (bsF s)
theorem zero_bool (w : World) : (zeroValue 4).run Try.prog w = .ok (.bool false) w := by kernel_rfl
section
variable {w w' : World} {m : Nat} {s : Nat → Bool}
theorem BF.new (w : World) {m : Nat} (hm : w.heap.size = m) : BF (w.alloc (.map #[] 0)) m (fun _ => false) := MF.new w hm
theorem BF.congr {t : Nat → Bool} (h : BF w m s) (ht : ∀ a, t a = s a) : BF w m t := by
  have : t = s := funext ht
  rw [this]
  exact h
theorem BF.look (h : BF w m s) (k : Nat) : (Instr.lookup 45 (.map (some m)) (.int .u64 (k : Int)) false).run Try.prog w = .ok (.bool (s k)) w := by
  have := MF.look (P := Try.prog) (mt := 45) (kt := 48) (vt := 4) Try.underlying45 Try.underlying48 h k zero_bool
  rw [this]
  unfold bsF
  cases s k <;> rfl
theorem BF.put (h : BF w m s) (k : Nat) : ∃ w', (Instr.mapUpdate 45 (.map (some m)) (.int .u64 (k : Int)) (.bool true)).run Try.prog w = .ok () w' ∧ BF w' m (fup s k true) ∧ Upd m w w' := by
  obtain ⟨w', g1, g2, g3⟩ := MF.put (P := Try.prog) (mt := 45) (kt := 48) (vt := 4) Try.underlying45 Try.underlying48 h k (.bool true)
  refine ⟨w', g1, g2.congr (fun a => ?_), g3⟩
  unfold bsF
  by_cases e : a = k
  · subst e; rw [fup_self, fup_self]; rfl
  · rw [fup_ne _ _ e, fup_ne _ _ e]
end
section
variable {w w' : World} {wB : Nat} {ρ ρ' : Rl} {L : GL} {T : BL} {G : GS} {B : BS}
set_option maxRecDepth 1000000 in
set_option maxHeartbeats 2000000 in
theorem fresh_walk (h : BM w ρ L T G B) {m : Nat} (hm : m < 4) (hn : (B.fresh m).length ≤ 1000000000) :
    Calls Try.prog 69 #[.pointer (some ⟨T.bB, 0, none⟩), .int .i64 (m : Int)] w fun e w' => ∃ v, e = .returned (.tuple #[v, .int .u8 0]) ∧ OwR rtA w.heap.size w' v (B.fresh m) ∧ Below w.heap.size w w' := by
  have HM := hid (mutator_ok T.bB hm w)
  have c1 := h.fcell hm
  have hrow := h.fr m hm
  obtain ⟨ax, cq, hv⟩ := hrow.shape
  rw [hv] at hrow c1
  have hsrc := hrow.src
  have Hn := hid hn
  clear h hv hrow hm hn
  go_enter Try.func69, Try.ntmps69
  go_wp2_with fail
  refine HM.out.mono ?_
  rintro e1 w1 ⟨rfl, rfl⟩
  clear HM
  go_wp2_with (at_builtin; refine stopHere ?_)
  intro _
  refine wpList_app_l okA rfl _ _ (OwR.nil rtA w1.heap.size w1) rfl (B.fresh m) rfl ax (B.fresh m).length cq rfl rfl (fun h => hsrc.2.1 h) hsrc.1 (by have := Hn.out; show (0 + _) * 8 ≤ _; omega) (Nat.le_refl _) ?_
  intro v3 w3 hr3 hk3 hg3
  have HR : Hid (∃ v, Ending.returned (.tuple #[v3, .int .u8 0]) = .returned (.tuple #[v, .int .u8 0]) ∧ OwR rtA w1.heap.size w3 v (B.fresh m) ∧ Below w1.heap.size w1 w3) := hid ⟨v3, rfl, hr3.out, hk3.out.below (fun g hg => by cases hg) (Nat.le_refl _)⟩
  clear hsrc c1 hr3 hk3 hg3
  go_wp2
  exact bodyPost_ret (v := .tuple #[v3, .int .u8 0]) (by simp [results, Try.results69, go_sem]) rfl HR.out
/-- The set of new objects under way. -/
structure FsI (w : World) (mB : Nat) (s : Nat → Bool) (wr : World) : Prop where
  bf : BF wr mB s
  bel : Below w.heap.size w wr
  lo : w.heap.size ≤ mB
theorem FsI.below {mB : Nat} {s : Nat → Bool} {wr : World} (h : FsI w mB s wr) (hb : Below wr.heap.size wr w') : FsI w mB s w' := ⟨MF.below h.bf hb, h.bel.trans (hb.mono h.bel.size), h.lo⟩
theorem FsI.put {mB : Nat} {s : Nat → Bool} {wr : World} (h : FsI w mB s wr) (k : Nat) : ∃ w', (Instr.mapUpdate 45 (.map (some mB)) (.int .u64 (k : Int)) (.bool true)).run Try.prog wr = .ok () w' ∧ FsI w mB (fup s k true) w' ∧ Upd mB wr w' := by
  obtain ⟨w', h1, h2, h3⟩ := h.bf.put k
  exact ⟨w', h1, ⟨h2, h.bel.trans (h3.below h.lo h.bel.size), h.lo⟩, h3⟩
def frK (B : BS) (k : Nat) : List Nat := (List.range k).flatMap B.fresh
theorem frK_s (B : BS) (k : Nat) : frK B (k + 1) = frK B k ++ B.fresh k := by
  unfold frK
  rw [List.range_succ, List.flatMap_append]
  simp
def inB (xs : List Nat) : Nat → Bool := fun a => decide (a ∈ xs)
theorem inB_add (xs : List Nat) (y : Nat) : fup (inB xs) y true = inB (xs ++ [y]) := by
  funext a
  unfold inB
  by_cases e : a = y
  · subst e; rw [fup_self]; simp
  · rw [fup_ne _ _ e]; simp [e]
theorem OwR.rdA {n0 : Nat} {v : Value} {xs : List Nat} (h : OwR rtA n0 w v xs) : ∃ a q, v = .slice a xs.length q ∧ ∀ (i x : Nat), xs[i]? = some x → ∃ g, a = some ⟨g, 0, none⟩ ∧ n0 ≤ g ∧ g < w.heap.size ∧ w.cell? ⟨g, i, none⟩ = some (.int .u64 (x : Int)) := by
  obtain ⟨a, q, rfl⟩ := h.shape
  refine ⟨a, q, rfl, fun i x hx => ?_⟩
  obtain ⟨g, q', e, hg, hcell⟩ := h.rx.get (K := rtA) (by decide) (fun _ => rfl) hx
  injection e with e1 e2 e3
  have h0 := hcell 0 (by decide)
  have e4 : i * rtA.n + 0 = i := by show i * 1 + 0 = i; omega
  rw [e4] at h0
  subst e1
  exact ⟨g, rfl, h.hi g rfl, hg, h0⟩
set_option maxRecDepth 1000000 in
set_option maxHeartbeats 2000000 in
theorem allFresh_walk (h : WM w ρ L T G B wB) (hn : ∀ m, (B.fresh m).length ≤ 1000000000) :
    Calls Try.prog 29 #[.pointer (some ⟨wB, 0, none⟩)] w fun e w' => ∃ mB, e = .returned (.map (some mB)) ∧ FsI w mB (inB (frK B 4)) w' := by
  have HH := hid h
  have Hn := hid hn
  clear h hn
  have hmk := @run_makeMap Try.prog
  obtain ⟨mB, hmB⟩ : ∃ x, w.heap.size = x := ⟨_, rfl⟩
  have HI0 : Hid (FsI w mB (inB (frK B 0)) (w.alloc (.map #[] 0))) := hid ⟨(BF.new w hmB).congr (fun a => rfl), nbel w _, by omega⟩
  go_enter Try.func29, Try.ntmps29
  go_upto_region 2 with fail
  try simp only [hmB]
  generalize w.alloc (.map #[] 0) = w2 at HI0 ⊢
  clear hmk hmB
  go_wp2_with fail
  go_loopw [4] (fun v4 wr => ∃ k : Nat, k ≤ 4 ∧ v4 = .int .i64 (k : Int) ∧ Hid (FsI w mB (inB (frK B k)) wr)) (fun v _ => 4 - (intOf v).toNat)
  case atStart => exact ⟨0, by omega, rfl, HI0⟩
  case round =>
  clear HI0
  obtain ⟨k, hk, rfl, HI⟩ := hrel
  by_cases hk4 : k < 4
  · as_aux_lemma =>
    have dk : decide ((k : Int) < 4) = true := decide_eq_true (by omega)
    have ik : (k : Int) < 4 := by omega
    have HW := hid (HH.out.below HI.out.bel)
    have c1 := HW.out.cells.2.2.2
    have HR := hid (fresh_walk HW.out.bm hk4 (Hn.out k))
    go_wp2_with fail
    refine HR.out.mono ?_
    rintro e2 w2 ⟨v2, rfl, h2, hb2⟩
    obtain ⟨a, q, rfl, hget⟩ := h2.rdA
    obtain ⟨n, hnn⟩ : ∃ n, (B.fresh k).length = n := ⟨_, rfl⟩
    have in_ : (n : Int) ≤ 1000000000 := by have := Hn.out k; omega
    have HJ0 : Hid (FsI w mB (inB (frK B k ++ (B.fresh k).take 0)) w2) := hid (by
      rw [List.take_zero, List.append_nil]
      exact HI.out.below hb2)
    have HG : Hid (∀ wx : World, (∀ g, g < w2.heap.size → g ≠ mB → wx.heap[g]? = w2.heap[g]?) → ∀ i x : Nat, (B.fresh k)[i]? = some x → ∃ g, a = some ⟨g, 0, none⟩ ∧ wx.cell? ⟨g, i, none⟩ = some (.int .u64 (x : Int))) := hid (fun wx hx i x hix => by
      obtain ⟨g, e1, e2, e3, e4⟩ := hget i x hix
      refine ⟨g, e1, ?_⟩
      have hmb : mB < wr.heap.size := MF.lt HI.out.bf
      rw [World.cell?_of_block (hx g e3 (by omega))]
      exact e4)
    have Hnn := hid hnn
    rw [hnn]
    clear h2 hb2 hget hnn HI HR HW c1
    go_wp2_with fail
    go_loopw [25] (fun v wr => ∃ i : Nat, i ≤ n ∧ v = .int .i64 (i : Int) ∧ Hid (FsI w mB (inB (frK B k ++ (B.fresh k).take i)) wr) ∧ Hid (∀ g, g < w2.heap.size → g ≠ mB → wr.heap[g]? = w2.heap[g]?) ∧ Hid (w2.heap.size ≤ wr.heap.size)) (fun v _ => n - (intOf v).toNat)
    case atStart => exact ⟨0, by omega, rfl, HJ0, hid (fun g _ _ => rfl), hid (Nat.le_refl _)⟩
    case round =>
    clear HJ0
    obtain ⟨i, hi, rfl, HJ, HX, HZ⟩ := hrel
    by_cases hin : i < n
    · as_aux_lemma =>
      have di : decide ((i : Int) < (n : Int)) = true := decide_eq_true (by omega)
      have hii : (i : Int) < (n : Int) := by omega
      obtain ⟨x, hx⟩ : ∃ x, (B.fresh k)[i]? = some x := ⟨(B.fresh k)[i]'(by rw [Hnn.out]; exact hin), List.getElem?_eq_getElem _⟩
      obtain ⟨g, rfl, hc⟩ := HG.out _ HX.out i x hx
      obtain ⟨w3, hput, h3, hu3⟩ := HJ.out.put x
      have HJ3 : Hid (FsI w mB (inB (frK B k ++ (B.fresh k).take (i + 1))) w3) := hid (by
        rw [List.take_add_one, hx, Option.toList_some, ← List.append_assoc, ← inB_add]
        exact h3)
      have HX3 : Hid (∀ g, g < w2.heap.size → g ≠ mB → w3.heap[g]? = w2.heap[g]?) := hid (fun g' h1 h2 => by
        rw [hu3.block g' (by have := HZ.out; omega) h2]
        exact HX.out g' h1 h2)
      have HZ3 : Hid (w2.heap.size ≤ w3.heap.size) := hid (Nat.le_trans HZ.out hu3.size)
      clear h3 hu3 HJ HX HZ hx
      go_wp2
      exact ⟨⟨i + 1, by omega, by go_num, HJ3, HX3, HZ3⟩, by simp [intOf]; omega⟩
    · as_aux_lemma =>
      have di : decide ((i : Int) < (n : Int)) = false := decide_eq_false (by omega)
      have HJ3 : Hid (FsI w mB (inB (frK B (k + 1))) wr) := hid (by
        have h1 := HJ.out
        rw [List.take_of_length_le (by rw [Hnn.out]; omega)] at h1
        rw [frK_s]
        exact h1)
      clear HJ HX HZ HG
      go_wp2
      exact ⟨⟨k + 1, by omega, by go_num, HJ3⟩, by simp [intOf]; omega⟩
  · as_aux_lemma =>
    have dk : decide ((k : Int) < 4) = false := decide_eq_false (by omega)
    obtain rfl : k = 4 := by omega
    go_wp2
    go_ret
    exact ⟨mB, rfl, HI.out⟩
def lgK (B : BS) (k : Nat) : List (Nat × Nat) := (List.range k).flatMap B.logs
theorem lgK_s (B : BS) (k : Nat) : lgK B (k + 1) = lgK B k ++ B.logs k := by
  unfold lgK
  rw [List.range_succ, List.flatMap_append]
  simp
theorem lgK_len (h : ∀ m, (B.logs m).length ≤ 1000000000) : ∀ k, (lgK B k).length ≤ 1000000000 * k
  | 0 => by simp [lgK]
  | k + 1 => by
    rw [lgK_s, List.length_append]
    have := lgK_len h k
    have := h k
    omega
/-- All logs under way. -/
structure LaI (w : World) (B : BS) (k : Nat) (v : Value) (wr : World) : Prop where
  row : OwR rtE w.heap.size wr v (lgK B k)
  bel : Below w.heap.size w wr
def OwE (w : World) (xs : List (Nat × Nat)) (e : Ending) (w' : World) : Prop := ∃ v, e = .returned v ∧ OwR rtE w.heap.size w' v xs ∧ Below w.heap.size w w'
set_option maxRecDepth 1000000 in
set_option maxHeartbeats 2000000 in
theorem allLogs_walk (h : WM w ρ L T G B wB) (hn : ∀ m, (B.logs m).length ≤ 1000000000) :
    Calls Try.prog 23 #[.pointer (some ⟨wB, 0, none⟩)] w fun e w' => OwE w (lgK B 4) e w' := by
  have HH := hid h
  have Hrl := hid hn
  clear h hn
  have HI0 : Hid (LaI w B 0 (.slice none 0 0) w) := hid ⟨OwR.nil _ _ _, Below.refl _ _⟩
  go_enter Try.func23, Try.ntmps23
  go_wp2_with fail
  go_loopw [3, 4] (fun v3 v4 wr => ∃ (k n c : Nat) (a : Option Addr), k ≤ 4 ∧ v4 = .int .i64 (k : Int) ∧ v3 = .slice a n c ∧ Hid (LaI w B k (.slice a n c) wr)) (fun _ v _ => 4 - (intOf v).toNat)
  case atStart => exact ⟨0, 0, 0, none, by omega, rfl, rfl, HI0⟩
  case round =>
  clear HI0
  obtain ⟨k, n, c, a, hk, rfl, rfl, HI⟩ := hrel
  by_cases hk4 : k < 4
  · as_aux_lemma =>
    have dk : decide ((k : Int) < 4) = true := decide_eq_true (by omega)
    have ik : (k : Int) < 4 := by omega
    have HW := hid (HH.out.below HI.out.bel)
    have c1 := HW.out.cells.2.2.2
    have HR := hid (log_walk HW.out.bm hk4 (Hrl.out k))
    go_wp2_with fail
    refine HR.out.mono ?_
    rintro e2 w2 ⟨v2, rfl, h2, hb2⟩
    obtain ⟨a2, q2, rfl⟩ := h2.shape
    have HI2 : Hid (LaI w B k (.slice a n c) w2) := hid ⟨HI.out.row.below hb2, HI.out.bel.trans (hb2.mono HI.out.bel.size)⟩
    have hsrc := h2.rx.src
    clear HI HR HW c1
    go_wp2_with (at_builtin; refine stopHere ?_)
    intro _
    refine wpList_app_l okE rfl _ _ HI2.out.row rfl (B.logs k) rfl a2 (B.logs k).length q2 rfl rfl (fun h => hsrc.2.1 h) hsrc.1 (by
      have := Hrl.out k
      have := lgK_len Hrl.out k
      show ((lgK B k).length + (B.logs k).length) * 16 ≤ _
      omega) HI2.out.bel.size ?_
    intro v3 w3 hr3 hk3 hg3
    obtain ⟨a3, q3, rfl⟩ := hr3.out.shape
    have HI3 : Hid (LaI w B (k + 1) (.slice a3 (lgK B k ++ B.logs k).length q3) w3) := hid (by
      refine ⟨by rw [lgK_s]; exact hr3.out, HI2.out.bel.trans (hk3.out.below HI2.out.row.hi HI2.out.bel.size)⟩)
    generalize (lgK B k ++ B.logs k).length = n3 at HI3 ⊢
    clear HI2 hr3 hk3 hg3 hsrc h2 hb2
    go_wp2
    exact ⟨⟨k + 1, n3, q3, a3, by omega, by go_num, rfl, HI3⟩, by simp [intOf]; omega⟩
  · as_aux_lemma =>
    have dk : decide ((k : Int) < 4) = false := decide_eq_false (by omega)
    obtain rfl : k = 4 := by omega
    go_wp2
    go_ret
    exact ⟨_, rfl, HI.out.row, HI.out.bel⟩
end
end Go.Proofs.Qxb6500888a
