/- The law's own search: reach. -/
import Derived.Test.Qxb6500883aGreatDoorScUe
namespace Go.Proofs.Qxb6500883aGreatDoor
open Go.RowKit
set_option linter.unusedSimpArgs false
set_option linter.unusedVariables false
/-- What a search from i does to the marks. -/
structure DfP (T : TS) (i : Nat) (f f' : Nat → Bool) : Prop where
  m : ∀ j, f j = true → f' j = true
  ii : f' i = true
  s : ∀ j, f' j = true → f j = true ∨ Rch T i j
  c : ∀ j, f' j = true → f j = true ∨ ∀ p ∈ prI T j, f' p = true
/-- The search under way at i: its first parts ps are done. -/
structure DfI (T : TS) (i : Nat) (f : Nat → Bool) (ps : List Nat) (f' : Nat → Bool) : Prop where
  m : ∀ j, f j = true → f' j = true
  ii : f' i = true
  s : ∀ j, f' j = true → f j = true ∨ Rch T i j
  c : ∀ j, f' j = true → f j = true ∨ j = i ∨ ∀ p ∈ prI T j, f' p = true
  d : ∀ p ∈ ps, f' p = true
theorem Rch.trans {T : TS} {i j k : Nat} (h : Rch T i j) (g : Rch T j k) : Rch T i k := by
  induction g with
  | refl => exact h
  | step _ h2 ih => exact .step ih h2
theorem DfI.start {T : TS} {i : Nat} {f : Nat → Bool} : DfI T i f [] (fup f i true) := ⟨fun j hj => by
  by_cases e : j = i
  · subst e; exact fup_self _ _ _
  · rw [fup_ne _ _ e]; exact hj, fup_self _ _ _, fun j hj => by
  by_cases e : j = i
  · subst e; exact .inr .refl
  · rw [fup_ne _ _ e] at hj; exact .inl hj, fun j hj => by
  by_cases e : j = i
  · exact .inr (.inl e)
  · rw [fup_ne _ _ e] at hj; exact .inl hj, fun p hp => by cases hp⟩
theorem DfI.step {T : TS} {i p : Nat} {f f1 f2 : Nat → Bool} {ps : List Nat} (h : DfI T i f ps f1) (hp : p ∈ prI T i) (k : DfP T p f1 f2) : DfI T i f (ps ++ [p]) f2 := ⟨fun j hj => k.m j (h.m j hj), k.m i h.ii, fun j hj => by
  rcases k.s j hj with h1 | h1
  · exact h.s j h1
  · exact .inr ((Rch.step .refl hp).trans h1), fun j hj => by
  rcases k.c j hj with h1 | h1
  · rcases h.c j h1 with h2 | h2 | h2
    · exact .inl h2
    · exact .inr (.inl h2)
    · exact .inr (.inr (fun q hq => k.m q (h2 q hq)))
  · exact .inr (.inr h1), fun q hq => by
  rcases List.mem_append.1 hq with h1 | h1
  · exact k.m q (h.d q h1)
  · simp at h1; subst h1; exact k.ii⟩
theorem DfI.done {T : TS} {i : Nat} {f f' : Nat → Bool} (h : DfI T i f (prI T i) f') : DfP T i f f' := ⟨h.m, h.ii, h.s, fun j hj => by
  rcases h.c j hj with h1 | h1 | h1
  · exact .inl h1
  · subst h1; exact .inr h.d
  · exact .inr h1⟩
theorem DfP.refl {T : TS} {i : Nat} {f : Nat → Bool} (h : f i = true) : DfP T i f f := ⟨fun _ h => h, h, fun _ h => .inl h, fun _ h => .inl h⟩
theorem DfP.all {T : TS} {i : Nat} {f : Nat → Bool} (h : DfP T i (fun _ => false) f) (j : Nat) : f j = true ↔ Rch T i j := by
  refine ⟨fun hj => ?_, fun hj => ?_⟩
  · rcases h.s j hj with h1 | h1
    · cases h1
    · exact h1
  · induction hj with
    | refl => exact h.ii
    | @step a b _ h2 ih =>
      rcases h.c a ih with h3 | h3
      · cases h3
      · exact h3 b h2
/-- The marks' row under way, all else as in ws. -/
structure RcM (ws : World) (g n : Nat) (f : Nat → Bool) (w : World) : Prop where
  u : Upd g ws w
  r : RwBo w g n f
section
variable {τ : Rl} {w w0 ws w1 w2 : World} {tB g n pr pt pf : Nat} {V : TV} {T : TS} {f : Nat → Bool}
theorem RcM.below (h : RcM ws g n f w) (hb : Below w.heap.size w w2) : RcM ws g n f w2 := ⟨h.u.ofBelow hb, Blk.below h.r hb⟩
theorem RcM.set (h : RcM ws g n f w) {j : Nat} (hj : j < n) (x : Bool) : RcM ws g n (fup f j x) (w.setCell ⟨g, j, none⟩ (.bool x)) := ⟨h.u.setCell rfl _, h.r.set hj x⟩
theorem RcM.cell (h : RcM ws g n f w) {q : Nat} {v : Value} (hc : ws.cell? ⟨q, 0, none⟩ = some v) (hne : q ≠ g) : w.cell? ⟨q, 0, none⟩ = some v := by
  rw [keepCell _ (h.u.block q (block_lt_of_cell hc) hne)]; exact hc
def rchV (pr pt pf : Nat) : Value := .func (.func 39) #[] #[.pointer (some ⟨pr, 0, none⟩), .pointer (some ⟨pt, 0, none⟩), .pointer (some ⟨pf, 0, none⟩)]
set_option maxRecDepth 100000 in
set_option maxHeartbeats 4000000 in
theorem reach1 (h : TbM τ w0 tB V T) (hO : ∀ i x, T.types[i]? = some x → TyO T i x) (hT : PrLt T) (hpl : ∀ i, (prI T i).length ≤ 200000) (hnt : T.types.length ≤ 200000)
    (hb : Below w0.heap.size w0 ws) (hg : w0.heap.size ≤ g)
    (hr : ws.cell? ⟨pr, 0, none⟩ = some (.slice (some ⟨g, 0, none⟩) T.types.length T.types.length)) (ht : ws.cell? ⟨pt, 0, none⟩ = some (.pointer (some ⟨tB, 0, none⟩))) (hf : ws.cell? ⟨pf, 0, none⟩ = some (rchV pr pt pf)) (h1 : pr ≠ g) (h2 : pt ≠ g) (h3 : pf ≠ g)
    {i : Nat} (hi : i < T.types.length) {f : Nat → Bool} (hm : RcM ws g T.types.length f w)
    (ih : ∀ j, j < i → j < T.types.length → ∀ (f : Nat → Bool) (w : World), RcM ws g T.types.length f w → Calls Tryz.prog 39 #[.int .i32 (j : Int), .pointer (some ⟨pr, 0, none⟩), .pointer (some ⟨pt, 0, none⟩), .pointer (some ⟨pf, 0, none⟩)] w fun e w' => e = .returned (.tuple #[]) ∧ Hid (∃ f', RcM ws g T.types.length f' w' ∧ DfP T j f f' ∧ Upd g w w')) :
    Calls Tryz.prog 39 #[.int .i32 (i : Int), .pointer (some ⟨pr, 0, none⟩), .pointer (some ⟨pt, 0, none⟩), .pointer (some ⟨pf, 0, none⟩)] w fun e w' => e = .returned (.tuple #[]) ∧ Hid (∃ f', RcM ws g T.types.length f' w' ∧ DfP T i f f' ∧ Upd g w w') := by
  have HP : Hid (∀ (wz : World), Below w0.heap.size w0 wz → Calls Tryz.prog 32 #[.pointer (some ⟨tB, 0, none⟩), .slice none 0 0, .int .i32 (i : Int)] wz fun e w' => ∃ v, e = .returned v ∧ Hid (OwR rtId wz.heap.size w' v (prI T i) ∧ Below wz.heap.size wz w')) := hid (fun wz hz => by
    obtain ⟨x, hx⟩ : ∃ x, T.types[i]? = some x := ⟨_, List.getElem?_eq_getElem hi⟩
    rw [prI_get hx]
    have hh := partsW (h.below hz) hx (hO i x hx) wz none 0 0 [] (OwR.nil _ _ _) (Below.refl _ _) (by have := hpl i; rw [prI_get hx] at this; simp; omega)
    refine hh.mono ?_
    rintro e w' ⟨v, rfl, hv⟩
    exact ⟨v, rfl, hid ⟨hv.out.1, hv.out.2.1.below (fun g hg => by cases hg) (Nat.le_refl _)⟩⟩)
  have HBs : Hid (∀ {wz : World} {f : Nat → Bool}, RcM ws g T.types.length f wz → Below w0.heap.size w0 wz) := hid (fun hz => Below.updN hb hz.u hg hb.size)
  have HC : Hid (∀ {wz : World} {f : Nat → Bool}, RcM ws g T.types.length f wz → wz.cell? ⟨pr, 0, none⟩ = some (.slice (some ⟨g, 0, none⟩) T.types.length T.types.length) ∧ wz.cell? ⟨pt, 0, none⟩ = some (.pointer (some ⟨tB, 0, none⟩)) ∧ wz.cell? ⟨pf, 0, none⟩ = some (rchV pr pt pf)) := hid (fun hz => ⟨hz.cell hr h1, hz.cell ht h2, hz.cell hf h3⟩)
  obtain ⟨nt, hn⟩ : ∃ n, T.types.length = n := ⟨_, rfl⟩
  rw [hn] at hi hm ih HBs HC hnt ⊢
  have HM := hid hm
  have HIh := hid ih
  have HTt := hid hT
  have HPr := hid hpl
  obtain ⟨cr, ct, cff⟩ := HC.out hm
  have ci := hm.r.get hi
  have cz : w.frozen? ⟨g, i, none⟩ = false := Blk.frozen hm.r i
  have i1 : (i : Int) < (nt : Int) := by omega
  clear h hO hT hpl hb hg hr ht hf h1 h2 h3 hm ih hn
  cases hfi : f i with
  | true =>
    rw [hfi] at ci
    have HF : Hid (∃ f', RcM ws g nt f' w ∧ DfP T i f f' ∧ Upd g w w) := hid ⟨f, HM.out, DfP.refl hfi, Upd.refl _ _⟩
    clear HM hfi
    go_enter Tryz.func39, Tryz.ntmps39
    go_wp2
    exact bodyPost_end (v := .tuple #[]) (by simp [results, Tryz.results39, go_sem]) rfl ⟨rfl, HF⟩
  | false =>
  rw [hfi] at ci
  have HM1 : Hid (RcM ws g nt (fup f i true) (w.setCell ⟨g, i, none⟩ (.bool true)) ∧ Upd g w (w.setCell ⟨g, i, none⟩ (.bool true))) := hid ⟨HM.out.set hi true, (Upd.refl g w).setCell rfl _⟩
  clear HM hfi cff
  go_enter Tryz.func39, Tryz.ntmps39
  go_upto_region 2 with fail
  generalize hws : w.setCell _ _ = w1 at HM1 ⊢
  clear hws ci cz cr ct
  obtain ⟨cr, ct, cff⟩ := HC.out HM1.out.1
  clear cr cff
  have HA := hid (HP.out w1 (HBs.out HM1.out.1))
  go_wp2_with fail
  refine HA.out.mono ?_
  rintro e w3 ⟨v3, rfl, h3⟩
  clear HA ct
  obtain ⟨a3, q3, hv3⟩ := h3.out.1.shape
  have HM3 := hid (HM1.out.1.below h3.out.2)
  obtain ⟨qs, hqs⟩ : ∃ l, prI T i = l := ⟨_, rfl⟩
  obtain ⟨m3, hm3⟩ : ∃ k, (prI T i).length = k := ⟨_, rfl⟩
  have hm3b : m3 ≤ 200000 := by rw [← hm3]; exact HPr.out i
  have Hlt : Hid (∀ p ∈ qs, p < i ∧ p ∈ prI T i) := hid (fun p hp => ⟨HTt.out i p (by rw [hqs]; exact hp), by rw [hqs]; exact hp⟩)
  rw [hm3] at hv3
  rw [hqs] at hm3
  have Hm3 := hid hm3
  have Hqs := hid hqs
  have HO3 := h3.out.1
  rw [hqs] at HO3
  subst hv3
  have Hlo : Hid (Below w1.heap.size w1 w3) := hid h3.out.2
  have Hgl : Hid (g < w1.heap.size) := hid (Blk.lt HM1.out.1.r)
  have HI0 : Hid (OwR rtId w1.heap.size w3 (.slice a3 m3 q3) qs ∧ Upd g w w3 ∧ ∃ f', RcM ws g nt f' w3 ∧ DfI T i f (qs.take 0) f') := hid ⟨HO3, HM1.out.2.ofBelow h3.out.2, _, HM3.out, by rw [List.take_zero]; exact DfI.start⟩
  clear h3 hqs hm3 HO3 HM3 HM1 Hlo
  go_upto_region 3 with fail
  go_loopw [19] (fun t wr => ∃ (j : Nat), t = .int .i64 (j : Int) ∧ j ≤ m3 ∧ Hid (OwR rtId w1.heap.size wr (.slice a3 m3 q3) qs ∧ Upd g w wr ∧ ∃ f', RcM ws g nt f' wr ∧ DfI T i f (qs.take j) f')) (fun t _ => m3 - (intOf t).toNat)
  case atStart => exact ⟨0, rfl, Nat.zero_le _, HI0⟩
  case round =>
  obtain ⟨j, rfl, hj, HJ⟩ := hrel
  clear HI0
  by_cases hjn : j < m3
  rotate_left
  · have d2 : decide ((j : Int) < (m3 : Int)) = false := decide_eq_false (by omega)
    have HF : Hid (∃ f', RcM ws g nt f' wr ∧ DfP T i f f' ∧ Upd g w wr) := hid (by
      obtain ⟨_, h0, f', h1, h2⟩ := HJ.out
      rw [List.take_of_length_le (by rw [Hm3.out]; omega), ← Hqs.out] at h2
      exact ⟨f', h1, h2.done, h0⟩)
    clear HJ
    go_wp2
    exact bodyPost_end (v := .tuple #[]) (by simp [results, Tryz.results39, go_sem]) rfl ⟨rfl, HF⟩
  have d2 : decide ((j : Int) < (m3 : Int)) = true := decide_eq_true (by omega)
  have i3 : (j : Int) < (m3 : Int) := by omega
  obtain ⟨p, hp⟩ : ∃ p, qs[j]? = some p := ⟨_, List.getElem?_eq_getElem (by rw [Hm3.out]; exact hjn)⟩
  obtain ⟨hpi, hpm⟩ := Hlt.out p (List.mem_of_getElem? hp)
  obtain ⟨g5, ha5, hg5, hg6, c5⟩ := HJ.out.1.id hp
  obtain ⟨hu1, f1, hm1, hd1⟩ := HJ.out.2
  have HU1 := hid hu1
  obtain ⟨_, _, cff0⟩ := HC.out hm1
  have cff : wr.cell? ⟨pf, 0, none⟩ = some (.func (.func 39) #[] #[.pointer (some ⟨pr, 0, none⟩), .pointer (some ⟨pt, 0, none⟩), .pointer (some ⟨pf, 0, none⟩)]) := cff0
  clear cff0
  have HA := hid (HIh.out p hpi (by omega) f1 wr hm1)
  have HO := hid HJ.out.1
  have Htk : Hid (qs.take (j + 1) = qs.take j ++ [p]) := hid (by rw [List.take_add_one, hp]; rfl)
  have Hd1 := hid hd1
  have Hp := hid hpm
  subst ha5
  clear HJ hp hm1 hd1 hpm hu1
  go_wp2_with fail
  refine HA.out.mono ?_
  rintro e w5 ⟨rfl, h5⟩
  clear HA
  have HE : Hid (OwR rtId w1.heap.size w5 (.slice (some ⟨g5, 0, none⟩) m3 q3) qs ∧ Upd g w w5 ∧ ∃ f', RcM ws g nt f' w5 ∧ DfI T i f (qs.take (j + 1)) f') := hid (by
    obtain ⟨f2, hm2, hd2, hu2⟩ := h5.out
    exact ⟨HO.out.upd hu2 (fun k hk => by have := HO.out.hi k hk; have := Hgl.out; omega), HU1.out.trans hu2, f2, hm2, by rw [Htk.out]; exact Hd1.out.step Hp.out hd2⟩)
  clear h5 HO HU1 Hd1 Htk c5 cff
  go_wp2
  exact ⟨⟨j + 1, by go_num, by omega, HE⟩, by simp [intOf]; omega⟩
set_option maxRecDepth 100000 in
set_option maxHeartbeats 4000000 in
theorem reachW (h : TbM τ w0 tB V T) (hO : ∀ i x, T.types[i]? = some x → TyO T i x) (hT : PrLt T) (hpl : ∀ i, (prI T i).length ≤ 200000) (hnt : T.types.length ≤ 200000)
    (hb : Below w0.heap.size w0 ws) (hg : w0.heap.size ≤ g)
    (hr : ws.cell? ⟨pr, 0, none⟩ = some (.slice (some ⟨g, 0, none⟩) T.types.length T.types.length)) (ht : ws.cell? ⟨pt, 0, none⟩ = some (.pointer (some ⟨tB, 0, none⟩))) (hf : ws.cell? ⟨pf, 0, none⟩ = some (rchV pr pt pf)) (h1 : pr ≠ g) (h2 : pt ≠ g) (h3 : pf ≠ g) :
    ∀ (b i : Nat), i ≤ b → i < T.types.length → ∀ (f : Nat → Bool) (w : World), RcM ws g T.types.length f w → Calls Tryz.prog 39 #[.int .i32 (i : Int), .pointer (some ⟨pr, 0, none⟩), .pointer (some ⟨pt, 0, none⟩), .pointer (some ⟨pf, 0, none⟩)] w fun e w' => e = .returned (.tuple #[]) ∧ Hid (∃ f', RcM ws g T.types.length f' w' ∧ DfP T i f f' ∧ Upd g w w') := by
  intro b
  induction b with
  | zero =>
    intro i hib hi f w hm
    exact reach1 h hO hT hpl hnt hb hg hr ht hf h1 h2 h3 hi hm (fun j hj _ f w _ => absurd hj (by omega))
  | succ b ih =>
    intro i hib hi f w hm
    exact reach1 h hO hT hpl hnt hb hg hr ht hf h1 h2 h3 hi hm (fun j hj hj2 f w hm => ih j (by omega) hj2 f w hm)
end
end Go.Proofs.Qxb6500883aGreatDoor
