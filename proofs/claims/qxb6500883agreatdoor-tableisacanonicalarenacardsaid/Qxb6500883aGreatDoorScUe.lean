/- Within: plainly, and walked. -/
import Derived.Test.Qxb6500883aGreatDoorScUd
namespace Go.Proofs.Qxb6500883aGreatDoor
open Go.RowKit
set_option linter.unusedSimpArgs false
set_option linter.unusedVariables false
/-- The parts of the type at i. -/
def prI (T : TS) (i : Nat) : List Nat := match T.types[i]? with | some x => prtT T x | none => []
theorem prI_get {T : TS} {i : Nat} {x : TR} (h : T.types[i]? = some x) : prI T i = prtT T x := by unfold prI; rw [h]
/-- Root, or a part of it at any depth. -/
inductive Rch (T : TS) (r : Nat) : Nat → Prop
  | refl : Rch T r r
  | step {i j : Nat} : Rch T r i → j ∈ prI T i → Rch T r j
/-- Parts stand before wholes. -/
def PrLt (T : TS) : Prop := ∀ i, ∀ j ∈ prI T i, j < i
theorem Rch.le {T : TS} {r j : Nat} (hT : PrLt T) (h : Rch T r j) : j ≤ r := by
  induction h with
  | refl => exact Nat.le_refl _
  | step _ h1 ih => have := hT _ _ h1; omega
/-- Some marked. -/
def mrk (f : Nat → Bool) (ps : List Nat) : Nat → Bool := fun j => f j || decide (j ∈ ps)
theorem mrk_nil (f : Nat → Bool) : mrk f [] = f := by funext j; simp [mrk]
theorem mrk_snoc (f : Nat → Bool) (ps : List Nat) (p : Nat) : mrk f (ps ++ [p]) = fup (mrk f ps) p true := by
  funext j
  unfold mrk fup
  by_cases h : j = p
  · subst h; simp
  · simp [h]
/-- The sweep downward from root, k types done. -/
structure WiI (T : TS) (r : Nat) (k : Nat) (f : Nat → Bool) : Prop where
  rt : f r = true
  s : ∀ j, f j = true → Rch T r j
  c : ∀ i, r < i + k → i ≤ r → f i = true → ∀ j ∈ prI T i, f j = true
theorem WiI.zero (T : TS) (r : Nat) : WiI T r 0 (fup (fun _ => false) r true) := ⟨fup_self _ _ _, fun j hj => by
  by_cases h : j = r
  · subst h; exact .refl
  · rw [fup_ne _ _ h] at hj; exact absurd hj (by decide), fun i h1 h2 => by omega⟩
theorem WiI.skip {T : TS} {r k i : Nat} {f : Nat → Bool} (h : WiI T r k f) (hi : i + k = r) (hf : f i = false) : WiI T r (k + 1) f := ⟨h.rt, h.s, fun i' h1 h2 h3 => by
  by_cases e : i' = i
  · subst e; rw [hf] at h3; cases h3
  · exact h.c i' (by omega) h2 h3⟩
theorem WiI.take {T : TS} {r k i : Nat} {f : Nat → Bool} (hT : PrLt T) (h : WiI T r k f) (hi : i + k = r) (hf : f i = true) : WiI T r (k + 1) (mrk f (prI T i)) := ⟨by unfold mrk; rw [h.rt]; rfl, fun j hj => by
  unfold mrk at hj
  rw [Bool.or_eq_true] at hj
  rcases hj with h1 | h1
  · exact h.s j h1
  · exact .step (h.s i hf) (of_decide_eq_true h1), fun i' h1 h2 h3 j hj => by
  unfold mrk
  rw [Bool.or_eq_true]
  by_cases e : i' = i
  · subst e; exact .inr (decide_eq_true hj)
  · refine .inl (h.c i' (by omega) h2 ?_ j hj)
    unfold mrk at h3
    rw [Bool.or_eq_true] at h3
    rcases h3 with h4 | h4
    · exact h4
    · have := hT _ _ (of_decide_eq_true h4); omega⟩
theorem WiI.done {T : TS} {r : Nat} {f : Nat → Bool} (hT : PrLt T) (h : WiI T r (r + 1) f) (j : Nat) : f j = true ↔ Rch T r j := by
  refine ⟨h.s j, fun hj => ?_⟩
  induction hj with
  | refl => exact h.rt
  | @step i j h1 h2 ih => exact h.c i (by omega) (h1.le hT) ih j h2
/-- A row of bools in a block. -/
def RwBo (w : World) (g n : Nat) (f : Nat → Bool) : Prop := Blk w g 4 (fnC n (fun j => Value.bool (f j)))
theorem RwBo.get {w : World} {g n j : Nat} {f : Nat → Bool} (h : RwBo w g n f) (hj : j < n) : w.cell? ⟨g, j, none⟩ = some (.bool (f j)) := by
  rw [h.cell j, fnC_get _ hj]
theorem RwBo.set {w : World} {g n j : Nat} {f : Nat → Bool} (h : RwBo w g n f) (hj : j < n) (v : Bool) : RwBo (w.setCell ⟨g, j, none⟩ (.bool v)) g n (fup f j v) := by
  have := Blk.set h j (.bool v)
  rw [fnC_set _ hj] at this
  unfold RwBo
  have e : (fun i => Value.bool (fup f j v i)) = fup (fun i => Value.bool (f i)) j (.bool v) := by
    funext i
    unfold fup
    split <;> rfl
  rw [e]
  exact this
theorem make_bool (n : Nat) (hn : n ≤ 100000000) (w : World) : (Instr.makeSlice 55 (.int .i64 (n : Int)) (.int .i64 (n : Int))).run Tryz.prog w = .ok (.slice (some ⟨w.heap.size, 0, none⟩) n n) (w.alloc (.cells (madeCells #[.bool false] n) 4)) :=
  run_make_row' (P := Tryz.prog) 55 4 (.bool false) 1 (by kernel_rfl) (by kernel_rfl) rfl .i64 .i64 n (by omega) (by omega) w
theorem RwBo.new (w : World) (n : Nat) : RwBo (w.alloc (.cells (madeCells #[.bool false] n) 4)) w.heap.size n (fun _ => false) := by
  unfold RwBo
  rw [made_fn]
  exact Blk.new w _ _
/-- The parts' contract at base w0, for every type. -/
def PaA (w0 : World) (tB : Nat) (T : TS) : Prop := ∀ id x, T.types[id]? = some x → PaC w0 tB T id x
/-- Within under way: the row of marks, the row of parts. -/
structure WtM (w0 w : World) (g n : Nat) (f : Nat → Bool) (v : Value) (ps : List Nat) (wr : World) : Prop where
  b : Below w.heap.size w wr
  gl : w.heap.size ≤ g
  r : RwBo wr g n f
  p : OwR rtId w.heap.size wr v ps
section
variable {τ : Rl} {w w0 w1 w2 : World} {tB g n : Nat} {V : TV} {T : TS} {f : Nat → Bool} {v : Value} {ps : List Nat}
theorem WtM.below {wr : World} (h : WtM w0 w g n f v ps wr) (hb : Below wr.heap.size wr w2) : WtM w0 w g n f v ps w2 := ⟨h.b.trans (hb.mono h.b.size), h.gl, Blk.below h.r hb, h.p.below hb⟩
theorem WtM.ne {wr : World} (h : WtM w0 w g n f v ps wr) : ∀ k, v.ownBlock = some k → k ≠ g := h.p.ne h.r (by decide)
theorem WtM.set {wr : World} (h : WtM w0 w g n f v ps wr) {j : Nat} (hj : j < n) (x : Bool) : WtM w0 w g n (fup f j x) v ps (wr.setCell ⟨g, j, none⟩ (.bool x)) :=
  have hu : Upd g wr (wr.setCell ⟨g, j, none⟩ (.bool x)) := (Upd.refl g wr).setCell rfl _
  ⟨Below.updN h.b hu h.gl h.b.size, h.gl, h.r.set hj x, h.p.upd hu h.ne⟩
/-- A row cut to nothing. -/
theorem OwR.cut0 {α : Type} {K : RK α} {n0 : Nat} {a : Option Addr} {m c : Nat} {xs : List α} (h : OwR K n0 w (.slice a m c) xs) : OwR K n0 w (.slice a 0 c) [] := by
  refine ⟨by simp, ?_⟩
  rcases h.2 with ⟨h1, h2⟩ | ⟨g, cap, cur, h1, h2, h3, h4, h5, h6, h7⟩
  · injection h1 with e1 e2 e3
    subst e1 e3
    exact .inl ⟨rfl, rfl⟩
  · injection h1 with e1 e2 e3
    subst e1 e3
    refine .inr ⟨g, _, cur, rfl, h2, h3, Nat.zero_le _, h5, h6, ?_⟩
    show cur.toList.take (0 * K.n) = []
    rw [Nat.zero_mul, List.take_zero]
theorem OwR.capOk {α : Type} {K : RK α} {n0 : Nat} {a : Option Addr} {m c : Nat} {xs : List α} (h : OwR K n0 w (.slice a m c) xs) : (a = none → m = 0 ∧ c = 0) ∧ (∀ ad, a = some ad → ad.spot = none) := by
  rcases h.2 with ⟨h1, h2⟩ | ⟨g, cap, cur, h1, h2, h3, h4, h5, h6, h7⟩
  · injection h1 with e1 e2 e3
    exact ⟨fun _ => ⟨e2, e3⟩, fun ad h => (by rw [e1] at h; cases h)⟩
  · injection h1 with e1 e2 e3
    exact ⟨fun h => (by rw [e1] at h; cases h), fun ad h => (by rw [e1] at h; cases h; rfl)⟩
theorem slice0_id {a : Option Addr} {m c : Nat} (hs : ∀ ad, a = some ad → ad.spot = none) (wz : World) : (Instr.sliceAt 58 (.slice a m c) none (some (.int .i64 0)) none).run Tryz.prog wz = .ok (.slice a 0 c) wz := by
  cases a with
  | none => simp [Instr.sliceAt, go_sem, Instr.sliceBounds, Addr.add]
  | some ad =>
    obtain ⟨b, o, sp⟩ := ad
    have : sp = none := hs _ rfl
    subst this
    simp [Instr.sliceAt, go_sem, Instr.sliceBounds, Addr.add]
/-- Reads of a row of ids. -/
theorem OwR.id {n0 : Nat} {a : Option Addr} {m c : Nat} {xs : List Nat} (h : OwR rtId n0 w (.slice a m c) xs) {j o : Nat} (hj : xs[j]? = some o) : ∃ g, a = some ⟨g, 0, none⟩ ∧ g < w.heap.size ∧ n0 ≤ g ∧ w.cell? ⟨g, j, none⟩ = some (.int .i32 (o : Int)) := by
  obtain ⟨g, q, hv, hl, hc⟩ := h.rx.get (by decide) (fun _ => rfl) hj
  injection hv with e1 e2 e3
  subst e1
  refine ⟨g, rfl, hl, h.hi g rfl, ?_⟩
  have := hc 0 (by decide)
  rw [show j * rtId.n + 0 = j by show j * 1 + 0 = j; omega] at this
  exact this
theorem OwR.lenId {n0 : Nat} {a : Option Addr} {m c : Nat} {xs : List Nat} (h : OwR rtId n0 w (.slice a m c) xs) : xs.length = m := by
  obtain ⟨a', q', hv⟩ := h.shape
  injection hv with e1 e2 e3
  exact e2.symm
theorem WtM.parts {wr w3 : World} {a : Option Addr} {m c : Nat} {v' : Value} {qs : List Nat} (h : WtM w0 w g n f (.slice a m c) ps wr) (ho : OwR rtId w.heap.size w3 v' qs) (hk : Kep wr (.slice a 0 c) w3) : WtM w0 w g n f v' qs w3 := by
  have hne := h.ne
  refine ⟨h.b.trans (hk.below (fun k hg => h.p.hi k (by cases a with | none => exact hg | some _ => exact hg)) h.b.size), h.gl, ?_, ho⟩
  exact Blk.of h.r (hk.blk g h.r.lt (fun k hk2 e => hne k (by cases a with | none => exact hk2 | some _ => exact hk2) e.symm))
set_option maxRecDepth 100000 in
set_option maxHeartbeats 4000000 in
theorem withinW (h : TbM τ w tB V T) (hO : ∀ i x, T.types[i]? = some x → TyO T i x) (hT : PrLt T) (hpl : ∀ i, (prI T i).length ≤ 200000) (hnt : T.types.length ≤ 200000) {r : Nat} (hr : r < T.types.length) : Calls Tryz.prog 41 #[.pointer (some ⟨tB, 0, none⟩), .int .i32 (r : Int)] w fun e w' => ∃ g, e = .returned (.slice (some ⟨g, 0, none⟩) T.types.length T.types.length) ∧ Hid (∃ f : Nat → Bool, (∀ j, f j = true ↔ Rch T r j) ∧ Below w.heap.size w w' ∧ w.heap.size ≤ g ∧ RwBo w' g T.types.length f) := by
  have HP : Hid (∀ i, i < T.types.length → ∀ (wz : World) (ax : Option Addr) (m q : Nat) (xs : List Nat), OwR rtId w.heap.size wz (.slice ax m q) xs → Below w.heap.size w wz → xs.length + (prI T i).length ≤ 1000000 → Calls Tryz.prog 32 #[.pointer (some ⟨tB, 0, none⟩), .slice ax m q, .int .i32 (i : Int)] wz fun e w' => ∃ v, e = .returned v ∧ Hid (OwR rtId w.heap.size w' v (xs ++ prI T i) ∧ Kep wz (.slice ax m q) w' ∧ ∀ g, v.ownBlock = some g → (Value.slice ax m q).ownBlock = some g ∨ wz.heap.size ≤ g)) := hid (fun i hi => by
    obtain ⟨x, hx⟩ : ∃ x, T.types[i]? = some x := ⟨_, List.getElem?_eq_getElem hi⟩
    rw [prI_get hx]
    exact partsW h hx (hO i x hx))
  obtain ⟨x, hx⟩ : ∃ x, T.types[r]? = some x := ⟨_, List.getElem?_eq_getElem hr⟩
  obtain ⟨gt, q, hv, _, _, hc⟩ := h.ty hx
  have c0 : w.cell? ⟨tB, 0, none⟩ = some (.slice (some ⟨gt, 0, none⟩) T.types.length q) := by rw [← hv]; exact h.b.cell 0
  obtain ⟨nt, hn⟩ : ∃ n, T.types.length = n := ⟨_, rfl⟩
  rw [hn] at c0 hr hnt HP ⊢
  have hmk := make_bool nt (by omega) w
  have hrb := RwBo.new w nt
  obtain ⟨gb, hgb⟩ : ∃ p, w.heap.size = p := ⟨_, rfl⟩
  obtain ⟨wa, hwa⟩ : ∃ wa, w.alloc (.cells (madeCells #[.bool false] nt) 4) = wa := ⟨_, rfl⟩
  rw [hgb, hwa] at hmk
  rw [hgb, hwa] at hrb
  have HBa : Hid (Below w.heap.size w wa) := hid (by rw [← hwa]; exact nbel w _)
  have HW : Hid (WtM w w gb nt (fup (fun _ => false) r true) (.slice none 0 0) [] (wa.setCell ⟨gb, r, none⟩ (.bool true))) := hid (WtM.set ⟨HBa.out, by omega, hrb, OwR.nil _ _ _⟩ hr true)
  have ci := hrb.get hr
  have cf : wa.frozen? ⟨gb, r, none⟩ = false := Blk.frozen hrb r
  have i1 : (r : Int) < (nt : Int) := by omega
  have HPr := hid hpl
  have HTt := hid hT
  clear h hO hT hpl hv hc hx hn hgb hwa hrb HBa
  go_enter Tryz.func41, Tryz.ntmps41
  go_upto_region 3 with fail
  generalize hws : wa.setCell _ _ = ws at HW ⊢
  clear hws hmk ci cf c0
  go_upto_region 5 with fail
  go_loopw [7, 6] (fun t v wr => ∃ (z : Int) (ax : Option Addr) (m q : Nat), t = .int .i32 z ∧ v = .slice ax m q ∧ -1 ≤ z ∧ z ≤ (r : Int) ∧ Hid (∃ (k : Nat) (f : Nat → Bool) (ps : List Nat), z = (r : Int) - (k : Int) ∧ WtM w w gb nt f (.slice ax m q) ps wr ∧ WiI T r k f)) (fun t _ _ => (intOf t + 1).toNat)
  case atStart => exact ⟨(r : Int), _, _, _, rfl, rfl, by omega, by omega, hid ⟨0, _, _, by simp, HW.out, WiI.zero T r⟩⟩
  case round =>
  obtain ⟨z, ax, m, q, rfl, rfl, hz1, hz2, HI⟩ := hrel
  clear HW
  by_cases hz : 0 ≤ z
  rotate_left
  · have d1 : decide (z ≥ 0) = false := decide_eq_false (by omega)
    have d1' : decide (0 ≤ z) = false := decide_eq_false (by omega)
    have HF : Hid (∃ f : Nat → Bool, (∀ j, f j = true ↔ Rch T r j) ∧ Below w.heap.size w wr ∧ w.heap.size ≤ gb ∧ RwBo wr gb nt f) := hid (by
      obtain ⟨k, f, ps, hk, hm, hi⟩ := HI.out
      have : k = r + 1 := by omega
      subst this
      exact ⟨f, hi.done HTt.out, hm.b, hm.gl, hm.r⟩)
    clear HI
    go_wp2
    go_ret
    exact ⟨gb, rfl, HF⟩
  obtain ⟨i, rfl⟩ : ∃ i : Nat, z = (i : Int) := ⟨z.toNat, by omega⟩
  obtain ⟨k, f, ps, hk, hm, hw⟩ := HI.out
  have hik : i + k = r := by omega
  have HM := hid hm
  have HWi := hid hw
  have Hik := hid hik
  have d1 : decide ((i : Int) ≥ 0) = true := decide_eq_true (by omega)
  have d1' : decide ((0 : Int) ≤ (i : Int)) = true := decide_eq_true (by omega)
  have hin : i < nt := by omega
  have i2 : (i : Int) < (nt : Int) := by omega
  have ew : IntKind.i32.wrap ((i : Int) - 1) = (i : Int) - 1 := by rw [IntKind.wrap_i32]; omega
  have ci := hm.r.get hin
  clear hk hm hw HI hik hz1
  cases hf : f i with
  | false =>
    rw [hf] at ci
    have HE : Hid (∃ (k : Nat) (f : Nat → Bool) (ps : List Nat), (i : Int) - 1 = (r : Int) - (k : Int) ∧ WtM w w gb nt f (.slice ax m q) ps wr ∧ WiI T r k f) := hid ⟨k + 1, f, ps, by have := Hik.out; omega, HM.out, HWi.out.skip Hik.out hf⟩
    clear HM HWi hf
    go_wp2
    exact ⟨⟨(i : Int) - 1, _, _, _, by go_num, rfl, by omega, by omega, HE⟩, by simp [intOf] <;> omega⟩
  | true =>
    rw [hf] at ci
    have hsl := fun wz => slice0_id (a := ax) (m := m) (c := q) HM.out.p.capOk.2 wz
    have HA := hid (HP.out i hin wr ax 0 q [] HM.out.p.cut0 HM.out.b (by have := HPr.out i; simp; omega))
    have Hf := hid hf
    clear hf
    go_wp2_with fail
    refine HA.out.mono ?_
    rintro e w3 ⟨v3, rfl, h3⟩
    clear HA
    have ho3 := h3.out.1
    rw [List.nil_append] at ho3
    have HM3 := hid (HM.out.parts ho3 h3.out.2.1)
    obtain ⟨a3, q3, hv3⟩ := ho3.shape
    obtain ⟨qs, hqs⟩ : ∃ l, prI T i = l := ⟨_, rfl⟩
    obtain ⟨m3, hm3⟩ : ∃ k, (prI T i).length = k := ⟨_, rfl⟩
    have hm3b : m3 ≤ 200000 := by rw [← hm3]; exact HPr.out i
    have Hlt : Hid (∀ p ∈ qs, p < nt) := hid (fun p hp => by have := HTt.out i p (by rw [hqs]; exact hp); omega)
    rw [hm3] at hv3
    rw [hqs] at hm3
    have Hm3 := hid hm3
    have HTk : Hid (WiI T r (k + 1) (mrk f qs)) := hid (by rw [← hqs]; exact HWi.out.take HTt.out Hik.out Hf.out)
    rw [hqs] at HM3
    subst hv3
    have HM4 : Hid (WtM w w gb nt (mrk f (qs.take 0)) (.slice a3 m3 q3) qs w3) := hid (by rw [List.take_zero, mrk_nil]; exact HM3.out)
    clear h3 ho3 hqs hm3 hsl HM HWi Hf HM3 ci
    go_upto_region 10 with fail
    go_loopw [36] (fun t wr => ∃ (j : Nat), t = .int .i64 (j : Int) ∧ j ≤ m3 ∧ Hid (WtM w w gb nt (mrk f (qs.take j)) (.slice a3 m3 q3) qs wr)) (fun t _ => m3 - (intOf t).toNat)
    case atStart => exact ⟨0, rfl, Nat.zero_le _, HM4⟩
    case round =>
    obtain ⟨j, rfl, hj, HJ⟩ := hrel
    clear HM4
    by_cases hjn : j < m3
    rotate_left
    · have d2 : decide ((j : Int) < (m3 : Int)) = false := decide_eq_false (by omega)
      have HE : Hid (∃ (k : Nat) (f : Nat → Bool) (ps : List Nat), (i : Int) - 1 = (r : Int) - (k : Int) ∧ WtM w w gb nt f (.slice a3 m3 q3) ps wr ∧ WiI T r k f) := hid ⟨k + 1, mrk f qs, qs, by have := Hik.out; omega, by have := HJ.out; rw [List.take_of_length_le (by rw [Hm3.out]; omega)] at this; exact this, HTk.out⟩
      clear HJ
      go_wp2
      exact ⟨⟨(i : Int) - 1, _, _, _, by go_num, rfl, by omega, by omega, HE⟩, by simp [intOf] <;> omega⟩
    have d2 : decide ((j : Int) < (m3 : Int)) = true := decide_eq_true (by omega)
    have i3 : (j : Int) < (m3 : Int) := by omega
    obtain ⟨p, hp⟩ : ∃ p, qs[j]? = some p := ⟨_, List.getElem?_eq_getElem (by rw [Hm3.out]; exact hjn)⟩
    have hpn := Hlt.out p (List.mem_of_getElem? hp)
    have i4 : (p : Int) < (nt : Int) := by omega
    obtain ⟨g5, ha5, _, _, c5⟩ := HJ.out.p.id hp
    subst ha5
    have c6 := HJ.out.r.get hpn
    have c7 : wr.frozen? ⟨gb, p, none⟩ = false := Blk.frozen HJ.out.r p
    have HE : Hid (WtM w w gb nt (mrk f (qs.take (j + 1))) (.slice (some ⟨g5, 0, none⟩) m3 q3) qs (wr.setCell ⟨gb, p, none⟩ (.bool true))) := hid (by
      have := HJ.out.set hpn true
      rw [List.take_add_one, hp]
      show WtM w w gb nt (mrk f (qs.take j ++ [p])) _ _ _
      rw [mrk_snoc]
      exact this)
    clear HJ hp
    go_wp2
    exact ⟨⟨j + 1, by go_num, by omega, HE⟩, by simp [intOf]; omega⟩
end
end Go.Proofs.Qxb6500883aGreatDoor
