/- The law UnreferencedNewObjectsDie. -/
import Derived.Test.Qxb6500888aBaL6
import Derived.Test.Qxb6500888aBaQ7
import Derived.Test.Qxb6500888aBaT9
namespace Go.Proofs.Qxb6500888a
open Go.RowKit
set_option linter.unusedSimpArgs false
set_option linter.unusedVariables false
attribute [local irreducible] wdC

/-- The list of what is to be looked at, under way. -/
structure U2 (w3 : World) (mF : Nat) (s : Nat → Bool) (B : BS) (td : List Nat) (lv v7 : Value) (wr : World) : Prop where
  fs : FsI w3 mF s wr
  r7 : OwR rtA w3.heap.size wr v7 td
  lr : OwR rtE w3.heap.size wr lv (lgL B)
theorem U2.below {w3 wr w' : World} {mF : Nat} {s : Nat → Bool} {B : BS} {td : List Nat} {lv v7 : Value} (h : U2 w3 mF s B td lv v7 wr) (hb : Below wr.heap.size wr w') : U2 w3 mF s B td lv v7 w' := ⟨h.fs.below hb, h.r7.below hb, h.lr.below hb⟩
theorem U2.app {w3 wr w' : World} {mF : Nat} {s : Nat → Bool} {B : BS} {td td' : List Nat} {lv v7 v' : Value} (h : U2 w3 mF s B td lv v7 wr) (hk : Kep wr v7 w') (hr : OwR rtA w3.heap.size w' v' td') : U2 w3 mF s B td' lv v' w' :=
  ⟨⟨MF.of h.fs.bf (hk.blk _ (MF.lt h.fs.bf) (fun g hg e => h.r7.neM h.fs.bf g hg e.symm)), h.fs.bel.trans (hk.below h.r7.hi h.fs.bel.size), h.fs.lo⟩, hr, hk.row h.lr (h.lr.neK h.r7 (by decide))⟩
/-- The search. -/
structure UdI (w3 : World) (mF mL : Nat) (s : Nat → Bool) (SL S10 b11 td : List Nat) (v7 v10 v11 : Value) (wr : World) : Prop where
  bel : Below w3.heap.size w3 wr
  r7 : OwR rtA w3.heap.size wr v7 td
  r10 : OwR rtA w3.heap.size wr v10 S10
  r11 : OwR rtA w3.heap.size wr v11 b11
  d1 : ∀ g, v7.ownBlock = some g → v10.ownBlock ≠ some g
  d2 : ∀ g, v7.ownBlock = some g → v11.ownBlock ≠ some g
  d3 : ∀ g, v10.ownBlock = some g → v11.ownBlock ≠ some g
  bf : BF wr mF s
  bl : BF wr mL (inB SL)
  lo : w3.heap.size ≤ mF
  l2 : mF < mL
section
variable {w3 wr w' : World} {mF mL : Nat} {s : Nat → Bool} {SL S10 b11 td xs : List Nat} {v7 v10 v11 v' : Value}
theorem UdI.below (h : UdI w3 mF mL s SL S10 b11 td v7 v10 v11 wr) (hb : Below wr.heap.size wr w') : UdI w3 mF mL s SL S10 b11 td v7 v10 v11 w' := ⟨h.bel.trans (hb.mono h.bel.size), h.r7.below hb, h.r10.below hb, h.r11.below hb, h.d1, h.d2, h.d3, MF.below h.bf hb, MF.below h.bl hb, h.lo, h.l2⟩
theorem UdI.put (h : UdI w3 mF mL s SL S10 b11 td v7 v10 v11 wr) (x : Nat) : ∃ w', (Instr.mapUpdate 45 (.map (some mL)) (.int .u64 (x : Int)) (.bool true)).run Try.prog wr = .ok () w' ∧ UdI w3 mF mL s (SL ++ [x]) S10 b11 td v7 v10 v11 w' := by
  obtain ⟨w', h1, h2, h3⟩ := h.bl.put x
  rw [inB_add] at h2
  have hl := h.l2
  have h0 := h.lo
  exact ⟨w', h1, h.bel.trans (h3.below (by omega) h.bel.size), h.r7.upd h3 (h.r7.neM h.bl), h.r10.upd h3 (h.r10.neM h.bl), h.r11.upd h3 (h.r11.neM h.bl), h.d1, h.d2, h.d3, MF.upd h.bf h3 (by omega), h2, h.lo, h.l2⟩
theorem kep_map {f : Nat → Option Value} {m : Nat} (hk : Kep wr v7 w') (hr : OwR rtA w3.heap.size wr v7 td) (hm : MF wr m f) : MF w' m f := hm.of (hk.blk _ hm.lt (fun g hg e => hr.neM hm g hg e.symm))
theorem UdI.app10 (h : UdI w3 mF mL s SL S10 b11 td v7 v10 v11 wr) (hk : Kep wr v10 w') (hr : OwR rtA w3.heap.size w' v' xs) (hg : ∀ g, v'.ownBlock = some g → v10.ownBlock = some g ∨ wr.heap.size ≤ g) : UdI w3 mF mL s SL xs b11 td v7 v' v11 w' := by
  refine ⟨h.bel.trans (hk.below h.r10.hi h.bel.size), hk.row h.r7 h.d1, hr, hk.row h.r11 (fun g h1 h2 => h.d3 g h2 h1), fun g h1 h2 => ?_, h.d2, fun g h1 h2 => ?_, kep_map hk h.r10 h.bf, kep_map hk h.r10 h.bl, h.lo, h.l2⟩
  · rcases hg g h2 with h3 | h3
    · exact h.d1 g h1 h3
    · have := h.r7.lt g h1; omega
  · rcases hg g h1 with h3 | h3
    · exact h.d3 g h3 h2
    · have := h.r11.lt g h2; omega
theorem UdI.app11 (h : UdI w3 mF mL s SL S10 b11 td v7 v10 v11 wr) (hk : Kep wr v11 w') (hr : OwR rtA w3.heap.size w' v' xs) (hg : ∀ g, v'.ownBlock = some g → v11.ownBlock = some g ∨ wr.heap.size ≤ g) : UdI w3 mF mL s SL S10 xs td v7 v10 v' w' := by
  refine ⟨h.bel.trans (hk.below h.r11.hi h.bel.size), hk.row h.r7 h.d2, hk.row h.r10 h.d3, hr, h.d1, fun g h1 h2 => ?_, fun g h1 h2 => ?_, kep_map hk h.r11 h.bf, kep_map hk h.r11 h.bl, h.lo, h.l2⟩
  · rcases hg g h2 with h3 | h3
    · exact h.d2 g h1 h3
    · have := h.r7.lt g h1; omega
  · rcases hg g h2 with h3 | h3
    · exact h.d3 g h1 h3
    · have := h.r10.lt g h1; omega
theorem UdI.app7 (h : UdI w3 mF mL s SL S10 b11 td v7 v10 v11 wr) (hk : Kep wr v7 w') (hr : OwR rtA w3.heap.size w' v' xs) (hg : ∀ g, v'.ownBlock = some g → v7.ownBlock = some g ∨ wr.heap.size ≤ g) : UdI w3 mF mL s SL S10 b11 xs v' v10 v11 w' := by
  refine ⟨h.bel.trans (hk.below h.r7.hi h.bel.size), hr, hk.row h.r10 (fun g h1 h2 => h.d1 g h2 h1), hk.row h.r11 (fun g h1 h2 => h.d2 g h2 h1), fun g h1 h2 => ?_, fun g h1 h2 => ?_, h.d3, kep_map hk h.r7 h.bf, kep_map hk h.r7 h.bl, h.lo, h.l2⟩
  · rcases hg g h1 with h3 | h3
    · exact h.d1 g h3 h2
    · have := h.r10.lt g h2; omega
  · rcases hg g h1 with h3 | h3
    · exact h.d2 g h3 h2
    · have := h.r11.lt g h2; omega
end
theorem OwR.neI {n0 : Nat} {w : World} {v : Value} {xs : List Nat} {r m : Nat} {E : List Ent} {T : List Nat} (h : OwR rtA n0 w v xs) (hi : IT w r m E T) : ∀ k, v.ownBlock = some k → k ≠ r := fun k hk e => by
  subst e
  rcases h.2 with ⟨h1, _⟩ | ⟨g', cap, cur, h1, h2, h3, _⟩
  · rw [h1] at hk; cases hk
  · rw [h1] at hk
    cases hk
    have hb : Blk w g' rtA.t cur.toList := by
      unfold Blk
      rw [h3, Array.toArray_toList]
    exact hi.blk hb rfl
theorem OwR.neC {n0 : Nat} {w : World} {v : Value} {xs : List Nat} {m : Nat} {c : Nat → Nat} (h : OwR rtA n0 w v xs) (hm : Cn w m c) : ∀ k, v.ownBlock = some k → k ≠ m := by
  obtain ⟨f, h1, _⟩ := hm
  exact h.neM h1
/-- The dead are gathered. -/
structure U4 (w3 : World) (mF mL mZ r : Nat) (E : List Ent) (S b11 Tk D : List Nat) (c : Nat → Nat) (v10 v11 v12 : Value) (wr : World) : Prop where
  bel : Below w3.heap.size w3 wr
  it : IT wr r mF E Tk
  pn : PN wr mF E
  r10 : OwR rtA w3.heap.size wr v10 S
  r11 : OwR rtA w3.heap.size wr v11 b11
  r12 : OwR rtA w3.heap.size wr v12 D
  d1 : ∀ g, v12.ownBlock = some g → v10.ownBlock ≠ some g
  d2 : ∀ g, v12.ownBlock = some g → v11.ownBlock ≠ some g
  bl : BF wr mL (inB S)
  cn : Cn wr mZ c
  lo : w3.heap.size ≤ mF
  l2 : mF < mL
  l3 : mL < mZ
  l4 : mZ < r
section
variable {w3 wr w' : World} {mF mL mZ r : Nat} {E : List Ent} {S b11 Tk D xs : List Nat} {c : Nat → Nat} {v10 v11 v12 v' : Value}
theorem U4.below (h : U4 w3 mF mL mZ r E S b11 Tk D c v10 v11 v12 wr) (hb : Below wr.heap.size wr w') : U4 w3 mF mL mZ r E S b11 Tk D c v10 v11 v12 w' := ⟨h.bel.trans (hb.mono h.bel.size), h.it.of (hb.block r h.it.lt) (hb.block mF h.pn.lt), h.pn.below hb, h.r10.below hb, h.r11.below hb, h.r12.below hb, h.d1, h.d2, MF.below h.bl hb, h.cn.of (hb.block _ h.cn.lt), h.lo, h.l2, h.l3, h.l4⟩
theorem U4.next {Tk' : List Nat} (h : U4 w3 mF mL mZ r E S b11 Tk D c v10 v11 v12 wr) (hu : Upd r wr w') (hi : IT w' r mF E Tk') (hp : PN w' mF E) : U4 w3 mF mL mZ r E S b11 Tk' D c v10 v11 v12 w' := by
  have h1 := h.lo
  have h2 := h.l2
  have h3 := h.l3
  have h4 := h.l4
  exact ⟨h.bel.trans (hu.below (by omega) h.bel.size), hi, hp, h.r10.upd hu (h.r10.neI h.it), h.r11.upd hu (h.r11.neI h.it), h.r12.upd hu (h.r12.neI h.it), h.d1, h.d2, MF.upd h.bl hu (by omega), h.cn.of (hu.block _ h.cn.lt (by omega)), h.lo, h.l2, h.l3, h.l4⟩
theorem U4.app (h : U4 w3 mF mL mZ r E S b11 Tk D c v10 v11 v12 wr) (hk : Kep wr v12 w') (hr : OwR rtA w3.heap.size w' v' xs) (hg : ∀ g, v'.ownBlock = some g → v12.ownBlock = some g ∨ wr.heap.size ≤ g) : U4 w3 mF mL mZ r E S b11 Tk xs c v10 v11 v' w' := by
  obtain ⟨f, hf1, hf2⟩ := h.cn
  have hpF : w'.heap[mF]? = wr.heap[mF]? := hk.blk _ h.pn.lt (fun g hg2 e => by
    have hm : MF wr mF (fun k => (E.find? (fun e => decide (e.k = k))).map (·.v)) := ⟨E, h.pn, fun e he => ?_, fun a v hv => ?_⟩
    · exact h.r12.neM hm g hg2 e.symm
    · have hnd := h.pn.nek
      obtain ⟨e', he'⟩ : ∃ e', E.find? (fun x => decide (x.k = e.k)) = some e' := by
        cases hq : E.find? (fun x => decide (x.k = e.k)) with
        | none => rw [List.find?_eq_none] at hq; have := hq e he; simp at this
        | some e' => exact ⟨e', rfl⟩
      have h1 := List.mem_of_find?_eq_some he'
      have h2 := List.find?_some he'
      have h3 : e'.k = e.k := by simpa using h2
      have h4 := inj_of_nodup (f := (·.k)) hnd h1 he h3
      simp [he', h4]
    · obtain ⟨e', he', rfl⟩ := Option.map_eq_some_iff.1 hv
      have h2 := List.find?_some he'
      exact ⟨e', List.mem_of_find?_eq_some he', by simpa using h2⟩)
  refine ⟨h.bel.trans (hk.below h.r12.hi h.bel.size), h.it.of (hk.blk _ h.it.lt (fun g hg2 e => h.r12.neI h.it g hg2 e.symm)) hpF, h.pn.of hpF, hk.row h.r10 (fun g h1 h2 => h.d1 g h2 h1), hk.row h.r11 (fun g h1 h2 => h.d2 g h2 h1), hr, fun g h1 h2 => ?_, fun g h1 h2 => ?_, kep_map hk h.r12 h.bl, ⟨f, kep_map hk h.r12 hf1, hf2⟩, h.lo, h.l2, h.l3, h.l4⟩
  · rcases hg g h1 with h3 | h3
    · exact h.d1 g h3 h2
    · have := h.r10.lt g h2; omega
  · rcases hg g h1 with h3 | h3
    · exact h.d2 g h3 h2
    · have := h.r11.lt g h2; omega
theorem U4.put (h : U4 w3 mF mL mZ r E S b11 Tk D c v10 v11 v12 wr) (k x : Nat) : ∃ w', (Instr.mapUpdate 71 (.map (some mZ)) (.int .u64 (k : Int)) (.int .i64 (x : Int))).run Try.prog wr = .ok () w' ∧ U4 w3 mF mL mZ r E S b11 Tk D (fup c k x) v10 v11 v12 w' := by
  obtain ⟨w', h1, h2, h3⟩ := h.cn.put k x
  have e1 := h.lo
  have e2 := h.l2
  have e3 := h.l3
  have e4 := h.l4
  exact ⟨w', h1, h.bel.trans (h3.below (by omega) h.bel.size), h.it.of (h3.block r h.it.lt (by omega)) (h3.block mF h.pn.lt (by omega)), h.pn.of (h3.block mF h.pn.lt (by omega)), h.r10.upd h3 (h.r10.neC h.cn), h.r11.upd h3 (h.r11.neC h.cn), h.r12.upd h3 (h.r12.neC h.cn), h.d1, h.d2, MF.upd h.bl h3 (by omega), h2, h.lo, h.l2, h.l3, h.l4⟩
end
theorem LW.blx {w0 w5 wr : World} {wB mK k : Nat} {ρ : Rl} {L : GL} {T : BL} {G : GS} {B : BS} (h : LW w0 wB k ρ L T G B w5) (hb : BlX mK w5 wr) (h0 : ρ mK = 0) (h1 : wB ≠ mK) (h3 : w0.heap.size ≤ mK) : LW w0 wB k ρ L T G B wr := by
  have hf : Fr (fun c => c == 0) ρ w5 ρ wr := ⟨hb.os, hb.tape, hb.output, hb.size, fun _ _ => rfl, fun _ _ => rfl, fun g hg hx => hb.blk g hg (fun e => by subst e; rw [h0] at hx; cases hx)⟩
  refine ⟨⟨h.wm.bm.keep hf (fun c hc => ?_), h.wm.wb.of (hb.blk _ h.wm.wb.lt h1), h.wm.w0⟩, h.inv, ?_, h.low⟩
  · have := of_decide_eq_true hc
    show (c == 0) = false
    simp
    omega
  · have h4 := h.bel
    exact ⟨hb.os.trans h4.os, hb.tape.trans h4.tape, hb.output.trans h4.output, Nat.le_trans h4.size hb.size, fun g hg => (hb.blk g (Nat.lt_of_lt_of_le hg h4.size) (by omega)).trans (h4.block g hg)⟩
/-- Which are dead so far. -/
structure DdP (B : BS) (S Tk D : List Nat) : Prop where
  nd : D.Nodup
  m : ∀ x, x ∈ D ↔ (x ∈ frL B ∧ x ∉ Tk ∧ x ∉ S)
theorem DdP.skip {B : BS} {S Tk D : List Nat} (h : DdP B S Tk D) {x : Nat} (hx : x ∈ S) : DdP B S (Tk.filter fun k => decide (k ≠ x)) D := ⟨h.nd, fun y => by
  rw [h.m]
  constructor
  · rintro ⟨h1, h2, h3⟩; exact ⟨h1, fun hc => h2 (List.mem_filter.1 hc).1, h3⟩
  · rintro ⟨h1, h2, h3⟩
    exact ⟨h1, fun hc => h2 (List.mem_filter.2 ⟨hc, decide_eq_true (fun e => h3 (e ▸ hx))⟩), h3⟩⟩
theorem DdP.add {B : BS} {S Tk D : List Nat} (h : DdP B S Tk D) {x : Nat} (hx : x ∉ S) (hf : x ∈ frL B) (hT : x ∈ Tk) : DdP B S (Tk.filter fun k => decide (k ≠ x)) (D ++ [x]) := ⟨by
  rw [List.nodup_append]
  exact ⟨h.nd, by simp, fun a ha b hb e => by simp at hb; subst hb; subst e; exact ((h.m a).1 ha).2.1 hT⟩, fun y => by
  rw [List.mem_append, h.m]
  constructor
  · rintro (⟨h1, h2, h3⟩ | h1)
    · exact ⟨h1, fun hc => h2 (List.mem_filter.1 hc).1, h3⟩
    · simp at h1; subst h1; exact ⟨hf, by simp, hx⟩
  · rintro ⟨h1, h2, h3⟩
    by_cases e : y = x
    · right; simp [e]
    · left; exact ⟨h1, fun hc => h2 (List.mem_filter.2 ⟨hc, decide_eq_true e⟩), h3⟩⟩
theorem field_hv (c v : Nat) (V : Nat → Value) (w : World) : (Instr.field 38 (.agg (rzH c v V).toArray) 2).run Try.prog w = .ok (.agg #[V 0, V 1, V 2, V 3, V 4, V 5, V 6, V 7]) w := by
  simp [Instr.field, Try.underlying38, go_sem, rzH, asAgg]
theorem info_hv : (Try.prog.info? 36).map (·.size) = some 8 := by kernel_rfl
theorem BF.none0 {w : World} {m : Nat} {s : Nat → Bool} (h : BF w m s) (hs : ∀ a, s a = false) : ∃ E, PN w m E ∧ E.length = 0 := by
  obtain ⟨E, h1, h2, h3⟩ := h
  refine ⟨E, h1, ?_⟩
  cases E with
  | nil => rfl
  | cons e E =>
    have := h2 e (by simp)
    unfold bsF at this
    rw [hs] at this
    cases this
theorem refs_len {G : GS} (ok : GOk G) (l : List Nat) : (∀ y ∈ l, (G.head y).isSome = true) → (l.flatMap (refL G)).length ≤ l.length * 8192 := by
  induction l with
  | nil => intro _; simp
  | cons a l ih =>
    intro hl
    have h2 := ih (fun y hy => hl y (by simp [hy]))
    obtain ⟨n2, q2, hsh⟩ := st_some (hl a (by simp))
    have h3 := refP_len G a (rfOf G a)
    have h4 := ok.hd a n2 q2 hsh
    have h5 := (stand_rf hsh).1
    have h6 : (refL G a).length ≤ 8192 := by unfold refL; omega
    rw [List.flatMap_cons, List.length_append, List.length_cons, Nat.add_mul, Nat.one_mul, Nat.add_comm]
    exact Nat.add_le_add h2 h6
def DxN (w3 : World) (G : GS) (B : BS) (hv : Nat → List Nat) (mF mL : Nat) (v7 v10 v11 : Value) (wr : World) (N : Nat) : Prop := ∃ S td, UdI w3 mF mL (inB (frK B 4)) S S (S.flatMap (refL G)) td v7 v10 v11 wr ∧ DfP G B hv S td ∧ td.length ≤ 5000000000 + S.length * 8192 ∧ (32769 - S.length) * 8193 + td.length ≤ N
set_option maxRecDepth 1000000 in
set_option maxHeartbeats 8000000 in
theorem unref_walk (a : Option Addr) (n c : Nat) (l : List OpP) (w : World) (hs : Script w a n c l) :
    Calls Try.prog 6 #[.slice a n c] w fun e w' => e = .returned (.bool true) ∧ Below w.heap.size w w' := by
  have HSm := hid (fun w => small_walk a n c w)
  have HS := hid hs
  have HNw := hid (fun w => newWorld_walk w)
  clear hs
  by_cases hsm : n ≤ 65536
  rotate_left
  · as_aux_lemma =>
    rw [decide_eq_false hsm] at HSm
    go_enter Try.func6, Try.ntmps6
    go_wp2_with (go_at_call 13; refine (HSm.out _).mono ?_; rintro e w' ⟨rfl, rfl⟩)
    go_ret
    exact ⟨rfl, Below.refl _ _⟩
  rw [decide_eq_true hsm] at HSm
  go_enter Try.func6, Try.ntmps6
  go_wp2_with (go_at_call 13; refine (HSm.out _).mono ?_; rintro e w' ⟨rfl, rfl⟩)
  refine (HNw.out _).mono ?_
  rintro e w1 ⟨wB, ρ1, L1, T1, rfl, hW1, hl1, hb1, hwB⟩
  have HLI : Hid (RcI w' wB 0 w1) := hid ⟨ρ1, L1, T1, G0, B0, fun _ => 0, _, ⟨hW1, InvM.zero, hb1, hl1⟩, CI.zero _⟩
  have HwB := hid hwB
  clear hW1 hl1 hb1 HNw HSm hwB
  go_wp2_with fail
  go_loopw [36] (fun v wr => ∃ i : Nat, i ≤ n ∧ v = .int .i64 (i : Int) ∧ Hid (RcI w' wB i wr)) (fun v _ => n - (intOf v).toNat)
  case atStart => exact ⟨0, by omega, rfl, HLI⟩
  case round =>
  clear HLI
  obtain ⟨i, hi, rfl, HLI⟩ := hrel
  obtain ⟨ρ, L, T, G, B, atp, Z, hLW, hci⟩ := HLI.out
  have HLW := hid hLW
  have Hci := hid hci
  clear hLW hci HLI
  by_cases hin : i < n
  rotate_left
  · as_aux_lemma =>
    have di : decide ((i : Int) < (n : Int)) = false := decide_eq_false (by omega)
    go_wp2
    go_ret
    exact ⟨rfl, HLW.out.bel⟩
  have di : decide ((i : Int) < (n : Int)) = true := decide_eq_true (by omega)
  have hii : (i : Int) < (n : Int) := by omega
  obtain ⟨o, ho, hok, b, off, rfl, hb, c0, c1, c2, c3, c4⟩ := (HS.out.below HLW.out.bel).at hin
  have HOk := hid hok
  clear ho hok
  obtain ⟨ob, hob⟩ : ∃ p, wr.heap.size = p := ⟨_, rfl⟩
  go_upto_region 7 with fail
  obtain ⟨w3, hw3⟩ : ∃ w2, wr.alloc (.cells #[.int .u8 (o.kind : Int), .int .u8 (o.m : Int), .int .u64 (o.a : Int), .int .u64 (o.b : Int), .int .u64 (o.c : Int)] 31) = w2 := ⟨_, rfl⟩
  have HW3 : Hid (LW w' wB i ρ L T G B w3 ∧ Blk w3 ob 31 (opC o) ∧ ρ ob = 0) := hid (by
    rw [← hw3]
    have hbk := Blk.new wr (opC o) 31
    rw [hob] at hbk
    exact ⟨HLW.out.below (nbel wr _), hbk, HLW.out.new0 (by omega)⟩)
  simp only [hw3]
  clear hw3 hob c0 c1 c2 c3 c4 HLW
  have I1 : Hid ((Try.prog.info? 31).map (·.size) = some 5) := hid info_op
  have ck : w3.cell? ⟨ob, 0, none⟩ = some (.int .u8 (o.kind : Int)) := HW3.out.2.1.cell 0
  by_cases e7 : o.kind = 7
  rotate_left
  · as_aux_lemma =>
    have d7 : (!((o.kind : Int) == 7)) = true := by simp; omega
    have d8 : ((o.kind : Int) != 7) = true := by simp; omega
    have he7 := hid e7
    clear e7
    go_wp2_with (refine wpList_load_blk rfl 31 _ rfl ob rfl (opC o) HW3.out.2.1 _ Try.underlying31 rfl I1.out ?_)
    refine (HW3.out.1.play (by omega) o HOk.out).mono ?_
    rintro e w4 ⟨V, ρ4, L4, T4, rfl, h4⟩
    obtain ⟨Z4, hci4⟩ := Hci.out.play HW3.out.1.inv (by omega) o
    have HR : Hid (RcI w' wB (i + 1) w4) := hid ⟨_, _, _, _, _, _, _, h4.lw, hci4⟩
    generalize (rzH (playS G B o).1.1 (playS G B o).1.2 V).toArray = ra
    clear h4 HW3 hci4 Hci ck
    go_wp2
    exact ⟨⟨i + 1, by omega, by go_num, HR⟩, by simp [intOf]; omega⟩
  as_aux_lemma =>
  have d7 : (!((o.kind : Int) == 7)) = false := by simp; omega
  have d8 : ((o.kind : Int) != 7) = false := by simp; omega
  have he7 := hid e7
  clear e7
  go_upto_region 9 with fail
  clear ck d7 d8
  have HFr := hid (allFresh_walk HW3.out.1.wm (fun m => by have := HW3.out.1.inv.bo.nf m; omega))
  go_wp2_with fail
  refine HFr.out.mono ?_
  rintro e w4 ⟨mF, rfl, hfs⟩
  have HF4 := hid hfs
  clear hfs HFr
  have HAR := hid (allRoots_walk (HW3.out.1.below HF4.out.bel).wm)
  go_wp2_with fail
  refine HAR.out.mono ?_
  rintro e w5 ⟨v5, rfl, h5, hb5⟩
  have HF5 : Hid (FsI w3 mF (inB (frK B 4)) w5 ∧ OwR rtA w3.heap.size w5 v5 (rootsK B 4)) := hid ⟨HF4.out.below hb5, h5.mono HF4.out.bel.size⟩
  clear h5 hb5 HAR HF4
  obtain ⟨a5, q5, e5⟩ := HF5.out.2.shape
  subst e5
  have HAL := hid (allLogs_walk (HW3.out.1.below HF5.out.1.bel).wm (fun m => by have := HW3.out.1.inv.bo.nl m; omega))
  go_wp2_with fail
  refine HAL.out.mono ?_
  rintro e w6 ⟨v6, rfl, h6, hb6⟩
  rw [lgK_four] at h6
  obtain ⟨a6, q6, rfl, _⟩ := h6.rdE
  obtain ⟨n6, hn6⟩ : ∃ x, (lgL B).length = x := ⟨_, rfl⟩
  have in6 : (n6 : Int) ≤ 4000000000 := by
    have h1 := lgK_len (B := B) (fun m => by have := HW3.out.1.inv.bo.nl m; omega) 4
    rw [lgK_four, hn6] at h1
    omega
  have Hn6 := hid hn6
  rw [hn6] at h6
  rw [hn6]
  have HI0 : Hid (U2 w3 mF (inB (frK B 4)) B (rootsK B 4 ++ (((lgL B).take 0).map fun e => G.word (offA e.1))) (.slice a6 n6 q6) (.slice a5 (rootsK B 4).length q5) w6) := hid ⟨HF5.out.1.below hb6, by rw [List.take_zero, List.map_nil, List.append_nil]; exact HF5.out.2.below hb6, h6.mono HF5.out.1.bel.size⟩
  generalize (rootsK B 4).length = n5 at HI0 ⊢
  clear hn6 HAL h6 hb6 HF5
  go_wp2_with fail
  go_loopw [7, 53] (fun u7 v wr => ∃ j : Nat, j ≤ n6 ∧ v = .int .i64 (j : Int) ∧ ∃ at_ nt qt, u7 = .slice at_ nt qt ∧ Hid (U2 w3 mF (inB (frK B 4)) B (rootsK B 4 ++ (((lgL B).take j).map fun e => G.word (offA e.1))) (.slice a6 n6 q6) (.slice at_ nt qt) wr)) (fun _ v _ => n6 - (intOf v).toNat)
  case atStart => exact ⟨0, by omega, rfl, _, _, _, rfl, HI0⟩
  case round =>
  clear HI0
  obtain ⟨j, hj, rfl, at_, nt, qt, rfl, HJ⟩ := hrel
  by_cases hjn : j < n6
  · as_aux_lemma =>
    have dj : decide ((j : Int) < (n6 : Int)) = true := decide_eq_true (by omega)
    have hij : (j : Int) < (n6 : Int) := by omega
    obtain ⟨⟨f, od⟩, hx⟩ : ∃ x, (lgL B)[j]? = some x := ⟨(lgL B)[j]'(by rw [Hn6.out]; exact hjn), List.getElem?_eq_getElem _⟩
    obtain ⟨a6', q6', e7, hget⟩ := HJ.out.lr.rdE
    injection e7 with e71 e72 e73
    obtain ⟨g, e74, _, _, x1, x2⟩ := hget j _ hx
    subst e71 e73
    subst e74
    obtain ⟨ow, hZo, s, hs, e1, e2, e3⟩ := Hci.out.l2 _ (List.mem_of_getElem? hx)
    dsimp only at x1 x2 e1 e2
    obtain ⟨no, qo, hno⟩ := st_some (Hci.out.Ac_st (.inl hZo))
    have hs3 := (Hci.out.slot_in hno hs).2.2
    have HFs := hid (And.intro e1.symm hs3)
    have hoff : offA f = s := by rw [e1]; exact offA_add s
    have HI1 : Hid (rootsK B 4 ++ (((lgL B).take (j + 1)).map fun e => G.word (offA e.1)) = (rootsK B 4 ++ (((lgL B).take j).map fun e => G.word (offA e.1))) ++ [G.word s]) := hid (by rw [List.take_add_one, hx, Option.toList_some, List.map_append, List.append_assoc]; simp [hoff])
    have HLt : Hid ((rootsK B 4 ++ (((lgL B).take j).map fun e => G.word (offA e.1))).length ≤ 5000000000) := hid (by
      have h1 := rootsK_len HW3.out.1.inv.bo.nr 4
      rw [List.length_append, List.length_map, List.length_take]
      omega)
    obtain ⟨eb, heb⟩ : ∃ x, wr.heap.size = x := ⟨_, rfl⟩
    clear hx hs hno hZo e1 e2 e3 hs3 hget e72 hoff
    go_upto_region 14 with fail
    obtain ⟨wv, hwv⟩ : ∃ x, wr.alloc (.cells #[.int .u64 (f : Int), .int .u64 (od : Int)] 59) = x := ⟨_, rfl⟩
    have HBv : Hid (Below wr.heap.size wr wv) := hid (by rw [← hwv]; exact nbel wr _)
    have HEb : Hid (Blk wv eb 59 [.int .u64 (f : Int), .int .u64 (od : Int)]) := hid (by
      rw [← hwv, ← heb]
      exact Blk.new wr [.int .u64 (f : Int), .int .u64 (od : Int)] 59)
    simp only [hwv]
    clear hwv x1 x2 heb
    have HJv := hid (HJ.out.below HBv.out)
    clear HJ HBv
    have HSx : Hid (∀ wx : World, Below wv.heap.size wv wx → wx.cell? ⟨wB, 0, none⟩ = some (.pointer (some ⟨L.hB, 0, none⟩)) ∧ wx.cell? ⟨eb, 0, none⟩ = some (.int .u64 (f : Int))) := hid (fun wx hx => ⟨((HW3.out.1.below HJv.out.fs.bel).below hx).wm.cells.1, (HEb.out.below hx).cell 0⟩)
    refine wp_region_heavy (fun wx => wx.cell? ⟨wB, 0, none⟩ = some (.pointer (some ⟨L.hB, 0, none⟩)) ∧ wx.cell? ⟨eb, 0, none⟩ = some (.int .u64 (f : Int))) 10 [0, 1, 2, 3, 4, 5, 6] [7, 8, 9] rfl (by kernel_rfl) (by kernel_rfl) (fun d _ _ _ _ h => by cases d <;> exact h) (HSx.out _ (Drew.below ⟨1, rfl⟩ _)) ?_
    apply Exists.intro
    refine ⟨?_, ?_⟩
    · intro W hW
      have e1 := fun x => (hW x).1
      have e2 := fun x => (hW x).2
      simp only [List.take, opsAt, List.drop, List.cons_append, List.nil_append]
      repeat (go_big_quiet_step (fail))
      exact rfl
    simp only [List.take, List.drop, opsAt, List.cons_append, List.nil_append, wpHv]
    have HBd : Hid (Below wv.heap.size wv wv.drew) := hid (Drew.below ⟨1, rfl⟩ _)
    generalize wv.drew = wd at HBd ⊢
    have HRA := hid (refAt_walk ((HW3.out.1.below HJv.out.fs.bel).below HBd.out).wm.bm.gm (a := f) (s := s) HFs.out.1 HFs.out.2)
    generalize G.word s = x at HRA HI1
    go_wp2_with fail
    refine HRA.out.mono ?_
    rintro e wy ⟨rfl, hby⟩
    have HBy := hid (HBd.out.trans (hby.mono HBd.out.size))
    clear hby HRA HBd
    go_wp2_with fail
    refine ⟨HSx.out _ HBy.out, ?_⟩
    go_wp2_with fail
    obtain ⟨wf, hwf⟩ : ∃ wf, wy.alloc (.cells #[.int .u64 (x : Int)] 48) = wf := ⟨_, rfl⟩
    have HBf : Hid (Below wv.heap.size wv wf) := hid (by rw [← hwf]; exact HBy.out.trans ((nbel wy _).mono HBy.out.size))
    have HNx : Hid (∀ ad, some (⟨wy.heap.size, 0, none⟩ : Addr) = some ad → ∀ j u, ([x].flatMap rtA.f)[j]? = some u → wf.cell? (ad.add j) = some u) := hid (by rw [← hwf]; exact newX rtA wy x _ rfl)
    (try simp only [hwf])
    refine ⟨HSx.out _ HBf.out, ?_⟩
    clear hwf
    have HJf := hid (HJv.out.below HBf.out)
    have HEf := hid (HEb.out.below HBf.out)
    refine wpList_app_l okA rfl (.tmp 57) (.tmp 65) HJf.out.r7 rfl [x] (by simp [Act.eval, Act.put]; done) (some ⟨wy.heap.size, 0, none⟩) 1 1 (by simp [Act.eval, Act.put]; done) rfl (fun h => by cases h) HNx.out (by have := HLt.out; show (_ + 1) * 8 ≤ _; omega) HJf.out.fs.bel.size ?_
    intro v8 w8 hr8 hk8 hg8
    obtain ⟨a8, q8, rfl⟩ := hr8.out.shape
    have HJ8 : Hid (U2 w3 mF (inB (frK B 4)) B (rootsK B 4 ++ (((lgL B).take (j + 1)).map fun e => G.word (offA e.1))) (.slice (some ⟨g, 0, none⟩) n6 q6) (.slice a8 ((rootsK B 4 ++ (((lgL B).take j).map fun e => G.word (offA e.1))) ++ [x]).length q8) w8) := hid (by rw [HI1.out]; exact HJf.out.app hk8.out hr8.out)
    generalize ((rootsK B 4 ++ (((lgL B).take j).map fun e => G.word (offA e.1))) ++ [x]).length = n8 at HJ8 ⊢
    have s1 := ((HW3.out.1.below HJ8.out.fs.bel)).wm.cells.1
    have s2 : w8.cell? ⟨eb, 0, none⟩ = some (.int .u64 (f : Int)) := (hk8.out.keep HEf.out (HJf.out.r7.ne HEf.out (by decide))).cell 0
    clear HJf HEf hr8 hk8 hg8 HNx HBf HBy HJv HEb
    go_wp2_with fail
    refine ⟨⟨s1, s2⟩, ?_⟩
    clear s1 s2
    simp only [QN]
    go_wp2
    exact ⟨⟨j + 1, by omega, by go_num, _, _, _, rfl, HJ8⟩, by simp [intOf]; omega⟩
  have dj : decide ((j : Int) < (n6 : Int)) = false := decide_eq_false (by omega)
  have HJ7 : Hid (U2 w3 mF (inB (frK B 4)) B (rootsK B 4 ++ ((lgL B).map fun e => G.word (offA e.1))) (.slice a6 n6 q6) (.slice at_ nt qt) wr) := hid (by
    have h1 := HJ.out
    rw [List.take_of_length_le (by rw [Hn6.out]; omega)] at h1
    exact h1)
  clear HJ
  as_aux_lemma =>
  obtain ⟨I, hI1, hI2⟩ := pause_facts HW3.out.1.inv Hci.out
  have HPF := hid hI2
  have HLs := hid (pause_least HW3.out.1.inv Hci.out)
  obtain ⟨Gp, hGp⟩ : ∃ x, (pauseP G B).1 = x := ⟨_, rfl⟩
  obtain ⟨Bp, hBp⟩ : ∃ x, (pauseP G B).2.1 = x := ⟨_, rfl⟩
  obtain ⟨hv, hhv⟩ : ∃ x, (pauseP G B).2.2 = x := ⟨_, rfl⟩
  rw [hGp, hBp, hhv] at HPF
  rw [hhv] at HLs
  have HPq := hid (And.intro hGp (And.intro hBp hhv))
  clear hI1 hI2 hGp hBp hhv
  have hmk := @run_makeMap Try.prog
  obtain ⟨mL, hmL⟩ : ∃ x, wr.heap.size = x := ⟨_, rfl⟩
  have HD0 : Hid (DxN w3 G B hv mF mL (.slice at_ nt qt) (.slice none 0 0) (.slice none 0 0) (wr.alloc (.map #[] 0)) 6000000000) := hid (by
    have hh := HJ7.out.below (nbel wr (.map #[] 0))
    refine ⟨[], _, ⟨hh.fs.bel, hh.r7, OwR.nil _ _ _, OwR.nil _ _ _, fun g _ h => (by cases h), fun g _ h => (by cases h), fun g h => (by cases h), hh.fs.bf, (BF.new wr hmL).congr (fun a => rfl), hh.fs.lo, ?_⟩, DfP.start HW3.out.1.inv Hci.out HPF.out, ?_, ?_⟩
    · have := MF.lt HJ7.out.fs.bf; omega
    · have h1 := rootsK_len HW3.out.1.inv.bo.nr 4
      rw [List.length_append, List.length_map, Hn6.out]
      omega
    · have h1 := rootsK_len HW3.out.1.inv.bo.nr 4
      rw [List.length_append, List.length_map, Hn6.out]
      simp only [List.length_nil]
      omega)
  go_upto_region 18 with fail
  try simp only [hmL]
  generalize wr.alloc (.map #[] 0) = w7 at HD0 ⊢
  clear hmk hmL HJ7 dj
  go_loopw [7, 10, 11] (fun u7 u10 u11 wr => ∃ a7 n7 q7 a10 n10 q10 a11 n11 q11, u7 = .slice a7 n7 q7 ∧ u10 = .slice a10 n10 q10 ∧ u11 = .slice a11 n11 q11 ∧ Hid (∃ N, DxN w3 G B hv mF mL (.slice a7 n7 q7) (.slice a10 n10 q10) (.slice a11 n11 q11) wr N)) (fun u7 u10 u11 wr => leastN (fun N => DxN w3 G B hv mF mL u7 u10 u11 wr N))
  case atStart => exact ⟨_, _, _, _, _, _, _, _, _, rfl, rfl, rfl, hid ⟨_, HD0.out⟩⟩
  case round =>
  obtain ⟨ax, nx, qx, a10, n10, q10, a11, n11, q11, rfl, rfl, rfl, Hsp0⟩ := hrel
  have Hsp := hid (leastN_spec Hsp0.out)
  clear Hsp0 HD0
  obtain ⟨S, td, hdf, hdp, htl, hmu⟩ := Hsp.out
  obtain ⟨N, hN⟩ : ∃ N, leastN (fun N => DxN w3 G B hv mF mL (.slice ax nx qx) (.slice a10 n10 q10) (.slice a11 n11 q11) wr N) = N := ⟨_, rfl⟩
  rw [hN] at hmu
  have HN := hid hN
  have HDf := hid hdf
  have HDp := hid hdp
  have Htl := hid htl
  have Hmu := hid hmu
  clear Hsp hN hdf hmu hdp htl
  have hv' : nx = td.length := by
    obtain ⟨ax', qx', hv'⟩ := HDf.out.r7.shape
    injection hv'
  rcases List.eq_nil_or_concat td with htd | ⟨td', x, htd⟩
  rotate_left
  · subst htd
    rw [List.concat_eq_append] at HDf Hmu hv' HDp Htl
    obtain ⟨m, hm⟩ : ∃ m, td'.length = m := ⟨_, rfl⟩
    have hlen : (td' ++ [x]).length = m + 1 := by rw [List.length_append, hm]; rfl
    rw [hlen] at hv'
    subst hv'
    obtain ⟨a', q', e, hget⟩ := HDf.out.r7.rdA
    obtain ⟨g, ha', _, hg, cx⟩ := hget m x (by rw [List.getElem?_append_right (by omega), hm, Nat.sub_self]; rfl)
    subst ha'
    injection e with e1 e2 e3
    subst e1 e3
    have hcap := HDf.out.r7.rx.cap
    have iq1 : (m : Int) + 1 ≤ (qx : Int) := by have := hcap.2; omega
    have iq2 : (qx : Int) ≤ 9223372036854775807 := by have := hcap.1; unfold maxLen at this; omega
    have im1 : (m : Int) + 1 - 1 = (m : Int) := by omega
    have im2 : (((m + 1 : Nat) : Int)) - 1 = (m : Int) := by omega
    have dm : decide (((m + 1 : Nat) : Int) > 0) = true := decide_eq_true (by omega)
    have dm2 : decide ((0 : Int) < (m : Int) + 1) = true := decide_eq_true (by omega)
    have HMu : Hid ((32769 - S.length) * 8193 + m + 1 ≤ N ∧ m + 1 ≤ 5000000000 + S.length * 8192) := hid (by have h1 := Hmu.out; have h2 := Htl.out; rw [hlen] at h1 h2; omega)
    have Hm := hid hm
    have HDc : Hid (UdI w3 mF mL (inB (frK B 4)) S S (S.flatMap (refL G)) td' (.slice (some ⟨g, 0, none⟩) m qx) (.slice a10 n10 q10) (.slice a11 n11 q11) wr) := hid (by
      have h1 := HDf.out.r7.cut
      rw [hm] at h1
      have hh := HDf.out
      exact ⟨hh.bel, h1, hh.r10, hh.r11, hh.d1, hh.d2, hh.d3, hh.bf, hh.bl, hh.lo, hh.l2⟩)
    clear hget hlen hcap Hmu e2 hg hm HDf Htl
    have hl1 := HDc.out.bf.look x
    have hl2 := HDc.out.bl.look x
    by_cases hx : x ∉ frL B ∨ x ∈ S
    · as_aux_lemma =>
      have HD2 : Hid (DxN w3 G B hv mF mL (.slice (some ⟨g, 0, none⟩) m qx) (.slice a10 n10 q10) (.slice a11 n11 q11) wr (N - 1) ∧ N - 1 < N) := hid (by
        have h1 := HMu.out
        have h2 := Hm.out
        exact ⟨⟨S, td', HDc.out, HDp.out.skip hx, by omega, by omega⟩, by omega⟩)
      clear HDc
      by_cases hf : x ∈ frL B
      · rw [show inB (frK B 4) x = true from decide_eq_true hf] at hl1
        rw [show inB S x = true from decide_eq_true (hx.resolve_left (fun h => h hf))] at hl2
        go_wp2
        refine ⟨⟨_, _, _, _, _, _, _, _, _, rfl, rfl, rfl, hid ⟨N - 1, HD2.out.1⟩⟩, ?_⟩
        rw [HN.out]
        exact Nat.lt_of_le_of_lt (leastN_le HD2.out.1) HD2.out.2
      · rw [show inB (frK B 4) x = false from decide_eq_false hf] at hl1
        clear hl2
        go_wp2
        refine ⟨⟨_, _, _, _, _, _, _, _, _, rfl, rfl, rfl, hid ⟨N - 1, HD2.out.1⟩⟩, ?_⟩
        rw [HN.out]
        exact Nat.lt_of_le_of_lt (leastN_le HD2.out.1) HD2.out.2
    have hf : x ∈ frL B := Classical.byContradiction fun h => hx (.inl h)
    have hnS : x ∉ S := fun h => hx (.inr h)
    rw [show inB (frK B 4) x = true from decide_eq_true hf] at hl1
    rw [show inB S x = false from decide_eq_false hnS] at hl2
    obtain ⟨w8, hput, h8⟩ := HDc.out.put x
    have HD8 := hid h8
    have HDt := hid (HDp.out.take HPF.out hf hnS)
    have HSl : Hid (S.length ≤ 32768) := hid (seen_len HDp.out.nd (fun y hy => Hci.out.ok.head_in (Hci.out.fz y (HDp.out.fr y hy))))
    have hst := Hci.out.fz x hf
    have Hst := hid hst
    have HRl : Hid ((refL G x).length ≤ 8192) := hid (by
      obtain ⟨n2, q2, hsh⟩ := st_some hst
      have h1 := refP_len G x (rfOf G x)
      have h2 := Hci.out.ok.hd x n2 q2 hsh
      have h3 := (stand_rf hsh).1
      unfold refL
      omega)
    have HBl : Hid ((S.flatMap (refL G)).length ≤ 300000000) := hid (by
      have h2 := refs_len Hci.out.ok S (fun y hy => Hci.out.fz y (HDp.out.fr y hy))
      have h3 := HSl.out
      have h4 : S.length * 8192 ≤ 32768 * 8192 := Nat.mul_le_mul_right _ h3
      omega)
    clear h8 HDc hx hf hnS hst HDp
    as_aux_lemma =>
    go_upto_region 23 with fail
    clear hl1 hl2 hput cx
    go_wp2_with (at_builtin; refine stopHere ?_)
    intro _
    obtain ⟨k, hk8⟩ : ∃ k, w8.heap.size = k := ⟨_, rfl⟩
    obtain ⟨wf, hwf⟩ : ∃ wf, w8.alloc (.cells #[.int .u64 (x : Int)] 48) = wf := ⟨_, rfl⟩
    have HDf : Hid (UdI w3 mF mL (inB (frK B 4)) (S ++ [x]) S (S.flatMap (refL G)) td' (.slice (some ⟨g, 0, none⟩) m qx) (.slice a10 n10 q10) (.slice a11 n11 q11) wf) := hid (by rw [← hwf]; exact HD8.out.below (nbel w8 _))
    have HNx : Hid (∀ ad, some (⟨k, 0, none⟩ : Addr) = some ad → ∀ j u, ([x].flatMap rtA.f)[j]? = some u → wf.cell? (ad.add j) = some u) := hid (by rw [← hwf]; exact newX rtA w8 x _ hk8.symm)
    (try simp only [hwf, hk8])
    clear hwf hk8 HD8
    refine wpList_app_l okA rfl _ _ HDf.out.r10 rfl [x] rfl (some ⟨k, 0, none⟩) 1 1 rfl rfl (fun h => by cases h) HNx.out (by
      have h1 := HSl.out
      show (S.length + 1) * 8 ≤ _
      omega) HDf.out.bel.size ?_
    intro v9 w9 hr9 hk9 hg9
    obtain ⟨a9, q9, rfl⟩ := hr9.out.shape
    have HD9 := hid (HDf.out.app10 hk9.out hr9.out hg9)
    generalize (S ++ [x]).length = n9 at HD9 ⊢
    clear HDf hr9 hk9 hg9 HNx
    have HRf := hid (refsOf_walk (HW3.out.1.below HD9.out.bel).wm Hci.out.ok Hst.out)
    go_wp2_with fail
    refine HRf.out.mono ?_
    rintro e wa ⟨va, rfl, hra, hba⟩
    obtain ⟨aa, qa, rfl⟩ := hra.shape
    have HDa := hid (HD9.out.below hba)
    have hsrc := hra.rx.src
    clear HD9 HRf hba
    go_wp2_with (at_builtin; refine stopHere ?_)
    intro _
    refine wpList_app_l okA rfl _ _ HDa.out.r11 rfl (refL G x) rfl aa (refL G x).length qa rfl rfl (fun h => hsrc.2.1 h) hsrc.1 (by
      have h1 := HRl.out
      have h2 := HBl.out
      show ((S.flatMap (refL G)).length + (refL G x).length) * 8 ≤ _
      omega) HDa.out.bel.size ?_
    intro vb wb hrb hkb hgb
    obtain ⟨ab, qb, rfl⟩ := hrb.out.shape
    have HDb := hid (HDa.out.app11 hkb.out hrb.out hgb)
    generalize (S.flatMap (refL G) ++ refL G x).length = nb at HDb ⊢
    clear HDa hrb hkb hgb hsrc hra
    have HRf := hid (refsOf_walk (HW3.out.1.below HDb.out.bel).wm Hci.out.ok Hst.out)
    go_wp2_with fail
    refine HRf.out.mono ?_
    rintro e wc ⟨vc, rfl, hrc, hbc⟩
    obtain ⟨ac, qc, rfl⟩ := hrc.shape
    have HDc := hid (HDb.out.below hbc)
    have hsrc := hrc.rx.src
    clear HDb HRf hbc
    go_wp2_with (at_builtin; refine stopHere ?_)
    intro _
    refine wpList_app_l okA rfl _ _ HDc.out.r7 rfl (refL G x) rfl ac (refL G x).length qc rfl rfl (fun h => hsrc.2.1 h) hsrc.1 (by
      have h1 := HRl.out
      have h2 := HMu.out.2
      have h3 := HSl.out
      have h4 := Hm.out
      show (td'.length + (refL G x).length) * 8 ≤ _
      omega) HDc.out.bel.size ?_
    intro vd wd hrd hkd hgd
    obtain ⟨ad, qd, rfl⟩ := hrd.out.shape
    have HDd := hid (HDc.out.app7 hkd.out hrd.out hgd)
    have HDe : Hid (DxN w3 G B hv mF mL (.slice ad (td' ++ refL G x).length qd) (.slice a9 n9 q9) (.slice ab nb qb) wd (N - 1) ∧ N - 1 < N) := hid (by
      have h1 := HMu.out
      have h2 := Hm.out
      have h3 := HSl.out
      have h4 := HRl.out
      refine ⟨⟨S ++ [x], td' ++ refL G x, ?_, HDt.out, ?_, ?_⟩, by omega⟩
      · have h5 := HDd.out
        have e : (S ++ [x]).flatMap (refL G) = S.flatMap (refL G) ++ refL G x := by rw [List.flatMap_append]; simp
        rw [e]
        exact h5
      · rw [List.length_append, List.length_append, List.length_singleton]; omega
      · rw [List.length_append, List.length_append, List.length_singleton]; omega)
    generalize (td' ++ refL G x).length = nd at HDe ⊢
    clear HDd HDc hrd hkd hgd hsrc hrc
    go_wp2
    refine ⟨⟨_, _, _, _, _, _, _, _, _, rfl, rfl, rfl, hid ⟨N - 1, HDe.out.1⟩⟩, ?_⟩
    rw [HN.out]
    exact Nat.lt_of_le_of_lt (leastN_le HDe.out.1) HDe.out.2
  subst htd
  have hv'' : nx = 0 := hv'
  clear hv'
  subst hv''
  have HPm := hid (HDp.out.end_ HW3.out.1.inv Hci.out HPF.out HLs.out)
  have HSn := hid (And.intro HDp.out.nd HDp.out.fr)
  clear HN Hmu Htl HDp HLs
  as_aux_lemma =>
  have hmk := @run_makeMap Try.prog
  obtain ⟨mZ, hmZ⟩ : ∃ x, wr.heap.size = x := ⟨_, rfl⟩
  obtain ⟨E, hE1, hE2, hE3⟩ := HDf.out.bf
  have HEk : Hid (∀ e ∈ E, e.k ∈ frL B) := hid (fun e he => by
    have := hE2 e he
    unfold bsF at this
    split at this
    · next h => exact of_decide_eq_true h
    · cases this)
  have HEa : Hid (∀ x ∈ frL B, x ∈ E.map (·.k)) := hid (fun x hx => by
    obtain ⟨e, he, hek⟩ := hE3 x (.bool true) (by unfold bsF; rw [show inB (frK B 4) x = true from decide_eq_true hx]; rfl)
    exact List.mem_map.2 ⟨e, he, hek⟩)
  have HDz : Hid (UdI w3 mF mL (inB (frK B 4)) S S (S.flatMap (refL G)) [] (.slice ax 0 qx) (.slice a10 n10 q10) (.slice a11 n11 q11) (wr.alloc (.map #[] 0)) ∧ Cn (wr.alloc (.map #[] 0)) mZ (fun _ => 0) ∧ PN (wr.alloc (.map #[] 0)) mF E ∧ mL < mZ) := hid ⟨HDf.out.below (nbel wr _), (Cn.new wr hmZ).congr (fun a => rfl), hE1.below (nbel wr _), by have := MF.lt HDf.out.bl; omega⟩
  go_upto_region 27 with fail
  try simp only [hmZ]
  generalize wr.alloc (.map #[] 0) = w9 at HDz ⊢
  clear hmk hmZ HDf hE1 hE2 hE3
  obtain ⟨r, hr⟩ : ∃ x, w9.heap.size = x := ⟨_, rfl⟩
  go_wp2_with (at_range; refine wpList_range_pn rfl (.tmp 109) 45 rfl Try.underlying45 mF E rfl HDz.out.2.2.1 ?_; intro w2 hit2 hbe2 hsz2)
  go_frame
  have HI2 : Hid (U4 w3 mF mL mZ r E S (S.flatMap (refL G)) (E.map (·.k)) [] (fun _ => 0) (.slice a10 n10 q10) (.slice a11 n11 q11) (.slice none 0 0) w2) := hid (by
    have hh := HDz.out.1.below hbe2
    exact ⟨hh.bel, by rw [← hr]; exact hit2, HDz.out.2.2.1.below hbe2, hh.r10, hh.r11, OwR.nil _ _ _, fun g h => (by cases h), fun g h => (by cases h), hh.bl, HDz.out.2.1.of (hbe2.block _ HDz.out.2.1.lt), hh.lo, hh.l2, HDz.out.2.2.2, by have := HDz.out.2.1.lt; omega⟩)
  have HD0 : Hid (DdP B S (E.map (·.k)) []) := hid ⟨List.nodup_nil, fun x => by
    constructor
    · intro h; cases h
    · rintro ⟨h1, h2, _⟩; exact absurd (HEa.out x h1) h2⟩
  simp only [hr]
  clear hit2 hbe2 hsz2 hr HDz
  go_loopw [12] (fun u12 wr => ∃ Tk D c ad nd qd, u12 = .slice ad nd qd ∧ Hid (U4 w3 mF mL mZ r E S (S.flatMap (refL G)) Tk D c (.slice a10 n10 q10) (.slice a11 n11 q11) (.slice ad nd qd) wr) ∧ Hid (DdP B S Tk D) ∧ Hid (∀ x ∈ D, c x = szOf G x)) (fun _ wr => World.rangeLeft wr mF r)
  case atStart => exact ⟨_, _, _, _, _, _, rfl, HI2, HD0, hid (fun x hx => (by cases hx))⟩
  case round =>
  clear HI2 HD0
  obtain ⟨Tk, D, cz, ad, nd, qd, rfl, HI, HDd, HCz⟩ := hrel
  go_upto_region 28 with fail
  refine wp_region_lit ?_
  refine wpList_next_pn rfl (.tmp 110) rfl r mF E Tk rfl HI.out.pn HI.out.it ?_ ?_
  rotate_left
  · intro e w4 he heT hpn4 hit4 hu4 hsz4 hent
    have hfx := HEk.out e he
    have HI4 := hid (HI.out.next hu4 hit4 hpn4)
    have HMs : Hid (∀ w' D' c' v', U4 w3 mF mL mZ r E S (S.flatMap (refL G)) (Tk.filter fun k => decide (k ≠ e.k)) D' c' (.slice a10 n10 q10) (.slice a11 n11 q11) v' w' → World.rangeLeft w' mF r < World.rangeLeft wr mF r) := hid (fun w' D' c' v' h' => by rw [h'.it.left, HI.out.it.left]; exact left_less he heT)
    obtain ⟨x, hx⟩ : ∃ x, e.k = x := ⟨_, rfl⟩
    obtain ⟨ev, hev⟩ : ∃ ev, e.v = ev := ⟨_, rfl⟩
    rw [hx] at hfx HI4 HMs heT
    rw [hx, hev] at hent
    rw [hx, hev]
    have hl := HI4.out.bl.look x
    have HfT := hid (And.intro hfx heT)
    have HDl : Hid (D.length ≤ 32768) := hid (seen_len HDd.out.nd (fun y hy => Hci.out.ok.head_in (Hci.out.fz y ((HDd.out.m y).1 hy).1)))
    clear he hpn4 hit4 hu4 hsz4 hx hev HI hfx heT
    as_aux_lemma =>
    go_frame
    by_cases hS : x ∈ S
    · as_aux_lemma =>
      rw [show inB S x = true from decide_eq_true hS] at hl
      go_wp2
      exact ⟨⟨_, _, _, _, _, _, rfl, HI4, hid (HDd.out.skip hS), HCz⟩, HMs.out _ _ _ _ HI4.out⟩
    rw [show inB S x = false from decide_eq_false hS] at hl
    have HD5 := hid (HDd.out.add hS HfT.out.1 HfT.out.2)
    have Hst := hid (Hci.out.fz x HfT.out.1)
    go_upto_region 31 with fail
    clear hl hent
    go_wp2_with (at_builtin; refine stopHere ?_)
    intro _
    obtain ⟨k, hk8⟩ : ∃ k, w4.heap.size = k := ⟨_, rfl⟩
    obtain ⟨wf, hwf⟩ : ∃ wf, w4.alloc (.cells #[.int .u64 (x : Int)] 48) = wf := ⟨_, rfl⟩
    have HIf : Hid (U4 w3 mF mL mZ r E S (S.flatMap (refL G)) (Tk.filter fun k => decide (k ≠ x)) D cz (.slice a10 n10 q10) (.slice a11 n11 q11) (.slice ad nd qd) wf) := hid (by rw [← hwf]; exact HI4.out.below (nbel w4 _))
    have HNx : Hid (∀ ad, some (⟨k, 0, none⟩ : Addr) = some ad → ∀ j u, ([x].flatMap rtA.f)[j]? = some u → wf.cell? (ad.add j) = some u) := hid (by rw [← hwf]; exact newX rtA w4 x _ hk8.symm)
    (try simp only [hwf, hk8])
    clear hwf hk8 HI4
    refine wpList_app_l okA rfl _ _ HIf.out.r12 rfl [x] rfl (some ⟨k, 0, none⟩) 1 1 rfl rfl (fun h => by cases h) HNx.out (by
      have h1 := HDl.out
      show (D.length + 1) * 8 ≤ _
      omega) HIf.out.bel.size ?_
    intro v9 w9 hr9 hk9 hg9
    obtain ⟨a9, q9, rfl⟩ := hr9.out.shape
    have HI9 := hid (HIf.out.app hk9.out hr9.out hg9)
    generalize (D ++ [x]).length = n9 at HI9 ⊢
    clear HIf hr9 hk9 hg9 HNx
    obtain ⟨sz, qz, hsh⟩ := st_some Hst.out
    have hlw := HW3.out.1.below HI9.out.bel
    have c0 := hlw.wm.cells.1
    have c1 := hlw.wm.bm.gm.hcells.1
    have hlk := hlw.wm.bm.gm.lookH x
    rw [hsh] at hlk
    have e0 : shV ((some (sz, qz)).getD (0, 0)) = .agg #[.int .i64 (sz : Int), .int .i64 (qz : Int)] := rfl
    rw [e0] at hlk
    have hfl : ∀ w, (Instr.field 73 (.agg #[.int .i64 (sz : Int), .int .i64 (qz : Int)]) 0).run Try.prog w = .ok (.int .i64 (sz : Int)) w := fun w => by simp [Instr.field, Try.underlying73, go_sem, asAgg]
    obtain ⟨w10, hput, h10⟩ := HI9.out.put x sz
    have HC10 : Hid (∀ y ∈ D ++ [x], fup cz x sz y = szOf G y) := hid (fun y hy => by
      by_cases e : y = x
      · subst e; rw [fup_self, (stand_rf hsh).2]
      · rw [fup_ne _ _ e]
        refine HCz.out y ?_
        rcases List.mem_append.1 hy with h1 | h1
        · exact h1
        · simp at h1; exact absurd h1 e)
    have HI10 := hid h10
    clear hlw e0 hsh h10 HI9
    go_wp2
    exact ⟨⟨_, _, _, _, _, _, rfl, HI10, HD5, HC10⟩, HMs.out _ _ _ _ HI10.out⟩
  intro hT
  subst hT
  clear HEk HEa
  as_aux_lemma =>
  go_frame
  obtain ⟨w20, hw20⟩ : ∃ x, wr = x := ⟨_, rfl⟩
  rw [hw20] at HI ⊢
  clear hw20
  have hmk := @run_makeMap Try.prog
  obtain ⟨mW, hmW⟩ : ∃ x, w20.heap.size = x := ⟨_, rfl⟩
  have HC0 : Hid (Cn (w20.alloc (.map #[] 0)) mW (fun _ => 0) ∧ Below w20.heap.size w20 (w20.alloc (.map #[] 0)) ∧ w20.heap.size ≤ mW) := hid ⟨(Cn.new w20 hmW).congr (fun a => rfl), nbel w20 _, by omega⟩
  go_upto_region 34 with fail
  try simp only [hmW]
  generalize w20.alloc (.map #[] 0) = w21 at HC0 ⊢
  clear hmk hmW
  have HL20 := hid (HW3.out.1.below HI.out.bel)
  have hlw := HL20.out.below HC0.out.2.1
  have c2 := hlw.wm.cells.2.2.1
  have cp := hlw.wm.bm.gm.ccells.2.2.2.1
  obtain ⟨E2, hE1, hE2, hE3⟩ := HL20.out.wm.bm.gm.mp rfl
  have HPn5 : Hid (PN w20 L.mP E2 ∧ L.mP < w20.heap.size) := hid ⟨hE1, hE1.lt⟩
  have HPn := hid (hE1.below HC0.out.2.1)
  have HEn : Hid (∀ e ∈ E2, G.pend e.k ≠ 0 ∧ e.v = .int .i64 (G.pend e.k : Int)) := hid (fun e he => by
    have := hE2 e he
    unfold ctF at this
    by_cases h0 : G.pend e.k = 0
    · rw [if_pos h0] at this; cases this
    · rw [if_neg h0] at this; exact ⟨h0, (Option.some.inj this).symm⟩)
  have HEa : Hid (∀ y, y ∉ E2.map (·.k) → G.pend y = 0) := hid (fun y hy => by
    apply Classical.byContradiction
    intro h0
    obtain ⟨e, he, hek⟩ := hE3 y (.int .i64 (G.pend y : Int)) (by unfold ctF; rw [if_neg h0])
    exact hy (List.mem_map.2 ⟨e, he, hek⟩))
  clear hE1 hE2 hE3 hlw
  obtain ⟨r2, hr⟩ : ∃ x, w21.heap.size = x := ⟨_, rfl⟩
  go_wp2_with (at_range; refine wpList_range_pn rfl (.tmp 142) 71 rfl Try.underlying71 L.mP E2 rfl HPn.out ?_; intro w2 hit2 hbe2 hsz2)
  go_frame
  have HI2 : Hid (HdI w20 L.mP E2 r2 (E2.map (·.k)) w2 ∧ Cn w2 mW (fun y => if y ∈ E2.map (·.k) then 0 else G.pend y) ∧ mW < r2 ∧ w20.heap.size ≤ mW) := hid (by
    have h1 := HC0.out
    refine ⟨⟨by rw [← hr]; exact hit2, h1.2.1.trans (hbe2.mono h1.2.1.size), by have := h1.2.1.size; omega, HPn5.out.2⟩, (h1.1.of (hbe2.block _ h1.1.lt)).congr (fun y => ?_), by have := h1.1.lt; omega, h1.2.2⟩
    by_cases e : y ∈ E2.map (·.k)
    · rw [if_pos e]
    · rw [if_neg e, HEa.out y e])
  simp only [hr]
  clear hit2 hbe2 hsz2 c2 cp hr HC0 HPn
  go_loopw [] (fun wr => ∃ Tk, Hid (HdI w20 L.mP E2 r2 Tk wr ∧ Cn wr mW (fun y => if y ∈ Tk then 0 else G.pend y) ∧ mW < r2 ∧ w20.heap.size ≤ mW)) (fun wr => World.rangeLeft wr L.mP r2)
  case atStart => exact ⟨_, HI2⟩
  case round =>
  clear HI2
  obtain ⟨Tk, HI3⟩ := hrel
  have Hpn : Hid (PN wr L.mP E2) := hid (HPn5.out.1.below HI3.out.1.bel)
  go_upto_region 35 with fail
  refine wp_region_lit ?_
  refine wpList_next_pn rfl (.tmp 143) rfl r2 L.mP E2 Tk rfl Hpn.out HI3.out.1.it ?_ ?_
  rotate_left
  · intro e w3' he heT hpn3 hit3 hu3 hsz3 hent
    obtain ⟨hp0, hev⟩ := HEn.out e he
    have HI4 : Hid (HdI w20 L.mP E2 r2 (Tk.filter fun k => decide (k ≠ e.k)) w3' ∧ Cn w3' mW (fun y => if y ∈ Tk then 0 else G.pend y)) := hid ⟨⟨hit3, HI3.out.1.bel.trans (hu3.below HI3.out.1.lo HI3.out.1.bel.size), HI3.out.1.lo, HI3.out.1.ml⟩, HI3.out.2.1.of (hu3.block mW HI3.out.2.1.lt (by have := HI3.out.2.2.1; omega))⟩
    have HMs : Hid (∀ w', HdI w20 L.mP E2 r2 (Tk.filter fun k => decide (k ≠ e.k)) w' → World.rangeLeft w' L.mP r2 < World.rangeLeft wr L.mP r2) := hid (fun w' h' => HI3.out.1.ms he heT h')
    have HOr := hid HI3.out.2.2
    rw [hev] at hent
    rw [hev]
    obtain ⟨x, hx⟩ : ∃ x, e.k = x := ⟨_, rfl⟩
    rw [hx] at hent HI4 HMs heT
    rw [hx]
    obtain ⟨pv, hpv⟩ : ∃ pv, G.pend x = pv := ⟨_, rfl⟩
    rw [hpv] at hent
    rw [hpv]
    obtain ⟨w8, hput, h8, hu8⟩ := HI4.out.2.put x pv
    have HD8 : Hid (HdI w20 L.mP E2 r2 (Tk.filter fun k => decide (k ≠ x)) w8 ∧ Cn w8 mW (fun y => if y ∈ Tk.filter (fun k => decide (k ≠ x)) then 0 else G.pend y) ∧ mW < r2 ∧ w20.heap.size ≤ mW) := hid (by
      refine ⟨HI4.out.1.upd hu8 HOr.out.2 (by have := HOr.out.1; omega), h8.congr (fun y => ?_), HOr.out⟩
      by_cases e : y = x
      · subst e
        rw [fup_self, if_neg (by simp), hpv]
      · rw [fup_ne _ _ e]
        by_cases e2 : y ∈ Tk
        · rw [if_pos e2, if_pos (List.mem_filter.2 ⟨e2, decide_eq_true e⟩)]
        · rw [if_neg e2, if_neg (fun hc => e2 (List.mem_filter.1 hc).1)])
    clear he heT hpn3 hit3 hu3 hsz3 hev hx HI3 Hpn h8 hu8 hpv hp0 HI4
    as_aux_lemma =>
    go_frame
    go_wp2
    exact ⟨⟨_, HD8⟩, HMs.out _ HD8.out.1⟩
  intro hT
  subst hT
  -- all is gathered: the pause
  have HK : Hid (LW w' wB i ρ L T G B wr ∧ Blk wr ob 31 (opC o) ∧ ρ ob = 0 ∧ RowX rtA wr ρ 0 (.slice a10 n10 q10) S ∧ RowX rtA wr ρ 0 (.slice a11 n11 q11) (S.flatMap (refL G)) ∧ RowX rtA wr ρ 0 (.slice ad nd qd) D ∧ Cn wr mZ cz ∧ Cn wr mW G.pend ∧ ρ mZ = 0 ∧ ρ mW = 0 ∧ mZ ≠ mW ∧ wB ≠ mW ∧ w'.heap.size ≤ mW) := hid (by
    have hb := HI3.out.1.bel
    have hz := fun g (hg : w3.heap.size ≤ g) => HW3.out.1.new0 hg
    have h1 := HI.out.lo
    have h2 := HI.out.l2
    have h3 := HI.out.l3
    have h4 := HI.out.cn.lt
    have h5 := HI3.out.2.2.2
    have h6 := HI.out.bel.size
    have h7 := HW3.out.1.wm.wb.lt
    have h8 := HW3.out.1.bel.size
    refine ⟨HL20.out.below hb, (HW3.out.2.1.below HI.out.bel).below hb, HW3.out.2.2, (HI.out.r10.below hb).rx0 hz, (HI.out.r11.below hb).rx0 hz, (HI.out.r12.below hb).rx0 hz, HI.out.cn.of (hb.block _ h4), HI3.out.2.1.congr (fun y => ?_), hz mZ (by omega), hz mW (by omega), by omega, by omega, by omega⟩
    rw [if_neg (by simp)])
  clear HI HI3 Hpn HEa HEn HPn5 HL20 HW3
  as_aux_lemma =>
  go_frame
  have hp := playS_7 (G := G) (B := B) he7.out
  have I3 := hid info_hv
  go_upto_region 38 with fail
  go_wp2_with (refine wpList_load_blk rfl 31 _ rfl ob rfl (opC o) HK.out.2.1 _ Try.underlying31 rfl I1.out ?_)
  refine (HK.out.1.play (by omega) o HOk.out).mono ?_
  rintro e w6 ⟨V, ρ4, L4, T4, rfl, h4⟩
  rw [hp] at h4
  rw [hp]
  dsimp only
  have HP4 : Hid (LW w' wB (i + 1) ρ4 L4 T4 Gp Bp w6 ∧ (∀ i, i < 8 → RowX rtA w6 ρ4 (41 + i) (V i) (hv i)) ∧ RowX rtA w6 ρ4 0 (.slice a10 n10 q10) S ∧ RowX rtA w6 ρ4 0 (.slice a11 n11 q11) (S.flatMap (refL G)) ∧ RowX rtA w6 ρ4 0 (.slice ad nd qd) D ∧ Cn w6 mZ cz ∧ Cn w6 mW G.pend ∧ ρ4 mW = 0) := hid (by
    have hk := HK.out
    have h1 := h4.lw
    have h2 := h4.rw
    dsimp only at h1 h2
    rw [HPq.out.1, HPq.out.2.1] at h1
    rw [HPq.out.2.2] at h2
    exact ⟨h1, h2, hk.2.2.2.1.fr h4.fr rfl, hk.2.2.2.2.1.fr h4.fr rfl, hk.2.2.2.2.2.1.fr h4.fr rfl, hk.2.2.2.2.2.2.1.of (h4.fr.blk _ hk.2.2.2.2.2.2.1.lt (by rw [hk.2.2.2.2.2.2.2.2.1]; rfl)), hk.2.2.2.2.2.2.2.1.of (h4.fr.blk _ hk.2.2.2.2.2.2.2.1.lt (by rw [hk.2.2.2.2.2.2.2.2.2.1]; rfl)), by rw [h4.fr.old _ hk.2.2.2.2.2.2.2.1.lt]; exact hk.2.2.2.2.2.2.2.2.2.1⟩)
  have HOr : Hid (mZ ≠ mW ∧ wB ≠ mW ∧ w'.heap.size ≤ mW) := hid HK.out.2.2.2.2.2.2.2.2.2.2
  have HGb := hid (HK.out.1.inv.gb (by omega)).pend
  have Hci5 : Hid (CI Gp Bp Gp.word (Rch Gp (rootsK B 4))) := hid (by
    have := Hci.out.pause HK.out.1.inv (by omega)
    rw [HPq.out.1, HPq.out.2.1] at this
    exact this)
  have HInb := hid (fun m => HK.out.1.inv.bo.nl m)
  have HNa := hid HK.out.1.inv.bo.na
  clear h4 HK hp
  have hfl := field_hv 0 0 V
  obtain ⟨ra, hra⟩ : ∃ x, (rzH 0 0 V).toArray = x := ⟨_, rfl⟩
  rw [hra] at hfl
  rw [hra]
  clear hra
  obtain ⟨hb2, hhb⟩ : ∃ r, w6.heap.size = r := ⟨_, rfl⟩
  have hbz := Blk.new w6 [.slice none 0 0, .slice none 0 0, .slice none 0 0, .slice none 0 0, .slice none 0 0, .slice none 0 0, .slice none 0 0, .slice none 0 0] 36
  rw [hhb] at hbz
  have HZ := hid hbz
  have HOne : Hid (∀ u ∈ [V 0, V 1, V 2, V 3, V 4, V 5, V 6, V 7], u.oneCell' = true) := hid (fun u hu => by
    have hs : ∀ i, i < 8 → (V i).oneCell' = true := fun i hi => by
      obtain ⟨a, q, e⟩ := (HP4.out.2.1 i hi).shape
      rw [e]
      rfl
    simp only [List.mem_cons, List.not_mem_nil, or_false] at hu
    rcases hu with rfl | rfl | rfl | rfl | rfl | rfl | rfl | rfl
    all_goals exact hs _ (by decide))
  clear hbz
  go_upto_region 39 with (refine wpList_store_blk rfl 36 _ _ rfl hb2 rfl [V 0, V 1, V 2, V 3, V 4, V 5, V 6, V 7] rfl HZ.out rfl I3.out HOne.out ?_; intro w9 HB9 HU9)
  have HQ9 : Hid (LW w' wB (i + 1) ρ4 L4 T4 Gp Bp w9 ∧ (∀ i, i < 8 → RowX rtA w9 ρ4 (41 + i) (V i) (hv i)) ∧ RowX rtA w9 ρ4 0 (.slice a10 n10 q10) S ∧ RowX rtA w9 ρ4 0 (.slice a11 n11 q11) (S.flatMap (refL G)) ∧ RowX rtA w9 ρ4 0 (.slice ad nd qd) D ∧ Cn w9 mZ cz ∧ Cn w9 mW G.pend ∧ Blk w9 hb2 36 [V 0, V 1, V 2, V 3, V 4, V 5, V 6, V 7]) := hid (by
    have hn := nbel w6 (.cells #[.slice none 0 0, .slice none 0 0, .slice none 0 0, .slice none 0 0, .slice none 0 0, .slice none 0 0, .slice none 0 0, .slice none 0 0] 36)
    have hb9 : Below w6.heap.size w6 w9 := hn.trans (HU9.out.below (by omega) hn.size)
    have hh := HP4.out
    exact ⟨hh.1.below hb9, fun i hi => (hh.2.1 i hi).below hb9, hh.2.2.1.below hb9, hh.2.2.2.1.below hb9, hh.2.2.2.2.1.below hb9, hh.2.2.2.2.2.1.of (hb9.block _ hh.2.2.2.2.2.1.lt), hh.2.2.2.2.2.2.1.of (hb9.block _ hh.2.2.2.2.2.2.1.lt), HB9.out⟩)
  have HW0 := hid HP4.out.2.2.2.2.2.2.2
  have Hhb : Hid (hb2 ≠ mW) := hid (by have := HP4.out.2.2.2.2.2.2.1.lt; omega)
  clear HU9 HZ HOne HP4 HB9 hhb hfl I3 I1 HOk
  -- the three bags
  have HP6 : Hid ((hv 6).Perm D) := hid (by
    have hnd : (hv 6).Nodup := by rw [HPF.out.h6]; exact Hci.out.nd.filter _
    rw [List.perm_ext_iff_of_nodup hnd HDd.out.nd]
    intro x
    rw [HPF.out.h6, List.mem_filter, HDd.out.m]
    constructor
    · rintro ⟨h1, h2⟩
      exact ⟨h1, by simp, fun hc => (by simpa using h2 : x ∉ hv 5) (HPm.out.mem_iff.2 hc)⟩
    · rintro ⟨h1, _, h3⟩
      exact ⟨h1, by simpa using fun hc => h3 (HPm.out.mem_iff.1 hc)⟩)
  have HP4' : Hid ((hv 4).Perm (S.flatMap (refL G))) := hid (by rw [HPF.out.b4]; exact HPm.out.flatMap_right _)
  obtain ⟨j5, k5, v5', rd5, _, _⟩ := (HQ9.out.2.1 5 (by decide)).rdA
  obtain ⟨j4, k4, v4', rd4, _, _⟩ := (HQ9.out.2.1 4 (by decide)).rdA
  obtain ⟨j6, k6, v6', rd6, _, _⟩ := (HQ9.out.2.1 6 (by decide)).rdA
  obtain ⟨x1, y1, z1, s10, g1, g2⟩ := HQ9.out.2.2.1.rdA
  obtain ⟨x2, y2, z2, s11, g3, g4⟩ := HQ9.out.2.2.2.1.rdA
  obtain ⟨x3, y3, z3, s12, g5, g6⟩ := HQ9.out.2.2.2.2.1.rdA
  injection z1 with z11 z12 z13
  injection z2 with z21 z22 z23
  injection z3 with z31 z32 z33
  subst z11 z13 z21 z23 z31 z33
  rw [HPm.out.length_eq, ← z12] at v5' rd5
  rw [HP4'.out.length_eq, ← z22] at v4' rd4
  rw [HP6.out.length_eq, ← z32] at v6' rd6
  rw [← z12] at s10 g1
  rw [← z22] at s11 g3
  rw [← z32] at s12 g5
  have hb10 : n10 ≤ 32768 := by
    have h1 := seen_len HSn.out.1 (fun y hy => Hci.out.ok.head_in (Hci.out.fz y (HSn.out.2 y hy)))
    omega
  have hb11 : n11 ≤ 1000000000 := by
    have h1 := refs_len Hci.out.ok S (fun y hy => Hci.out.fz y (HSn.out.2 y hy))
    have h4 : S.length * 8192 ≤ 32768 * 8192 := Nat.mul_le_mul_right _ (by omega)
    omega
  have hb12 : nd ≤ 32768 := by
    have h1 := seen_len HDd.out.nd (fun y hy => Hci.out.ok.head_in (Hci.out.fz y ((HDd.out.m y).1 hy).1))
    omega
  have HSb1 := hid (sameBag_walk w9 j5 a10 n10 k5 q10 _ _ rd5 s10 HPm.out (by omega))
  have HSb2 := hid (fun wx (hx : Below w9.heap.size w9 wx) => sameBag_walk wx j4 a11 n11 k4 q11 _ _ (rd4.below hx) (s11.below hx) HP4'.out (by omega))
  have HSb3 := hid (fun wx (hx : Below w9.heap.size w9 wx) => sameBag_walk wx j6 ad nd k6 qd _ _ (rd6.below hx) (s12.below hx) HP6.out (by omega))
  have t5 : w9.cell? ⟨hb2, 5, none⟩ = some (.slice j5 n10 k5) := by rw [HQ9.out.2.2.2.2.2.2.2.cell 5, ← v5']; rfl
  have HT4 : Hid (∀ wx, Below w9.heap.size w9 wx → wx.cell? ⟨hb2, 4, none⟩ = some (.slice j4 n11 k4)) := hid (fun wx hx => by rw [(HQ9.out.2.2.2.2.2.2.2.below hx).cell 4, ← v4']; rfl)
  have HT6 : Hid (∀ wx, Below w9.heap.size w9 wx → wx.cell? ⟨hb2, 6, none⟩ = some (.slice j6 nd k6)) := hid (fun wx hx => by rw [(HQ9.out.2.2.2.2.2.2.2.below hx).cell 6, ← v6']; rfl)
  have HDn := hid z32
  have HPm2 : Hid ((∀ x, x ∈ hv 5 → x ∈ S) ∧ True) := hid ⟨fun x hx => HPm.out.mem_iff.1 hx, trivial⟩
  clear hb10 hb11 hb12 rd5 rd4 rd6 s10 s11 s12 g1 g2 g3 g4 g5 g6 v5' v4' v6' z12 z22 z32 HP4' HP6 HPm HSn
  as_aux_lemma =>
  go_wp2_with fail
  refine HSb1.out.mono ?_
  rintro e wu ⟨rfl, hbu⟩
  have t4 := HT4.out _ hbu
  have HSb4 := hid (HSb2.out _ hbu)
  have Hbu := hid hbu
  clear hbu HSb1 HSb2 HT4 t5
  go_wp2_with fail
  refine HSb4.out.mono ?_
  rintro e wv ⟨rfl, hbv⟩
  have Hbv := hid (Hbu.out.trans (hbv.mono Hbu.out.size))
  have t6 := HT6.out _ Hbv.out
  have HSb5 := hid (HSb3.out _ Hbv.out)
  clear hbv Hbu HSb4 HSb3 t4 HT6
  go_wp2_with fail
  refine HSb5.out.mono ?_
  rintro e wy ⟨rfl, hby⟩
  have Hby := hid (Hbv.out.trans (hby.mono Hbv.out.size))
  have HQy : Hid (LW w' wB (i + 1) ρ4 L4 T4 Gp Bp wy ∧ (∀ i, i < 8 → RowX rtA wy ρ4 (41 + i) (V i) (hv i)) ∧ RowX rtA wy ρ4 0 (.slice ad nd qd) D ∧ Cn wy mZ cz ∧ Cn wy mW G.pend ∧ Blk wy hb2 36 [V 0, V 1, V 2, V 3, V 4, V 5, V 6, V 7]) := hid (by
    have hh := HQ9.out
    have hb9 := Hby.out
    exact ⟨hh.1.below hb9, fun i hi => (hh.2.1 i hi).below hb9, hh.2.2.2.2.1.below hb9, hh.2.2.2.2.2.1.of (hb9.block _ hh.2.2.2.2.2.1.lt), hh.2.2.2.2.2.2.1.of (hb9.block _ hh.2.2.2.2.2.2.1.lt), hh.2.2.2.2.2.2.2.below hb9⟩)
  clear hby Hbv HSb5 t6 Hby HQ9
  have HDl : Hid (D.length ≤ 32768) := hid (seen_len HDd.out.nd (fun y hy => Hci.out.ok.head_in (Hci.out.fz y ((HDd.out.m y).1 hy).1)))
  have ind : (nd : Int) ≤ 32768 := by have h1 := HDl.out; have h2 := HDn.out; omega
  have HB0 : Hid (Below wy.heap.size wy wy) := hid (Below.refl _ _)
  go_wp2_with fail
  go_loopw [177] (fun v wr => ∃ j : Nat, j ≤ nd ∧ v = .int .i64 (j : Int) ∧ Hid (Below wy.heap.size wy wr)) (fun v _ => nd - (intOf v).toNat)
  case atStart => exact ⟨0, by omega, rfl, HB0⟩
  case round =>
  clear HB0
  obtain ⟨j, hj, rfl, HB⟩ := hrel
  by_cases hjn : j < nd
  · as_aux_lemma =>
    have dj : decide ((j : Int) < (nd : Int)) = true := decide_eq_true (by omega)
    have hij : (j : Int) < (nd : Int) := by omega
    obtain ⟨x, hx⟩ : ∃ x, D[j]? = some x := ⟨D[j]'(by rw [← HDn.out]; exact hjn), List.getElem?_eq_getElem _⟩
    obtain ⟨y3, z3, e3, rdD, _, _⟩ := (HQy.out.2.2.1.below HB.out).rdA
    injection e3 with e31 e32 e33
    subst e31 e33
    obtain ⟨g, off2, rfl, _, cx⟩ := rdD.at_ j x hx
    have hxD := List.mem_of_getElem? hx
    have hxm := (HDd.out.m x).1 hxD
    have hx6 : x ∈ hv 6 := by
      rw [HPF.out.h6, List.mem_filter]
      exact ⟨hxm.1, by simpa using fun hc => hxm.2.2 (HPm2.out.1 x hc)⟩
    obtain ⟨n2, q2, hsh⟩ := st_some (Hci.out.fz x hxm.1)
    have hin := Hci.out.ok.hd x n2 q2 hsh
    obtain ⟨s, hs⟩ : ∃ s, offA x = s := ⟨_, rfl⟩
    have hkd := HPF.out.kd x n2 q2 hsh hx6
    rw [hs] at hkd hin
    have hsx : 65536 + s = x := by rw [← hs]; exact offA_in hin.1
    have HKd := hid hkd
    have HCx : Hid (cz x = n2) := hid (by rw [HCz.out x hxD]; exact (stand_rf hsh).2)
    have HSh := hid (shapeOf_walk (HQy.out.1.below HB.out).wm.bm.gm x)
    have hhd : Gp.head x = none := by rw [HPF.out.hd, if_pos hx6]
    rw [hhd] at HSh
    have e0 : shV ((none : Option (Nat × Nat)).getD (0, 0)) = .agg #[.int .i64 ((0 : Nat) : Int), .int .i64 ((0 : Nat) : Int)] := rfl
    rw [e0, Option.isSome_none] at HSh
    have c0 := (HQy.out.1.below HB.out).wm.cells.1
    have i1 : (n2 : Int) ≤ 8192 := by omega
    have i2 : (s : Int) + (n2 : Int) < 32768 := by omega
    have i3 : (x : Int) - 65536 = (s : Int) := by omega
    have i4 : (s : Int) < 32768 := by omega
    have I0 : Hid ((Try.prog.info? 73).map (·.size) = some 2) := hid info_sh
    have HOne : Hid (∀ u ∈ [(.int .i64 ((0 : Nat) : Int) : Value), .int .i64 ((0 : Nat) : Int)], u.oneCell' = true) := hid (fun u hu => by
      simp only [List.mem_cons, List.not_mem_nil, or_false] at hu
      rcases hu with rfl | rfl <;> rfl)
    clear hx hxD hxm hx6 hsh hin hkd hs hsx hhd e0 e32 rdD
    go_upto_region 44 with fail
    clear cx
    go_wp2_with fail
    refine HSh.out.mono ?_
    rintro e w8 ⟨rfl, hb8⟩
    have HB8 := hid (HB.out.trans (hb8.mono HB.out.size))
    obtain ⟨sB, hsB⟩ : ∃ x, w8.heap.size = x := ⟨_, rfl⟩
    have hbz := Blk.new w8 [.int .i64 0, .int .i64 0] 73
    rw [hsB] at hbz
    have HZ := hid hbz
    clear hb8 HSh c0 hbz HB
    go_upto_region 45 with (refine wpList_store_blk rfl 73 _ _ rfl sB rfl [.int .i64 ((0 : Nat) : Int), .int .i64 ((0 : Nat) : Int)] rfl HZ.out rfl I0.out HOne.out ?_; intro w10 HB10 HU10)
    have HB11 : Hid (Below wy.heap.size wy w10) := hid (by
      have h1 := nbel w8 (.cells #[.int .i64 0, .int .i64 0] 73)
      have h2 := HU10.out.below (B := w8.heap.size) (by omega) h1.size
      exact HB8.out.trans ((h1.trans h2).mono HB8.out.size))
    clear HB10 HU10 HZ hsB HOne I0 HB8
    go_wp2_with fail
    go_loopw [25] (fun v wr => ∃ i2 : Nat, i2 ≤ n2 + 1 ∧ v = .int .i64 (i2 : Int) ∧ Hid (Below wy.heap.size wy wr)) (fun v _ => n2 + 1 - (intOf v).toNat)
    case atStart => exact ⟨0, by omega, rfl, HB11⟩
    case round =>
    clear HB11
    obtain ⟨k, hk, rfl, HBk⟩ := hrel
    have hlz := (HQy.out.2.2.2.1.of (HBk.out.block _ HQy.out.2.2.2.1.lt)).look x
    rw [HCx.out] at hlz
    by_cases hkn : k ≤ n2
    · as_aux_lemma =>
      have dk : decide ((k : Int) ≤ (n2 : Int)) = true := decide_eq_true (by omega)
      have ik : (k : Int) ≤ (n2 : Int) := by omega
      have hlw := HQy.out.1.below HBk.out
      have c1 := hlw.wm.cells.2.1
      have cs := hlw.wm.bm.gm.scell
      obtain ⟨t, ht⟩ : ∃ t, s + k = t := ⟨_, rfl⟩
      have it : (s : Int) + (k : Int) = (t : Int) := by omega
      have it2 : (t : Int) < 32768 := by omega
      have ct := hlw.wm.bm.gm.tcell (i := t) (by omega)
      rw [← ht, HKd.out k hkn, ht] at ct
      clear ht hlw
      go_wp2
      exact ⟨⟨k + 1, by omega, by go_num, HBk⟩, by simp [intOf]; omega⟩
    · as_aux_lemma =>
      have dk : decide ((k : Int) ≤ (n2 : Int)) = false := decide_eq_false (by omega)
      have ik : ¬ ((k : Int) ≤ (n2 : Int)) := by omega
      have ik2 : (n2 : Int) < (k : Int) := by omega
      go_wp2
      exact ⟨⟨j + 1, by omega, by go_num, HBk⟩, by simp [intOf]; omega⟩
  have dj : decide ((j : Int) < (nd : Int)) = false := decide_eq_false (by omega)
  have HQz : Hid (LW w' wB (i + 1) ρ4 L4 T4 Gp Bp wr ∧ (∀ i, i < 8 → RowX rtA wr ρ4 (41 + i) (V i) (hv i)) ∧ Cn wr mW G.pend ∧ Blk wr hb2 36 [V 0, V 1, V 2, V 3, V 4, V 5, V 6, V 7]) := hid (by
    have hh := HQy.out
    have hb9 := HB.out
    exact ⟨hh.1.below hb9, fun i hi => (hh.2.1 i hi).below hb9, hh.2.2.2.2.1.of (hb9.block _ hh.2.2.2.2.1.lt), hh.2.2.2.2.2.below hb9⟩)
  clear HQy HB HDl HDn HDd HCz
  as_aux_lemma =>
  obtain ⟨wk, hwk⟩ : ∃ x, wr = x := ⟨_, rfl⟩
  rw [hwk] at HQz
  try rw [hwk]
  have HS0 : Hid (BlX mW wk wk ∧ Cn wk mW (fun y => G.pend y + ((hv 1).take 0).count y)) := hid ⟨BlX.of (Below.refl _ _), HQz.out.2.2.1.congr (fun y => by simp)⟩
  obtain ⟨b1, k1, v1, _, _, _⟩ := (HQz.out.2.1 1 (by decide)).rdA
  obtain ⟨m1, hm1⟩ : ∃ x, (hv 1).length = x := ⟨_, rfl⟩
  rw [hm1] at v1
  have im1 : (m1 : Int) ≤ 5000000000 := by
    have h1 : (hv 1).length ≤ (lgL B).length := by
      rw [HPF.out.h1]
      refine Nat.le_trans (List.length_filter_le _ _) ?_
      rw [List.length_map]
      exact Nat.le_refl _
    have h2 := lgK_len (B := B) (fun m => by have := HInb.out m; omega) 4
    rw [lgK_four] at h2
    omega
  obtain ⟨b3, k3, v3, _, _, _⟩ := (HQz.out.2.1 3 (by decide)).rdA
  obtain ⟨m3, hm3⟩ : ∃ x, (hv 3).length = x := ⟨_, rfl⟩
  rw [hm3] at v3
  have im3 : (m3 : Int) ≤ 256 := by have h1 := HNa.out; rw [← HPF.out.h3] at h1; omega
  have t1 : wk.cell? ⟨hb2, 1, none⟩ = some (.slice b1 m1 k1) := by rw [HQz.out.2.2.2.cell 1, ← v1]; rfl
  have HT3 : Hid (∀ wx, BlX mW wk wx → wx.cell? ⟨hb2, 3, none⟩ = some (.slice b3 m3 k3)) := hid (fun wx hx => by rw [(HQz.out.2.2.2.of (hx.blk _ HQz.out.2.2.2.lt Hhb.out)).cell 3, ← v3]; rfl)
  have HM := hid (And.intro hm1 hm3)
  have HRd : Hid (∀ wx, BlX mW wk wx → (∀ (j x : Nat), (hv 1)[j]? = some x → ∃ g off, b1 = some ⟨g, off, none⟩ ∧ wx.cell? ⟨g, off + j, none⟩ = some (.int .u64 (x : Int))) ∧ (∀ (j x : Nat), (hv 3)[j]? = some x → ∃ g off, b3 = some ⟨g, off, none⟩ ∧ wx.cell? ⟨g, off + j, none⟩ = some (.int .u64 (x : Int)))) := hid (fun wx hx => by
    obtain ⟨f, hf1, hf2⟩ := HQz.out.2.2.1
    obtain ⟨b1', k1', v1', r1', _, _⟩ := ((HQz.out.2.1 1 (by decide)).blx hf1 hx).rdA
    obtain ⟨b3', k3', v3', r3', _, _⟩ := ((HQz.out.2.1 3 (by decide)).blx hf1 hx).rdA
    rw [v1] at v1'
    rw [v3] at v3'
    injection v1' with z1 z2 z3
    injection v3' with y1 y2 y3
    subst z1 y1
    refine ⟨fun j x hj => ?_, fun j x hj => ?_⟩
    · obtain ⟨g, off, e1, _, e2⟩ := r1'.at_ j x hj
      exact ⟨g, off, e1, e2⟩
    · obtain ⟨g, off, e1, _, e2⟩ := r3'.at_ j x hj
      exact ⟨g, off, e1, e2⟩)
  clear v1 v3 hm1 hm3 hwk
  go_wp2_with fail
  clear t1
  go_loopw [216] (fun v wr => ∃ j : Nat, j ≤ m1 ∧ v = .int .i64 (j : Int) ∧ Hid (BlX mW wk wr ∧ Cn wr mW (fun y => G.pend y + ((hv 1).take j).count y))) (fun v _ => m1 - (intOf v).toNat)
  case atStart => exact ⟨0, by omega, rfl, HS0⟩
  case round =>
  clear HS0
  obtain ⟨j, hj, rfl, HC⟩ := hrel
  by_cases hjn : j < m1
  · as_aux_lemma =>
    have dj : decide ((j : Int) < (m1 : Int)) = true := decide_eq_true (by omega)
    have hij : (j : Int) < (m1 : Int) := by omega
    obtain ⟨x, hx⟩ : ∃ x, (hv 1)[j]? = some x := ⟨(hv 1)[j]'(by rw [HM.out.1]; exact hjn), List.getElem?_eq_getElem _⟩
    obtain ⟨g, off2, rfl, cx⟩ := (HRd.out _ HC.out.1).1 j x hx
    have hlk := HC.out.2.look x
    obtain ⟨cv, hcv⟩ : ∃ cv, G.pend x + ((hv 1).take j).count x = cv := ⟨_, rfl⟩
    rw [hcv] at hlk
    have icv : (cv : Int) ≤ 200000000000 := by
      have h1 := HGb.out x
      have h2 := count_le_len (hv 1) j x
      have h3 := HM.out.1
      omega
    obtain ⟨w8, hput, h8, hu8⟩ := HC.out.2.put x (cv + 1)
    have hput' : (Instr.mapUpdate 71 (.map (some mW)) (.int .u64 (x : Int)) (.int .i64 ((cv : Int) + 1))).run Try.prog wr = .ok () w8 := hput
    have HC8 : Hid (BlX mW wk w8 ∧ Cn w8 mW (fun y => G.pend y + ((hv 1).take (j + 1)).count y)) := hid ⟨HC.out.1.upd hu8 (.inl rfl), h8.congr (fun y => by
      rw [count_take hx]
      by_cases e : y = x
      · subst e; rw [fup_self, fup_self, ← hcv]; omega
      · rw [fup_ne _ _ e, fup_ne _ _ e])⟩
    clear hput h8 hu8 hcv hx HC
    go_wp2
    exact ⟨⟨j + 1, by omega, by go_num, HC8⟩, by simp [intOf]; omega⟩
  have dj : decide ((j : Int) < (m1 : Int)) = false := decide_eq_false (by omega)
  have HS1 : Hid (BlX mW wk wr ∧ Cn wr mW (fun y => G.pend y + (hv 1).count y + ((hv 3).take 0).count y)) := hid ⟨HC.out.1, HC.out.2.congr (fun y => by
    rw [List.take_of_length_le (l := hv 1) (by rw [HM.out.1]; omega)]
    simp)⟩
  have t3 := HT3.out _ HC.out.1
  clear HC
  as_aux_lemma =>
  go_wp2_with fail
  clear t3
  go_loopw [228] (fun v wr => ∃ j : Nat, j ≤ m3 ∧ v = .int .i64 (j : Int) ∧ Hid (BlX mW wk wr ∧ Cn wr mW (fun y => G.pend y + (hv 1).count y + ((hv 3).take j).count y))) (fun v _ => m3 - (intOf v).toNat)
  case atStart => exact ⟨0, by omega, rfl, HS1⟩
  case round =>
  clear HS1
  obtain ⟨j, hj, rfl, HC⟩ := hrel
  by_cases hjn : j < m3
  · as_aux_lemma =>
    have dj : decide ((j : Int) < (m3 : Int)) = true := decide_eq_true (by omega)
    have hij : (j : Int) < (m3 : Int) := by omega
    obtain ⟨x, hx⟩ : ∃ x, (hv 3)[j]? = some x := ⟨(hv 3)[j]'(by rw [HM.out.2]; exact hjn), List.getElem?_eq_getElem _⟩
    obtain ⟨g, off2, rfl, cx⟩ := (HRd.out _ HC.out.1).2 j x hx
    have hlk := HC.out.2.look x
    obtain ⟨cv, hcv⟩ : ∃ cv, G.pend x + (hv 1).count x + ((hv 3).take j).count x = cv := ⟨_, rfl⟩
    rw [hcv] at hlk
    have icv : (cv : Int) ≤ 200000000000 := by
      have h1 := HGb.out x
      have h2 := count_le_len (hv 3) j x
      have h4 := List.count_le_length (a := x) (l := hv 1)
      have h3 := HM.out
      omega
    obtain ⟨w8, hput, h8, hu8⟩ := HC.out.2.put x (cv + 1)
    have hput' : (Instr.mapUpdate 71 (.map (some mW)) (.int .u64 (x : Int)) (.int .i64 ((cv : Int) + 1))).run Try.prog wr = .ok () w8 := hput
    have HC8 : Hid (BlX mW wk w8 ∧ Cn w8 mW (fun y => G.pend y + (hv 1).count y + ((hv 3).take (j + 1)).count y)) := hid ⟨HC.out.1.upd hu8 (.inl rfl), h8.congr (fun y => by
      rw [count_take hx]
      by_cases e : y = x
      · subst e; rw [fup_self, fup_self, ← hcv]; omega
      · rw [fup_ne _ _ e, fup_ne _ _ e])⟩
    clear hput h8 hu8 hcv hx HC
    go_wp2
    exact ⟨⟨j + 1, by omega, by go_num, HC8⟩, by simp [intOf]; omega⟩
  have dj : decide ((j : Int) < (m3 : Int)) = false := decide_eq_false (by omega)
  have HLr := hid (HQz.out.1.blx HC.out.1 HW0.out HOr.out.2.1 HOr.out.2.2)
  have HTl := hid (sameTally_walk (c := Gp.pend) (HC.out.2.congr (fun y => by
    rw [HPF.out.pd, ← HPF.out.h3, List.take_of_length_le (l := hv 3) (by rw [HM.out.2]; omega)])) HLr.out.wm.bm.gm.cnP)
  have c2 := HLr.out.wm.cells.2.2.1
  have cp := HLr.out.wm.bm.gm.ccells.2.2.2.1
  clear HC HRd HT3 HQz
  as_aux_lemma =>
  go_wp2_with fail
  refine HTl.out.mono ?_
  rintro e wu ⟨rfl, hbu⟩
  have HLu := hid (HLr.out.below hbu)
  clear hbu HTl c2 cp HLr
  have HFr := hid (allFresh_walk HLu.out.wm (fun m => by have := HLu.out.inv.bo.nf m; omega))
  go_wp2_with fail
  refine HFr.out.mono ?_
  rintro e wv ⟨mQ, rfl, hfq⟩
  have HR : Hid (RcI w' wB (i + 1) wv) := hid ⟨_, _, _, _, _, _, _, HLu.out.below hfq.bel, Hci5.out⟩
  obtain ⟨E0, hp0, hl0⟩ := BF.none0 hfq.bf (fun a => decide_eq_false (by rw [show frK Bp 4 = [] from four_nil HPF.out.bf]; simp))
  have hlen : ∀ ty, (Builtin.len_ #[45] ty #[.map (some mQ)]).run Try.prog wv = .ok (.int .i64 0) wv := fun ty => by
    have := hp0.len Try.underlying45 ty
    rw [hl0] at this
    exact this
  clear hfq HFr HLu hp0 hl0
  go_wp2
  exact ⟨⟨i + 1, by omega, by go_num, HR⟩, by simp [intOf]; omega⟩
end Go.Proofs.Qxb6500888a
