/- Scripts as bytes: decodesWell, what it needs. -/
import Derived.Test.Qxb6500889aDoorMuEa
namespace Go.Proofs.Qxb6500889aDoor
open Go.RowKit
set_option linter.unusedSimpArgs false
set_option linter.unusedVariables false
section
variable {w0 w w' : World} {a : Option Addr} {n c : Nat} {l : List Nat} {s : List OpP} {v : Value}
/-- The steps as a script. -/
theorem DcP.script (h : DcP w w' v s) (hb : s.length ≤ 1000000000) (ho : ∀ o ∈ s, OpB o) : ∃ a c, v = .slice a s.length c ∧ Script w' a s.length c s := by
  obtain ⟨a, n, c, h1, h2⟩ := ownsRow_row (f := opC) (sz := 5) (by decide) (fun _ => rfl) (by omega) h.own
  have := h2.len
  subst this
  exact ⟨a, c, h1, h2, ho⟩
/-- The written bytes as a row to read. -/
theorem EO.rd (h : EO w0 w v l) (hy : By l) (hb : l.length ≤ 100000000000) : ∃ a c, v = .slice a l.length c ∧ Rd w a l.length c l := by
  rcases h.own.2 with ⟨e1, e2⟩ | ⟨g, cap, cur, e1, e2, hg, e3, e4, e5, e6⟩
  · have : l = [] := List.length_eq_zero_iff.1 e2
    subst this
    exact ⟨none, 0, e1, rfl, hy, by simp, Nat.le_refl _, fun i b hi => by cases hi⟩
  · refine ⟨_, cap, e1, rfl, hy, hb, e3, fun i b hi => ⟨g, 0, rfl, (Array.getElem?_eq_some_iff.1 hg).1, ?_⟩⟩
    have hlt : i < l.length := (List.getElem?_eq_some_iff.1 hi).1
    have e7 : (aK .u8 l)[i]? = some (.int .u8 (b : Int)) := by unfold aK; rw [List.getElem?_map, hi]; rfl
    rw [← e6, List.getElem?_take, if_pos (by omega)] at e7
    rw [Nat.zero_add]
    simpa [World.cell?, hg] using e7
theorem Rd.take (h : Rd w a n c l) {k : Nat} (hk : k ≤ n) : Rd w a k c (l.take k) := by
  refine ⟨by rw [List.length_take, h.len]; omega, fun b hb => h.byt b (List.mem_of_mem_take hb), Nat.le_trans hk h.bnd, Nat.le_trans hk h.cap, fun i b hi => ?_⟩
  rw [List.getElem?_take] at hi
  split at hi
  · exact h.cell i b hi
  · cases hi
theorem EO.spot (h : EO w0 w (.slice a n c) l) : ∀ ad, a = some ad → ad.spot = none := by
  rcases h.own.2 with ⟨e1, e2⟩ | ⟨g, cap, cur, e1, _⟩
  · cases e1; intro ad h; cases h
  · cases e1; intro ad h; cases h; rfl
theorem rz_cells {g : Nat} {cs : List Value} {zs : List Rz} {z : Rz} (hb : Blk w g 36 cs) (hc : cs.take (zs.length * 8) = zs.flatMap rzC) {q : Nat} (hq : zs[q]? = some z) : ∀ j, j < 8 → w.cell? ⟨g, q * 8 + j, none⟩ = (rzC z)[j]? := by
  have hlt : q < zs.length := (List.getElem?_eq_some_iff.1 hq).1
  intro j hj
  rw [hb.cell (q * 8 + j)]
  have e1 : (zs.flatMap rzC)[q * 8 + j]? = (rzC z)[j]? := by
    rw [getElem?_flatMap_const (f := rzC) (sz := 8) (by decide) zs (fun x _ => (rfl : (rzC x).length = 8))]
    rw [show (q * 8 + j) / 8 = q by omega, show (q * 8 + j) % 8 = j by omega, hq]; rfl
  rw [← e1, ← hc, List.getElem?_take, if_pos (by omega)]
theorem KpF.toBelow {ρ : Rl} {w w' : World} {B : Nat} (h : KpF ρ w w') (hB : B ≤ w.heap.size) (h0 : ∀ g, g < B → ρ g = 0) : Below B w w' := ⟨h.os, h.tape, h.output, h.size, fun g hg => h.blk g (by omega) (by rw [h0 g hg]; exact XR0)⟩
theorem MB.bel' {xB k : Nat} {H : HS} {X : XS} {ρ : Rl} {xs : List XBk} (h : MB w0 xB H X k ρ xs w) : Below w0.heap.size w0 w := h.bel
/-- The other machine, once the first has run. -/
theorem MB.other {w5 w6 w7 w8 : World} {ρ1 ρ2 : Rl} {L1 L2 : HL} {T1 T2 : XL} {V1 V2 : WL} {v : Value} {zs : List Rz} (hW1 : WM w6 ρ1 L1 T1 V1 H0 X0 []) (hl1 : ∀ g, g < w5.heap.size → ρ1 g = 0) (hb1 : Below w5.heap.size w5 w6)
    (hW2 : WM w7 ρ2 L2 T2 V2 H0 X0 []) (hl2 : ∀ g, g < w6.heap.size → ρ2 g = 0) (hb2 : Below w6.heap.size w6 w7) (hR : RnP w7 w8 ρ1 v zs) :
    ∃ rR rcs, v = .slice (some ⟨rR, 0, none⟩) zs.length zs.length ∧ rcs.take (zs.length * 8) = zs.flatMap rzC ∧ MB w5 T2.xB H0 X0 0 ρ2 [(rR, 36, rcs), (V2.wB, 46, wC L2.hB T2.xB V2)] w8 := by
  obtain ⟨rR, rcs, e1, e2, e3, e4⟩ := hR.own
  have hB57 := hb1.trans (hb2.mono hb1.size)
  have key : ∀ g, ρ2 g ≠ 0 → ρ1 g = 0 := fun g hg => by
    rcases Nat.lt_or_ge g w6.heap.size with h | h
    · exact absurd (hl2 g h) hg
    · exact hW1.new0 h
  have kw : w8.heap[V2.wB]? = w7.heap[V2.wB]? := hR.kp.blk _ hW2.wb.lt (by rw [key _ (by rw [hW2.rw]; omega)]; exact XR0)
  refine ⟨rR, rcs, e1, e4, ⟨L2, T2, hW2.mm.keepR hR.kp.size (fun g hg hr => ⟨hR.kp.blk g hg (by rw [key g (fun e => XR0 (by rw [e] at hr; exact hr))]; exact XR0), rfl⟩) (fun g hg => Nat.lt_of_lt_of_le (hW2.mm.hm.dom g hg) hR.kp.size), rfl⟩, HI.zero, XN.zero, fun g hg => hl2 g (Nat.lt_of_lt_of_le hg hb1.size), hB57.trans (hR.kp.toBelow hB57.size hl1), fun x hx => ?_, ?_⟩
  · rcases List.mem_cons.1 hx with rfl | hx
    · exact ⟨e3, Nat.le_trans hB57.size e2, by dsimp only; rw [hW2.new0 e2]; exact XR0⟩
    · obtain rfl := List.mem_singleton.1 hx
      refine ⟨hW2.wb.of kw, ?_, by dsimp only; rw [hW2.rw]; unfold XR HR; omega⟩
      dsimp only
      rcases Nat.lt_or_ge V2.wB w6.heap.size with h | h
      · have := hl2 _ h; rw [hW2.rw] at this; omega
      · exact Nat.le_trans hb1.size h
  · have := hW2.wb.lt
    simp only [List.map_cons, List.map_nil, List.nodup_cons, List.mem_singleton, List.not_mem_nil, not_false_eq_true, List.nodup_nil, and_true]
    omega
theorem slice_by (a : Option Addr) (n c k : Nat) (hk : k ≤ c) (hs : ∀ ad, a = some ad → ad.spot = none) (w : World) : (Instr.sliceAt 57 (.slice a n c) none (some (.int .u64 (k : Int))) none).run Tryd.prog w = .ok (.slice a k c) w := by
  have h1 : (k : Int) ≤ (c : Int) := by omega
  cases a with
  | none => simp [go_sem, h1]
  | some ad =>
    obtain ⟨g, o, sp⟩ := ad
    have := hs _ rfl
    dsimp only at this
    subst this
    simp [go_sem, h1]
end
end Go.Proofs.Qxb6500889aDoor
