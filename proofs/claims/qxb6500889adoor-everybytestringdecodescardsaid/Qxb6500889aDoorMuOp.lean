/- The script, read as a list of steps. -/
import Derived.Test.Qxb6500889aDoorMuW4
import Derived.Test.Qxb6500889aDoorMem
namespace Go.Proofs.Qxb6500889aDoor
open Go.RowKit
set_option linter.unusedSimpArgs false
set_option linter.unusedVariables false

def Script (w : World) (a : Option Addr) (n c : Nat) (l : List OpP) : Prop := RowOf w 5 opC a n c l ∧ ∀ o ∈ l, OpB o
theorem Script.below {w w' : World} {a : Option Addr} {n c : Nat} {l : List OpP} (h : Script w a n c l) (hb : Below w.heap.size w w') : Script w' a n c l := ⟨h.1.below hb, h.2⟩
theorem cells_op : Tryd.prog.cellsOf 31 = 5 := by kernel_rfl
theorem bytes_op : Tryd.prog.bytesOf 31 = 32 := by kernel_rfl
theorem cells_kind : Tryd.prog.cellsOf 28 = 1 := by kernel_rfl
theorem cells_u8 : Tryd.prog.cellsOf 5 = 1 := by kernel_rfl
theorem cells_u64 : Tryd.prog.cellsOf 29 = 1 := by kernel_rfl
theorem fit_u64 {n : Int} (h : (Lit.int .u64 n).wf = true) : ∃ m : Nat, n = (m : Int) ∧ m < 18446744073709551616 := by
  simp [Lit.wf, IntKind.min, IntKind.max, IntKind.signed, IntKind.bits] at h
  exact ⟨n.toNat, by omega, by omega⟩
theorem fit_u8 {n : Int} (h : (Lit.int .u8 n).wf = true) : ∃ m : Nat, n = (m : Int) ∧ m < 256 := by
  simp [Lit.wf, IntKind.min, IntKind.max, IntKind.signed, IntKind.bits] at h
  exact ⟨n.toNat, by omega, by omega⟩
section
variable {H : Type} {enc : TypeId × Value → H} {w : World} {base : Nat} {spare : Nat → Bool} {held : Bool}
set_option maxRecDepth 100000 in
theorem open_ops {fuel : Nat} {cs : List Value} {x : DataW H × List MemPlace} (h : DataW.trod enc Tryd.prog w base spare held fuel 22 cs = some x) (hz : Sz Tryd.prog 22 x.1) :
    ∃ a n c l, cs = [.slice a n c] ∧ Script w a n c l := by
  obtain ⟨a, n, c, rfl, hl, hm, hx⟩ := open_rows Tryd.underlying22 cells_op (by omega) (by rw [bytes_op]; decide) h hz
  have : Inhabited OpP := ⟨⟨0, 0, 0, 0, 0⟩⟩
  obtain ⟨l, h1, h2⟩ := row_list (w := w) (α := OpP) (sz := 5) (a := a) (f := opC) (q := OpB) hl hm (fun i hi => by
    obtain ⟨b, off, ha, hb, cs', fl, y, hlen, hc, ht, hy⟩ := hx i hi
    obtain ⟨xs, m, _, rfl, _, hxs, hf⟩ := DataW.trod_struct Tryd.underlying31 ht
    match cs', hlen, xs, hxs with
    | [c0, c1, c2, c3, c4], _, [y0, y1, y2, y3, y4], _ =>
      have g0 : DataW.trod enc Tryd.prog w base spare held m 5 (([c0, c1, c2, c3, c4].drop 0).take (Tryd.prog.cellsOf 5)) = some y0 := hf 0 _ rfl
      have g1 : DataW.trod enc Tryd.prog w base spare held m 28 (([c0, c1, c2, c3, c4].drop 1).take (Tryd.prog.cellsOf 28)) = some y1 := hf 1 _ rfl
      have g2 : DataW.trod enc Tryd.prog w base spare held m 29 (([c0, c1, c2, c3, c4].drop 2).take (Tryd.prog.cellsOf 29)) = some y2 := hf 2 _ rfl
      have g3 : DataW.trod enc Tryd.prog w base spare held m 29 (([c0, c1, c2, c3, c4].drop 3).take (Tryd.prog.cellsOf 29)) = some y3 := hf 3 _ rfl
      have g4 : DataW.trod enc Tryd.prog w base spare held m 29 (([c0, c1, c2, c3, c4].drop 4).take (Tryd.prog.cellsOf 29)) = some y4 := hf 4 _ rfl
      rw [cells_u8] at g0
      rw [cells_kind] at g1
      rw [cells_u64] at g2 g3 g4
      obtain ⟨v0, e0, _, w0⟩ := DataW.trod_int Tryd.underlying5 g0
      obtain ⟨v1, e1, _, w1⟩ := DataW.trod_int Tryd.underlying28 g1
      obtain ⟨v2, e2, _, w2⟩ := DataW.trod_int Tryd.underlying29 g2
      obtain ⟨v3, e3, _, w3⟩ := DataW.trod_int Tryd.underlying29 g3
      obtain ⟨v4, e4, _, w4⟩ := DataW.trod_int Tryd.underlying29 g4
      simp at e0 e1 e2 e3 e4
      obtain ⟨m0, rfl, q0⟩ := fit_u8 w0
      obtain ⟨m1, rfl, q1⟩ := fit_u8 w1
      obtain ⟨m2, rfl, q2⟩ := fit_u64 w2
      obtain ⟨m3, rfl, q3⟩ := fit_u64 w3
      obtain ⟨m4, rfl, q4⟩ := fit_u64 w4
      subst e0 e1 e2 e3 e4
      exact ⟨⟨m0, m1, m2, m3, m4⟩, ⟨b, off, ha, hb, hc⟩, ⟨q0, q1, q2, q3, q4⟩⟩)
  exact ⟨a, n, c, l, rfl, h1, h2⟩
end
/-- All cells of a step. -/
theorem Script.at {w : World} {a : Option Addr} {n c : Nat} {l : List OpP} (h : Script w a n c l) {k : Nat} (hk : k < n) :
    ∃ o, l[k]? = some o ∧ OpB o ∧ ∃ b off, a = some ⟨b, off, none⟩ ∧ b < w.heap.size ∧ w.cell? ⟨b, off + k * 5, none⟩ = some (.int .u8 (o.ac : Int)) ∧ w.cell? ⟨b, off + k * 5 + 1, none⟩ = some (.int .u8 (o.k : Int)) ∧ w.cell? ⟨b, off + k * 5 + 2, none⟩ = some (.int .u64 (o.a : Int)) ∧ w.cell? ⟨b, off + k * 5 + 3, none⟩ = some (.int .u64 (o.b : Int)) ∧ w.cell? ⟨b, off + k * 5 + 4, none⟩ = some (.int .u64 (o.c : Int)) := by
  obtain ⟨o, ho, b, off, ha, hb, hc⟩ := h.1.cell hk
  exact ⟨o, ho, h.2 o (List.mem_of_getElem? ho), b, off, ha, hb, hc 0 (by decide), hc 1 (by decide), hc 2 (by decide), hc 3 (by decide), hc 4 (by decide)⟩
/-- The handles given out so far. -/
structure GvI (X : XS) (G : List Nat) : Prop where
  old : ∀ h, h ∈ G → ∃ m g s, h = hN g m s ∧ m < 4 ∧ s < 128 ∧ (g < (X.tb m).gen ∨ (g = (X.tb m).gen ∧ s < (X.tb m).ad.length))
  nd : G.Nodup
theorem GvI.zero : GvI X0 [] := ⟨fun h hh => (by cases hh), List.nodup_nil⟩
section
variable {H H' : HS} {X X' : XS} {n : Nat} {o : OpP} {z : Rz} {G : List Nat}
theorem hN_big (g m s : Nat) : 255 < hN g m s := by unfold hN; omega
theorem GvI.step (h : GvI X G) (hn : XN X n) (hb : n ≤ 100000000000) (hs : DoS H X o H' X' z) : GvI (doX X' z) (G ++ gvL o z) ∧ ∀ x, x ∈ gvL o z → 255 < x ∧ x ∉ G := by
  cases hs.tbs with
  | keep h1 h2 =>
    have hg : gvL o z = [] := by
      unfold gvL
      rw [if_neg]
      rintro ⟨k1, k2, k3, k4⟩
      exact k4 (h2 k1 k2 k3)
    rw [hg, List.append_nil]
    exact ⟨⟨h.old, h.nd⟩, fun x hx => (by cases hx)⟩
  | give x q h1 h2 h3 h4 h5 h6 =>
    have hl := full_len (X := X) (m := o.ac) (hn.len o.ac) (by rw [h2]; simp)
    have hg : gvL o z = [hN (X.tb o.ac).gen o.ac (X.tb o.ac).ad.length] := by
      unfold gvL
      rw [if_pos ⟨h3, h1, h4, by rw [h5]; exact hN_ne _ _ _⟩, h5]
    have hne : hN (X.tb o.ac).gen o.ac (X.tb o.ac).ad.length ∉ G := by
      intro hm
      obtain ⟨m, g, s, e, k1, k2, k3⟩ := h.old _ hm
      obtain ⟨rfl, rfl, rfl⟩ := hN_inj (by omega) (by omega) k1 (by omega) e
      omega
    rw [hg]
    refine ⟨⟨fun y hy => ?_, ?_⟩, fun y hy => ?_⟩
    · have tb : ∀ i, ((doX (givX { X with al := q } o.ac x) z).tb i) = if i = o.ac then ⟨(X.tb o.ac).gen, (X.tb o.ac).ad ++ [x]⟩ else X.tb i := fun i => givX_tb _ _ _ _
      rcases List.mem_append.1 hy with hy | hy
      · obtain ⟨m, g, s, e, k1, k2, k3⟩ := h.old _ hy
        refine ⟨m, g, s, e, k1, k2, ?_⟩
        rw [tb]
        by_cases em : m = o.ac
        · subst em
          rw [if_pos rfl]
          simp
          omega
        · rw [if_neg em]; exact k3
      · rw [List.mem_singleton.1 hy]
        refine ⟨o.ac, (X.tb o.ac).gen, (X.tb o.ac).ad.length, rfl, h1, hl.1, ?_⟩
        rw [tb, if_pos rfl]
        simp
    · rw [List.nodup_append]
      refine ⟨h.nd, by simp, fun a ha b hb => ?_⟩
      rw [List.mem_singleton.1 hb]
      exact fun e => hne (by rw [← e]; exact ha)
    · rw [List.mem_singleton.1 hy]
      exact ⟨hN_big _ _ _, hne⟩
  | safe h1 h2 h3 =>
    have hg : gvL o z = [] := by
      unfold gvL
      rw [if_neg (fun k => by omega)]
    rw [hg, List.append_nil]
    refine ⟨⟨fun y hy => ?_, h.nd⟩, fun x hx => (by cases hx)⟩
    obtain ⟨m, g, s, e, k1, k2, k3⟩ := h.old _ hy
    have tb : ((doX (spX X o.ac) z).tb m) = if m = o.ac then retT (X.tb o.ac) else X.tb m := spX_tb _ _ _
    refine ⟨m, g, s, e, k1, k2, ?_⟩
    rw [tb]
    by_cases em : m = o.ac
    · subst em
      rw [if_pos rfl]
      unfold retT
      have := hn.gen o.ac
      rw [if_pos (by omega)]
      left
      show g < (X.tb o.ac).gen + 1
      omega
    · rw [if_neg em]; exact k3
theorem gvL_len (o : OpP) (z : Rz) : (gvL o z).length ≤ 1 := by
  unfold gvL
  split <;> simp
end
end Go.Proofs.Qxb6500889aDoor
