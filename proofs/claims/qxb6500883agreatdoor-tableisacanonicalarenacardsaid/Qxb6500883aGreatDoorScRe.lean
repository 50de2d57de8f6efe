/- The listed variables at the call's start; the script read. -/
import Derived.Test.Qxb6500883aGreatDoorScRd
namespace Go.Proofs.Qxb6500883aGreatDoor
open Go.ChangeShapes Go.WideShapes Go.ChangeAt Go.WideMaps Go.WideElems Go.RowKit
set_option linter.unusedVariables false
set_option linter.unusedSimpArgs false
theorem door_met (os : Os) (args : Array Value) : laidMetH Tryz.prog laid6 ((World.doorLaid Tryz.prog 6000 os).forCall (fun _ _ => 0) ⟨#[], args, []⟩).memory :=
  laidMetH_of_parts3 (fuel := 8) (laidMet_of_run' 8 (by kernel_rfl) (by kernel_rfl)) (by kernel_rfl) (by kernel_rfl)
theorem lt_of_cell {W : World} {g k : Nat} {v : Value} (h : W.cell? ⟨g, k, none⟩ = some v) : g < W.heap.size := by
  rcases Nat.lt_or_ge g W.heap.size with h1 | h1
  · exact h1
  · simp [World.cell?, Array.getElem?_eq_none h1] at h
set_option maxRecDepth 1000000 in
theorem of_laid {W : World} (h : laidMetH Tryz.prog laid6 W) : ∃ mg, Gl W.heap.size mg W := by
  rw [MakeChecks.laidMetH_plain _ _ _ (by kernel_rfl)] at h
  obtain ⟨ps, ⟨g0, t0, cs0, f0, p0, q0, hg0, ht0, hv0, hd0, ⟨g1, t1, cs1, f1, p1, q1, hg1, ht1, hv1, hd1, ⟨g2, t2, cs2, f2, p2, q2, hg2, ht2, hv2, hd2, ⟨g3, t3, cs3, f3, p3, q3, hg3, ht3, hv3, hd3, ⟨g4, t4, cs4, f4, p4, q4, hg4, ht4, hv4, hd4, ⟨g5, t5, cs5, f5, p5, q5, hg5, ht5, hv5, hd5, _, _⟩, _⟩, _⟩, _⟩, _⟩, _⟩, _, _⟩ := h
  obtain rfl := Option.some.inj (gBui.symm.trans hg0)
  obtain rfl := Option.some.inj (gTok.symm.trans hg1)
  obtain rfl := Option.some.inj (gKey.symm.trans hg2)
  obtain rfl := Option.some.inj (gPun.symm.trans hg3)
  obtain rfl := Option.some.inj (gLan.symm.trans hg4)
  obtain rfl := Option.some.inj (gBas.symm.trans hg5)
  obtain rfl := Option.some.inj (tBui.symm.trans ht0)
  obtain rfl := Option.some.inj (tTok.symm.trans ht1)
  obtain rfl := Option.some.inj (tKey.symm.trans ht2)
  obtain rfl := Option.some.inj (tPun.symm.trans ht3)
  obtain rfl := Option.some.inj (tLan.symm.trans ht4)
  obtain rfl := Option.some.inj (tBas.symm.trans ht5)
  have pu : ∀ x : Nat, x < 256 → W.cell? ⟨2, x, none⟩ = some (.int .u8 (puN x : Int)) := fun x hx => by
    rw [World.var?_cell hg3 hv3 x, ← Array.getElem?_toList]
    exact pun_cells hd3 x hx
  have tt : ∀ i : Nat, i < 38 → W.cell? ⟨5, i, none⟩ = some (.string (ttS i)) := fun x hx => by
    rw [World.var?_cell hg1 hv1 x, ← Array.getElem?_toList]
    exact tok_cells hd1 x hx
  have bu : ∀ i : Nat, i < 8 → ∀ j : Nat, j < 12 → W.cell? ⟨3, i * 12 + j, none⟩ = (buC i)[j]? := fun i hi j hj => by
    rw [World.var?_cell hg0 hv0 (i * 12 + j), ← Array.getElem?_toList]
    obtain ⟨xs, m, rfl, hx, hlen, hn, hel⟩ := DataW.trod_array Tryz.underlying217 hd0
    have h0 := hel i hi
    obtain ⟨x, hx0⟩ : ∃ x, xs[i]? = some x := ⟨_, List.getElem?_eq_getElem (by rw [hn]; exact hi)⟩
    rw [hx0, c_rec] at h0
    have e3 : (xs.map (·.1))[i]? = some x.1 := by rw [List.getElem?_map, hx0]; rfl
    rw [bui_eq] at hx
    simp only [Prod.mk.injEq, DataW.agg.injEq] at hx
    rw [← hx.1, List.getElem?_map, List.getElem?_range hi] at e3
    have e4 : x = (.agg (buD i), x.2) := by
      have : DataW.agg (buD i) = x.1 := by simpa using e3
      rw [this]
    rw [e4] at h0
    have e5 := rec_cells h0
    rw [← e5, List.getElem?_take, if_pos hj, List.getElem?_drop]
  have hla : ∃ gb go gc, SRow W.heap.size 1 laL W gb go gc := by
    have hd4 := hd4
    rw [lan_eq] at hd4
    obtain ⟨ad, cap, h1, h2⟩ := str_row (by decide) hd4
    have hc : W.cell? ⟨1, 0, none⟩ = some (.slice (some ad) laL.length cap) := by
      rw [World.var?_cell hg4 hv4 0, ← Array.getElem?_toList, h1]
      rfl
    have h0 := h2 0 _ rfl
    obtain ⟨gb, go, sp⟩ := ad
    cases sp with
    | some x => exact absurd (World.cell?_spot h0) (by simp [Addr.add])
    | none =>
      rw [add_lit] at h0
      exact ⟨gb, go, cap, ⟨lt_of_cell h0, hc, fun i s hs => by have := h2 i s hs; rw [add_lit] at this; exact this⟩⟩
  have hba : ∃ gb go gc, SRow W.heap.size 0 baL W gb go gc := by
    have hd5 := hd5
    rw [bas_eq] at hd5
    obtain ⟨ad, cap, h1, h2⟩ := str_row (by decide) hd5
    have hc : W.cell? ⟨0, 0, none⟩ = some (.slice (some ad) baL.length cap) := by
      rw [World.var?_cell hg5 hv5 0, ← Array.getElem?_toList, h1]
      rfl
    have h0 := h2 0 _ rfl
    obtain ⟨gb, go, sp⟩ := ad
    cases sp with
    | some x => exact absurd (World.cell?_spot h0) (by simp [Addr.add])
    | none =>
      rw [add_lit] at h0
      exact ⟨gb, go, cap, ⟨lt_of_cell h0, hc, fun i s hs => by have := h2 i s hs; rw [add_lit] at this; exact this⟩⟩
  rcases open_map Tryz.underlying225 hd2 with ⟨_, hx⟩ | ⟨bm, es, clock, m, rfl, hcs, hb, _, F, hx⟩
  · rw [key_eq] at hx
    simp at hx
  simp only [Prod.mk.injEq] at hx
  have hcell : W.cell? ⟨4, 0, none⟩ = some (.map (some bm)) := by
    have := World.var?_cell hg2 hv2 0
    rw [Array.eq_one_of_toList hcs] at this
    simpa using this
  have hkeys : ∀ x ∈ es.toList, ∃ z : ByteArray, x.key = .string z ∧ z.size ≤ maxLen := fun x hx => by
    obtain ⟨y, hy⟩ := F.reads x hx
    exact keyS_inv (rd_key hy)
  have look : ∀ wy : World, wy.heap[bm]? = W.heap[bm]? → ∀ s : ByteArray, (Instr.lookup 225 (.map (some bm)) (.string s) true).run Tryz.prog wy = .ok (.tuple #[.int .u8 (kwOf s : Int), .bool (kwOf s != 0)]) wy := fun wy hy s => by
    have kz : kwL.find? (fun x => x.1 == s.data.toList) = none → kwOf s = 0 := fun e => by unfold kwOf; rw [e]
    by_cases hs : s.size ≤ maxLen
    · have zero : (zeroValue 110).run Tryz.prog wy = .ok (.int .u8 0) wy := by kernel_rfl
      rcases Maps.fit_look (w := wy) true lawS Tryz.underlying225 zero (hy.trans hb) F (keyS s hs) with ⟨hrun, _, hat⟩ | ⟨e0, y, _, _, hrun, hRv, hat, _⟩
      · have h1 := hat .nil
        rw [← hx.1, kw_at] at h1
        have e : kwL.find? (fun x => x.1 == s.data.toList) = none := by
          cases hf : kwL.find? (fun x => x.1 == s.data.toList) with
          | none => rfl
          | some x => rw [hf] at h1; cases h1
        rw [kz e]
        exact hrun
      · obtain ⟨r, hr, hy2, _⟩ := elemAt_int Tryz.underlying110 hRv
        have h1 := hat .nil
        rw [← hx.1, kw_at, hy2] at h1
        cases hf : kwL.find? (fun x => x.1 == s.data.toList) with
        | none => rw [hf] at h1; cases h1
        | some x =>
          rw [hf] at h1
          simp only [DataW.lit.injEq, Go.Lit.int.injEq, true_and] at h1
          have hne := kw_ne x (List.mem_of_find?_eq_some hf)
          have hk : kwOf s = x.2 := by unfold kwOf; rw [hf]
          rw [hr] at hrun
          rw [hk, h1]
          have : (x.2 != 0) = true := by simp [hne]
          rw [this]
          exact hrun
    · have e : kwL.find? (fun x => x.1 == s.data.toList) = none := by
        rw [List.find?_eq_none]
        intro x hx2 hc
        have h1 : x.1 = s.data.toList := by simpa using hc
        have h2 : x.1.length ≤ 20 := (show ∀ x ∈ kwL, x.1.length ≤ 20 by decide) x hx2
        have h3 : s.data.toList.length = s.size := rfl
        rw [h1, h3] at h2
        unfold maxLen at hs
        omega
      rw [kz e]
      refine look_absent (hy.trans hb) (fun x hx2 => (hkeys x hx2).imp fun z h => h.1) (fun x hx2 hc => ?_)
      obtain ⟨z, hz1, hz2⟩ := hkeys x hx2
      rw [hz1] at hc
      cases hc
      exact hs hz2
  have h5 := lt_of_cell (tt 0 (by decide))
  exact ⟨bm, ⟨by omega, Nat.le_refl _, (Array.getElem?_eq_some_iff.1 hb).1, pu, bu, hcell, look, tt, hba, hla⟩⟩
theorem cells_op : Tryz.prog.cellsOf 85 = 5 := by kernel_rfl
theorem bytes_op : Tryz.prog.bytesOf 85 = 48 := by kernel_rfl
theorem cells_opk : Tryz.prog.cellsOf 83 = 1 := by kernel_rfl
theorem cells_u64 : Tryz.prog.cellsOf 48 = 1 := by kernel_rfl
theorem fit_u64 {n : Int} (h : (Go.Lit.int .u64 n).wf = true) : ∃ m : Nat, n = (m : Int) ∧ m < 18446744073709551616 := by
  simp [Lit.wf, IntKind.min, IntKind.max, IntKind.signed, IntKind.bits] at h
  exact ⟨n.toNat, by omega, by omega⟩
theorem fit_u8 {n : Int} (h : (Go.Lit.int .u8 n).wf = true) : ∃ m : Nat, n = (m : Int) ∧ m < 256 := by
  simp [Lit.wf, IntKind.min, IntKind.max, IntKind.signed, IntKind.bits] at h
  exact ⟨n.toNat, by omega, by omega⟩
section
variable {H : Type} {enc : TypeId × Value → H} {w : World} {base : Nat} {spare : Nat → Bool} {held : Bool}
set_option maxRecDepth 100000 in
theorem open_ops {fuel : Nat} {cs : List Value} {x : DataW H × List MemPlace} (h : DataW.trod enc Tryz.prog w base spare held fuel 22 cs = some x) (hz : Sz Tryz.prog 22 x.1) :
    ∃ a n c l, cs = [.slice a n c] ∧ ScrT w a n c l := by
  obtain ⟨a, n, c, rfl, hl, hm, hx⟩ := open_rows Tryz.underlying22 cells_op (by omega) (by rw [bytes_op]; decide) h hz
  have : Inhabited OpT := ⟨⟨0, 0, 0, 0, ⟨#[]⟩⟩⟩
  obtain ⟨l, h1, h2⟩ := row_list (w := w) (α := OpT) (sz := 5) (a := a) (f := otC) (q := OtB) hl hm (fun i hi => by
    obtain ⟨b, off, ha, hb, cs', fl, y, hlen, hc, ht, hy⟩ := hx i hi
    obtain ⟨xs, m, _, rfl, _, hxs, hf⟩ := DataW.trod_struct Tryz.underlying85 ht
    match cs', hlen, xs, hxs with
    | [c0, c1, c2, c3, c4], _, [y0, y1, y2, y3, y4], _ =>
      have g0 : DataW.trod enc Tryz.prog w base spare held m 83 (([c0, c1, c2, c3, c4].drop 0).take (Tryz.prog.cellsOf 83)) = some y0 := hf 0 _ rfl
      have g1 : DataW.trod enc Tryz.prog w base spare held m 48 (([c0, c1, c2, c3, c4].drop 1).take (Tryz.prog.cellsOf 48)) = some y1 := hf 1 _ rfl
      have g2 : DataW.trod enc Tryz.prog w base spare held m 48 (([c0, c1, c2, c3, c4].drop 2).take (Tryz.prog.cellsOf 48)) = some y2 := hf 2 _ rfl
      have g3 : DataW.trod enc Tryz.prog w base spare held m 48 (([c0, c1, c2, c3, c4].drop 3).take (Tryz.prog.cellsOf 48)) = some y3 := hf 3 _ rfl
      have g4 : DataW.trod enc Tryz.prog w base spare held m 9 (([c0, c1, c2, c3, c4].drop 4).take (Tryz.prog.cellsOf 9)) = some y4 := hf 4 _ rfl
      rw [cells_opk] at g0
      rw [cells_u64] at g1 g2 g3
      rw [c_str] at g4
      obtain ⟨v0, e0, _, w0⟩ := DataW.trod_int Tryz.underlying83 g0
      obtain ⟨v1, e1, _, w1⟩ := DataW.trod_int Tryz.underlying48 g1
      obtain ⟨v2, e2, _, w2⟩ := DataW.trod_int Tryz.underlying48 g2
      obtain ⟨v3, e3, _, w3⟩ := DataW.trod_int Tryz.underlying48 g3
      obtain ⟨v4, e4, q4, _⟩ := DataW.trod_string Tryz.underlying9 g4
      have z4 : Sz Tryz.prog 9 y4.1 := hy.field Tryz.underlying85 (i := 4) rfl rfl
      rw [q4] at z4
      simp at e0 e1 e2 e3 e4
      obtain ⟨m0, rfl, q0⟩ := fit_u8 w0
      obtain ⟨m1, rfl, q1⟩ := fit_u64 w1
      obtain ⟨m2, rfl, q2⟩ := fit_u64 w2
      obtain ⟨m3, rfl, q3⟩ := fit_u64 w3
      subst e0 e1 e2 e3 e4
      exact ⟨⟨m0, m1, m2, m3, v4⟩, ⟨b, off, ha, hb, hc⟩, ⟨q0, q1, q2, q3, z4.string⟩⟩)
  exact ⟨a, n, c, l, rfl, h1, h2⟩
end
end Go.Proofs.Qxb6500883aGreatDoor
