/- What the listed variables give; the script. -/
import Derived.Test.Qxb6500883aGreatDoorRows
import Derived.Test.Qxb6500883aGreatDoorScTo
import Derived.Test.Qxb6500883aGreatDoorMapG
import Derived.Maps.Keyed
import Derived.WideKeyElems2
import Derived.WideKeyArgs2
import Derived.ProofKit
import Derived.LaidMore
import Derived.OpenShut
import Derived.Stop.Joined
namespace Go.Proofs.Qxb6500883aGreatDoor
open Go.ChangeShapes Go.WideShapes Go.ChangeAt Go.WideMaps Go.WideElems Go.RowKit
set_option linter.unusedVariables false
set_option linter.unusedSimpArgs false
abbrev laid6 : List (String × DataW Unit) := Rows.nothingAcceptedCanOverflowRow.laid
theorem gBas : Tryz.prog.globalNamed "e2e/schemalaw.basics" = some 0 := by kernel_rfl
theorem gLan : Tryz.prog.globalNamed "e2e/schemalaw.landmarks" = some 1 := by kernel_rfl
theorem gPun : Tryz.prog.globalNamed "e2e/schema.punctuation" = some 2 := by kernel_rfl
theorem gBui : Tryz.prog.globalNamed "e2e/schema.builtins" = some 3 := by kernel_rfl
theorem gKey : Tryz.prog.globalNamed "e2e/schema.keywords" = some 4 := by kernel_rfl
theorem gTok : Tryz.prog.globalNamed "e2e/schema.tokText" = some 5 := by kernel_rfl
theorem tBas : (Tryz.prog.globals[0]?).map (·.type) = some 43 := by kernel_rfl
theorem tLan : (Tryz.prog.globals[1]?).map (·.type) = some 43 := by kernel_rfl
theorem tPun : (Tryz.prog.globals[2]?).map (·.type) = some 192 := by kernel_rfl
theorem tBui : (Tryz.prog.globals[3]?).map (·.type) = some 217 := by kernel_rfl
theorem tKey : (Tryz.prog.globals[4]?).map (·.type) = some 225 := by kernel_rfl
theorem tTok : (Tryz.prog.globals[5]?).map (·.type) = some 229 := by kernel_rfl
theorem lawS : Maps.Keyed Tryz.prog 9 := Maps.string_keyed Tryz.underlying9
theorem keyS (s : ByteArray) (h : s.size ≤ maxLen) : keyOf Tryz.prog 9 (.string s) = some (.string s.data.toList) := by
  simp [keyOf, Tryz.underlying9, mapKey, h]
/-- A key of strings is a string of no more than so many bytes. -/
theorem keyS_inv {v : Value} {x : Go.Lit} (h : keyOf Tryz.prog 9 v = some x) : ∃ s : ByteArray, v = .string s ∧ s.size ≤ maxLen := by
  cases v with
  | string s =>
    refine ⟨s, rfl, ?_⟩
    by_cases hs : s.size ≤ maxLen
    · exact hs
    · simp [keyOf, Tryz.underlying9, mapKey, hs] at h
  | _ => simp [keyOf, Tryz.underlying9, mapKey] at h
theorem ents_of : ∀ (L : List MapEntry), (∀ x ∈ L, ∃ z : ByteArray, x.key = .string z) → ∃ E : List (EntG ByteArray), L = E.map (entG fun s : ByteArray => Value.string s)
  | [], _ => ⟨[], rfl⟩
  | x :: L, h => by
    obtain ⟨E, rfl⟩ := ents_of L (fun y hy => h y (by simp [hy]))
    obtain ⟨z, hz⟩ := h x (by simp)
    refine ⟨⟨z, x.val, x.born⟩ :: E, ?_⟩
    rw [List.map_cons]
    congr 1
    cases x
    simp only at hz
    rw [hz]
    rfl
theorem look_absent {w : World} {b ck : Nat} {es : Array MapEntry} {s : ByteArray} (hb : w.heap[b]? = some (.map es ck)) (hk : ∀ x ∈ es.toList, ∃ z : ByteArray, x.key = .string z) (hna : ∀ x ∈ es.toList, x.key ≠ .string s) : (Instr.lookup 225 (.map (some b)) (.string s) true).run Tryz.prog w = .ok (.tuple #[.int .u8 0, .bool false]) w := by
  obtain ⟨E, hE⟩ := ents_of es.toList hk
  have hkt := keyStr (P := Tryz.prog) Tryz.underlying9
  have h5 := hkt.fnd E s w
  rw [fiG_none (fun e he hc => hna (entG (fun s : ByteArray => Value.string s) e) (by rw [hE]; exact List.mem_map_of_mem he) (by show Value.string e.k = _; rw [hc]))] at h5
  have hz : (zeroValue 110).run Tryz.prog w = .ok (.int .u8 0) w := by kernel_rfl
  have hc := hkt.chk es.isEmpty s w
  unfold Instr.lookup
  simp [run_underlying Tryz.underlying225, MapKept.run_getObj_map hb, hc, hE, h5, hz]
theorem c_str : Tryz.prog.cellsOf 9 = 1 := by kernel_rfl
theorem c_tk : Tryz.prog.cellsOf 110 = 1 := by kernel_rfl
theorem c_rec : Tryz.prog.cellsOf 99 = 12 := by kernel_rfl
theorem pun_eq : (Rows.laid_e2e_schema_punctuation : DataW Unit) = .agg ((List.range 256).map fun k => .lit (.int .u8 (puN k : Int))) := by kernel_rfl
theorem tok_eq : (Rows.laid_e2e_schema_tokText : DataW Unit) = .agg (ttL.map fun s => .lit (.string s.data.toList)) := by kernel_rfl
theorem lan_eq : (Rows.laid_e2e_schemalaw_landmarks : DataW Unit) = .slice (laL.map fun s => .lit (.string s.data.toList)) [] := by kernel_rfl
theorem bas_eq : (Rows.laid_e2e_schemalaw_basics : DataW Unit) = .slice (baL.map fun s => .lit (.string s.data.toList)) [] := by kernel_rfl
theorem key_eq : (Rows.laid_e2e_schema_keywords : DataW Unit) = .map (kwL.map fun x => (.string x.1, .lit (.int .u8 (x.2 : Int)))) := by kernel_rfl
/-- A built-in record's datum. -/
def buD (i : Nat) : List (DataW Unit) :=
  let k : Int := if i = 0 then 0 else if i = 1 then 1 else 2
  let b : Int := if i < 2 then 0 else ((2 ^ (i + 1) : Nat) : Int)
  let z : Int := if i = 0 then 0 else if i = 1 then 1 else ((2 ^ (i - 2) : Nat) : Int)
  let q : Int := if i = 0 then 0 else 1
  [.lit (.int .u8 k), .lit (.bool true), .lit (.int .u8 0), .lit (.int .i32 0), .lit (.int .i32 0), .lit (.int .i32 0), .lit (.int .u64 b), .lit (.string []), .lit (.int .u32 z), .lit (.int .u32 z), .lit (.int .u32 z), .lit (.int .u32 q)]
theorem bui_eq : (Rows.laid_e2e_schema_builtins : DataW Unit) = .agg ((List.range 8).map fun i => .agg (buD i)) := by kernel_rfl
theorem kw_at (l : List UInt8) (z : DataW Unit) : (Rows.laid_e2e_schema_keywords : DataW Unit).atKey (.string l) z = match kwL.find? (fun x => x.1 == l) with | some x => .lit (.int .u8 (x.2 : Int)) | none => z := by
  rw [key_eq]
  unfold DataW.atKey
  simp only
  rw [List.find?_map]
  have e : ((fun p : Go.Lit × DataW Unit => p.1.sameKey (.string l)) ∘ fun x : List UInt8 × Nat => ((.string x.1 : Go.Lit), (.lit (.int .u8 (x.2 : Int)) : DataW Unit))) = fun x => x.1 == l := by
    funext x
    rfl
  rw [e]
  cases kwL.find? (fun x => x.1 == l) <;> rfl
theorem kw_ne : ∀ x ∈ kwL, x.2 ≠ 0 := by decide
section
variable {W : World} {base : Nat} {sp : Nat → Bool} {held : Bool} {fuel : Nat} {enc : TypeId × Value → Unit} {q : List MemPlace}
theorem one_of {cs : List Value} {v : Value} {k : Nat} (h : (cs.drop k).take 1 = [v]) : cs[k]? = some v := by
  have e : cs[k]? = ((cs.drop k).take 1)[0]? := by rw [List.getElem?_take, if_pos (by omega), List.getElem?_drop, Nat.add_zero]
  rw [e, h]
  rfl
theorem pun_cells {cs : List Value} (h : DataW.trod enc Tryz.prog W base sp held fuel 192 cs = some (Rows.laid_e2e_schema_punctuation, q)) (k : Nat) (hk : k < 256) : cs[k]? = some (.int .u8 (puN k : Int)) := by
  obtain ⟨xs, m, rfl, hx, hlen, hn, hel⟩ := DataW.trod_array Tryz.underlying192 h
  have h0 := hel k hk
  obtain ⟨x, hx0⟩ : ∃ x, xs[k]? = some x := ⟨_, List.getElem?_eq_getElem (by rw [hn]; exact hk)⟩
  rw [hx0, c_tk, Nat.mul_one] at h0
  obtain ⟨z, e1, e2, _⟩ := DataW.trod_int Tryz.underlying110 h0
  have e3 : (xs.map (·.1))[k]? = some x.1 := by rw [List.getElem?_map, hx0]; rfl
  have e4 := hx
  rw [pun_eq] at e4
  simp only [Prod.mk.injEq, DataW.agg.injEq] at e4
  rw [← e4.1, List.getElem?_map, List.getElem?_range hk, e2] at e3
  simp at e3
  rw [one_of e1, ← e3]
theorem tok_cells {cs : List Value} (h : DataW.trod enc Tryz.prog W base sp held fuel 229 cs = some (Rows.laid_e2e_schema_tokText, q)) (k : Nat) (hk : k < 38) : cs[k]? = some (.string (ttS k)) := by
  obtain ⟨xs, m, rfl, hx, hlen, hn, hel⟩ := DataW.trod_array Tryz.underlying229 h
  have h0 := hel k hk
  obtain ⟨x, hx0⟩ : ∃ x, xs[k]? = some x := ⟨_, List.getElem?_eq_getElem (by rw [hn]; exact hk)⟩
  rw [hx0, c_str, Nat.mul_one] at h0
  obtain ⟨z, e1, e2, _⟩ := DataW.trod_string Tryz.underlying9 h0
  have e3 : (xs.map (·.1))[k]? = some x.1 := by rw [List.getElem?_map, hx0]; rfl
  have e4 := hx
  rw [tok_eq] at e4
  simp only [Prod.mk.injEq, DataW.agg.injEq] at e4
  have hk2 : k < ttL.length := hk
  rw [← e4.1, List.getElem?_map, List.getElem?_eq_getElem hk2, e2] at e3
  simp at e3
  have e5 : z = ttS k := by
    unfold ttS
    rw [List.getD_eq_getElem?_getD, List.getElem?_eq_getElem hk2]
    have : ttL[k].data = z.data := e3
    show z = ttL[k]
    cases z
    cases hz : ttL[k]
    rw [hz] at this
    simp at this
    rw [this]
  rw [one_of e1, e5]
theorem str_row {cs : List Value} {L : List ByteArray} (hne : L ≠ []) (h : DataW.trod enc Tryz.prog W base sp held fuel 43 cs = some (.slice (L.map fun s => .lit (.string s.data.toList)) [], q)) : ∃ a cap, cs = [.slice (some a) L.length cap] ∧ ∀ i s, L[i]? = some s → W.cell? (a.add i) = some (.string s) := by
  obtain ⟨a, cap, h1, h2, h3⟩ := open_row Tryz.underlying43 c_str h
  refine ⟨a, cap, by rw [h1, List.length_map], fun i s hs => ?_⟩
  obtain ⟨v, n, p, g1, g2⟩ := h3 i _ (by rw [List.getElem?_map, hs]; rfl)
  obtain ⟨z, e1, e2, _⟩ := DataW.trod_string Tryz.underlying9 g2
  simp at e1 e2
  subst e1
  have : s = z := by
    cases s
    cases z
    simp at e2
    simp [e2]
  rw [g1, this]
theorem c_api_Kind12 : Tryz.prog.cellsOf 56 = 1 := by kernel_rfl
theorem c_api_TypeID12 : Tryz.prog.cellsOf 47 = 1 := by kernel_rfl
theorem c_bool12 : Tryz.prog.cellsOf 4 = 1 := by kernel_rfl
theorem c_int3212 : Tryz.prog.cellsOf 21 = 1 := by kernel_rfl
theorem c_string12 : Tryz.prog.cellsOf 9 = 1 := by kernel_rfl
theorem c_uint3212 : Tryz.prog.cellsOf 49 = 1 := by kernel_rfl
theorem c_uint6412 : Tryz.prog.cellsOf 48 = 1 := by kernel_rfl
theorem c_uint812 : Tryz.prog.cellsOf 5 = 1 := by kernel_rfl
set_option maxRecDepth 100000 in
theorem rec_cells {cs : List Value} {i : Nat} {p : List MemPlace} (h : DataW.trod enc Tryz.prog W base sp held fuel 99 cs = some (.agg (buD i), p)) : cs = buC i := by
  obtain ⟨xs, m, rfl, hx, hlen, hxs, hf⟩ := DataW.trod_struct Tryz.underlying99 h
  simp only [Prod.mk.injEq, DataW.agg.injEq] at hx
  have hd := hx.1
  clear hx h
  rw [c_rec] at hlen
  match cs, hlen, xs, hxs with
  | [c0, c1, c2, c3, c4, c5, c6, c7, c8, c9, c10, c11], _, [y0, y1, y2, y3, y4, y5, y6, y7, y8, y9, y10, y11], _ =>
    have g0 : DataW.trod enc Tryz.prog W base sp held m 56 (([c0, c1, c2, c3, c4, c5, c6, c7, c8, c9, c10, c11].drop 0).take (Tryz.prog.cellsOf 56)) = some y0 := hf 0 _ rfl
    rw [c_api_Kind12] at g0
    obtain ⟨v0, e0, q0, _⟩ := DataW.trod_int Tryz.underlying56 g0
    have g1 : DataW.trod enc Tryz.prog W base sp held m 4 (([c0, c1, c2, c3, c4, c5, c6, c7, c8, c9, c10, c11].drop 1).take (Tryz.prog.cellsOf 4)) = some y1 := hf 1 _ rfl
    rw [c_bool12] at g1
    obtain ⟨v1, e1, q1⟩ := DataW.trod_bool Tryz.underlying4 g1
    have g2 : DataW.trod enc Tryz.prog W base sp held m 5 (([c0, c1, c2, c3, c4, c5, c6, c7, c8, c9, c10, c11].drop 2).take (Tryz.prog.cellsOf 5)) = some y2 := hf 2 _ rfl
    rw [c_uint812] at g2
    obtain ⟨v2, e2, q2, _⟩ := DataW.trod_int Tryz.underlying5 g2
    have g3 : DataW.trod enc Tryz.prog W base sp held m 47 (([c0, c1, c2, c3, c4, c5, c6, c7, c8, c9, c10, c11].drop 3).take (Tryz.prog.cellsOf 47)) = some y3 := hf 3 _ rfl
    rw [c_api_TypeID12] at g3
    obtain ⟨v3, e3, q3, _⟩ := DataW.trod_int Tryz.underlying47 g3
    have g4 : DataW.trod enc Tryz.prog W base sp held m 21 (([c0, c1, c2, c3, c4, c5, c6, c7, c8, c9, c10, c11].drop 4).take (Tryz.prog.cellsOf 21)) = some y4 := hf 4 _ rfl
    rw [c_int3212] at g4
    obtain ⟨v4, e4, q4, _⟩ := DataW.trod_int Tryz.underlying21 g4
    have g5 : DataW.trod enc Tryz.prog W base sp held m 21 (([c0, c1, c2, c3, c4, c5, c6, c7, c8, c9, c10, c11].drop 5).take (Tryz.prog.cellsOf 21)) = some y5 := hf 5 _ rfl
    rw [c_int3212] at g5
    obtain ⟨v5, e5, q5, _⟩ := DataW.trod_int Tryz.underlying21 g5
    have g6 : DataW.trod enc Tryz.prog W base sp held m 48 (([c0, c1, c2, c3, c4, c5, c6, c7, c8, c9, c10, c11].drop 6).take (Tryz.prog.cellsOf 48)) = some y6 := hf 6 _ rfl
    rw [c_uint6412] at g6
    obtain ⟨v6, e6, q6, _⟩ := DataW.trod_int Tryz.underlying48 g6
    have g7 : DataW.trod enc Tryz.prog W base sp held m 9 (([c0, c1, c2, c3, c4, c5, c6, c7, c8, c9, c10, c11].drop 7).take (Tryz.prog.cellsOf 9)) = some y7 := hf 7 _ rfl
    rw [c_string12] at g7
    obtain ⟨v7, e7, q7, _⟩ := DataW.trod_string Tryz.underlying9 g7
    have g8 : DataW.trod enc Tryz.prog W base sp held m 49 (([c0, c1, c2, c3, c4, c5, c6, c7, c8, c9, c10, c11].drop 8).take (Tryz.prog.cellsOf 49)) = some y8 := hf 8 _ rfl
    rw [c_uint3212] at g8
    obtain ⟨v8, e8, q8, _⟩ := DataW.trod_int Tryz.underlying49 g8
    have g9 : DataW.trod enc Tryz.prog W base sp held m 49 (([c0, c1, c2, c3, c4, c5, c6, c7, c8, c9, c10, c11].drop 9).take (Tryz.prog.cellsOf 49)) = some y9 := hf 9 _ rfl
    rw [c_uint3212] at g9
    obtain ⟨v9, e9, q9, _⟩ := DataW.trod_int Tryz.underlying49 g9
    have g10 : DataW.trod enc Tryz.prog W base sp held m 49 (([c0, c1, c2, c3, c4, c5, c6, c7, c8, c9, c10, c11].drop 10).take (Tryz.prog.cellsOf 49)) = some y10 := hf 10 _ rfl
    rw [c_uint3212] at g10
    obtain ⟨v10, e10, q10, _⟩ := DataW.trod_int Tryz.underlying49 g10
    have g11 : DataW.trod enc Tryz.prog W base sp held m 49 (([c0, c1, c2, c3, c4, c5, c6, c7, c8, c9, c10, c11].drop 11).take (Tryz.prog.cellsOf 49)) = some y11 := hf 11 _ rfl
    rw [c_uint3212] at g11
    obtain ⟨v11, e11, q11, _⟩ := DataW.trod_int Tryz.underlying49 g11
    simp at e0 e1 e2 e3 e4 e5 e6 e7 e8 e9 e10 e11
    rw [e0, e1, e2, e3, e4, e5, e6, e7, e8, e9, e10, e11]
    simp only [List.map_cons, List.map_nil, q0, q1, q2, q3, q4, q5, q6, q7, q8, q9, q10, q11] at hd
    unfold buD at hd
    simp only [List.cons.injEq, DataW.lit.injEq, Go.Lit.int.injEq, Go.Lit.bool.injEq, Go.Lit.string.injEq, true_and, and_true] at hd
    obtain ⟨h0, h1, h2, h3, h4, h5, h6, h7, h8, h9, h10, h11⟩ := hd
    unfold buC
    have hs : v7 = ⟨#[]⟩ := by cases v7; simp at h7; simp [h7]
    rw [← h0, ← h1, ← h2, ← h3, ← h4, ← h5, ← h6, ← h8, ← h9, ← h10, ← h11, hs]
end
end Go.Proofs.Qxb6500883aGreatDoor
