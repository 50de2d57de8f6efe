/- Measures, plainly; slot, measureBits. -/
import Derived.Test.Qxb6500883aGreatDoorScHl
namespace Go.Proofs.Qxb6500883aGreatDoor
open Go.RowKit
set_option linter.unusedSimpArgs false
set_option linter.unusedVariables false
/-- The values fit. -/
structure TRb (x : TR) : Prop where
  size : x.size ≤ 4294967295
  mn : x.mn ≤ 4294967295
  mx : x.mx ≤ 4294967295
  depth : x.depth ≤ 63
  length : x.length < 18446744073709551616
  kind : x.kind < 256
  le : x.mn ≤ x.mx
/-- What measuring one type gives. -/
structure MS where
  fixed : Bool
  mn : Nat
  mx : Nat
  chunks : Nat
  depth : Nat
def msC (m : MS) : List Value := [.bool m.fixed, .int .u64 (m.mn : Int), .int .u64 (m.mx : Int), .int .u64 (m.chunks : Int), .int .i64 (m.depth : Int)]
/-- The depth of a tree over n leaves. -/
def IsL2 (n d : Nat) : Prop := d ≤ 64 ∧ n ≤ 2 ^ d ∧ ∀ j, j < d → 2 ^ j < n
theorem IsL2.uniq {n d e : Nat} (h : IsL2 n d) (k : IsL2 n e) : d = e := by
  rcases Nat.lt_trichotomy d e with h1 | h1 | h1
  · have := k.2.2 d h1; have := h.2.1; omega
  · exact h1
  · have := h.2.2 e h1; have := k.2.1; omega
def slP (x : TR) : Nat × Nat := if x.fixed then (x.size, x.size) else (4 + x.mn, 4 + x.mx)
/-- A bitvector or a bitlist. -/
structure MsBit (kind len : Nat) (m : MS) : Prop where
  fx : m.fixed = (kind == 5)
  mn : m.mn = if kind = 5 then m.mx else 1
  mx : m.mx = if kind = 5 then (len + 7) / 8 else len / 8 + 1
  le : m.mx ≤ 4294967295
  ck : m.chunks = (len + 255) / 256
  dp : ∃ d, IsL2 m.chunks d ∧ m.depth = d + (if kind = 6 then 1 else 0)
/-- A measure's outcome: the measures, or too large. -/
def MsQ (P : MS → Prop) (e : Ending) : Prop := ∃ (m : MS) (ok : Bool), e = .returned (.tuple #[.agg (msC m).toArray, .bool ok]) ∧ (ok = true → P m) ∧ (ok = false → ∀ m', ¬ P m')
section
variable {τ τ' : Rl} {w w' w0 w1 w2 : World} {tB : Nat} {V V' : TV} {T T' : TS}
theorem TbM.ty (h : TbM τ w tB V T) {i : Nat} {x : TR} (hx : T.types[i]? = some x) : ∃ gt q, V.t = .slice (some ⟨gt, 0, none⟩) T.types.length q ∧ gt < w.heap.size ∧ τ gt = 51 ∧ ∀ j, j < 12 → w.cell? ⟨gt, i * 12 + j, none⟩ = (trC x)[j]? := by
  obtain ⟨gt, q, hv, hlt, hc⟩ := h.t.get (by decide) (fun _ => rfl) hx
  refine ⟨gt, q, hv, hlt, h.t.role gt (by rw [hv]; rfl), hc⟩
set_option maxRecDepth 100000 in
set_option maxHeartbeats 4000000 in
theorem slotW (h : TbM τ w tB V T) {i : Nat} {x : TR} (hx : T.types[i]? = some x) (hb : TRb x) : Calls Tryz.prog 150 #[.pointer (some ⟨tB, 0, none⟩), .int .i32 (i : Int)] w fun e w' => e = .returned (.tuple #[.int .u64 ((slP x).1 : Int), .int .u64 ((slP x).2 : Int)]) ∧ Drew w w' := by
  obtain ⟨gt, q, hv, _, _, hc⟩ := h.ty hx
  obtain ⟨nt, hnt⟩ : ∃ n, T.types.length = n := ⟨_, rfl⟩
  have hlt := (List.getElem?_eq_some_iff.1 hx).1
  rw [hnt] at hv hlt
  have c0 : w.cell? ⟨tB, 0, none⟩ = some (.slice (some ⟨gt, 0, none⟩) nt q) := by rw [← hv]; exact h.b.cell 0
  have y1 : w.cell? ⟨gt, i * 12 + 1, none⟩ = some (.bool x.fixed) := hc 1 (by decide)
  have y8 : w.cell? ⟨gt, i * 12 + 8, none⟩ = some (.int .u32 (x.size : Int)) := hc 8 (by decide)
  have y9 : w.cell? ⟨gt, i * 12 + 9, none⟩ = some (.int .u32 (x.mn : Int)) := hc 9 (by decide)
  have y10 : w.cell? ⟨gt, i * 12 + 10, none⟩ = some (.int .u32 (x.mx : Int)) := hc 10 (by decide)
  have i1 : (i : Int) < (nt : Int) := by omega
  obtain ⟨b1, b2, b3, _, _, _, _⟩ := hb
  have e1 : IntKind.u64.wrap (x.size : Int) = (x.size : Int) := by rw [IntKind.wrap_u64]; omega
  have e2 : IntKind.u64.wrap (x.mn : Int) = (x.mn : Int) := by rw [IntKind.wrap_u64]; omega
  have e3 : IntKind.u64.wrap (x.mx : Int) = (x.mx : Int) := by rw [IntKind.wrap_u64]; omega
  have e4 : IntKind.u64.wrap (4 + (x.mn : Int)) = 4 + (x.mn : Int) := by rw [IntKind.wrap_u64]; omega
  have e5 : IntKind.u64.wrap (4 + (x.mx : Int)) = 4 + (x.mx : Int) := by rw [IntKind.wrap_u64]; omega
  unfold slP
  clear h hx hv hc hnt
  obtain ⟨fx, hfx⟩ : ∃ b, x.fixed = b := ⟨_, rfl⟩
  rw [hfx] at y1 ⊢
  cases fx with
  | true =>
    rw [if_pos rfl]
    clear y9 y10 e2 e3 e4 e5 hfx
    go_enter Tryz.func150, Tryz.ntmps150
    go_upto_region 3 with fail
    obtain ⟨X0, W, hT, hI⟩ := class_mk (fun w' => Drew w w')
    have H0 : Hid (∃ y, w.drew = W y) := hid (hI _ ⟨1, rfl⟩)
    have hne : Nonempty X0 := ⟨H0.out.choose⟩
    have HTT := hid hT
    have a8 : ∀ z, (W z).cell? ⟨gt, i * 12 + 8, none⟩ = some (.int .u32 (x.size : Int)) := fun y => by obtain ⟨m, e⟩ := hT y; rw [e]; exact y8
    clear hT hI
    refine wp_region_class W (by kernel_rfl) (by kernel_rfl) H0.out ?_
    repeat (go_big_quiet_step (fail))
    refine wpQuiet_nil ?_
    intro z
    have HD := hid (HTT.out z)
    have HB := hid ((HTT.out z).below w.heap.size)
    have a8z := a8 z
    generalize W z = w3 at HD HB a8z ⊢
    clear H0 HTT a8
    go_wp2
    go_ret2
    exact ⟨rfl, HD.out⟩
  | false =>
    rw [if_neg (by decide)]
    clear y8 e1 hfx
    go_enter Tryz.func150, Tryz.ntmps150
    go_upto_region 4 with fail
    obtain ⟨X0, W, hT, hI⟩ := class_mk (fun w' => Drew w w')
    have H0 : Hid (∃ y, w.drew = W y) := hid (hI _ ⟨1, rfl⟩)
    have hne : Nonempty X0 := ⟨H0.out.choose⟩
    have HTT := hid hT
    have a9 : ∀ z, (W z).cell? ⟨gt, i * 12 + 9, none⟩ = some (.int .u32 (x.mn : Int)) := fun y => by obtain ⟨m, e⟩ := hT y; rw [e]; exact y9
    have a10 : ∀ z, (W z).cell? ⟨gt, i * 12 + 10, none⟩ = some (.int .u32 (x.mx : Int)) := fun y => by obtain ⟨m, e⟩ := hT y; rw [e]; exact y10
    clear hT hI
    refine wp_region_class W (by kernel_rfl) (by kernel_rfl) H0.out ?_
    repeat (go_big_quiet_step (fail))
    refine wpQuiet_nil ?_
    intro z
    have HD := hid (HTT.out z)
    have HB := hid ((HTT.out z).below w.heap.size)
    have a9z := a9 z
    have a10z := a10 z
    generalize W z = w3 at HD HB a9z a10z ⊢
    clear H0 HTT a9 a10
    go_wp2
    go_ret2
    exact ⟨rfl, HD.out⟩
end
end Go.Proofs.Qxb6500883aGreatDoor
