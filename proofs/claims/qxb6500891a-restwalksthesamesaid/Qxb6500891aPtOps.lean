/- The script of the path laws, read as a list of steps. -/
import Derived.Test.Qxb6500891aMem
import Derived.Test.Qxb6500891aProg
import Derived.Test.Qxb6500891aDrew
import Derived.KernelRfl
import Derived.WalkKit
import Derived.WalkSpells
namespace Go.Proofs.Qxb6500891a
open Go.RowKit
set_option linter.unusedSimpArgs false
set_option linter.unusedVariables false

def byteCell (b : Nat) : List Value := [.int .u8 (b : Int)]
def ByteRow (w : World) (a : Option Addr) (n c : Nat) (l : List Nat) : Prop := RowOf w 1 byteCell a n c l ∧ ∀ b ∈ l, b < 256
theorem ByteRow.below {w w' : World} {a : Option Addr} {n c : Nat} {l : List Nat} (h : ByteRow w a n c l) (hb : Below w.heap.size w w') : ByteRow w' a n c l := ⟨h.1.below hb, h.2⟩
theorem ByteRow.get {w : World} {a : Option Addr} {n c : Nat} {l : List Nat} (h : ByteRow w a n c l) {k : Nat} (hk : k < n) : ∃ x, l[k]? = some x ∧ x < 256 ∧ ∃ b off, a = some ⟨b, off, none⟩ ∧ b < w.heap.size ∧ w.cell? ⟨b, off + k, none⟩ = some (.int .u8 (x : Int)) := by
  obtain ⟨x, hx, b, off, ha, hb, hc⟩ := h.1.cell1 hk
  exact ⟨x, hx, h.2 x (List.mem_of_getElem? hx), b, off, ha, hb, hc⟩
theorem ByteRow.len {w : World} {a : Option Addr} {n c : Nat} {l : List Nat} (h : ByteRow w a n c l) : l.length = n := h.1.1

structure POp where
  kind : Int
  aa : Option Addr
  an : Nat
  ac : Nat
  a : List Nat
  ba : Option Addr
  bn : Nat
  bc : Nat
  b : List Nat
def opCells (o : POp) : List Value := [.int .u8 o.kind, .slice o.aa o.an o.ac, .slice o.ba o.bn o.bc]
structure OpOk (w : World) (o : POp) : Prop where
  k0 : 0 ≤ o.kind
  k1 : o.kind < 256
  ra : ByteRow w o.aa o.an o.ac o.a
  rb : ByteRow w o.ba o.bn o.bc o.b
theorem OpOk.below {w w' : World} {o : POp} (h : OpOk w o) (hb : Below w.heap.size w w') : OpOk w' o := ⟨h.k0, h.k1, h.ra.below hb, h.rb.below hb⟩
def Script (w : World) (a : Option Addr) (n c : Nat) (l : List POp) : Prop := RowOf w 3 opCells a n c l ∧ ∀ o ∈ l, OpOk w o
theorem Script.below {w w' : World} {a : Option Addr} {n c : Nat} {l : List POp} (h : Script w a n c l) (hb : Below w.heap.size w w') : Script w' a n c l := ⟨h.1.below hb, fun o ho => (h.2 o ho).below hb⟩

theorem cells_op : Try.prog.cellsOf 71 = 3 := by kernel_rfl
theorem bytes_op : Try.prog.bytesOf 71 = 56 := by kernel_rfl
theorem cells_kind : Try.prog.cellsOf 69 = 1 := by kernel_rfl
theorem cells_u8 : Try.prog.cellsOf 5 = 1 := by kernel_rfl
theorem bytes_u8 : Try.prog.bytesOf 5 = 1 := by kernel_rfl
theorem cells_u8s : Try.prog.cellsOf 26 = 1 := by kernel_rfl
theorem fit_u8 {n : Int} (h : (Lit.int .u8 n).wf = true) : 0 ≤ n ∧ n < 256 := by
  simp [Lit.wf, IntKind.min, IntKind.max, IntKind.signed, IntKind.bits] at h
  omega

section
variable {H : Type} {enc : TypeId × Value → H} {w : World} {base : Nat} {spare : Nat → Bool} {held : Bool}
set_option maxRecDepth 100000 in
theorem open_bytes {fuel : Nat} {cs : List Value} {x : DataW H × List MemPlace} (h : DataW.trod enc Try.prog w base spare held fuel 26 cs = some x) (hz : Sz Try.prog 26 x.1) :
    ∃ a n c l, cs = [.slice a n c] ∧ ByteRow w a n c l := by
  obtain ⟨a, n, c, rfl, hl, hm, hx⟩ := open_rows Try.underlying26 cells_u8 (by omega) (by rw [bytes_u8]; decide) h hz
  obtain ⟨l, h1, h2⟩ := row_list (w := w) (α := Nat) (sz := 1) (a := a) (f := byteCell) (q := fun b => b < 256) hl hm (fun i hi => by
    obtain ⟨b, off, ha, hb, cs', fl, y, hlen, hc, ht, hy⟩ := hx i hi
    obtain ⟨v, e, _, hv⟩ := DataW.trod_int Try.underlying5 ht
    obtain ⟨v0, v1⟩ := fit_u8 hv
    refine ⟨v.toNat, ⟨b, off, ha, hb, fun j hj => ?_⟩, by omega⟩
    rw [hc j hj, e]
    simp [byteCell, Int.toNat_of_nonneg v0])
  exact ⟨a, n, c, l, rfl, h1, h2⟩
set_option maxRecDepth 100000 in
theorem open_ops {fuel : Nat} {cs : List Value} {x : DataW H × List MemPlace} (h : DataW.trod enc Try.prog w base spare held fuel 22 cs = some x) (hz : Sz Try.prog 22 x.1) :
    ∃ a n c l, cs = [.slice a n c] ∧ Script w a n c l := by
  obtain ⟨a, n, c, rfl, hl, hm, hx⟩ := open_rows Try.underlying22 cells_op (by omega) (by rw [bytes_op]; decide) h hz
  have : Inhabited POp := ⟨⟨0, none, 0, 0, [], none, 0, 0, []⟩⟩
  obtain ⟨l, h1, h2⟩ := row_list (w := w) (α := POp) (sz := 3) (a := a) (f := opCells) (q := OpOk w) hl hm (fun i hi => by
    obtain ⟨b, off, ha, hb, cs', fl, y, hlen, hc, ht, hy⟩ := hx i hi
    obtain ⟨xs, m, _, rfl, _, hxs, hf⟩ := DataW.trod_struct Try.underlying71 ht
    match cs', hlen, xs, hxs with
    | [c0, c1, c2], _, [y0, y1, y2], _ =>
      have g0 : DataW.trod enc Try.prog w base spare held m 69 (([c0, c1, c2].drop 0).take (Try.prog.cellsOf 69)) = some y0 := hf 0 _ rfl
      have g1 : DataW.trod enc Try.prog w base spare held m 26 (([c0, c1, c2].drop 1).take (Try.prog.cellsOf 26)) = some y1 := hf 1 _ rfl
      have g2 : DataW.trod enc Try.prog w base spare held m 26 (([c0, c1, c2].drop 2).take (Try.prog.cellsOf 26)) = some y2 := hf 2 _ rfl
      rw [cells_kind] at g0
      rw [cells_u8s] at g1 g2
      obtain ⟨v0, e0, _, w0⟩ := DataW.trod_int Try.underlying69 g0
      obtain ⟨a1, n1, k1, l1, e1, r1⟩ := open_bytes g1 (hy.field Try.underlying71 (i := 1) rfl rfl)
      obtain ⟨a2, n2, k2, l2, e2, r2⟩ := open_bytes g2 (hy.field Try.underlying71 (i := 2) rfl rfl)
      simp at e0 e1 e2
      subst e0 e1 e2
      exact ⟨⟨v0, a1, n1, k1, l1, a2, n2, k2, l2⟩, ⟨b, off, ha, hb, hc⟩, ⟨(fit_u8 w0).1, (fit_u8 w0).2, r1, r2⟩⟩)
  exact ⟨a, n, c, l, rfl, h1, h2⟩
end
theorem Script.at {w : World} {a : Option Addr} {n c : Nat} {l : List POp} (h : Script w a n c l) {i : Nat} (hi : i < n) :
    ∃ o, l[i]? = some o ∧ OpOk w o ∧ ∃ b off, a = some ⟨b, off, none⟩ ∧ b < w.heap.size ∧ w.cell? ⟨b, off + i * 3, none⟩ = some (.int .u8 o.kind) ∧ w.cell? ⟨b, off + i * 3 + 1, none⟩ = some (.slice o.aa o.an o.ac) ∧ w.cell? ⟨b, off + i * 3 + 2, none⟩ = some (.slice o.ba o.bn o.bc) := by
  obtain ⟨o, ho, b, off, ha, hb, hc⟩ := h.1.cell hi
  exact ⟨o, ho, h.2 o (List.mem_of_getElem? ho), b, off, ha, hb, by simpa [opCells] using hc 0 (by omega), by simpa [opCells] using hc 1 (by omega), by simpa [opCells] using hc 2 (by omega)⟩

/-- The hash's step, as it is reckoned. -/
def hB (h c : Int) : Int := IntKind.u32.wrap (bits .xor .u32 h c * 16777619)
theorem hB_rng (h c : Int) : 0 ≤ hB h c ∧ hB h c < 4294967296 := by
  unfold hB
  rw [IntKind.wrap_u32]
  omega
set_option maxRecDepth 100000 in
theorem hashByte_walk (h : Int) (c : Nat) (hc : c < 256) (w : World) :
    Calls Try.prog 46 #[.int .u32 h, .int .u8 (c : Int)] w fun e w' => e = .returned (.int .u32 (hB h c)) ∧ w' = w := by
  go_enter Try.func46, Try.ntmps46
  go_wp2
  go_ret
  exact ⟨by unfold hB; first | rfl | (apply ret_i; go_num), rfl⟩
theorem hashByte_int (h c : Int) (c0 : 0 ≤ c) (c1 : c < 256) (w : World) :
    Calls Try.prog 46 #[.int .u32 h, .int .u8 c] w fun e w' => e = .returned (.int .u32 (hB h c)) ∧ w' = w := by
  obtain ⟨n, rfl⟩ := Int.eq_ofNat_of_zero_le c0
  exact hashByte_walk h n (by omega) w
def hashL (h : Int) (l : List Nat) : Int := l.foldl (fun (h : Int) (c : Nat) => hB h (c : Int)) h
set_option maxRecDepth 100000 in
theorem hashBytes_walk (a : Option Addr) (n c : Nat) (l : List Nat) (w : World) (hr : ByteRow w a n c l) :
    Calls Try.prog 24 #[.slice a n c] w fun e w' => e = .returned (.int .u32 (hashL 2166136261 l)) ∧ w' = w := by
  have hn := hr.1.2.2.1.1
  have HR := hid hr
  have hl := hr.len
  clear hr
  go_enter Try.func24, Try.ntmps24
  go_wp2_with fail
  go_loopw [3, 8] (fun v u wr => wr = w ∧ ∃ k : Nat, k ≤ n ∧ v = .int .u32 (hashL 2166136261 (l.take k)) ∧ u = .int .i64 k) (fun _ u _ => n - (intOf u).toNat)
  case atStart => exact ⟨rfl, 0, Nat.zero_le _, by simp [hashL], rfl⟩
  case round =>
    obtain ⟨rfl, k, hk, rfl, rfl⟩ := hrel
    by_cases hlt : k < n
    · obtain ⟨x, hx, hx256, b, off, rfl, hb, cx⟩ := HR.out.get hlt
      have hnx : hashL 2166136261 (l.take (k + 1)) = hB (hashL 2166136261 (l.take k)) x := by
        rw [List.take_add_one, hx]
        simp [hashL]
      have HN := hid hnx
      clear hnx hx
      generalize hashL 2166136261 (l.take k) = hk at *
      go_wp2_with (go_at_call 46; refine (hashByte_walk hk x hx256 _).mono ?_; rintro e w1 ⟨rfl, rfl⟩)
      exact ⟨⟨by first | rfl | trivial, k + 1, by omega, by rw [HN.out], by go_num⟩, by simp [intOf]; omega⟩
    · have hkn : k = n := by omega
      subst hkn
      rw [List.take_of_length_le (by omega)]
      go_wp2
      go_ret
      exact ⟨rfl, rfl⟩
end Go.Proofs.Qxb6500891a
