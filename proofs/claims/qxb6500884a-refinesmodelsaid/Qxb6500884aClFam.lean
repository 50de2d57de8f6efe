/- family, classes; members of a register whose table may stand already. -/
import Derived.Test.Qxb6500884aClPush
import Derived.Test.Qxb6500884aClMem
namespace Go.Proofs.Qxb6500884a
open Go.RowKit
set_option linter.unusedSimpArgs false
set_option linter.unusedVariables false

theorem InRow.at1 {w : World} {a : Option Addr} {n c : Nat} {l : List Int} (h : InRow w a n c l) {k : Nat} (hk : k < n) :
    ∃ x, l[k]? = some x ∧ Fit x ∧ ∃ b off, a = some ⟨b, off, none⟩ ∧ b < w.heap.size ∧ w.cell? ⟨b, off + k, none⟩ = some (.int .i64 x) := by
  obtain ⟨x, hx, b, off, ha, hb, hc⟩ := h.1.cell hk
  exact ⟨x, hx, h.2 x (List.mem_of_getElem? hx), b, off, ha, hb, by simpa [inC] using hc 0 (by omega)⟩
def ptV (p : Nat × List (Int × Int)) : Value := .pointer (some ⟨p.1, 0, none⟩)
def famL (S : List (Nat × List (Int × Int))) (ns : List Int) : List (Nat × List (Int × Int)) := ns.map fun i => S.getD (regIx S.length i) (0, [])
theorem famL_len (S : List (Nat × List (Int × Int))) (ns : List Int) : (famL S ns).length = ns.length := by unfold famL; simp
theorem famL_mem {S : List (Nat × List (Int × Int))} (h0 : 0 < S.length) {ns : List Int} {p : Nat × List (Int × Int)} (h : p ∈ famL S ns) : p ∈ S := by
  unfold famL at h
  obtain ⟨i, _, rfl⟩ := List.mem_map.1 h
  have := regIx_lt h0 i
  rw [List.getD_eq_getElem?_getD, List.getElem?_eq_getElem this]
  exact List.getElem_mem _
theorem regAt {S : List (Nat × List (Int × Int))} (h0 : 0 < S.length) (i : Int) : S[regIx S.length i]? = some (S.getD (regIx S.length i) (0, [])) := by
  have := regIx_lt h0 i
  rw [List.getD_eq_getElem?_getD, List.getElem?_eq_getElem this]
  rfl
theorem made_ptr (n : Nat) : madeCells #[Value.pointer none] n = (List.replicate n (Value.pointer none)).toArray := by
  apply Array.ext'
  apply List.ext_getElem
  · have := size_madeCells #[Value.pointer none] n
    simpa using this
  · intro i h1 h2
    simp [madeCells, Nat.mod_one]
theorem make_ptr (n : Nat) (hn : n ≤ 100000000000) (w : World) : (Instr.makeSlice 44 (.int .i64 (n : Int)) (.int .i64 (n : Int))).run Try.prog w = .ok (.slice (some ⟨w.heap.size, 0, none⟩) n n) (w.alloc (.cells (List.replicate n (Value.pointer none)).toArray 38)) := by
  obtain ⟨i0, hi, hz0, hz1, hz2⟩ := info_ptr
  have := run_make (P := Try.prog) w 44 38 i0 _ Try.underlying44 hi hz0 .i64 .i64 (n : Int) (n : Int) (by omega) (by omega) (by rw [hz2]; omega) (by omega)
  rw [hz1, show (Value.pointer none).cells = #[.pointer none] from rfl] at this
  simpa [made_ptr] using this
/-- A row of values that is being filled. -/
structure Fill (w0 : World) (g : Nat) (e : TypeId) (xs : List Value) (k : Nat) (w : World) : Prop where
  bel : Below w0.heap.size w0 w
  blk : ∃ cs, Blk w g e cs ∧ cs.length = xs.length ∧ ∀ i, i < k → cs[i]? = xs[i]?
theorem Fill.step {w0 w : World} {g : Nat} {e : TypeId} {xs : List Value} {k : Nat} {v : Value} (h : Fill w0 g e xs k w) (hg : w0.heap.size ≤ g) (hv : xs[k]? = some v) : Fill w0 g e xs (k + 1) (w.setCell ⟨g, k, none⟩ v) := by
  obtain ⟨cs, hb, hl, hc⟩ := h.blk
  have hk := (List.getElem?_eq_some_iff.1 hv).1
  refine ⟨h.bel.trans (((Upd.refl g w).setCell rfl v).below hg h.bel.size), cs.set k v, hb.set k v, by simpa using hl, fun i hi => ?_⟩
  by_cases hik : i = k
  · subst hik
    rw [List.getElem?_set_self (by omega), hv]
  · rw [List.getElem?_set_ne (by omega), hc i (by omega)]
theorem Fill.fin {w0 w : World} {g : Nat} {e : TypeId} {xs : List Value} {k : Nat} (h : Fill w0 g e xs k w) (hk : xs.length ≤ k) : Blk w g e xs := by
  obtain ⟨cs, hb, hl, hc⟩ := h.blk
  have : cs = xs := by
    apply List.ext_getElem?
    intro i
    by_cases hi : i < k
    · exact hc i hi
    · rw [List.getElem?_eq_none (by omega), List.getElem?_eq_none (by omega)]
  rw [← this]
  exact hb
theorem Fill.cell {w0 w : World} {g : Nat} {e : TypeId} {xs : List Value} {k : Nat} (h : Fill w0 g e xs k w) {i : Nat} (hi : i < xs.length) : ∃ v, w.cell? ⟨g, i, none⟩ = some v ∧ w.frozen? ⟨g, i, none⟩ = false := by
  obtain ⟨cs, hb, hl, hc⟩ := h.blk
  exact ⟨cs[i], by rw [hb.cell]; exact List.getElem?_eq_getElem (by omega), hb.frozen i⟩
theorem Fill.below {w0 w w' : World} {g : Nat} {e : TypeId} {xs : List Value} {k : Nat} (h : Fill w0 g e xs k w) (hb : Below w.heap.size w w') : Fill w0 g e xs k w' := by
  obtain ⟨cs, h1, h2⟩ := h.blk
  exact ⟨h.bel.trans (hb.mono h.bel.size), cs, h1.below hb, h2⟩
set_option maxRecDepth 100000 in
set_option maxHeartbeats 1000000 in
theorem family_walk (mb : Nat) (a : Option Addr) (S : List (Nat × List (Int × Int))) (ra : Option Addr) (rn rc : Nat) (ns : List Int) (w : World) (h : Mach mb a S w) (h0 : 0 < S.length) (hr : InRow w ra rn rc ns) (hn : rn ≤ 65536) :
    Calls Try.prog 21 #[.pointer (some ⟨mb, 0, none⟩), .slice ra rn rc] w fun e w' => ∃ g, e = .returned (.slice (some ⟨g, 0, none⟩) rn rn) ∧ w.heap.size ≤ g ∧ Blk w' g 38 ((famL S ns).map ptV) ∧ Below w.heap.size w w' := by
  have HM := hid h
  have HR := hid hr
  have hl : ns.length = rn := hr.1.1
  have hmk := make_ptr rn (by omega)
  obtain ⟨g, hg⟩ : ∃ g, w.heap.size = g := ⟨_, rfl⟩
  obtain ⟨Z, hZ⟩ : ∃ Z, List.replicate rn (Value.pointer none) = Z := ⟨_, rfl⟩
  have hZl : Z.length = rn := by rw [← hZ]; simp
  rw [hZ] at hmk
  have hln : ((famL S ns).map ptV).length = rn := by rw [List.length_map, famL_len, hl]
  have HF0 : Hid (Fill w g 38 ((famL S ns).map ptV) 0 (w.alloc (.cells Z.toArray 38))) := hid (by
    have hb := Blk.new w Z 38
    rw [hg] at hb
    exact ⟨nbel w _, _, hb, by rw [hln, hZl], fun i hi => by omega⟩)
  clear h hr
  go_enter Try.func21, Try.ntmps21
  go_upto_region 3 with fail
  clear hZ hZl
  generalize w.alloc (.cells Z.toArray 38) = w1 at HF0 ⊢
  clear hmk
  go_loopw [13] (fun i wr => ∃ (k : Nat), k ≤ rn ∧ i = .int .i64 k ∧ Hid (Fill w g 38 ((famL S ns).map ptV) k wr)) (fun i _ => rn - (intOf i).toNat)
  case atStart => exact ⟨0, Nat.zero_le _, rfl, HF0⟩
  case round =>
    clear HF0
    obtain ⟨k, hk, rfl, HF⟩ := hrel
    by_cases hlt : k < rn
    · as_aux_lemma =>
      obtain ⟨x, hx, fx, b, off, rfl, hb, e1⟩ := InRow.at1 (HR.out.below HF.out.bel) hlt
      have HMk := hid (HM.out.below HF.out.bel)
      obtain ⟨p, hp⟩ : ∃ p, S.getD (regIx S.length x) (0, []) = p := ⟨_, rfl⟩
      have hxk : ((famL S ns).map ptV)[k]? = some (.pointer (some ⟨p.1, 0, none⟩)) := by rw [List.getElem?_map, famL, List.getElem?_map, hx, ← hp]; rfl
      have HRg := hid (reg_walk mb a S x p wr HMk.out fx h0 (by rw [← hp]; exact regAt h0 x))
      obtain ⟨v0, cg, fg⟩ := HF.out.cell (i := k) (by omega)
      have HF2 := hid (HF.out.step (by omega) hxk)
      have dk : decide ((k : Int) < (rn : Int)) = true := decide_eq_true (by omega)
      have i1 : (k : Int) < (rn : Int) := by omega
      clear hx hp hxk
      go_wp2_with fail
      refine HRg.out.mono ?_
      rintro e w5 ⟨rfl, rfl⟩
      go_wp2
      exact ⟨⟨k + 1, by omega, by go_num, HF2⟩, by simp [intOf]; omega⟩
    · as_aux_lemma =>
      have dk : decide ((k : Int) < (rn : Int)) = false := decide_eq_false (by omega)
      go_wp2
      go_ret
      exact ⟨g, rfl, by omega, HF.out.fin (by omega), HF.out.bel⟩
end Go.Proofs.Qxb6500884a
