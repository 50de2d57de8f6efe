/- The bounded buffer in memory: NewBuffer, Len, Limit, Room, String, At, Truncate, Reset. -/
import Derived.Test.Qxb6500890aDoorRowL
import Derived.Test.Qxb6500890aDoorCopy
import Derived.Test.Qxb6500890aDoorMid
import Derived.Test.Qxb6500890aDoorTextFmt
import Derived.Test.Qxb6500890aDoorTextAcc
import Derived.Test.Qxb6500890aDoorLast3
import Derived.Test.Qxb6500890aDoorLastT
import Derived.Test.Qxb6500890aDoorDrew
import Derived.BigQuiet
import Derived.Deep.DeepCutAuto
namespace Go.Proofs.Qxb6500890aDoor
open Go.RowKit
set_option linter.unusedSimpArgs false
set_option linter.unusedVariables false

/-- The worlds above w, as a class. -/
theorem class_below (w : World) : ∃ (X : Type) (W : X → World), Hid (∀ x, Below w.heap.size w (W x)) ∧ Hid (∃ y, w.drew = W y) ∧ Nonempty X ∧ Hid (∀ x w', Below (W x).heap.size (W x) w' → ∃ y, w' = W y) := by
  obtain ⟨X, W, hT, hI⟩ := class_mk (fun w' => Below w.heap.size w w')
  have h0 : ∃ y, w.drew = W y := hI _ (Drew.below ⟨1, rfl⟩ _)
  exact ⟨X, W, hid hT, hid h0, ⟨h0.choose⟩, hid (fun x w' hb => hI _ ((hT x).trans (hb.mono (hT x).size)))⟩
/-- The buffer's bytes: none, or the first of a block of role 3. -/
def Dt (w : World) (ρ : Rl) (a : Option Addr) (q : Nat) (bs : List UInt8) : Prop := (a = none ∧ bs = [] ∧ q = 0) ∨ ∃ g rest, a = some ⟨g, 0, none⟩ ∧ Blk w g 5 (byteVals bs ++ rest) ∧ bs.length + rest.length = q ∧ ρ g = 3
/-- A buffer, its block of role 2. -/
structure Bu (w : World) (ρ : Rl) (bB : Nat) (lim : Nat) (bs : List UInt8) (a : Option Addr) (q : Nat) : Prop where
  bb : Blk w bB 93 [.slice a bs.length q, .int .i64 (lim : Int)]
  rb : ρ bB = 2
  dt : Dt w ρ a q bs
  lq : q ≤ 200000000000
  ll : lim ≤ 9223372036854775807
def buX (c : Nat) : Bool := c == 2 || c == 3
section
variable {w w' : World} {ρ ρ' : Rl} {a : Option Addr} {q bB lim : Nat} {bs : List UInt8} {X : Nat → Bool}
theorem Dt.le (h : Dt w ρ a q bs) : bs.length ≤ q := by
  rcases h with ⟨_, rfl, rfl⟩ | ⟨g, rest, _, _, e, _⟩
  · exact Nat.le_refl _
  · omega
theorem Dt.fr (h : Dt w ρ a q bs) (hf : Fr X ρ w ρ' w') (hX : X 3 = false) : Dt w' ρ' a q bs := by
  rcases h with h | ⟨g, rest, h1, h2, h3, h4⟩
  · exact .inl h
  · exact .inr ⟨g, rest, h1, hf.keep h2 h4 hX, h3, by rw [hf.old _ h2.lt]; exact h4⟩
theorem Bu.fr (h : Bu w ρ bB lim bs a q) (hf : Fr X ρ w ρ' w') (h2 : X 2 = false) (h3 : X 3 = false) : Bu w' ρ' bB lim bs a q := ⟨hf.keep h.bb h.rb h2, by rw [hf.old _ h.bb.lt]; exact h.rb, h.dt.fr hf h3, h.lq, h.ll⟩
theorem Bu.below (h : Bu w ρ bB lim bs a q) (hb : Below w.heap.size w w') : Bu w' ρ bB lim bs a q := h.fr (X := fun _ => false) (Fr.below hb) rfl rfl
theorem Bu.cells (h : Bu w ρ bB lim bs a q) : w.cell? ⟨bB, 0, none⟩ = some (.slice a bs.length q) ∧ w.cell? ⟨bB, 1, none⟩ = some (.int .i64 (lim : Int)) := ⟨h.bb.cell 0, h.bb.cell 1⟩
theorem Bu.le (h : Bu w ρ bB lim bs a q) : bs.length ≤ 200000000000 := Nat.le_trans h.dt.le h.lq
theorem byteVals_get (l : List UInt8) (i : Nat) : (byteVals l)[i]? = l[i]?.map fun b => .int .u8 (b.toNat : Int) := by simp [byteVals]
theorem byteVals_append (a b : List UInt8) : byteVals (a ++ b) = byteVals a ++ byteVals b := by simp [byteVals]
theorem Dt.at (h : Dt w ρ a q bs) {i : Nat} {b : UInt8} (hi : bs[i]? = some b) : ∃ g, a = some ⟨g, 0, none⟩ ∧ w.cell? ⟨g, i, none⟩ = some (.int .u8 (b.toNat : Int)) := by
  have hl := (List.getElem?_eq_some_iff.1 hi).1
  rcases h with ⟨_, rfl, _⟩ | ⟨g, rest, h1, h2, h3, h4⟩
  · simp at hi
  · refine ⟨g, h1, ?_⟩
    rw [h2.cell, List.getElem?_append_left (by rw [byteVals_len]; exact hl), byteVals_get, hi]
    rfl
/-- Cut back. -/
theorem Dt.take (h : Dt w ρ a q bs) (n : Nat) : Dt w ρ a q (bs.take n) := by
  rcases h with ⟨h1, rfl, h2⟩ | ⟨g, rest, h1, h2, h3, h4⟩
  · exact .inl ⟨h1, by simp, h2⟩
  · refine .inr ⟨g, byteVals (bs.drop n) ++ rest, h1, ?_, ?_, h4⟩
    · rw [← List.append_assoc, ← byteVals_append, List.take_append_drop]; exact h2
    · rw [List.length_append, byteVals_len, ← h3, List.length_take, List.length_drop]; omega
theorem Bu.set (h : Bu w ρ bB lim bs a q) {a' : Option Addr} {q' : Nat} {cs : List UInt8} (hd : Dt w ρ a' q' cs) (hq : q' ≤ 200000000000) : Bu (w.setCell ⟨bB, 0, none⟩ (.slice a' cs.length q')) ρ bB lim cs a' q' ∧ Fr buX ρ w ρ (w.setCell ⟨bB, 0, none⟩ (.slice a' cs.length q')) := by
  have hf : Fr (fun c => c == 2) ρ w ρ (w.setCell ⟨bB, 0, none⟩ (.slice a' cs.length q')) := Fr.set _ (by show (ρ bB == 2) = true; rw [h.rb]; rfl)
  have hf2 : Fr buX ρ w ρ (w.setCell ⟨bB, 0, none⟩ (.slice a' cs.length q')) := hf.mono fun c hc => by simp at hc; simp [buX, hc]
  exact ⟨⟨h.bb.set 0 _, h.rb, hd.fr hf rfl, hq, h.ll⟩, hf2⟩
set_option maxRecDepth 100000
theorem len_walk (h : Bu w ρ bB lim bs a q) : Calls Tryd.prog 14 #[.pointer (some ⟨bB, 0, none⟩)] w fun e w' => e = .returned (.int .i64 (bs.length : Int)) ∧ w' = w := by
  have c1 := h.cells.1
  have hl := h.le
  obtain ⟨n, hn⟩ : ∃ n, bs.length = n := ⟨_, rfl⟩
  rw [hn] at c1 hl
  rw [hn]
  clear hn h
  go_enter Tryd.func14, Tryd.ntmps14
  go_wp2
  go_ret
  exact ⟨rfl, rfl⟩
theorem limit_walk (h : Bu w ρ bB lim bs a q) : Calls Tryd.prog 13 #[.pointer (some ⟨bB, 0, none⟩)] w fun e w' => e = .returned (.int .i64 (lim : Int)) ∧ w' = w := by
  have c1 := h.cells.2
  clear h
  go_enter Tryd.func13, Tryd.ntmps13
  go_wp2
  go_ret
  exact ⟨rfl, rfl⟩
theorem Bu.str (h : Bu w ρ bB lim bs a q) : (convert 82 9 (.slice a bs.length q)).run Tryd.prog w = .ok (.string ⟨bs.toArray⟩) w := by
  rcases h.dt with ⟨rfl, rfl, rfl⟩ | ⟨g, rest, rfl, h2, h3, h4⟩
  · show (convert 82 9 (.slice none 0 0)).run Tryd.prog w = _
    rw [run_convert_bytes_string w 82 9 5 none 0 0 Tryd.underlying82 Tryd.underlying5 Tryd.underlying9]; rfl
  · refine run_convert_bytes_back w 82 9 5 ⟨g, 0, none⟩ q bs Tryd.underlying82 Tryd.underlying5 Tryd.underlying9 (fun j hj => ?_)
    have ea : (⟨g, 0, none⟩ : Addr).add j = ⟨g, 0 + j, none⟩ := by unfold Addr.add; split <;> simp_all
    rw [ea, h2.cell, Nat.zero_add, List.getElem?_append_left (by rw [byteVals_len]; exact hj), byteVals_get, List.getElem?_eq_getElem hj]
    rfl
theorem string_walk (h : Bu w ρ bB lim bs a q) : Calls Tryd.prog 12 #[.pointer (some ⟨bB, 0, none⟩)] w fun e w' => e = .returned (.string ⟨bs.toArray⟩) ∧ w' = w := by
  have c1 := h.cells.1
  have hcv := h.str
  obtain ⟨n, hn⟩ : ∃ n, bs.length = n := ⟨_, rfl⟩
  obtain ⟨s, hs⟩ : ∃ s : ByteArray, ⟨bs.toArray⟩ = s := ⟨_, rfl⟩
  rw [hs] at hcv
  rw [hn] at c1 hcv
  rw [hs]
  clear hn h hs
  go_enter Tryd.func12, Tryd.ntmps12
  go_wp2
  go_ret
  exact ⟨rfl, rfl⟩
def roomP (lim n k : Nat) : Bool := lim == 0 || decide (n + k ≤ lim)
theorem room_walk (h : Bu w ρ bB lim bs a q) (k : Nat) (hk : k ≤ 1000000000) : Calls Tryd.prog 86 #[.pointer (some ⟨bB, 0, none⟩), .int .i64 (k : Int)] w fun e w' => e = .returned (.bool (roomP lim bs.length k)) ∧ Below w.heap.size w w' := by
  have HH := hid h
  have hl := h.le
  have hll := h.ll
  obtain ⟨n, hn⟩ : ∃ n, bs.length = n := ⟨_, rfl⟩
  rw [hn] at hl
  rw [hn]
  have Hn := hid hn
  have d0 : decide ((k : Int) < 0) = false := decide_eq_false (by omega)
  obtain ⟨r, hr⟩ : ∃ r, roomP lim n k = r := ⟨_, rfl⟩
  rw [hr]
  have Hr := hid hr
  clear h hn hr
  go_enter Tryd.func86, Tryd.ntmps86
  go_upto_region 3 with fail
  obtain ⟨X, W, HTT, H0, hne, HC⟩ := class_below w
  have a1 : ∀ y, (W y).cell? ⟨bB, 0, none⟩ = some (.slice a n q) := fun y => by rw [← Hn.out]; exact (HH.out.below (HTT.out y)).cells.1
  have a2 := fun y => (HH.out.below (HTT.out y)).cells.2
  refine wp_region_class W (by kernel_rfl) (by kernel_rfl) H0.out ?_
  by_cases h0 : lim = 0
  · have HR : Hid (true = r) := hid (by rw [← Hr.out]; unfold roomP; rw [h0]; rfl)
    have d1 : ((lim : Int) == 0) = true := by rw [h0]; rfl
    clear h0
    repeat (go_big_quiet_step (fail))
    refine wpQuiet_nil ?_
    intro z
    have HBz := hid (HTT.out z)
    generalize W z = wz at HBz ⊢
    go_wp2
    go_ret
    exact ⟨ret_b HR.out, HBz.out⟩
  · have d1 : ((lim : Int) == 0) = false := by rw [beq_eq_false_iff_ne]; omega
    obtain ⟨b, hb⟩ : ∃ b, decide ((k : Int) ≤ (lim : Int) - (n : Int)) = b := ⟨_, rfl⟩
    have HR : Hid (b = r) := hid (by
      rw [← Hr.out]
      unfold roomP
      rw [← hb, beq_eq_false_iff_ne.2 h0, Bool.false_or]
      exact decide_eq_decide.2 (by omega))
    clear h0
    repeat (go_big_quiet_step (fail))
    refine wpQuiet_nil ?_
    intro z
    have HBz := hid (HTT.out z)
    generalize W z = wz at HBz ⊢
    go_wp2
    go_ret
    exact ⟨ret_b HR.out, HBz.out⟩
end
end Go.Proofs.Qxb6500890aDoor
