/- epochm.New, mutapi.New, newWorld, zzSmall1. -/
import Derived.Test.Qxb6500889aDoorMuW3
namespace Go.Proofs.Qxb6500889aDoor
open Go.RowKit
set_option linter.unusedSimpArgs false
set_option linter.unusedVariables false
def H0 : HS := ⟨fun _ => none, fun _ => false, fun _ => false, fun _ => [], fun _ => false⟩
def X0 : XS := ⟨fun _ => ⟨0, []⟩, fun _ => 0, 0, 0, 0, 0, 0, 0⟩
theorem HI.zero : HI H0 X0 := by
  refine ⟨⟨fun a x h => (by cases h), fun a h => (by cases h), fun a x h => (by cases h), fun a b x y h => (by cases h)⟩, fun a h => ?_, fun m _ => (by simp [H0]), fun m _ h => absurd rfl h, fun m _ h => (by cases h), fun m _ h => (by cases h)⟩
  exfalso
  induction h with
  | root m a _ h _ => cases h
  | hand m a _ h _ => cases h
  | ref b a x _ h => cases h
theorem XN.zero : XN X0 0 := ⟨by decide, by decide, fun m => Nat.le_refl _, fun m => Nat.zero_le _, Nat.le_refl _, Nat.le_refl _, Nat.le_refl _, Nat.le_refl _, fun i _ => (by show 0 < 18446744073709551616; decide)⟩
theorem made_tk (n : Nat) : madeCells #[Value.bool false] n = ((List.range n).map fun _ => Value.bool false).toArray := by
  apply Array.ext'
  apply List.ext_getElem
  · have := size_madeCells #[Value.bool false] n
    simp
    simpa using this
  · intro i h1 h2
    simp [madeCells, Nat.mod_one]
theorem make_tk (w : World) : (Instr.makeSlice 79 (.int .i64 32768) (.int .i64 32768)).run Tryd.prog w = .ok (.slice (some ⟨w.heap.size, 0, none⟩) 32768 32768) (w.alloc (.cells (tkC fun _ => false).toArray 4)) := by
  have h := run_make_row' (P := Tryd.prog) 79 4 (.bool false) 1 Tryd.underlying79 (by kernel_rfl) rfl .i64 .i64 32768 (by omega) (by omega) w
  rw [made_tk] at h
  exact h
attribute [local irreducible] tkC
section
variable {w w' w'' : World} {ρ ρ' ρ'' : Rl} {L L' : HL} {T T' : XL} {V V' : WL} {H H' : HS} {X X' : XS} {G : List Nat}
def L0 (r : Nat) : HL := ⟨r + 3, r + 1, r, r + 2, fun _ => 0, fun _ => 0, fun _ => 0, fun _ => .slice none 0 0⟩
def ρ0 (r : Nat) : Rl := fup (fup (fup (fup (fun _ => 0) r 3) (r + 1) 2) (r + 2) 4) (r + 3) 1
theorem HM.zero (w : World) {w1 w2 w3 w4 : World} {r : Nat} (hr : w.heap.size = r) (h1 : w.alloc (.map #[] 0) = w1) (h2 : w1.alloc (.cells (tkC fun _ => false).toArray 4) = w2) (h3 : w2.alloc (.map #[] 0) = w3) (h4 : w3.alloc (.cells (hC (L0 r) H0).toArray 85) = w4) :
    HM w4 (ρ0 r) (L0 r) H0 ∧ Below w.heap.size w w4 ∧ ∀ g, g < w.heap.size → ρ0 r g = 0 := by
  have s1 : w1.heap.size = r + 1 := by rw [← h1, ← hr]; simp
  have s2 : w2.heap.size = r + 2 := by rw [← h2]; simp [s1]
  have s3 : w3.heap.size = r + 3 := by rw [← h3]; simp [s2]
  have s4 : w4.heap.size = r + 4 := by rw [← h4]; simp [s3]
  have p1 : PN w1 r [] := by rw [← h1]; exact PN.new w hr
  have p2 : Blk w2 (r + 1) 4 (tkC fun _ => false) := by have := Blk.new w1 (tkC fun _ => false) 4; rw [h2, s1] at this; exact this
  have p3 : PN w3 (r + 2) [] := by rw [← h3]; exact PN.new w2 s2
  have p4 : Blk w4 (r + 3) 85 (hC (L0 r) H0) := by have := Blk.new w3 (hC (L0 r) H0) 85; rw [h4, s3] at this; exact this
  have b1 : Below w.heap.size w w1 := by rw [← h1]; exact nbel _ _
  have b2 : Below w1.heap.size w1 w2 := by rw [← h2]; exact nbel _ _
  have b3 : Below w2.heap.size w2 w3 := by rw [← h3]; exact nbel _ _
  have b4 : Below w3.heap.size w3 w4 := by rw [← h4]; exact nbel _ _
  have e : ∀ g, ρ0 r g = if g = r + 3 then 1 else if g = r + 2 then 4 else if g = r + 1 then 2 else if g = r then 3 else 0 := fun g => by simp only [ρ0, fup]
  refine ⟨⟨p4, (p2.below b3).below b4, ⟨[], ((p1.below b2).below b3).below b4, fun e he => (by cases he), fun a => ?_⟩, ⟨[], p3.below b4, fun e he => (by cases he), fun a => ?_⟩, fun a x hx => (by cases hx), fun m _ => ⟨World.ownsRow_nil _ _ _ _, fun g hg => (by cases hg)⟩, ?_, ?_, ?_, ?_, fun g hg => ?_⟩, ?_, fun g hg => ?_⟩
  · simp [H0]
  · simp [H0]
  · rw [e, show (L0 r).hB = r + 3 from rfl, if_pos rfl]
  · rw [e, show (L0 r).tB = r + 1 from rfl, if_neg (by omega), if_neg (by omega), if_pos rfl]
  · rw [e, show (L0 r).mO = r from rfl, if_neg (by omega), if_neg (by omega), if_neg (by omega), if_pos rfl]
  · rw [e, show (L0 r).mC = r + 2 from rfl, if_neg (by omega), if_pos rfl]
  · rw [e] at hg
    by_cases a1 : g = r + 3
    · omega
    by_cases a2 : g = r + 2
    · omega
    by_cases a3 : g = r + 1
    · omega
    by_cases a4 : g = r
    · omega
    rw [if_neg a1, if_neg a2, if_neg a3, if_neg a4] at hg
    exact absurd rfl hg
  · exact ((b1.trans (b2.mono b1.size)).trans (b3.mono (by omega))).trans (b4.mono (by omega))
  · rw [e, if_neg (by omega), if_neg (by omega), if_neg (by omega), if_neg (by omega)]
set_option maxRecDepth 100000 in
theorem hnew_walk (w : World) : Calls Tryd.prog 19 #[] w fun e w' => ∃ r, e = .returned (.pointer (some ⟨r + 3, 0, none⟩)) ∧ HM w' (ρ0 r) (L0 r) H0 ∧ Below w.heap.size w w' ∧ ∀ g, g < w.heap.size → ρ0 r g = 0 := by
  obtain ⟨r, hr⟩ : ∃ r, w.heap.size = r := ⟨_, rfl⟩
  obtain ⟨w1, h1⟩ : ∃ w1, w.alloc (.map #[] 0) = w1 := ⟨_, rfl⟩
  obtain ⟨w2, h2⟩ : ∃ w2, w1.alloc (.cells (tkC fun _ => false).toArray 4) = w2 := ⟨_, rfl⟩
  obtain ⟨w3, h3⟩ : ∃ w3, w2.alloc (.map #[] 0) = w3 := ⟨_, rfl⟩
  obtain ⟨w4, h4⟩ : ∃ w4, w3.alloc (.cells (hC (L0 r) H0).toArray 85) = w4 := ⟨_, rfl⟩
  have HZ := hid (HM.zero w hr h1 h2 h3 h4)
  have s1 : w1.heap.size = r + 1 := by rw [← h1, ← hr]; simp
  have s2 : w2.heap.size = r + 2 := by rw [← h2]; simp [s1]
  have s3 : w3.heap.size = r + 3 := by rw [← h3]; simp [s2]
  have hmk := @run_makeMap Tryd.prog
  have hms := fun w => make_tk w
  have h4' : w3.alloc (.cells #[.map (some r), .slice (some ⟨r + 1, 0, none⟩) 32768 32768, .slice none 0 0, .slice none 0 0, .slice none 0 0, .slice none 0 0, .bool false, .bool false, .bool false, .bool false, .map (some (r + 2))] 85) = w4 := h4
  clear h4
  go_enter Tryd.func19, Tryd.ntmps19
  go_wp2_with fail
  go_ret
  exact ⟨r, rfl, HZ.out⟩
def hd0 (hB j : Nat) : List Value := [.pointer (some ⟨hB, 0, none⟩), .int .i64 0, .int .u64 0, .slice none 0 0, .int .i64 (if 1 < j then 1 else 0), .int .u64 0, .slice none 0 0, .int .i64 (if 2 < j then 2 else 0), .int .u64 0, .slice none 0 0, .int .i64 (if 3 < j then 3 else 0), .int .u64 0, .slice none 0 0]
def xN (hB j : Nat) : List Value := hd0 hB j ++ (ringC (fun _ => 0) ++ tlC X0)
theorem xN_len (hB j : Nat) : (xN hB j).length = 276 := by simp [xN, hd0, tlC, ringC_len]
theorem xN_four (hB : Nat) : xN hB 4 = xC hB (fun _ => .slice none 0 0) X0 := rfl
theorem xN_cell (hB j : Nat) {m : Nat} (hm : m < 4) : ∃ i : Int, (xN hB j)[1 + m * 3]? = some (.int .i64 i) := by
  unfold xN
  rw [List.getElem?_append_left (by simp [hd0]; omega)]
  rcases (by omega : m = 0 ∨ m = 1 ∨ m = 2 ∨ m = 3) with rfl | rfl | rfl | rfl <;> exact ⟨_, rfl⟩
theorem xN_set (hB : Nat) {m : Nat} (hm : m < 4) : (xN hB m).set (1 + m * 3) (.int .i64 (m : Int)) = xN hB (m + 1) := by
  unfold xN
  rw [List.set_append_left _ _ (by simp [hd0]; omega)]
  congr 1
  rcases (by omega : m = 0 ∨ m = 1 ∨ m = 2 ∨ m = 3) with rfl | rfl | rfl | rfl <;> rfl
theorem zero_x (hB : Nat) : Tryd.zeroCells113.setIfInBounds 0 (.pointer (some ⟨hB, 0, none⟩)) = (xN hB 0).toArray := by kernel_rfl
set_option maxRecDepth 100000 in
set_option maxHeartbeats 1000000 in
theorem xnew_walk (h : HM w ρ L H) {r : Nat} (hr : w.heap.size = r) : Calls Tryd.prog 20 #[.pointer (some ⟨L.hB, 0, none⟩)] w fun e w' => e = .returned (.pointer (some ⟨r, 0, none⟩)) ∧ MM w' (fup ρ r 5) L ⟨r, fun _ => .slice none 0 0⟩ H X0 ∧ Below w.heap.size w w' := by
  obtain ⟨hB, hhB⟩ : ∃ r, L.hB = r := ⟨_, rfl⟩
  have HH := hid h
  have HhB := hid hhB
  have Hr := hid hr
  have hb1 := nbel w (.cells (xN hB 0).toArray 113)
  have hx1 := Blk.new w (xN hB 0) 113
  rw [hr] at hx1
  rw [hhB]
  obtain ⟨w1, hw1⟩ : ∃ w1, w.alloc (.cells (xN hB 0).toArray 113) = w1 := ⟨_, rfl⟩
  rw [hw1] at hb1 hx1
  have HS0 : Hid (Blk w1 r 113 (xN hB 0) ∧ Below w.heap.size w w1) := hid ⟨hx1, hb1⟩
  clear h hb1 hx1 hhB
  go_enter Tryd.func20, Tryd.ntmps20
  go_wp2_with fail
  rw [zero_x, hw1]
  clear hw1 hr
  go_loopw [8] (fun v wr => ∃ k : Nat, k ≤ 4 ∧ v = .int .i64 (k : Int) ∧ Hid (Blk wr r 113 (xN hB k) ∧ Below w.heap.size w wr)) (fun v _ => 4 - (intOf v).toNat)
  case atStart => exact ⟨0, by omega, rfl, HS0⟩
  case round =>
    clear HS0
    obtain ⟨k, hk, rfl, HS⟩ := hrel
    by_cases hlt : k < 4
    rotate_left
    · obtain rfl : k = 4 := by omega
      go_wp2
      go_ret
      refine ⟨rfl, ?_, HS.out.2⟩
      have h0 : ρ r = 0 := by
        cases hz : ρ r with
        | zero => rfl
        | succ k => have := HH.out.dom r (by omega); have := Hr.out; omega
      have hrw := Hr.out
      have hM := HH.out.below HS.out.2
      have hlt9 := HS.out.1.lt
      refine ⟨hM.keepR (Nat.le_refl _) (fun g hg hx => ⟨rfl, fup_ne _ _ (fun e => by rw [e, h0] at hx; omega)⟩) (fun g hg => ?_), ?_, fup_self _ _ _, fun m hm => ⟨World.ownsRow_nil _ _ _ _, fun g hg => (by cases hg)⟩⟩
      · by_cases e : g = r
        · omega
        · rw [fup_ne _ _ e] at hg
          exact hM.dom g hg
      · have := HS.out.1
        rw [xN_four, ← HhB.out] at this
        exact this
    · have dk : decide ((k : Int) < 4) = true := decide_eq_true (by omega)
      have i4 : (k : Int) < 4 := by omega
      obtain ⟨iv, hiv⟩ := xN_cell hB k hlt
      have c0 : wr.cell? ⟨r, 1 + k * 3, none⟩ = some (.int .i64 iv) := by rw [HS.out.1.cell]; exact hiv
      have f0 := HS.out.1.frozen (1 + k * 3)
      have HS2 : Hid (Blk (wr.setCell ⟨r, 1 + k * 3, none⟩ (.int .i64 (k : Int))) r 113 (xN hB (k + 1)) ∧ Below w.heap.size w (wr.setCell ⟨r, 1 + k * 3, none⟩ (.int .i64 (k : Int)))) := hid (by
        have hu : Upd r wr (wr.setCell ⟨r, 1 + k * 3, none⟩ (.int .i64 (k : Int))) := (Upd.refl r wr).setCell (p := ⟨r, 1 + k * 3, none⟩) rfl _
        refine ⟨by have := HS.out.1.set (1 + k * 3) (.int .i64 (k : Int)); rw [xN_set hB hlt] at this; exact this, HS.out.2.trans (hu.below (by rw [Hr.out]; omega) HS.out.2.size)⟩)
      clear HS hk hiv
      go_wp2
      exact ⟨⟨k + 1, by omega, by go_num, HS2⟩, by simp [intOf]; omega⟩
/-- The world while its maps are made. -/
def wN (hB xB : Nat) (lm : Nat → Nat) (j : Nat) : List Value := [.pointer (some ⟨hB, 0, none⟩), .pointer (some ⟨xB, 0, none⟩), .map (if 0 < j then some (lm 0) else none), .map (if 1 < j then some (lm 1) else none), .map (if 2 < j then some (lm 2) else none), .map (if 3 < j then some (lm 3) else none), .slice none 0 0]
structure NwS (w : World) (L : HL) (T : XL) (wB : Nat) (j : Nat) (wr : World) : Prop where
  ex : ∃ ρ lm, MM wr ρ L T H0 X0 ∧ Blk wr wB 46 (wN L.hB T.xB lm j) ∧ ρ wB = 6 ∧ (∀ i, i < j → PN wr (lm i) [] ∧ ρ (lm i) = 40 + i) ∧ (∀ g, g < w.heap.size → ρ g = 0)
  be : Below w.heap.size w wr
  wl : w.heap.size ≤ wB
theorem wN_set (hB xB : Nat) (lm : Nat → Nat) {j : Nat} (hj : j < 4) (g : Nat) : (wN hB xB lm j).set (2 + j) (.map (some g)) = wN hB xB (fup lm j g) (j + 1) := by
  rcases (by omega : j = 0 ∨ j = 1 ∨ j = 2 ∨ j = 3) with rfl | rfl | rfl | rfl <;> rfl
theorem wN_get (hB xB : Nat) (lm : Nat → Nat) {j : Nat} (hj : j < 4) : (wN hB xB lm j)[2 + j]? = some (.map none) := by
  rcases (by omega : j = 0 ∨ j = 1 ∨ j = 2 ∨ j = 3) with rfl | rfl | rfl | rfl <;> rfl
theorem NwS.cell {wB j : Nat} {wr : World} (h : NwS w L T wB j wr) (hj : j < 4) : wr.cell? ⟨wB, 2 + j, none⟩ = some (.map none) ∧ wr.frozen? ⟨wB, 2 + j, none⟩ = false := by
  obtain ⟨ρ, lm, h1, h2, _⟩ := h.ex
  exact ⟨by rw [h2.cell]; exact wN_get _ _ _ hj, h2.frozen _⟩
theorem NwS.step {wB j : Nat} {wr : World} (h : NwS w L T wB j wr) (hj : j < 4) : NwS w L T wB (j + 1) ((wr.alloc (.map #[] 0)).setCell ⟨wB, 2 + j, none⟩ (.map (some wr.heap.size))) := by
  obtain ⟨⟨ρ, lm, h1, h2, h3, h4, h5⟩, h6, h7⟩ := h
  have hb := nbel wr (.map #[] 0)
  have hu : Upd wB (wr.alloc (.map #[] 0)) ((wr.alloc (.map #[] 0)).setCell ⟨wB, 2 + j, none⟩ (.map (some wr.heap.size))) := (Upd.refl wB _).setCell (p := ⟨wB, 2 + j, none⟩) rfl _
  have hs1 : (wr.alloc (.map #[] 0)).heap.size = wr.heap.size + 1 := by simp
  have hsz : ((wr.alloc (.map #[] 0)).setCell ⟨wB, 2 + j, none⟩ (.map (some wr.heap.size))).heap.size = wr.heap.size + 1 := by rw [← hs1]; simp
  have hbl := (h2.below hb).set (2 + j) (.map (some wr.heap.size))
  rw [wN_set _ _ _ hj] at hbl
  have hwl := h2.lt
  have eb : ∀ g, g < wr.heap.size → ρ g ≠ 6 → ((wr.alloc (.map #[] 0)).setCell ⟨wB, 2 + j, none⟩ (.map (some wr.heap.size))).heap[g]? = wr.heap[g]? := fun g hg hne => (hu.block g (by omega) (fun e => hne (by rw [e]; exact h3))).trans (hb.block g hg)
  refine ⟨⟨fup ρ wr.heap.size (40 + j), fup lm j wr.heap.size, h1.keepR (by omega) (fun g hg hx => ⟨eb g hg (by omega), fup_ne _ _ (by omega)⟩) (fun g hg => ?_), hbl, by rw [fup_ne _ _ (by omega)]; exact h3, fun i hi => ?_, fun g hg => by rw [fup_ne _ _ (by have := h6.size; omega)]; exact h5 g hg⟩, ?_, h7⟩
  · rw [hsz]
    by_cases e : g = wr.heap.size
    · omega
    · rw [fup_ne _ _ e] at hg
      have := h1.hm.dom g hg
      omega
  · by_cases e : i = j
    · subst e
      rw [fup_self]
      exact ⟨(PN.new wr rfl).of (hu.block _ (by omega) (by omega)), fup_self _ _ _⟩
    · rw [fup_ne _ _ e]
      obtain ⟨k1, k2⟩ := h4 i (by omega)
      have := k1.lt
      exact ⟨k1.of (eb _ k1.lt (by rw [k2]; omega)), by rw [fup_ne _ _ (by omega)]; exact k2⟩
  · exact (h6.trans (hb.mono h6.size)).trans (hu.below h7 (by have := h6.size; omega))
theorem NwS.done {wB : Nat} {wr : World} (h : NwS w L T wB 4 wr) : ∃ ρ V, WM wr ρ L T V H0 X0 [] ∧ V.wB = wB ∧ (∀ g, g < w.heap.size → ρ g = 0) ∧ Below w.heap.size w wr := by
  obtain ⟨⟨ρ, lm, h1, h2, h3, h4, h5⟩, h6, h7⟩ := h
  exact ⟨ρ, ⟨wB, lm, .slice none 0 0⟩, ⟨h1, h2, h3, fun m hm => ⟨[], (h4 m hm).1, fun e he => (by cases he), rfl⟩, fun m hm => (h4 m hm).2, RowK.nil _ _ _ _ _⟩, rfl, h5, h6⟩
set_option maxRecDepth 100000 in
set_option maxHeartbeats 1000000 in
theorem newWorld_walk (w : World) : Calls Tryd.prog 6 #[] w fun e w' => ∃ ρ L T V, e = .returned (.pointer (some ⟨V.wB, 0, none⟩)) ∧ WM w' ρ L T V H0 X0 [] ∧ (∀ g, g < w.heap.size → ρ g = 0) ∧ Below w.heap.size w w' := by
  go_enter Tryd.func6, Tryd.ntmps6
  go_wp2_with fail
  refine (hnew_walk _).mono ?_
  rintro e w1 ⟨r, rfl, hM1, hb1, h01⟩
  have HM1 := hid hM1
  have HB1 := hid hb1
  have HZ1 := hid h01
  clear hM1 hb1 h01
  go_wp2_with fail
  obtain ⟨x, hx⟩ : ∃ x, w1.heap.size = x := ⟨_, rfl⟩
  have HC := hid (xnew_walk HM1.out hx)
  refine HC.out.mono ?_
  rintro e w2 ⟨rfl, hM2, hb2⟩
  have HM2 := hid hM2
  have HB2 := hid hb2
  clear hM2 hb2 HC
  obtain ⟨y, hy⟩ : ∃ y, w2.heap.size = y := ⟨_, rfl⟩
  obtain ⟨w3, hw3⟩ : ∃ w3, w2.alloc (.cells (wN (r + 3) x (fun _ => 0) 0).toArray 46) = w3 := ⟨_, rfl⟩
  have HS0 : Hid (NwS w (L0 r) ⟨x, fun _ => .slice none 0 0⟩ y 0 w3) := hid (by
    have hb3 : Below w2.heap.size w2 w3 := by rw [← hw3]; exact nbel _ _
    have hs3 : w3.heap.size = y + 1 := by rw [← hw3, ← hy]; simp
    have h0 : fup (ρ0 r) x 5 y = 0 := by
      cases hz : fup (ρ0 r) x 5 y with
      | zero => rfl
      | succ k => have := HM2.out.hm.dom y (by omega); omega
    have hM3 := HM2.out.below hb3
    have hw1s := HB1.out.size
    have hw2s := HB2.out.size
    refine ⟨⟨fup (fup (ρ0 r) x 5) y 6, fun _ => 0, hM3.keepR (Nat.le_refl _) (fun g hg hx => ⟨rfl, fup_ne _ _ (fun e => by rw [e, h0] at hx; omega)⟩) (fun g hg => ?_), ?_, fup_self _ _ _, fun i hi => absurd hi (Nat.not_lt_zero _), fun g hg => ?_⟩, ?_, by omega⟩
    · by_cases e : g = y
      · omega
      · rw [fup_ne _ _ e] at hg
        exact hM3.hm.dom g hg
    · rw [← hw3, ← hy]
      exact Blk.new w2 _ _
    · rw [fup_ne _ _ (by omega), fup_ne _ _ (by omega)]
      exact HZ1.out g hg
    · exact (HB1.out.trans (HB2.out.mono hw1s)).trans (hb3.mono (by omega)))
  have hw3' : w2.alloc (.cells #[.pointer (some ⟨r + 3, 0, none⟩), .pointer (some ⟨x, 0, none⟩), .map none, .map none, .map none, .map none, .slice none 0 0] 46) = w3 := hw3
  have hmk := @run_makeMap Tryd.prog
  clear hw3 HM1 HM2 HB1 HB2 HZ1 hx
  go_wp2_with fail
  clear hw3' hy
  go_loopw [10] (fun v wr => ∃ k : Nat, k ≤ 4 ∧ v = .int .i64 (k : Int) ∧ Hid (NwS w (L0 r) ⟨x, fun _ => .slice none 0 0⟩ y k wr)) (fun v _ => 4 - (intOf v).toNat)
  case atStart => exact ⟨0, by omega, rfl, HS0⟩
  case round =>
    clear HS0
    obtain ⟨k, hk, rfl, HS⟩ := hrel
    by_cases hlt : k < 4
    rotate_left
    · obtain rfl : k = 4 := by omega
      go_wp2
      go_ret
      obtain ⟨ρ, V, h1, h2, h3, h4⟩ := HS.out.done
      exact ⟨ρ, L0 r, _, V, by rw [h2]; rfl, h1, h3, h4⟩
    · have dk : decide ((k : Int) < 4) = true := decide_eq_true (by omega)
      have i4 : (k : Int) < 4 := by omega
      have hst := HS.out.step hlt
      obtain ⟨c0, f0⟩ := HS.out.cell hlt
      have hwl : y < wr.heap.size := by obtain ⟨_, _, _, h2, _⟩ := HS.out.ex; exact h2.lt
      rw [World.setCell_alloc_past _ _ _ _ hwl] at hst
      have HS2 := hid hst
      have c1 : (wr.alloc (.map #[] 0)).cell? ⟨y, 2 + k, none⟩ = some (.map none) := by rw [(nbel wr _).cell hwl]; exact c0
      have f1 : (wr.alloc (.map #[] 0)).frozen? ⟨y, 2 + k, none⟩ = false := by rw [World.frozen?_of_block (w := wr) ((nbel wr _).block _ hwl)]; exact f0
      clear HS hk c0 f0 hst
      go_wp2
      exact ⟨⟨k + 1, by omega, by go_num, HS2⟩, by simp [intOf]; omega⟩
set_option maxRecDepth 100000 in
theorem small_walk (a : Option Addr) (n c : Nat) (w : World) : Calls Tryd.prog 5 #[.slice a n c] w fun e w' => e = .returned (.bool (decide (n ≤ 65536))) ∧ w' = w := by
  by_cases h : n ≤ 65536
  · have d : decide ((n : Int) > 65536) = false := decide_eq_false (by omega)
    have d2 : decide ((65536 : Int) < (n : Int)) = false := decide_eq_false (by omega)
    rw [decide_eq_true h]
    clear h
    go_enter Tryd.func5, Tryd.ntmps5
    go_wp2
    go_ret
    exact ⟨rfl, rfl⟩
  · have d : decide ((n : Int) > 65536) = true := decide_eq_true (by omega)
    have d2 : decide ((65536 : Int) < (n : Int)) = true := decide_eq_true (by omega)
    rw [decide_eq_false h]
    clear h
    go_enter Tryd.func5, Tryd.ntmps5
    go_wp2
    go_ret
    exact ⟨rfl, rfl⟩
end
end Go.Proofs.Qxb6500889aDoor
