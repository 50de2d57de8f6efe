/- The abstract model in memory: entry, push, fieldOf, refuse, value. -/
import Derived.Test.Qxb6500888aBaQ5
import Derived.Test.Qxb6500888aBaL4
namespace Go.Proofs.Qxb6500888a
open Go.RowKit
set_option linter.unusedSimpArgs false
set_option linter.unusedVariables false
attribute [local irreducible] wdC

/-- The model's plain state, beside its ground. -/
structure MS where
  roots : Nat → List Nat
  last : List Nat
  atp : Nat → Nat
  wr : Nat → Bool
  fr : Nat → Bool
  st : Bool
  tr : Bool
/-- Where it lies. -/
structure ML where
  mB : Nat
  aB : Nat
  mW : Nat
  mF : Nat
  rv : Nat → Value
  lv : Value
def mdF (L : GL) (Y : ML) (M : MS) (i : Nat) : Value :=
  if i = 0 then .pointer (some ⟨L.hB, 0, none⟩) else if i = 1 then .pointer (some ⟨L.sB, 0, none⟩) else if i = 2 then .pointer (some ⟨L.cB, 0, none⟩) else if i < 7 then Y.rv (i - 3) else if i = 7 then Y.lv
  else if i = 8 then .slice (some ⟨Y.aB, 0, none⟩) 32768 32768 else if i = 9 then .map (some Y.mW) else if i = 10 then .map (some Y.mF) else if i = 11 then .bool M.st else .bool M.tr
/-- The model's roles: its ground's 1 .. 11, its block 12, the last roots 13, the copy 14, what was written 15, what is new 20, the roots 16 .. 19. -/
structure MdM (w : World) (ρ : Rl) (L : GL) (Y : ML) (G : GS) (M : MS) : Prop where
  gm : GM w ρ L G
  mb : Blk w Y.mB 47 (fnC 13 (mdF L Y M))
  rm : ρ Y.mB = 12
  rt : ∀ m, m < 4 → RowX rtA w ρ (16 + m) (Y.rv m) (M.roots m)
  lr : RowX rtA w ρ 13 Y.lv M.last
  ab : Blk w Y.aB 48 (wdC M.atp)
  ra : ρ Y.aB = 14
  wm : BF w Y.mW M.wr
  rw_ : ρ Y.mW = 15
  fm : BF w Y.mF M.fr
  rf : ρ Y.mF = 20
  rl : ∀ m, (M.roots m).length ≤ 64
section
variable {X : Nat → Bool} {w w' : World} {ρ ρ' : Rl} {L L' : GL} {Y Y' : ML} {G G' : GS} {M M' : MS}
theorem mdF_same (h : L.Same L') : mdF L' Y M = mdF L Y M := by
  funext i
  unfold mdF
  rw [h.hB, h.sB, h.cB]
theorem MdM.ground (h : MdM w ρ L Y G M) (hg : GM w' ρ' L' G') (hL : L.Same L') (hf : Fr gX ρ w ρ' w') : MdM w' ρ' L' Y G' M := by
  refine ⟨hg, by rw [mdF_same hL]; exact hf.keep h.mb h.rm rfl, by rw [hf.old _ h.mb.lt]; exact h.rm, fun m hm => (h.rt m hm).fr hf ?_, h.lr.fr hf rfl, hf.keep h.ab h.ra rfl, by rw [hf.old _ h.ab.lt]; exact h.ra, MF.of h.wm (hf.blk _ (MF.lt h.wm) (by rw [h.rw_]; rfl)), by rw [hf.old _ (MF.lt h.wm)]; exact h.rw_, MF.of h.fm (hf.blk _ (MF.lt h.fm) (by rw [h.rf]; rfl)), by rw [hf.old _ (MF.lt h.fm)]; exact h.rf, h.rl⟩
  rcases (by omega : m = 0 ∨ m = 1 ∨ m = 2 ∨ m = 3) with rfl | rfl | rfl | rfl <;> rfl
theorem MdM.gp (h : MdM w ρ L Y G M) (hg : GP w ρ L G' w') : ∃ L' ρ', MdM w' ρ' L' Y G' M ∧ L.Same L' ∧ Fr gX ρ w ρ' w' := by
  obtain ⟨L', ρ', h1, h2, h3⟩ := hg
  exact ⟨L', ρ', h.ground h1 h2 h3, h2, h3⟩
theorem MdM.keep (h : MdM w ρ L Y G M) (hf : Fr X ρ w ρ' w') (hx : ∀ c, bX c = true → X c = false) : MdM w' ρ' L Y G M := by
  have hg : GM w' ρ' L G := (GMh.but h.gm hf).full (fun c hc => hx c (bX_g hc))
  refine ⟨hg, hf.keep h.mb h.rm (hx _ rfl), by rw [hf.old _ h.mb.lt]; exact h.rm, fun m hm => (h.rt m hm).fr hf (hx _ ?_), h.lr.fr hf (hx _ rfl), hf.keep h.ab h.ra (hx _ rfl), by rw [hf.old _ h.ab.lt]; exact h.ra, MF.of h.wm (hf.blk _ (MF.lt h.wm) (by rw [h.rw_]; exact hx _ rfl)), by rw [hf.old _ (MF.lt h.wm)]; exact h.rw_, MF.of h.fm (hf.blk _ (MF.lt h.fm) (by rw [h.rf]; exact hx _ rfl)), by rw [hf.old _ (MF.lt h.fm)]; exact h.rf, h.rl⟩
  rcases (by omega : m = 0 ∨ m = 1 ∨ m = 2 ∨ m = 3) with rfl | rfl | rfl | rfl <;> rfl
theorem MdM.below (h : MdM w ρ L Y G M) (hb : Below w.heap.size w w') : MdM w' ρ L Y G M := h.keep (X := fun _ => false) (Fr.below hb) (fun _ _ => rfl)
theorem MdM.cell (h : MdM w ρ L Y G M) {i : Nat} (hi : i < 13) : w.cell? ⟨Y.mB, i, none⟩ = some (mdF L Y M i) := by rw [h.mb.cell, fnC_get _ hi]
theorem MdM.rcell (h : MdM w ρ L Y G M) {m : Nat} (hm : m < 4) : w.cell? ⟨Y.mB, 3 + m, none⟩ = some (Y.rv m) := by
  rw [h.cell (by omega)]
  unfold mdF
  rw [if_neg (by omega), if_neg (by omega), if_neg (by omega), if_pos (by omega), show 3 + m - 3 = m by omega]
theorem MdM.cells (h : MdM w ρ L Y G M) : w.cell? ⟨Y.mB, 0, none⟩ = some (.pointer (some ⟨L.hB, 0, none⟩)) ∧ w.cell? ⟨Y.mB, 1, none⟩ = some (.pointer (some ⟨L.sB, 0, none⟩)) ∧ w.cell? ⟨Y.mB, 2, none⟩ = some (.pointer (some ⟨L.cB, 0, none⟩)) ∧ w.cell? ⟨Y.mB, 7, none⟩ = some Y.lv ∧ w.cell? ⟨Y.mB, 8, none⟩ = some (.slice (some ⟨Y.aB, 0, none⟩) 32768 32768) ∧ w.cell? ⟨Y.mB, 9, none⟩ = some (.map (some Y.mW)) ∧ w.cell? ⟨Y.mB, 10, none⟩ = some (.map (some Y.mF)) ∧ w.cell? ⟨Y.mB, 11, none⟩ = some (.bool M.st) ∧ w.cell? ⟨Y.mB, 12, none⟩ = some (.bool M.tr) := ⟨h.cell (by decide), h.cell (by decide), h.cell (by decide), h.cell (by decide), h.cell (by decide), h.cell (by decide), h.cell (by decide), h.cell (by decide), h.cell (by decide)⟩
/-- The roots of one mutator are another row. -/
theorem MdM.setR (h : MdM w ρ L Y G M) {m : Nat} (hm : m < 4) {v : Value} {xs : List Nat} (hl : xs.length ≤ 64) (hf : Fr (fun r => r == 16 + m) ρ w ρ' w') (hr : RowX rtA w' ρ' (16 + m) v xs) : MdM (w'.setCell ⟨Y.mB, 3 + m, none⟩ v) ρ' L { Y with rv := fup Y.rv m v } G { M with roots := fup M.roots m xs } ∧ Fr bX ρ w ρ' (w'.setCell ⟨Y.mB, 3 + m, none⟩ v) := by
  have rm : ρ' Y.mB = 12 := by rw [hf.old _ h.mb.lt]; exact h.rm
  have hf2 : Fr (fun r => r == 12) ρ' w' ρ' (w'.setCell ⟨Y.mB, 3 + m, none⟩ v) := Fr.set _ (by show (ρ' Y.mB == 12) = true; rw [rm]; rfl)
  have hf3 : Fr (fun r => r == 16 + m || r == 12) ρ w ρ' (w'.setCell ⟨Y.mB, 3 + m, none⟩ v) := (hf.mono fun c hc => by simp at hc ⊢; exact .inl hc).trans (hf2.mono fun c hc => by simp at hc ⊢; exact .inr hc)
  have hx : ∀ c, c ≠ 16 + m → c ≠ 12 → (c == 16 + m || c == 12) = false := fun c h1 h2 => by simp [h1, h2]
  refine ⟨⟨(GMh.but h.gm hf3).full (fun c hc => ?_), ?_, rm, fun k hk => ?_, h.lr.fr hf3 (hx _ (by omega) (by omega)), hf3.keep h.ab h.ra (hx _ (by omega) (by omega)), by rw [hf3.old _ h.ab.lt]; exact h.ra, MF.of h.wm (hf3.blk _ (MF.lt h.wm) (by rw [h.rw_]; exact hx _ (by omega) (by omega))), by rw [hf3.old _ (MF.lt h.wm)]; exact h.rw_, MF.of h.fm (hf3.blk _ (MF.lt h.fm) (by rw [h.rf]; exact hx _ (by omega) (by omega))), by rw [hf3.old _ (MF.lt h.fm)]; exact h.rf, fun k => ?_⟩, hf3.mono (fun c hc => ?_)⟩
  · have := of_decide_eq_true hc
    exact hx c (by omega) (by omega)
  · have h1 := (hf.keep h.mb h.rm (by show (12 == 16 + m) = false; simp; omega)).set (3 + m) v
    rw [fnC_set _ (by omega)] at h1
    have e : fnC 13 (fup (mdF L Y M) (3 + m) v) = fnC 13 (mdF L { Y with rv := fup Y.rv m v } { M with roots := fup M.roots m xs }) := by
      apply fnC_congr
      intro i hi
      by_cases e1 : i = 3 + m
      · subst e1
        rw [fup_self]
        unfold mdF
        rw [if_neg (by omega), if_neg (by omega), if_neg (by omega), if_pos (by omega), show 3 + m - 3 = m by omega]
        exact (fup_self _ _ _).symm
      · rw [fup_ne _ _ e1]
        unfold mdF
        by_cases e2 : 3 ≤ i ∧ i < 7
        · rw [if_neg (by omega), if_neg (by omega), if_neg (by omega), if_pos (by omega), if_neg (by omega), if_neg (by omega), if_neg (by omega), if_pos (by omega)]
          exact (fup_ne _ _ (by omega)).symm
        · by_cases e3 : i < 3
          · rcases (by omega : i = 0 ∨ i = 1 ∨ i = 2) with rfl | rfl | rfl <;> rfl
          · rcases (by omega : i = 7 ∨ i = 8 ∨ i = 9 ∨ i = 10 ∨ i = 11 ∨ i = 12) with rfl | rfl | rfl | rfl | rfl | rfl <;> rfl
    rw [e] at h1
    exact h1
  · by_cases e : k = m
    · subst e
      show RowX rtA _ _ _ (fup Y.rv k v k) (fup M.roots k xs k)
      rw [fup_self, fup_self]
      exact hr.fr hf2 (by show (16 + k == 12) = false; simp; omega)
    · show RowX rtA _ _ _ (fup Y.rv m v k) (fup M.roots m xs k)
      rw [fup_ne _ _ e, fup_ne _ _ e]
      exact (h.rt k hk).fr hf3 (hx _ (by omega) (by omega))
  · by_cases e : k = m
    · subst e
      show (fup M.roots k xs k).length ≤ 64
      rw [fup_self]; exact hl
    · show (fup M.roots m xs k).length ≤ 64
      rw [fup_ne _ _ e]; exact h.rl k
  · simp at hc
    exact decide_eq_true (by omega)
set_option maxRecDepth 1000000 in
set_option maxHeartbeats 2000000 in
theorem entry_walk (h : MdM w ρ L Y G M) {m : Nat} (hm : m < 4) (k : Nat) (hk : k < 18446744073709551616) :
    Calls Try.prog 61 #[.pointer (some ⟨Y.mB, 0, none⟩), .int .i64 (m : Int), .int .u64 (k : Int)] w fun e w' => e = .returned (if k < (M.roots m).length then .tuple #[.int .u64 (((M.roots m).getD ((M.roots m).length - 1 - k) 0 : Nat) : Int), .bool true] else .tuple #[.int .u64 0, .bool false]) ∧ w' = w := by
  have c1 := h.rcell hm
  obtain ⟨a, q, hv, rd, _, _⟩ := (h.rt m hm).rdA
  have hl := h.rl m
  obtain ⟨n, hn⟩ : ∃ n, (M.roots m).length = n := ⟨_, rfl⟩
  rw [hn] at hv hl rd
  rw [hv] at c1
  rw [hn]
  have im : (m : Int) < 4 := by omega
  have il : (n : Int) ≤ 64 := by omega
  have ik : (k : Int) < 18446744073709551616 := by omega
  have Hn := hid hn
  have Hrd := hid rd
  clear h hn hv hm hl rd
  by_cases hkn : k < n
  · rw [if_pos hkn]
    have d1 : decide ((k : Int) ≥ (n : Int)) = false := decide_eq_false (by omega)
    have d2 : decide ((n : Int) ≤ (k : Int)) = false := decide_eq_false (by omega)
    have d3 : (k : Int) < (n : Int) := by omega
    obtain ⟨j, hj⟩ : ∃ j, n - 1 - k = j := ⟨_, rfl⟩
    obtain ⟨p, hp⟩ : ∃ p, n - 1 = p := ⟨_, rfl⟩
    have hp1 : (n : Int) - 1 = (p : Int) := by omega
    have hj1 : (p : Int) - (k : Int) = (j : Int) := by omega
    have hj2 : (j : Int) < (n : Int) := by omega
    have hp2 : (p : Int) < 64 := by omega
    have hj4 : (j : Int) < 64 := by omega
    have hk4 : (k : Int) < 64 := by omega
    rw [hj]
    obtain ⟨x, hx⟩ : ∃ x, (M.roots m)[j]? = some x := ⟨(M.roots m)[j]'(by rw [Hn.out]; omega), List.getElem?_eq_getElem _⟩
    have hgd : (M.roots m).getD j 0 = x := by rw [List.getD_eq_getElem?_getD, hx]; rfl
    rw [hgd]
    obtain ⟨g, off, rfl, _, cx⟩ := Hrd.out.at_ j x hx
    clear hj hx hgd hk hp ik
    go_enter Try.func61, Try.ntmps61
    go_wp2
    exact bodyPost_ret (v := .tuple #[.int .u64 (x : Int), .bool true]) (by simp [results, Try.results61, go_sem]) rfl ⟨rfl, rfl⟩
  · rw [if_neg hkn]
    have d1 : decide ((k : Int) ≥ (n : Int)) = true := decide_eq_true (by omega)
    have d2 : decide ((n : Int) ≤ (k : Int)) = true := decide_eq_true (by omega)
    have d3 : (n : Int) ≤ (k : Int) := by omega
    clear hk ik
    go_enter Try.func61, Try.ntmps61
    go_wp2
    exact bodyPost_ret (v := .tuple #[.int .u64 0, .bool false]) (by simp [results, Try.results61, go_sem]) rfl ⟨rfl, rfl⟩
end
end Go.Proofs.Qxb6500888a
