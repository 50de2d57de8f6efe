/- The graph of the declarations in memory; buildGraph. -/
import Derived.Test.Qxb6500883aGreatDoorScCgb
import Derived.Test.Qxb6500883aGreatDoorScBd
import Derived.Test.Qxb6500883aGreatDoorScDa
import Derived.Test.Qxb6500883aGreatDoorRowS
namespace Go.Proofs.Qxb6500883aGreatDoor
open Go.RowKit
set_option linter.unusedSimpArgs false
set_option linter.unusedVariables false
/-- Rows of declarations' numbers. -/
def rtJ : RK Nat := ⟨21, 91, 1, 4, fun x => [.int .i32 (x : Int)]⟩
theorem okJ : RKok Tryz.prog rtJ := ⟨Tryz.underlying91, info_of' (z := .int .i32 0) (by kernel_rfl) rfl, by decide, by decide, fun _ => rfl, fun x u hu => by
  simp only [rtJ, List.mem_cons, List.not_mem_nil, or_false] at hu
  subst hu; rfl⟩
abbrev RwN (g n : Nat) (f : Nat → Nat) (r : Nat) (ρ : Rl) (w : World) : Prop := RwK 21 (fun x : Nat => Value.int .i32 (x : Int)) g n f r ρ w
/-- What k names from lo on stand for. -/
def ptT (f : Nat → Int) (lo : Nat) : Nat → List Nat
  | 0 => []
  | k + 1 => ptT f lo k ++ (if 0 ≤ f (lo + k) then [(f (lo + k)).toNat] else [])
theorem ptT_len (f : Nat → Int) (lo : Nat) : ∀ k, (ptT f lo k).length ≤ k
  | 0 => Nat.le_refl _
  | k + 1 => by
    have := ptT_len f lo k
    unfold ptT
    rw [List.length_append]
    split <;> simp <;> omega
theorem ptT_mem {f : Nat → Int} {lo d : Nat} : ∀ {k : Nat}, d ∈ ptT f lo k ↔ ∃ j, j < k ∧ f (lo + j) = (d : Int)
  | 0 => ⟨fun h => (by cases h), fun ⟨j, hj, _⟩ => absurd hj (Nat.not_lt_zero _)⟩
  | k + 1 => by
    unfold ptT
    rw [List.mem_append, ptT_mem]
    constructor
    · rintro (⟨j, h1, h2⟩ | h)
      · exact ⟨j, by omega, h2⟩
      · split at h
        · simp at h; exact ⟨k, by omega, by omega⟩
        · cases h
    · rintro ⟨j, h1, h2⟩
      by_cases e : j = k
      · subst e
        refine .inr ?_
        rw [if_pos (by omega)]
        simp
        omega
      · exact .inl ⟨j, by omega, h2⟩
/-- What a declaration mentions. -/
def adjF (F : FS) (x : DN) : List Nat := ptT (tDA F) x.tLo (x.tHi - x.tLo) ++ ptT (eDA F) x.eLo (x.eHi - x.eLo)
/-- The graph of a file. -/
def grF (F : FS) : Gr := F.decls.map (adjF F)
/-- Where a node's edges begin. -/
def stA (A : Gr) (i : Nat) : Nat := (A.take i).flatten.length
theorem stA_succ {A : Gr} {i : Nat} {x : List Nat} (h : A[i]? = some x) : stA A (i + 1) = stA A i + x.length := by
  unfold stA
  rw [List.take_add_one, h]
  simp
theorem stA_all (A : Gr) : stA A A.length = A.flatten.length := by unfold stA; rw [List.take_length]
theorem stA_mono {A : Gr} {i j : Nat} (h : i ≤ j) : stA A i ≤ stA A j := by
  unfold stA
  have e : A.take i = (A.take j).take i := by rw [List.take_take, Nat.min_eq_left h]
  have : (A.take j).flatten = (A.take i).flatten ++ ((A.take j).drop i).flatten := by
    rw [e, ← List.flatten_append, List.take_append_drop]
  rw [this, List.length_append]
  omega
theorem suc_get {A : Gr} {i : Nat} {x : List Nat} (h : A[i]? = some x) : suc A i = x := by unfold suc; rw [List.getD_eq_getElem?_getD, h]; rfl
/-- An edge in the flat row. -/
theorem flat_get {A : Gr} {v k : Nat} (hv : v < A.length) (hk : k < (suc A v).length) : A.flatten[stA A v + k]? = (suc A v)[k]? := by
  obtain ⟨x, hx⟩ : ∃ x, A[v]? = some x := ⟨_, List.getElem?_eq_getElem hv⟩
  rw [suc_get hx] at hk ⊢
  have e : A = A.take v ++ x :: A.drop (v + 1) := by
    have h1 := List.take_append_drop v A
    rw [List.drop_eq_getElem_cons hv] at h1
    rw [List.getElem?_eq_getElem hv] at hx
    cases hx
    exact h1.symm
  have e2 : A.flatten = (A.take v).flatten ++ (x ++ (A.drop (v + 1)).flatten) := by
    conv => lhs; rw [e]
    rw [List.flatten_append, List.flatten_cons]
  rw [e2, List.getElem?_append_right (by unfold stA; omega)]
  unfold stA
  rw [Nat.add_sub_cancel_left, List.getElem?_append_left hk]
theorem grF_get {F : FS} {i : Nat} {x : DN} (h : F.decls[i]? = some x) : (grF F)[i]? = some (adjF F x) := by unfold grF; rw [List.getElem?_map, h]; rfl
theorem grF_take {F : FS} {i : Nat} {x : DN} (h : F.decls[i]? = some x) : ((grF F).take (i + 1)).flatten = ((grF F).take i).flatten ++ adjF F x := by
  rw [List.take_add_one, grF_get h]
  simp
theorem adjF_len (F : FS) (x : DN) : (adjF F x).length ≤ (x.tHi - x.tLo) + (x.eHi - x.eLo) := by
  unfold adjF
  rw [List.length_append]
  have := ptT_len (tDA F) x.tLo (x.tHi - x.tLo)
  have := ptT_len (eDA F) x.eLo (x.eHi - x.eLo)
  omega
theorem flat_le (F : FS) : ∀ (l : List DN), ((l.map (adjF F)).flatten).length ≤ (l.map (fun x => x.tHi - x.tLo)).sum + (l.map (fun x => x.eHi - x.eLo)).sum
  | [] => Nat.le_refl _
  | x :: l => by
    have h1 := flat_le F l
    have h2 := adjF_len F x
    simp only [List.map_cons, List.flatten_cons, List.length_append, List.sum_cons]
    omega
/-- The edges so far, and those of the declaration at hand, are not many. -/
theorem RgF.adj {F : FS} (h : RgF F) (i : Nat) : ((grF F).take i).flatten.length ≤ F.types.length + F.exprs.length := by
  unfold grF
  rw [← List.map_take]
  have h1 := flat_le F (F.decls.take i)
  have h2 := sum_take_le (F.decls.map (fun x => x.tHi - x.tLo)) i
  have h3 := sum_take_le (F.decls.map (fun x => x.eHi - x.eLo)) i
  rw [← List.map_take] at h2 h3
  rw [h.1] at h2
  rw [h.2] at h3
  omega
def XG (r : Nat) : Bool := decide (29 ≤ r)
/-- The graph's memory, made since w. -/
def GB (w : World) (gB gS m : Nat) (f : Nat → Nat) (xs : List Nat) (σ : Rl) (va : Value) (w' : World) : Prop :=
  Blk w' gB 210 [.slice (some ⟨gS, 0, none⟩) m m, va] ∧ σ gB = 29 ∧ RwN gS m f 31 σ w' ∧ RowX rtJ w' σ 32 va xs ∧ Fr XG (fun _ => 0) w σ w'
def upN (f : Nat → Nat) (k j : Nat) : Nat := if j < k then f j else 0
theorem upN_succ (f : Nat → Nat) (k : Nat) : fup (upN f k) k (f k) = upN f (k + 1) := by
  funext j
  unfold fup upN
  by_cases e : j = k
  · subst e
    rw [if_pos rfl, if_pos (by omega)]
  · rw [if_neg e]
    by_cases h : j < k
    · rw [if_pos h, if_pos (by omega)]
    · rw [if_neg h, if_neg (by omega)]
section
variable {N mg : Nat} {ρ ρ' σ : Rl} {w w' w1 w2 : World} {l : PL} {bs : List UInt8} {F : FS} {U : FV} {c n : Nat} {V : CV} {errs : List (Nat × Nat)} {gB gS m : Nat} {f : Nat → Nat} {xs : List Nat} {va : Value}
theorem GB.bel (h : GB w gB gS m f xs σ va w') : Below w.heap.size w w' := h.2.2.2.2.toBelow (Nat.le_refl _) (fun _ _ => rfl) rfl
theorem GB.below (h : GB w gB gS m f xs σ va w1) (hb : Below w1.heap.size w1 w2) : GB w gB gS m f xs σ va w2 := by
  obtain ⟨h1, h2, h3, h4, h5⟩ := h
  exact ⟨h1.below hb, h2, h3.below hb, h4.fr (X := fun _ => false) (Fr.below hb) rfl, h5.trans (Fr.below hb)⟩
theorem GB.setS (h : GB w gB gS m f xs σ va w1) {j : Nat} (hj : j < m) (x : Nat) : GB w gB gS m (fup f j x) xs σ va (w1.setCell ⟨gS, j, none⟩ (.int .i32 (x : Int))) := by
  obtain ⟨h1, h2, h3, h4, h5⟩ := h
  have hf : Fr (fun r => r == 31) σ w1 σ (w1.setCell ⟨gS, j, none⟩ (.int .i32 (x : Int))) := Fr.set _ (by show (σ gS == 31) = true; rw [h3.2]; rfl)
  exact ⟨hf.keep h1 h2 rfl, h2, h3.set hj x, h4.fr hf rfl, h5.trans (hf.mono (fun c hc => by simp at hc; subst hc; rfl))⟩
/-- A row has grown, and its slice is stored. -/
theorem GB.app {va' : Value} {σ' : Rl} {ys : List Nat} (h : GB w gB gS m f xs σ va w1) (hr : RowX rtJ w2 σ' 32 va' (xs ++ ys)) (hf : Fr (fun r => r == 32) σ w1 σ' w2) : GB w gB gS m f (xs ++ ys) σ' va' (w2.setCell ⟨gB, 1, none⟩ va') := by
  obtain ⟨h1, h2, h3, h4, h5⟩ := h
  have b1 := hf.keep h1 h2 rfl
  have r1 : σ' gB = 29 := by rw [hf.old _ h1.lt]; exact h2
  have hf2 : Fr (fun r => r == 29) σ' w2 σ' (w2.setCell ⟨gB, 1, none⟩ va') := Fr.set _ (by show (σ' gB == 29) = true; rw [r1]; rfl)
  exact ⟨b1.set 1 va', r1, (h3.fr hf rfl).fr hf2 rfl, hr.fr hf2 rfl, (h5.trans (hf.mono (fun c hc => by simp at hc; subst hc; rfl))).trans (hf2.mono (fun c hc => by simp at hc; subst hc; rfl))⟩

set_option maxRecDepth 100000 in
set_option maxHeartbeats 4000000 in
theorem buildGraphW {gT gE : Nat} (h : CM N mg ρ w l bs F U c V errs) (hW : FWf l.n F) (hz : FSz F) (hg : RgF F) (hvt : V.tD = .slice (some ⟨gT, 0, none⟩) F.types.length F.types.length) (hve : V.eD = .slice (some ⟨gE, 0, none⟩) F.exprs.length F.exprs.length) (hT : RwJ gT F.types.length (tDA F) 12 ρ w) (hE : RwJ gE F.exprs.length (eDA F) 13 ρ w) :
    Calls Tryz.prog 88 #[.pointer (some ⟨c, 0, none⟩)] w fun e w' => ∃ gB, e = .returned (.pointer (some ⟨gB, 0, none⟩)) ∧ Hid (∃ gS σ va, GB w gB gS (F.decls.length + 1) (stA (grF F)) (grF F).flatten σ va w') := by
  have HW := hid hW
  have Hg := hid hg
  have hnd := hz.d
  have hnt := hz.t
  have hne := hz.e
  obtain ⟨ad, qd, hud⟩ := h.fr.d.shape
  obtain ⟨nd, hnd'⟩ : ∃ k, F.decls.length = k := ⟨_, rfl⟩
  obtain ⟨nT, hnT'⟩ : ∃ k, F.types.length = k := ⟨_, rfl⟩
  obtain ⟨nE, hnE'⟩ : ∃ k, F.exprs.length = k := ⟨_, rfl⟩
  rw [hnd'] at hud hnd ⊢
  rw [hnT'] at hnt hvt hT
  rw [hnE'] at hne hve hE
  have Hnd := hid hnd'
  have HnT := hid hnT'
  have HnE := hid hnE'
  have Hud := hid hud
  have HM := hid h
  have HT := hid hT
  have HE := hid hE
  have Hvt := hid hvt
  have Hve := hid hve
  have c0 := h.cells.1
  have kf1 : w.cell? ⟨l.f, 1, none⟩ = some (.slice ad nd qd) := by rw [← hud]; exact h.fb.cell 1
  obtain ⟨gS, hgS⟩ : ∃ g, w.heap.size = g := ⟨_, rfl⟩
  obtain ⟨m1, hm1⟩ : ∃ m, nd + 1 = m := ⟨_, rfl⟩
  have hmk : (Instr.makeSlice 91 (.int .i64 ((nd : Int) + 1)) (.int .i64 ((nd : Int) + 1))).run Tryz.prog w = .ok (.slice (some ⟨w.heap.size, 0, none⟩) m1 m1) (w.alloc (.cells (madeCells #[.int .i32 0] m1) 21)) := by
    have := make_i32 m1 (by omega) w
    rw [← hm1] at this ⊢
    exact this
  rw [hgS] at hmk
  obtain ⟨wa, hwa⟩ : ∃ x, w.alloc (.cells (madeCells #[.int .i32 0] m1) 21) = x := ⟨_, rfl⟩
  rw [hwa] at hmk
  have hsa : wa.heap.size = gS + 1 := by rw [← hwa, ← hgS]; simp
  obtain ⟨gB, hgB⟩ : ∃ g, gS + 1 = g := ⟨_, rfl⟩
  rw [hgB] at hsa
  obtain ⟨wb, hwb⟩ : ∃ x, wa.alloc (.cells #[.slice (some ⟨gS, 0, none⟩) m1 m1, .slice none 0 0] 210) = x := ⟨_, rfl⟩
  have HI0 : Hid (∃ σ va, GB w gB gS m1 (upN (stA (grF F)) 0) (((grF F).take 0).flatten) σ va wb) := hid (by
    have k1 : RwN gS m1 (fun _ => 0) 31 (fup (fun _ => 0) gS 31) wa := by
      rw [← hwa, ← hgS]
      exact RwK.new 21 (fun x : Nat => Value.int .i32 (x : Int)) (fun _ => 0) w m1 31 0
    have hfa : Fr XG (fun _ => 0) w (fup (fun _ => 0) gS 31) wa := by rw [← hwa, ← hgS]; exact Fr.alloc _ _ _ _ _
    have hfb : Fr (fun _ => false) (fup (fun _ => 0) gS 31) wa (fup (fup (fun _ => 0) gS 31) gB 29) wb := by rw [← hwb, ← hsa]; exact Fr.alloc _ _ _ _ _
    have kb : Blk wb gB 210 [.slice (some ⟨gS, 0, none⟩) m1 m1, .slice none 0 0] := by
      have := Blk.new wa [.slice (some ⟨gS, 0, none⟩) m1 m1, .slice none 0 0] 210
      rw [hsa] at this
      rw [← hwb]
      exact this
    exact ⟨_, _, kb, fup_self _ _ _, k1.fr hfb rfl, RowX.nil _ _ _ _, hfa.trans (hfb.mono (fun c hc => by cases hc))⟩)
  have kfb : wb.cell? ⟨l.f, 1, none⟩ = some (.slice ad nd qd) := by
    obtain ⟨σ, va, hG⟩ := HI0.out
    rw [keepCell 1 (hG.bel.block l.f h.fb.lt)]
    exact kf1
  clear h hW hz hg hud hnd' hnT' hnE' hT hE hvt hve hgS
  go_enter Tryz.func88, Tryz.ntmps88
  go_upto_region 3 with fail
  (try simp only [hsa, hwb])
  clear hmk hwa hwb hsa c0 kf1
  go_upto_region 4 with fail
  clear kfb
  go_loopw [29] (fun t wr => ∃ i : Nat, t = .int .i64 (i : Int) ∧ i ≤ nd ∧ Hid (∃ σ va, GB w gB gS m1 (upN (stA (grF F)) i) (((grF F).take i).flatten) σ va wr)) (fun t _ => nd - (intOf t).toNat)
  case atStart => exact ⟨0, rfl, Nat.zero_le _, HI0⟩
  case round =>
  clear HI0
  obtain ⟨i, rfl, hi, HI⟩ := hrel
  by_cases hin : i < nd
  rotate_left
  · have d1 : decide ((i : Int) < (nd : Int)) = false := decide_eq_false (by omega)
    have HI' : Hid (∃ σ va, GB w gB gS m1 (upN (stA (grF F)) nd) (((grF F).take nd).flatten) σ va wr) := hid (by
      have := HI.out
      rw [show i = nd by omega] at this
      exact this)
    clear HI
    obtain ⟨σ, va, hG⟩ := HI'.out
    have HG := hid hG
    obtain ⟨g1, g2, g3, g4, g5⟩ := hG
    obtain ⟨av, qv, hva⟩ := g4.shape
    subst hva
    obtain ⟨na, hna⟩ : ∃ k, ((grF F).take nd).flatten.length = k := ⟨_, rfl⟩
    rw [hna] at g1
    have hna2 : na ≤ 131072 := by
      have := Hg.out.adj nd
      rw [hna, HnT.out, HnE.out] at this
      omega
    have b0 := g1.cell 0
    have b1 := g1.cell 1
    have y0 : wr.cell? ⟨gB, 0, none⟩ = some (.slice (some ⟨gS, 0, none⟩) m1 m1) := b0
    have y1 : wr.cell? ⟨gB, 1, none⟩ = some (.slice av na qv) := b1
    have y2 : wr.cell? ⟨l.f, 1, none⟩ = some (.slice ad nd qd) := by
      rw [keepCell 1 (HG.out.bel.block l.f HM.out.fb.lt), ← Hud.out]
      exact HM.out.fb.cell 1
    have y3 : wr.cell? ⟨gS, nd, none⟩ = some (.int .i32 ((upN (stA (grF F)) nd nd : Nat) : Int)) := g3.get (by omega)
    have y4 : wr.frozen? ⟨gS, nd, none⟩ = false := g3.frozen nd
    have j1 : (nd : Int) < (m1 : Int) := by omega
    have Hna := hid hna
    clear g1 g2 g3 g4 g5 b0 b1 hna
    go_upto_region 21 with fail
    obtain ⟨X0, W, hT, hI⟩ := class_mk (fun w' => Drew wr w')
    have H0 : Hid (∃ y, wr.drew = W y) := hid (hI _ ⟨1, rfl⟩)
    have hne : Nonempty X0 := ⟨H0.out.choose⟩
    have HTT := hid hT
    have a0 : ∀ z, (W z).cell? ⟨gB, 0, none⟩ = some (.slice (some ⟨gS, 0, none⟩) m1 m1) := fun y => by obtain ⟨m, e⟩ := hT y; rw [e]; exact y0
    have a1 : ∀ z, (W z).cell? ⟨gB, 1, none⟩ = some (.slice av na qv) := fun y => by obtain ⟨m, e⟩ := hT y; rw [e]; exact y1
    have a2 : ∀ z, (W z).cell? ⟨l.f, 1, none⟩ = some (.slice ad nd qd) := fun y => by obtain ⟨m, e⟩ := hT y; rw [e]; exact y2
    have a3 : ∀ z, (W z).cell? ⟨gS, nd, none⟩ = some (.int .i32 ((upN (stA (grF F)) nd nd : Nat) : Int)) := fun y => by obtain ⟨m, e⟩ := hT y; rw [e]; exact y3
    have a4 : ∀ z, (W z).frozen? ⟨gS, nd, none⟩ = false := fun y => by obtain ⟨m, e⟩ := hT y; rw [e]; exact y4
    clear hT hI
    refine wp_region_class_tailT W 16 (by kernel_rfl) (by kernel_rfl) (by kernel_rfl) H0.out ?_
    dsimp only [List.take, List.drop]
    repeat (go_big_quiet_step (fail))
    refine wpQuiet_nil ?_
    intro z
    have HD := hid (HTT.out z)
    have HB := hid ((HTT.out z).below wr.heap.size)
    have a0z := a0 z
    have a1z := a1 z
    have a2z := a2 z
    have a3z := a3 z
    have a4z := a4 z
    generalize W z = w5 at HD HB a0z a1z a2z a3z a4z ⊢
    clear H0 HTT a0 a1 a2 a3 a4
    have HF : Hid (∃ g' σ va, GB w gB g' (nd + 1) (stA (grF F)) (grF F).flatten σ va (w5.setCell ⟨gS, nd, none⟩ (.int .i32 (na : Int)))) := hid (by
      have hh := (HG.out.below HB.out).setS (j := nd) (by omega) na
      have hlen : (grF F).length = nd := by unfold grF; rw [List.length_map]; exact Hnd.out
      refine ⟨gS, σ, .slice av ((grF F).take nd).flatten.length qv, ?_⟩
      obtain ⟨g1, g2, g3, g4, g5⟩ := hh
      have hte : (grF F).take nd = grF F := by rw [← hlen, List.take_length]
      rw [hte] at g1 g4 ⊢
      rw [hm1]
      refine ⟨g1, g2, ?_, g4, g5⟩
      refine g3.congr (fun j hj => ?_)
      by_cases e : j = nd
      · subst e
        rw [fup_self, ← Hna.out, hte, ← stA_all, hlen]
      · rw [fup_ne _ _ e]
        unfold upN
        rw [if_pos (by omega)])
    clear y0 y1 y2 y3 y4
    go_wp2
    go_ret
    exact ⟨gB, rfl, HF⟩
  have d1 : decide ((i : Int) < (nd : Int)) = true := decide_eq_true (by omega)
  have i1 : (i : Int) < (nd : Int) := by omega
  obtain ⟨x, hx⟩ : ∃ x, F.decls[i]? = some x := ⟨_, List.getElem?_eq_getElem (by rw [Hnd.out]; exact hin)⟩
  have Hx := hid hx
  have HX := hid (HW.out.d x (List.mem_of_getElem? hx))
  obtain ⟨σ, va, hG⟩ := HI.out
  have HG := hid hG
  obtain ⟨gd, rfl, hgd, hcd⟩ := HM.out.decl Hud.out hx
  have hkc : ∀ (wz : World) (g o : Nat), Below w.heap.size w wz → g < w.heap.size → wz.cell? ⟨g, o, none⟩ = w.cell? ⟨g, o, none⟩ := fun wz g o hb hg => keepCell o (hb.block g hg)
  have Hkc := hid hkc
  obtain ⟨g1, g2, g3, g4, g5⟩ := hG
  obtain ⟨av, qv, hva⟩ := g4.shape
  subst hva
  obtain ⟨na, hna⟩ : ∃ k, ((grF F).take i).flatten.length = k := ⟨_, rfl⟩
  rw [hna] at g1
  have hna2 : na ≤ 131072 := by
    have := Hg.out.adj i
    rw [hna, HnT.out, HnE.out] at this
    omega
  have y0 : wr.cell? ⟨gB, 0, none⟩ = some (.slice (some ⟨gS, 0, none⟩) m1 m1) := g1.cell 0
  have y1 : wr.cell? ⟨gB, 1, none⟩ = some (.slice av na qv) := g1.cell 1
  have y2 : wr.cell? ⟨l.f, 1, none⟩ = some (.slice (some ⟨gd, 0, none⟩) nd qd) := by
    rw [hkc wr l.f 1 HG.out.bel HM.out.fb.lt, ← Hud.out]
    exact HM.out.fb.cell 1
  have y3 : wr.cell? ⟨gS, i, none⟩ = some (.int .i32 ((upN (stA (grF F)) i i : Nat) : Int)) := g3.get (by omega)
  have y4 : wr.frozen? ⟨gS, i, none⟩ = false := g3.frozen i
  have j1 : (i : Int) < (m1 : Int) := by omega
  have Hna := hid hna
  have Hgd := hid hgd
  have Hcd := hid hcd
  clear g1 g2 g3 g4 g5 hna hkc hgd hcd hx HI
  go_upto_region 7 with fail
  obtain ⟨X0, W, hT, hI⟩ := class_mk (fun w' => Drew wr w')
  have H0 : Hid (∃ y, wr.drew = W y) := hid (hI _ ⟨1, rfl⟩)
  have hne : Nonempty X0 := ⟨H0.out.choose⟩
  have HTT := hid hT
  have a0 : ∀ z, (W z).cell? ⟨gB, 0, none⟩ = some (.slice (some ⟨gS, 0, none⟩) m1 m1) := fun y => by obtain ⟨m, e⟩ := hT y; rw [e]; exact y0
  have a1 : ∀ z, (W z).cell? ⟨gB, 1, none⟩ = some (.slice av na qv) := fun y => by obtain ⟨m, e⟩ := hT y; rw [e]; exact y1
  have a3 : ∀ z, (W z).cell? ⟨gS, i, none⟩ = some (.int .i32 ((upN (stA (grF F)) i i : Nat) : Int)) := fun y => by obtain ⟨m, e⟩ := hT y; rw [e]; exact y3
  have a4 : ∀ z, (W z).frozen? ⟨gS, i, none⟩ = false := fun y => by obtain ⟨m, e⟩ := hT y; rw [e]; exact y4
  clear hT hI
  refine wp_region_class_tailT W 12 (by kernel_rfl) (by kernel_rfl) (by kernel_rfl) H0.out ?_
  dsimp only [List.take, List.drop]
  repeat (go_big_quiet_step (fail))
  refine wpQuiet_nil ?_
  intro z
  have HD := hid (HTT.out z)
  have HB := hid ((HTT.out z).below wr.heap.size)
  have a0z := a0 z
  have a1z := a1 z
  have a3z := a3 z
  have a4z := a4 z
  generalize W z = w5 at HD HB a0z a1z a3z a4z ⊢
  clear H0 HTT a0 a1 a3 a4
  have HG2 : Hid (∃ σ va, GB w gB gS m1 (upN (stA (grF F)) (i + 1)) (((grF F).take i).flatten ++ ptT (tDA F) x.tLo 0) σ va (w5.setCell ⟨gS, i, none⟩ (.int .i32 (na : Int)))) := hid (by
    have hh := (HG.out.below HB.out).setS (j := i) (by omega) na
    rw [← Hna.out] at hh ⊢
    have e : fup (upN (stA (grF F)) i) i ((grF F).take i).flatten.length = upN (stA (grF F)) (i + 1) := upN_succ _ _
    rw [e] at hh
    unfold ptT
    rw [List.append_nil]
    exact ⟨_, _, hh⟩)
  clear y0 y1 y2 y3 y4
  obtain ⟨tl, htl⟩ : ∃ k, x.tLo = k := ⟨_, rfl⟩
  obtain ⟨th, hth⟩ : ∃ k, x.tHi = k := ⟨_, rfl⟩
  obtain ⟨el, hel⟩ : ∃ k, x.eLo = k := ⟨_, rfl⟩
  obtain ⟨eh, heh⟩ : ∃ k, x.eHi = k := ⟨_, rfl⟩
  have HRg : Hid (x.tLo = tl ∧ x.tHi = th ∧ x.eLo = el ∧ x.eHi = eh) := hid ⟨htl, hth, hel, heh⟩
  have hrt : tl ≤ th ∧ th ≤ nT := by have := HX.out.t; rw [htl, hth, HnT.out] at this; exact this
  have hre : el ≤ eh ∧ eh ≤ nE := by have := HX.out.e; rw [hel, heh, HnE.out] at this; exact this
  have HdT : Hid (∀ wz, Below w.heap.size w wz → wz.cell? ⟨gd, i * 11 + 7, none⟩ = some (.int .i32 (tl : Int)) ∧ wz.cell? ⟨gd, i * 11 + 8, none⟩ = some (.int .i32 (th : Int))) := hid (fun wz hb => ⟨by rw [Hkc.out wz gd _ hb Hgd.out, ← htl]; exact Hcd.out 7 (by decide), by rw [Hkc.out wz gd _ hb Hgd.out, ← hth]; exact Hcd.out 8 (by decide)⟩)
  have HdE : Hid (∀ wz, Below w.heap.size w wz → wz.cell? ⟨gd, i * 11 + 9, none⟩ = some (.int .i32 (el : Int)) ∧ wz.cell? ⟨gd, i * 11 + 10, none⟩ = some (.int .i32 (eh : Int))) := hid (fun wz hb => ⟨by rw [Hkc.out wz gd _ hb Hgd.out, ← hel]; exact Hcd.out 9 (by decide), by rw [Hkc.out wz gd _ hb Hgd.out, ← heh]; exact Hcd.out 10 (by decide)⟩)
  rw [htl] at HG2
  clear htl hth hel heh
  go_upto_region 8 with fail
  generalize w5.setCell ⟨gS, i, none⟩ (.int .i32 (na : Int)) = w6 at HG2 ⊢
  clear a0z a1z a3z a4z HD HB
  have yt := (HdT.out w6 (by obtain ⟨_, _, hh⟩ := HG2.out; exact hh.bel)).1

  go_upto_region 9 with fail
  clear yt
  go_loopw [7] (fun t wr => ∃ k : Nat, t = .int .i32 (k : Int) ∧ tl ≤ k ∧ k ≤ th ∧ Hid (∃ σ va, GB w gB gS m1 (upN (stA (grF F)) (i + 1)) (((grF F).take i).flatten ++ ptT (tDA F) tl (k - tl)) σ va wr)) (fun t _ => th - (intOf t).toNat)
  case atStart => exact ⟨tl, rfl, Nat.le_refl _, hrt.1, hid (by rw [Nat.sub_self]; exact HG2.out)⟩
  case round =>
  clear HG2
  obtain ⟨k, rfl, hk1, hk2, HK⟩ := hrel
  obtain ⟨yl, yh⟩ := HdT.out wr (by obtain ⟨_, _, hh⟩ := HK.out; exact hh.bel)
  by_cases hkk : k < th
  rotate_left
  · have d2 : decide ((k : Int) < (th : Int)) = false := decide_eq_false (by omega)
    have HG2 : Hid (∃ σ va, GB w gB gS m1 (upN (stA (grF F)) (i + 1)) ((((grF F).take i).flatten ++ ptT (tDA F) tl (th - tl)) ++ ptT (eDA F) el (el - el)) σ va wr) := hid (by
      obtain ⟨σ, va, hh⟩ := HK.out
      rw [Nat.sub_self]
      show ∃ σ va, GB w gB gS m1 (upN (stA (grF F)) (i + 1)) ((((grF F).take i).flatten ++ ptT (tDA F) tl (th - tl)) ++ []) σ va wr
      rw [List.append_nil]
      rw [show k = th by omega] at hh
      exact ⟨σ, va, hh⟩)
    have ye := (HdE.out wr (by obtain ⟨_, _, hh⟩ := HG2.out; exact hh.bel)).1
    clear HK
    skip

    go_upto_region 15 with fail
    clear ye
    go_loopw [9] (fun t wr => ∃ k : Nat, t = .int .i32 (k : Int) ∧ el ≤ k ∧ k ≤ eh ∧ Hid (∃ σ va, GB w gB gS m1 (upN (stA (grF F)) (i + 1)) ((((grF F).take i).flatten ++ ptT (tDA F) tl (th - tl)) ++ ptT (eDA F) el (k - el)) σ va wr)) (fun t _ => eh - (intOf t).toNat)
    case atStart => exact ⟨el, rfl, Nat.le_refl _, hre.1, HG2⟩
    case round =>
    clear HG2
    obtain ⟨k, rfl, hk1, hk2, HK⟩ := hrel
    obtain ⟨yl, yh⟩ := HdE.out wr (by obtain ⟨_, _, hh⟩ := HK.out; exact hh.bel)
    by_cases hkk : k < eh
    rotate_left
    · have d2 : decide ((k : Int) < (eh : Int)) = false := decide_eq_false (by omega)
      have HF : Hid (∃ σ va, GB w gB gS m1 (upN (stA (grF F)) (i + 1)) (((grF F).take (i + 1)).flatten) σ va wr) := hid (by
        obtain ⟨σ, va, hh⟩ := HK.out
        refine ⟨σ, va, ?_⟩
        rw [grF_take Hx.out]
        unfold adjF
        rw [HRg.out.1, HRg.out.2.1, HRg.out.2.2.1, HRg.out.2.2.2, ← List.append_assoc]
        rw [show k = eh by omega] at hh
        exact hh)
      go_wp2
      exact ⟨⟨i + 1, by go_num, by omega, HF⟩, by simp [intOf]; omega⟩
    have d2 : decide ((k : Int) < (eh : Int)) = true := decide_eq_true (by omega)
    have i2 : (k : Int) < (nE : Int) := by omega
    obtain ⟨σ2, va2, hG2⟩ := HK.out
    have HG3 := hid hG2
    have z1 : wr.cell? ⟨c, 5, none⟩ = some (.slice (some ⟨gE, 0, none⟩) nE nE) := by
      rw [Hkc.out wr c 5 hG2.bel HM.out.cb.lt, ← Hve.out]
      exact HM.out.cb.cell 5
    have z2 : wr.cell? ⟨gE, k, none⟩ = some (.int .i32 (eDA F k)) := by
      rw [Hkc.out wr gE k hG2.bel HE.out.1.lt]
      exact HE.out.get (by omega)
    have hks : k + 1 - el = (k - el) + 1 := by omega
    have hkl : el + (k - el) = k := by omega
    have Hpt : Hid (ptT (eDA F) el (k + 1 - el) = ptT (eDA F) el (k - el) ++ (if 0 ≤ eDA F k then [(eDA F k).toNat] else [])) := hid (by rw [hks]; show ptT (eDA F) el (k - el) ++ (if 0 ≤ eDA F (el + (k - el)) then [(eDA F (el + (k - el))).toNat] else []) = _; rw [hkl])
    clear hks hkl
    obtain ⟨tv, htv⟩ : ∃ v, eDA F k = v := ⟨_, rfl⟩
    rw [htv] at z2
    have Htv := hid htv
    clear htv
    by_cases h0 : 0 ≤ tv
    rotate_left
    · as_aux_lemma =>
      have d3 : decide (0 ≤ tv) = false := decide_eq_false h0
      have HF : Hid (∃ σ va, GB w gB gS m1 (upN (stA (grF F)) (i + 1)) ((((grF F).take i).flatten ++ ptT (tDA F) tl (th - tl)) ++ ptT (eDA F) el (k + 1 - el)) σ va wr) := hid (by
        rw [Hpt.out, Htv.out, if_neg h0, List.append_nil]
        exact HK.out)
      clear h0 hG2
      go_wp2
      exact ⟨⟨k + 1, by go_num, by omega, by omega, HF⟩, by simp [intOf]; omega⟩
    · as_aux_lemma =>
      have d3 : decide (0 ≤ tv) = true := decide_eq_true h0
      obtain ⟨d, hd⟩ : ∃ d : Nat, tv = (d : Int) := ⟨tv.toNat, by omega⟩
      subst hd
      obtain ⟨g1, g2, g3, g4, g5⟩ := hG2
      obtain ⟨av2, qv2, hva2⟩ := g4.shape
      subst hva2
      obtain ⟨na2, hna2'⟩ : ∃ k2, ((((grF F).take i).flatten ++ ptT (tDA F) tl (th - tl)) ++ ptT (eDA F) el (k - el)).length = k2 := ⟨_, rfl⟩
      rw [hna2'] at g1
      have HR4 := hid g4
      rw [hna2'] at HR4
      have hb2 : na2 ≤ 300000 := by
        have h1 := Hg.out.adj i
        have h2 := ptT_len (tDA F) tl (th - tl)
        have h3 := ptT_len (eDA F) el (k - el)
        rw [HnT.out, HnE.out] at h1
        rw [← hna2']
        simp only [List.length_append]
        omega
      have q1 : wr.cell? ⟨gB, 1, none⟩ = some (.slice av2 na2 qv2) := g1.cell 1
      have q1f : wr.frozen? ⟨gB, 1, none⟩ = false := g1.frozen 1
      have Hna2 := hid hna2'
      obtain ⟨qq, hqq⟩ : ∃ q, wr.heap.size = q := ⟨_, rfl⟩
      obtain ⟨wc, hwc⟩ : ∃ x, wr.alloc (.cells #[.int .i32 (d : Int)] 21) = x := ⟨_, rfl⟩
      have HN : Hid (∀ ad, some (⟨qq, 0, none⟩ : Addr) = some ad → ∀ j u, ([d].flatMap rtJ.f)[j]? = some u → wc.cell? (ad.add j) = some u) := hid (by rw [← hwc]; exact newX rtJ wr d qq (by rw [hqq]))
      have HBc : Hid (Below wr.heap.size wr wc) := hid (by rw [← hwc]; exact nbel wr _)
      clear g1 g2 g3 g4 g5 hna2' h0
      go_wp2_with (at_builtin; refine stopHere ?_)
      intro _
      (try simp only [hqq, hwc])
      clear hqq hwc
      have hrc : RowX rtJ wc σ2 32 (.slice av2 na2 qv2) ((((grF F).take i).flatten ++ ptT (tDA F) tl (th - tl)) ++ ptT (eDA F) el (k - el)) := HR4.out.fr (X := fun _ => false) (Fr.below HBc.out) rfl
      refine wpList_app_x okJ rfl _ _ hrc rfl [d] rfl (some ⟨qq, 0, none⟩) 1 1 rfl rfl (fun h => by cases h) HN.out (by rw [Hna2.out]; show (na2 + 1) * 4 ≤ _; omega) ?_
      intro v8 w8 σ8 hr8 hf8 _ _
      obtain ⟨a8, q8, h8⟩ := hr8.out.shape
      rw [List.length_append, List.length_singleton, Hna2.out] at h8
      subst h8
      have HGc := hid (HG3.out.below HBc.out)
      have q8f : w8.frozen? ⟨gB, 1, none⟩ = false := by
        obtain ⟨g1, g2, _⟩ := HGc.out
        exact (hf8.out.keep g1 g2 rfl).frozen 1
      have q8c : w8.cell? ⟨gB, 1, none⟩ = some (.slice av2 na2 qv2) := by
        obtain ⟨g1, g2, _⟩ := HGc.out
        rw [← Hna2.out]
        exact (hf8.out.keep g1 g2 rfl).cell 1
      have HF : Hid (∃ σ va, GB w gB gS m1 (upN (stA (grF F)) (i + 1)) ((((grF F).take i).flatten ++ ptT (tDA F) tl (th - tl)) ++ ptT (eDA F) el (k + 1 - el)) σ va (w8.setCell ⟨gB, 1, none⟩ (.slice a8 (na2 + 1) q8))) := hid (by
        rw [Hpt.out, Htv.out, if_pos (by omega), ← List.append_assoc]
        exact ⟨σ8, _, HGc.out.app hr8.out hf8.out⟩)
      clear hr8 hf8 hrc HGc HN HBc q1 q1f
      go_wp2
      exact ⟨⟨k + 1, by go_num, by omega, by omega, HF⟩, by simp [intOf]; omega⟩

  have d2 : decide ((k : Int) < (th : Int)) = true := decide_eq_true (by omega)
  have i2 : (k : Int) < (nT : Int) := by omega
  obtain ⟨σ2, va2, hG2⟩ := HK.out
  have HG3 := hid hG2
  have z1 : wr.cell? ⟨c, 4, none⟩ = some (.slice (some ⟨gT, 0, none⟩) nT nT) := by
    rw [Hkc.out wr c 4 hG2.bel HM.out.cb.lt, ← Hvt.out]
    exact HM.out.cb.cell 4
  have z2 : wr.cell? ⟨gT, k, none⟩ = some (.int .i32 (tDA F k)) := by
    rw [Hkc.out wr gT k hG2.bel HT.out.1.lt]
    exact HT.out.get (by omega)
  have hks : k + 1 - tl = (k - tl) + 1 := by omega
  have hkl : tl + (k - tl) = k := by omega
  have Hpt : Hid (ptT (tDA F) tl (k + 1 - tl) = ptT (tDA F) tl (k - tl) ++ (if 0 ≤ tDA F k then [(tDA F k).toNat] else [])) := hid (by rw [hks]; show ptT (tDA F) tl (k - tl) ++ (if 0 ≤ tDA F (tl + (k - tl)) then [(tDA F (tl + (k - tl))).toNat] else []) = _; rw [hkl])
  clear hks hkl
  obtain ⟨tv, htv⟩ : ∃ v, tDA F k = v := ⟨_, rfl⟩
  rw [htv] at z2
  have Htv := hid htv
  clear htv
  by_cases h0 : 0 ≤ tv
  rotate_left
  · as_aux_lemma =>
    have d3 : decide (0 ≤ tv) = false := decide_eq_false h0
    have HF : Hid (∃ σ va, GB w gB gS m1 (upN (stA (grF F)) (i + 1)) (((grF F).take i).flatten ++ ptT (tDA F) tl (k + 1 - tl)) σ va wr) := hid (by
      rw [Hpt.out, Htv.out, if_neg h0, List.append_nil]
      exact HK.out)
    clear h0 hG2
    go_wp2
    exact ⟨⟨k + 1, by go_num, by omega, by omega, HF⟩, by simp [intOf]; omega⟩
  · as_aux_lemma =>
    have d3 : decide (0 ≤ tv) = true := decide_eq_true h0
    obtain ⟨d, hd⟩ : ∃ d : Nat, tv = (d : Int) := ⟨tv.toNat, by omega⟩
    subst hd
    obtain ⟨g1, g2, g3, g4, g5⟩ := hG2
    obtain ⟨av2, qv2, hva2⟩ := g4.shape
    subst hva2
    obtain ⟨na2, hna2'⟩ : ∃ k2, (((grF F).take i).flatten ++ ptT (tDA F) tl (k - tl)).length = k2 := ⟨_, rfl⟩
    rw [hna2'] at g1
    have HR4 := hid g4
    rw [hna2'] at HR4
    have hb2 : na2 ≤ 300000 := by
      have h1 := Hg.out.adj i
      have h2 := ptT_len (tDA F) tl (th - tl)
      have h3 := ptT_len (tDA F) tl (k - tl)
      rw [HnT.out, HnE.out] at h1
      rw [← hna2']
      simp only [List.length_append]
      omega
    have q1 : wr.cell? ⟨gB, 1, none⟩ = some (.slice av2 na2 qv2) := g1.cell 1
    have q1f : wr.frozen? ⟨gB, 1, none⟩ = false := g1.frozen 1
    have Hna2 := hid hna2'
    obtain ⟨qq, hqq⟩ : ∃ q, wr.heap.size = q := ⟨_, rfl⟩
    obtain ⟨wc, hwc⟩ : ∃ x, wr.alloc (.cells #[.int .i32 (d : Int)] 21) = x := ⟨_, rfl⟩
    have HN : Hid (∀ ad, some (⟨qq, 0, none⟩ : Addr) = some ad → ∀ j u, ([d].flatMap rtJ.f)[j]? = some u → wc.cell? (ad.add j) = some u) := hid (by rw [← hwc]; exact newX rtJ wr d qq (by rw [hqq]))
    have HBc : Hid (Below wr.heap.size wr wc) := hid (by rw [← hwc]; exact nbel wr _)
    clear g1 g2 g3 g4 g5 hna2' h0
    go_wp2_with (at_builtin; refine stopHere ?_)
    intro _
    (try simp only [hqq, hwc])
    clear hqq hwc
    have hrc : RowX rtJ wc σ2 32 (.slice av2 na2 qv2) (((grF F).take i).flatten ++ ptT (tDA F) tl (k - tl)) := HR4.out.fr (X := fun _ => false) (Fr.below HBc.out) rfl
    refine wpList_app_x okJ rfl _ _ hrc rfl [d] rfl (some ⟨qq, 0, none⟩) 1 1 rfl rfl (fun h => by cases h) HN.out (by rw [Hna2.out]; show (na2 + 1) * 4 ≤ _; omega) ?_
    intro v8 w8 σ8 hr8 hf8 _ _
    obtain ⟨a8, q8, h8⟩ := hr8.out.shape
    rw [List.length_append, List.length_singleton, Hna2.out] at h8
    subst h8
    have HGc := hid (HG3.out.below HBc.out)
    have q8f : w8.frozen? ⟨gB, 1, none⟩ = false := by
      obtain ⟨g1, g2, _⟩ := HGc.out
      exact (hf8.out.keep g1 g2 rfl).frozen 1
    have q8c : w8.cell? ⟨gB, 1, none⟩ = some (.slice av2 na2 qv2) := by
      obtain ⟨g1, g2, _⟩ := HGc.out
      rw [← Hna2.out]
      exact (hf8.out.keep g1 g2 rfl).cell 1
    have HF : Hid (∃ σ va, GB w gB gS m1 (upN (stA (grF F)) (i + 1)) (((grF F).take i).flatten ++ ptT (tDA F) tl (k + 1 - tl)) σ va (w8.setCell ⟨gB, 1, none⟩ (.slice a8 (na2 + 1) q8))) := hid (by
      rw [Hpt.out, Htv.out, if_pos (by omega), ← List.append_assoc]
      exact ⟨σ8, _, HGc.out.app hr8.out hf8.out⟩)
    clear hr8 hf8 hrc HGc HN HBc q1 q1f
    go_wp2
    exact ⟨⟨k + 1, by go_num, by omega, by omega, HF⟩, by simp [intOf]; omega⟩

end
end Go.Proofs.Qxb6500883aGreatDoor
