/- The checker in memory; diagnostics: add, empty. -/
import Derived.Test.Qxb6500883aGreatDoorScBc
import Derived.Test.Qxb6500883aGreatDoorMapG
namespace Go.Proofs.Qxb6500883aGreatDoor
open Go.RowKit
set_option linter.unusedSimpArgs false
set_option linter.unusedVariables false
/-- Rows of pointers to errors. -/
def rtQ : RK Nat := ⟨25, 33, 1, 8, fun q => [.pointer (some ⟨q, 0, none⟩)]⟩
theorem okQ : RKok Tryz.prog rtQ := ⟨Tryz.underlying33, info_of' (z := .pointer none) (by kernel_rfl) rfl, by decide, by decide, fun _ => rfl, fun x u hu => by
  simp only [rtQ, List.mem_cons, List.not_mem_nil, or_false] at hu
  subst hu; rfl⟩
/-- The errors gathered so far (roles: 9 their row, 10 their records): kinds and places. -/
structure DgM (ρ : Rl) (w : World) (n : Nat) (v : Value) (errs : List (Nat × Nat)) : Prop where
  row : ∃ qs : List Nat, RowX rtQ w ρ 9 v qs ∧ qs.length = errs.length ∧ qs.Nodup ∧ ∀ (i q : Nat), qs[i]? = some q → ∃ (k : Nat × Nat) (m : ByteArray), errs[i]? = some k ∧ 0 < m.size ∧ m.size ≤ 35184372088832 ∧ Blk w q 41 (erC k.1 k.2 (0, 0) m) ∧ ρ q = 10
  pos : ∀ k ∈ errs, k.2 ≤ n
/-- What the checker's cells hold. -/
structure CV where
  list : Value
  byN : Value
  tD : Value
  eD : Value
  ord : Value
  eV : Value
  eO : Value
def chC (l : PL) (V : CV) : List Value := [.pointer (some ⟨l.f, 0, none⟩), .slice l.a l.n l.c, V.list, V.byN, V.tD, V.eD, V.ord, V.eV, V.eO]
/-- The checker in block c (role 11), the file that it reads, its errors. -/
structure CM (N mg : Nat) (ρ : Rl) (w : World) (l : PL) (bs : List UInt8) (F : FS) (U : FV) (c : Nat) (V : CV) (errs : List (Nat × Nat)) : Prop where
  r : PR N mg ρ w l bs F
  fb : Blk w l.f 109 (flC l U)
  fr : FRw ρ w U F
  cb : Blk w c 121 (chC l V)
  rc : ρ c = 11
  dg : DgM ρ w l.n V.list errs
/-- Roles that diagnostics write. -/
def XD (r : Nat) : Bool := r == 9 || r == 11
section
variable {N mg : Nat} {ρ ρ' : Rl} {w w' w1 w2 : World} {l : PL} {bs : List UInt8} {F : FS} {U : FV} {c n : Nat} {V : CV} {errs : List (Nat × Nat)} {v : Value}
theorem DgM.fr {X : Nat → Bool} (h : DgM ρ w n v errs) (hf : Fr X ρ w ρ' w') (h9 : X 9 = false) (h10 : X 10 = false) : DgM ρ' w' n v errs := by
  obtain ⟨qs, h1, h2, h3, h4⟩ := h.row
  refine ⟨⟨qs, h1.fr hf h9, h2, h3, fun i q hq => ?_⟩, h.pos⟩
  obtain ⟨k, m, e1, e2, e3, e4, e5⟩ := h4 i q hq
  exact ⟨k, m, e1, e2, e3, hf.keep e4 e5 h10, by rw [hf.old _ e4.lt]; exact e5⟩
theorem DgM.nil (ρ : Rl) (w : World) (n : Nat) : DgM ρ w n (.slice none 0 0) [] := ⟨⟨[], RowX.nil _ _ _ _, rfl, by simp, fun i q hq => by cases hq⟩, fun k hk => by cases hk⟩
theorem CM.frame {X : Nat → Bool} (h : CM N mg ρ w l bs F U c V errs) (hf : Fr X ρ w ρ' w') (hX : ∀ r, r ≤ 11 → r ≠ 7 → X r = false) : CM N mg ρ' w' l bs F U c V errs :=
  ⟨h.r.fr hf (fun r hr => hX r (by omega) (by omega)) (hX 8 (by decide) (by decide)), hf.keep h.fb h.r.rf (hX 8 (by decide) (by decide)), h.fr.fr hf (fun r _ hr => hX r (by omega) (by omega)), hf.keep h.cb h.rc (hX 11 (by decide) (by decide)), by rw [hf.old _ h.cb.lt]; exact h.rc, h.dg.fr hf (hX 9 (by decide) (by decide)) (hX 10 (by decide) (by decide))⟩
theorem CM.below (h : CM N mg ρ w l bs F U c V errs) (hb : Below w.heap.size w w') : CM N mg ρ w' l bs F U c V errs := h.frame (X := fun _ => false) (Fr.below hb) (fun _ _ _ => rfl)
theorem CM.cells (h : CM N mg ρ w l bs F U c V errs) : w.cell? ⟨c, 0, none⟩ = some (.pointer (some ⟨l.f, 0, none⟩)) ∧ w.cell? ⟨c, 1, none⟩ = some (.slice l.a l.n l.c) ∧ w.cell? ⟨c, 2, none⟩ = some V.list := ⟨h.cb.cell 0, h.cb.cell 1, h.cb.cell 2⟩
theorem CM.new {p : Nat} (h : CM N mg ρ w l bs F U c V errs) (hp : w.heap.size ≤ p) : ρ p = 0 := by
  cases hz : ρ p with
  | zero => rfl
  | succ z => have := h.r.dom p (by rw [hz]; exact Nat.succ_ne_zero z); omega
/-- An error more. -/
structure CAd (N mg : Nat) (ρ : Rl) (w : World) (l : PL) (bs : List UInt8) (F : FS) (U : FV) (c : Nat) (V : CV) (errs : List (Nat × Nat)) (w' : World) : Prop where
  m : ∃ (ρ' : Rl) (v' : Value), CM N mg ρ' w' l bs F U c { V with list := v' } errs ∧ Fr XD ρ w ρ' w'
set_option maxRecDepth 100000 in
set_option maxHeartbeats 1000000 in
theorem addDW (h : CM N mg ρ w l bs F U c V errs) (k pos : Nat) (m : ByteArray) (hp : pos ≤ l.n) (hm : 0 < m.size) (hm2 : m.size ≤ 35184372088832) (hl : errs.length ≤ 1000000000000) : Calls Tryz.prog 83 #[.pointer (some ⟨c, 1, none⟩), .int .u8 (k : Int), .int .i64 (pos : Int), .string m] w fun e w' => e = .returned (.tuple #[]) ∧ Hid (CAd N mg ρ w l bs F U c V (errs ++ [(k, pos)]) w') := by
  obtain ⟨_, _, c2⟩ := h.cells
  obtain ⟨qs, hr, hql, hnd, hqs⟩ := h.dg.row
  obtain ⟨ax, qx, hvx⟩ := hr.shape
  obtain ⟨n9, hn9⟩ : ∃ n9, qs.length = n9 := ⟨_, rfl⟩
  rw [hn9] at hvx
  rw [hvx] at c2
  have f2 : w.frozen? ⟨c, 2, none⟩ = false := h.cb.frozen 2
  have HM := hid h
  have HR := hid hr
  have Hql := hid hql
  have Hn9 := hid hn9
  have Hvx := hid hvx
  have Hnd := hid hnd
  have Hqs := hid hqs
  have hn92 : n9 ≤ 1000000000000 := by omega
  obtain ⟨q, hq⟩ : ∃ q, w.heap.size = q := ⟨_, rfl⟩
  obtain ⟨wa, hwa⟩ : ∃ x, w.alloc (.cells #[.int .u8 (k : Int), .int .i64 (pos : Int), .int .i64 0, .int .i64 0, .string m] 41) = x := ⟨_, rfl⟩
  obtain ⟨wb, hwb⟩ : ∃ x, wa.alloc (.cells #[.pointer (some ⟨q, 0, none⟩)] 25) = x := ⟨_, rfl⟩
  have hsa : wa.heap.size = q + 1 := by rw [← hwa, ← hq]; simp
  have HA : Hid (Below w.heap.size w wa ∧ Below w.heap.size w wb ∧ Blk wb q 41 (erC k pos (0, 0) m) ∧ (∀ ad, some (⟨q + 1, 0, none⟩ : Addr) = some ad → ∀ j u, ([q].flatMap rtQ.f)[j]? = some u → wb.cell? (ad.add j) = some u)) := hid (by
    have hba : Below w.heap.size w wa := by rw [← hwa]; exact nbel w _
    have hbb : Below wa.heap.size wa wb := by rw [← hwb]; exact nbel wa _
    refine ⟨hba, hba.trans (hbb.mono hba.size), ?_, ?_⟩
    · have k1 := Blk.new w (erC k pos (0, 0) m) 41
      rw [hq] at k1
      have k2 : Blk wa q 41 (erC k pos (0, 0) m) := by rw [← hwa]; exact k1
      exact k2.below hbb
    · rw [← hwb]
      exact newX rtQ wa q _ (by rw [hsa]))
  have Hq := hid hq
  clear h hr hql hnd hqs hn9 hvx
  go_enter Tryz.func83, Tryz.ntmps83
  go_wp2_with (at_builtin; refine stopHere ?_)
  intro _
  (try simp only [hq, hwa, hsa, hwb])
  clear hq hwa hwb hsa
  -- roles behind the new record
  have hrq : ρ q = 0 := HM.out.new (by rw [Hq.out]; exact Nat.le_refl _)
  have HFq : Hid (Fr (fun _ => false) ρ w (fup ρ q 10) wb) := hid (by
    have hb := HA.out.2.1
    have hlt := HA.out.2.2.1.lt
    exact ⟨hb.os, hb.tape, hb.output, hb.size, fun g hg => fup_ne _ _ (by rw [Hq.out] at hg; omega), fun g hg => fup_ne _ _ (by omega), fun g hg _ => hb.block g hg⟩)
  have HMb := hid (HM.out.frame HFq.out (fun _ _ _ => rfl))
  have hrb : RowX rtQ wb (fup ρ q 10) 9 (.slice ax n9 qx) qs := by rw [← Hvx.out]; exact HR.out.fr HFq.out rfl
  refine wpList_app_x okQ rfl _ _ hrb rfl [q] rfl (some ⟨q + 1, 0, none⟩) 1 1 rfl rfl (fun h => by cases h) HA.out.2.2.2 (by have := Hn9.out; rw [this]; show (n9 + 1) * 8 ≤ _; omega) ?_
  intro v8 w8 ρ8 hr8 hf8 _ _
  obtain ⟨a8, q8, h8⟩ := hr8.out.shape
  rw [List.length_append, List.length_singleton, Hn9.out] at h8
  subst h8
  have hcb8 : Blk w8 c 121 (chC l V) := hf8.out.keep HMb.out.cb HMb.out.rc rfl
  have s2 : w8.cell? ⟨c, 2, none⟩ = some (.slice ax n9 qx) := by rw [← Hvx.out]; exact hcb8.cell 2
  have f8 : w8.frozen? ⟨c, 2, none⟩ = false := hcb8.frozen 2
  have HF : Hid (CAd N mg ρ w l bs F U c V (errs ++ [(k, pos)]) (w8.setCell ⟨c, 2, none⟩ (.slice a8 (n9 + 1) q8))) := hid (by
    have hrc8 : ρ8 c = 11 := by rw [hf8.out.old _ HMb.out.cb.lt]; exact HMb.out.rc
    have hf9 : Fr (fun r => r == 11) ρ8 w8 ρ8 (w8.setCell ⟨c, 2, none⟩ (.slice a8 (n9 + 1) q8)) := Fr.set _ (by show (ρ8 c == 11) = true; rw [hrc8]; rfl)
    have hfa : Fr XD (fup ρ q 10) wb ρ8 (w8.setCell ⟨c, 2, none⟩ (.slice a8 (n9 + 1) q8)) := (hf8.out.mono (fun c hc => by simp at hc; subst hc; rfl)).trans (hf9.mono (fun c hc => by simp at hc; subst hc; rfl))
    have hfall : Fr XD ρ w ρ8 (w8.setCell ⟨c, 2, none⟩ (.slice a8 (n9 + 1) q8)) := (HFq.out.mono (fun c hc => by cases hc)).trans hfa
    have hk10 : ∀ {g : Nat} {cs : List Value}, Blk wb g 41 cs → fup ρ q 10 g = 10 → Blk (w8.setCell ⟨c, 2, none⟩ (.slice a8 (n9 + 1) q8)) g 41 cs ∧ ρ8 g = 10 := fun hb hg => ⟨hfa.keep hb hg rfl, by rw [hfa.old _ hb.lt]; exact hg⟩
    refine ⟨ρ8, .slice a8 (n9 + 1) q8, ⟨HMb.out.r.fr hfa (fun r hr => by unfold XD; simp; omega) rfl, hfa.keep HMb.out.fb HMb.out.r.rf rfl, HMb.out.fr.fr hfa (fun r _ hr => by unfold XD; simp; omega), hcb8.set 2 _, hrc8, ⟨⟨qs ++ [q], hr8.out.fr hf9 rfl, by rw [List.length_append, List.length_append, Hql.out]; rfl, ?_, fun i g hg => ?_⟩, fun x hx => ?_⟩⟩, hfall⟩
    · rw [List.nodup_append]
      refine ⟨Hnd.out, by simp, fun a ha b hb => ?_⟩
      simp at hb
      subst hb
      intro e
      subst e
      obtain ⟨i, hi⟩ := List.mem_iff_getElem?.1 ha
      obtain ⟨_, _, _, _, _, e4, _⟩ := Hqs.out i a hi
      have := e4.lt
      rw [Hq.out] at this
      omega
    · by_cases hi : i < qs.length
      · rw [List.getElem?_append_left hi] at hg
        obtain ⟨k1, m1, e1, e2, e3, e4, e5⟩ := Hqs.out i g hg
        have hgq : g ≠ q := by have := e4.lt; rw [Hq.out] at this; omega
        obtain ⟨x1, x2⟩ := hk10 (e4.below HA.out.2.1) (by rw [fup_ne _ _ hgq]; exact e5)
        exact ⟨k1, m1, by rw [List.getElem?_append_left (by rw [← Hql.out]; exact hi)]; exact e1, e2, e3, x1, x2⟩
      · rw [List.getElem?_append_right (by omega)] at hg
        have hi0 : i - qs.length = 0 := by
          have := (List.getElem?_eq_some_iff.1 hg).1
          simp at this
          omega
        rw [hi0] at hg
        simp at hg
        subst hg
        obtain ⟨x1, x2⟩ := hk10 HA.out.2.2.1 (fup_self _ _ _)
        exact ⟨(k, pos), m, by rw [List.getElem?_append_right (by rw [← Hql.out]; omega), ← Hql.out, hi0]; rfl, hm, hm2, x1, x2⟩
    · rcases List.mem_append.1 hx with h | h
      · exact HM.out.dg.pos x h
      · simp at h; subst h; exact hp)
  clear hr8 hf8 hcb8 hrb HMb HFq HA HR HM c2 f2
  go_wp2
  exact bodyPost_end (v := .tuple #[]) (by simp [results, Tryz.results83, go_sem]) rfl ⟨rfl, HF⟩
set_option maxRecDepth 100000 in
theorem emptyW (h : CM N mg ρ w l bs F U c V errs) : Calls Tryz.prog 59 #[.pointer (some ⟨c, 1, none⟩)] w fun e w' => e = .returned (.bool errs.isEmpty) ∧ w' = w := by
  obtain ⟨_, _, c2⟩ := h.cells
  obtain ⟨qs, hr, hql, _, _⟩ := h.dg.row
  obtain ⟨ax, qx, hvx⟩ := hr.shape
  obtain ⟨n9, hn9⟩ : ∃ n9, qs.length = n9 := ⟨_, rfl⟩
  rw [hn9] at hvx
  rw [hvx] at c2
  have He : Hid (errs.isEmpty = ((n9 : Int) == 0)) := hid (by
    rw [Bool.eq_iff_iff]
    simp [List.isEmpty_iff, ← List.length_eq_zero_iff]
    omega)
  obtain ⟨b, hb⟩ : ∃ b, ((n9 : Int) == 0) = b := ⟨_, rfl⟩
  rw [He.out, hb]
  clear h hr hql hvx hn9 He
  go_enter Tryz.func59, Tryz.ntmps59
  go_wp2
  go_ret
  exact ⟨rfl, rfl⟩
end
end Go.Proofs.Qxb6500883aGreatDoor
