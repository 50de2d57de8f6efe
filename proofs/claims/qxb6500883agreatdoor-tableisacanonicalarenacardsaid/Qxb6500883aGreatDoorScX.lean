/- addType, addExpr (written by tools/mk_scx.py). -/
import Derived.Test.Qxb6500883aGreatDoorScW
import Derived.Test.Qxb6500883aGreatDoorHeavy
namespace Go.Proofs.Qxb6500883aGreatDoor
open Go.RowKit
set_option linter.unusedSimpArgs false
set_option linter.unusedVariables false
section
variable {N mg : Nat} {ρ ρ' : Rl} {w w' w1 w2 : World} {l : PL} {bs : List UInt8} {F : FS}
theorem info_tn : (Tryz.prog.info? 157).map (·.size) = some 8 := by kernel_rfl
theorem load_info_tn {w : World} {g : Nat} {x : TN} (h : Blk w g 157 (tnC x)) : (Instr.loadAt 157 (.pointer (some ⟨g, 0, none⟩))).run Tryz.prog w = .ok (.agg (tnC x).toArray) w := run_loadAt_mid w g 0 157 (tnC x) _ h.rangeAt Tryz.underlying157 rfl info_tn
set_option maxRecDepth 100000 in
set_option maxHeartbeats 1000000 in
theorem addTW (h : PR N mg ρ w l bs F) (x : TN) (hl : F.types.length ≤ 65536) : Calls Tryz.prog 136 #[.pointer (some ⟨l.f, 0, none⟩), .agg (tnC x).toArray] w fun e w' => e = .returned (.int .i32 (F.types.length : Int)) ∧ Hid (∃ ρ', PR N mg ρ' w' l bs (F.addT x) ∧ Fr X8 ρ w ρ' w') := by
  obtain ⟨p, hp⟩ : ∃ p, w.heap.size = p := ⟨_, rfl⟩
  have H1 : Hid (Blk (w.alloc (.cells (tnC x).toArray 157)) p 157 (tnC x) ∧ Below w.heap.size w (w.alloc (.cells (tnC x).toArray 157)) ∧ w.heap.size ≤ p) := hid (by
    have k := Blk.new w (tnC x) 157
    rw [hp] at k
    exact ⟨k, nbel w _, by omega⟩)
  have HR := hid h
  dsimp only [tnC] at H1 ⊢
  obtain ⟨m, hm⟩ : ∃ m, F.types.length = m := ⟨_, rfl⟩
  have Hm := hid hm
  rw [hm] at hl ⊢
  clear h hm
  go_enter Tryz.func136, Tryz.ntmps136
  go_upto_region 1 with fail
  (try simp only [hp])
  generalize hw1 : w.alloc _ = w1 at H1 ⊢
  clear hw1 hp
  have HR1 := hid (HR.out.below H1.out.2.1)
  obtain ⟨V, hV, hRw⟩ := HR1.out.rows
  obtain ⟨ax, qx, hvx⟩ := hRw.t.shape
  rw [Hm.out] at hvx
  have Hvx := hid hvx
  have HV := hid hV
  have HRw := hid hRw
  clear hV hRw hvx
  refine wp_region_heavy (fun wz => Blk wz p 157 (tnC x) ∧ wz.cell? ⟨l.f, 2, none⟩ = some (.slice ax m qx)) 8 [0, 1, 2, 3, 4, 5] [6, 7] rfl (by kernel_rfl) (by kernel_rfl) (fun d _ _ _ _ h => by cases d <;> exact h) ⟨H1.out.1.drew ⟨1, rfl⟩, by have := HV.out.cell 2; rw [← Hvx.out]; exact this⟩ ?_
  apply Exists.intro
  refine ⟨?_, ?_⟩
  · intro W hW
    have k2 : ∀ u, (W u).cell? ⟨l.f, 2, none⟩ = some (.slice ax m qx) := fun u => (hW u).2
    have rl : ∀ u, (Instr.loadAt 157 (.pointer (some ⟨p, 0, none⟩))).run Tryz.prog (W u) = .ok (.agg (tnC x).toArray) (W u) := fun u => load_info_tn (hW u).1
    dsimp only [tnC] at rl
    have Hrl := hid rl
    clear hW rl
    simp only [List.take, opsAt, List.drop, List.cons_append, List.nil_append]
    repeat (first | (go_big_quiet_want; refine quiet_loadO 157 _ rfl ⟨p, 0, none⟩ rfl _ (fun w hx => by obtain ⟨x, rfl⟩ := hx; exact Hrl.out x) ?_; simp only [Act.put, List.setIfInBounds_toArray, List.set_cons_succ, List.set_cons_zero]; go_big_quiet_on) | go_big_quiet_step (fail))
    exact rfl
  simp only [List.take, List.drop, opsAt, List.cons_append, List.nil_append, wpHv]
  have HBd : Hid (Below w1.heap.size w1 w1.drew) := hid (Drew.below ⟨1, rfl⟩ _)
  generalize w1.drew = wd at HBd ⊢
  go_wp2_with fail
  obtain ⟨k8, hk8⟩ : ∃ k, wd.heap.size = k := ⟨_, rfl⟩
  obtain ⟨wf, hwf⟩ : ∃ wf, wd.alloc (.cells (tnC x).toArray 157) = wf := ⟨_, rfl⟩
  have HBf : Hid (Below w1.heap.size w1 wf) := hid (by rw [← hwf]; exact HBd.out.trans ((nbel wd _).mono HBd.out.size))
  have HNw : Hid (∀ ad, some (⟨k8, 0, none⟩ : Addr) = some ad → ∀ j u, ([x].flatMap rtT.f)[j]? = some u → wf.cell? (ad.add j) = some u) := hid (by rw [← hwf]; exact newX rtT wd x _ hk8.symm)
  dsimp only [tnC] at hwf
  (try simp only [hwf, hk8])
  have HS : ∀ wx : World, Below w1.heap.size w1 wx → Blk wx p 157 (tnC x) ∧ wx.cell? ⟨l.f, 2, none⟩ = some (.slice ax m qx) := fun wx hx => ⟨H1.out.1.below hx, by have := (HV.out.below hx).cell 2; rw [← Hvx.out]; exact this⟩
  refine ⟨HS _ HBf.out, ?_⟩
  clear hwf hk8
  have HRf := hid (HR1.out.below HBf.out)
  have HRwf := hid (HRw.out.fr (X := fun _ => false) (Fr.below HBf.out) (fun _ _ _ => rfl))
  have hrf := HRwf.out.t
  rw [Hvx.out] at hrf
  refine wpList_app_x okT rfl (.tmp 9) (.tmp 11) hrf rfl [x] (by simp [Act.eval, Act.put]; done) (some ⟨k8, 0, none⟩) 1 1 (by simp [Act.eval, Act.put]; done) rfl (fun h => by cases h) HNw.out (by have := Hm.out; show (F.types.length + 1) * 48 ≤ _; omega) ?_
  intro v8 w8 ρ8 hr8 hf8 _ _
  obtain ⟨a8, q8, h8⟩ := hr8.out.shape
  rw [List.length_append, List.length_singleton, Hm.out] at h8
  subst h8
  have HP8 := hid (HRf.out.grow (V := V) (V' := { V with t := .slice a8 (m + 1) q8 }) (HV.out.below HBf.out) hf8.out (by decide) (by decide) (.slice a8 (m + 1) q8) 2 rfl (HRwf.out.putT hf8.out hr8.out))
  have hk8 : Blk w8 l.f 109 (flC l V) := hf8.out.keep (HV.out.below HBf.out) HRf.out.rf rfl
  have s1 : Blk w8 p 157 (tnC x) := hf8.out.keep (c := 0) (H1.out.1.below HBf.out) (by
    cases hz : ρ p with
    | zero => rfl
    | succ z => have := HR.out.dom p (by rw [hz]; exact Nat.succ_ne_zero z); have := H1.out.2.2; omega) rfl
  have s2 : w8.cell? ⟨l.f, 2, none⟩ = some (.slice ax m qx) := by rw [← Hvx.out]; exact hk8.cell 2
  have f2 : w8.frozen? ⟨l.f, 2, none⟩ = false := hk8.frozen _
  have HF : Hid (∃ ρ', PR N mg ρ' (w8.setCell ⟨l.f, 2, none⟩ (.slice a8 (m + 1) q8)) l bs (F.addT x) ∧ Fr X8 ρ w ρ' (w8.setCell ⟨l.f, 2, none⟩ (.slice a8 (m + 1) q8))) := hid ⟨ρ8, HP8.out.1, (Fr.below H1.out.2.1).trans ((Fr.below HBf.out).trans HP8.out.2.1)⟩
  have hk9 := HP8.out.2.2
  have c9 := hk9.cell 2
  have c9' : (w8.setCell ⟨l.f, 2, none⟩ (.slice a8 (m + 1) q8)).cell? ⟨l.f, 2, none⟩ = some (.slice a8 (m + 1) q8) := c9
  clear hrf hr8 hf8 HRf HNw HBf HBd HP8 hk8 hk9 c9 HRwf HV HRw HR1 HS
  go_wp2_with fail
  refine ⟨⟨s1, s2⟩, ?_⟩
  simp only [QN]
  go_upto_region 2 with fail
  generalize hw9 : w8.setCell _ _ = w9 at c9' HF ⊢
  clear hw9 s1 s2 f2 H1
  have e1 : ((m + 1 : Nat) : Int) - 1 = (m : Int) := by omega
  have e2 : IntKind.i32.wrap (m : Int) = (m : Int) := by rw [IntKind.wrap_i32]; omega
  go_wp2
  go_ret
  exact ⟨rfl, HF⟩
theorem info_en : (Tryz.prog.info? 161).map (·.size) = some 6 := by kernel_rfl
theorem load_info_en {w : World} {g : Nat} {x : EN} (h : Blk w g 161 (enC x)) : (Instr.loadAt 161 (.pointer (some ⟨g, 0, none⟩))).run Tryz.prog w = .ok (.agg (enC x).toArray) w := run_loadAt_mid w g 0 161 (enC x) _ h.rangeAt Tryz.underlying161 rfl info_en
set_option maxRecDepth 100000 in
set_option maxHeartbeats 1000000 in
theorem addEW (h : PR N mg ρ w l bs F) (x : EN) (hl : F.exprs.length ≤ 65536) : Calls Tryz.prog 155 #[.pointer (some ⟨l.f, 0, none⟩), .agg (enC x).toArray] w fun e w' => e = .returned (.int .i32 (F.exprs.length : Int)) ∧ Hid (∃ ρ', PR N mg ρ' w' l bs (F.addE x) ∧ Fr X8 ρ w ρ' w') := by
  obtain ⟨p, hp⟩ : ∃ p, w.heap.size = p := ⟨_, rfl⟩
  have H1 : Hid (Blk (w.alloc (.cells (enC x).toArray 161)) p 161 (enC x) ∧ Below w.heap.size w (w.alloc (.cells (enC x).toArray 161)) ∧ w.heap.size ≤ p) := hid (by
    have k := Blk.new w (enC x) 161
    rw [hp] at k
    exact ⟨k, nbel w _, by omega⟩)
  have HR := hid h
  dsimp only [enC] at H1 ⊢
  obtain ⟨m, hm⟩ : ∃ m, F.exprs.length = m := ⟨_, rfl⟩
  have Hm := hid hm
  rw [hm] at hl ⊢
  clear h hm
  go_enter Tryz.func155, Tryz.ntmps155
  go_upto_region 1 with fail
  (try simp only [hp])
  generalize hw1 : w.alloc _ = w1 at H1 ⊢
  clear hw1 hp
  have HR1 := hid (HR.out.below H1.out.2.1)
  obtain ⟨V, hV, hRw⟩ := HR1.out.rows
  obtain ⟨ax, qx, hvx⟩ := hRw.e.shape
  rw [Hm.out] at hvx
  have Hvx := hid hvx
  have HV := hid hV
  have HRw := hid hRw
  clear hV hRw hvx
  refine wp_region_heavy (fun wz => Blk wz p 161 (enC x) ∧ wz.cell? ⟨l.f, 3, none⟩ = some (.slice ax m qx)) 8 [0, 1, 2, 3, 4, 5] [6, 7] rfl (by kernel_rfl) (by kernel_rfl) (fun d _ _ _ _ h => by cases d <;> exact h) ⟨H1.out.1.drew ⟨1, rfl⟩, by have := HV.out.cell 3; rw [← Hvx.out]; exact this⟩ ?_
  apply Exists.intro
  refine ⟨?_, ?_⟩
  · intro W hW
    have k2 : ∀ u, (W u).cell? ⟨l.f, 3, none⟩ = some (.slice ax m qx) := fun u => (hW u).2
    have rl : ∀ u, (Instr.loadAt 161 (.pointer (some ⟨p, 0, none⟩))).run Tryz.prog (W u) = .ok (.agg (enC x).toArray) (W u) := fun u => load_info_en (hW u).1
    dsimp only [enC] at rl
    have Hrl := hid rl
    clear hW rl
    simp only [List.take, opsAt, List.drop, List.cons_append, List.nil_append]
    repeat (first | (go_big_quiet_want; refine quiet_loadO 161 _ rfl ⟨p, 0, none⟩ rfl _ (fun w hx => by obtain ⟨x, rfl⟩ := hx; exact Hrl.out x) ?_; simp only [Act.put, List.setIfInBounds_toArray, List.set_cons_succ, List.set_cons_zero]; go_big_quiet_on) | go_big_quiet_step (fail))
    exact rfl
  simp only [List.take, List.drop, opsAt, List.cons_append, List.nil_append, wpHv]
  have HBd : Hid (Below w1.heap.size w1 w1.drew) := hid (Drew.below ⟨1, rfl⟩ _)
  generalize w1.drew = wd at HBd ⊢
  go_wp2_with fail
  obtain ⟨k8, hk8⟩ : ∃ k, wd.heap.size = k := ⟨_, rfl⟩
  obtain ⟨wf, hwf⟩ : ∃ wf, wd.alloc (.cells (enC x).toArray 161) = wf := ⟨_, rfl⟩
  have HBf : Hid (Below w1.heap.size w1 wf) := hid (by rw [← hwf]; exact HBd.out.trans ((nbel wd _).mono HBd.out.size))
  have HNw : Hid (∀ ad, some (⟨k8, 0, none⟩ : Addr) = some ad → ∀ j u, ([x].flatMap rtE.f)[j]? = some u → wf.cell? (ad.add j) = some u) := hid (by rw [← hwf]; exact newX rtE wd x _ hk8.symm)
  dsimp only [enC] at hwf
  (try simp only [hwf, hk8])
  have HS : ∀ wx : World, Below w1.heap.size w1 wx → Blk wx p 161 (enC x) ∧ wx.cell? ⟨l.f, 3, none⟩ = some (.slice ax m qx) := fun wx hx => ⟨H1.out.1.below hx, by have := (HV.out.below hx).cell 3; rw [← Hvx.out]; exact this⟩
  refine ⟨HS _ HBf.out, ?_⟩
  clear hwf hk8
  have HRf := hid (HR1.out.below HBf.out)
  have HRwf := hid (HRw.out.fr (X := fun _ => false) (Fr.below HBf.out) (fun _ _ _ => rfl))
  have hrf := HRwf.out.e
  rw [Hvx.out] at hrf
  refine wpList_app_x okE rfl (.tmp 9) (.tmp 11) hrf rfl [x] (by simp [Act.eval, Act.put]; done) (some ⟨k8, 0, none⟩) 1 1 (by simp [Act.eval, Act.put]; done) rfl (fun h => by cases h) HNw.out (by have := Hm.out; show (F.exprs.length + 1) * 48 ≤ _; omega) ?_
  intro v8 w8 ρ8 hr8 hf8 _ _
  obtain ⟨a8, q8, h8⟩ := hr8.out.shape
  rw [List.length_append, List.length_singleton, Hm.out] at h8
  subst h8
  have HP8 := hid (HRf.out.grow (V := V) (V' := { V with e := .slice a8 (m + 1) q8 }) (HV.out.below HBf.out) hf8.out (by decide) (by decide) (.slice a8 (m + 1) q8) 3 rfl (HRwf.out.putE hf8.out hr8.out))
  have hk8 : Blk w8 l.f 109 (flC l V) := hf8.out.keep (HV.out.below HBf.out) HRf.out.rf rfl
  have s1 : Blk w8 p 161 (enC x) := hf8.out.keep (c := 0) (H1.out.1.below HBf.out) (by
    cases hz : ρ p with
    | zero => rfl
    | succ z => have := HR.out.dom p (by rw [hz]; exact Nat.succ_ne_zero z); have := H1.out.2.2; omega) rfl
  have s2 : w8.cell? ⟨l.f, 3, none⟩ = some (.slice ax m qx) := by rw [← Hvx.out]; exact hk8.cell 3
  have f2 : w8.frozen? ⟨l.f, 3, none⟩ = false := hk8.frozen _
  have HF : Hid (∃ ρ', PR N mg ρ' (w8.setCell ⟨l.f, 3, none⟩ (.slice a8 (m + 1) q8)) l bs (F.addE x) ∧ Fr X8 ρ w ρ' (w8.setCell ⟨l.f, 3, none⟩ (.slice a8 (m + 1) q8))) := hid ⟨ρ8, HP8.out.1, (Fr.below H1.out.2.1).trans ((Fr.below HBf.out).trans HP8.out.2.1)⟩
  have hk9 := HP8.out.2.2
  have c9 := hk9.cell 3
  have c9' : (w8.setCell ⟨l.f, 3, none⟩ (.slice a8 (m + 1) q8)).cell? ⟨l.f, 3, none⟩ = some (.slice a8 (m + 1) q8) := c9
  clear hrf hr8 hf8 HRf HNw HBf HBd HP8 hk8 hk9 c9 HRwf HV HRw HR1 HS
  go_wp2_with fail
  refine ⟨⟨s1, s2⟩, ?_⟩
  simp only [QN]
  go_upto_region 2 with fail
  generalize hw9 : w8.setCell _ _ = w9 at c9' HF ⊢
  clear hw9 s1 s2 f2 H1
  have e1 : ((m + 1 : Nat) : Int) - 1 = (m : Int) := by omega
  have e2 : IntKind.i32.wrap (m : Int) = (m : Int) := by rw [IntKind.wrap_i32]; omega
  go_wp2
  go_ret
  exact ⟨rfl, HF⟩
end
end Go.Proofs.Qxb6500883aGreatDoor
