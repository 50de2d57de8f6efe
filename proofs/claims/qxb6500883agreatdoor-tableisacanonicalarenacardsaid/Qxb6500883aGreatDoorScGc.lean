/- Table.add. -/
import Derived.Test.Qxb6500883aGreatDoorScGb
namespace Go.Proofs.Qxb6500883aGreatDoor
open Go.RowKit
set_option linter.unusedSimpArgs false
set_option linter.unusedVariables false
section
variable {τ τ' : Rl} {w w' w1 w2 : World} {tB : Nat} {V : TV} {T : TS}
theorem info_tr : (Tryz.prog.info? 99).map (·.size) = some 12 := by kernel_rfl
theorem load_info_tr {w : World} {g : Nat} {x : TR} (h : Blk w g 99 (trC x)) : (Instr.loadAt 99 (.pointer (some ⟨g, 0, none⟩))).run Tryz.prog w = .ok (.agg (trC x).toArray) w := run_loadAt_mid w g 0 99 (trC x) _ h.rangeAt Tryz.underlying99 rfl info_tr
def X50 : Nat → Bool := fun c => c == 50 || c == 51
set_option maxRecDepth 100000 in
set_option maxHeartbeats 1000000 in
theorem addTbW (h : TbM τ w tB V T) (hd : ∀ g, τ g ≠ 0 → g < w.heap.size) (x : TR) (hl : T.types.length ≤ 1000000000) : Calls Tryz.prog 149 #[.pointer (some ⟨tB, 0, none⟩), .agg (trC x).toArray] w fun e w' => e = .returned (.int .i32 (T.types.length : Int)) ∧ Hid (∃ τ' v', TbM τ' w' tB { V with t := v' } { T with types := T.types ++ [x] } ∧ Fr X50 τ w τ' w') := by
  obtain ⟨p, hp⟩ : ∃ p, w.heap.size = p := ⟨_, rfl⟩
  have H1 : Hid (Blk (w.alloc (.cells (trC x).toArray 99)) p 99 (trC x) ∧ Below w.heap.size w (w.alloc (.cells (trC x).toArray 99)) ∧ w.heap.size ≤ p) := hid (by
    have k := Blk.new w (trC x) 99
    rw [hp] at k
    exact ⟨k, nbel w _, by omega⟩)
  have HR := hid h
  have HD := hid hd
  dsimp only [trC] at H1 ⊢
  obtain ⟨m, hm⟩ : ∃ m, T.types.length = m := ⟨_, rfl⟩
  have Hm := hid hm
  rw [hm] at hl ⊢
  clear h hm hd
  go_enter Tryz.func149, Tryz.ntmps149
  go_upto_region 1 with fail
  (try simp only [hp])
  generalize hw1 : w.alloc _ = w1 at H1 ⊢
  clear hw1 hp
  have HR1 := hid (HR.out.below H1.out.2.1)
  obtain ⟨ax, qx, hvx⟩ := HR1.out.t.shape
  rw [Hm.out] at hvx
  have Hvx := hid hvx
  clear hvx
  refine wp_region_heavy (fun wz => Blk wz p 99 (trC x) ∧ wz.cell? ⟨tB, 0, none⟩ = some (.slice ax m qx)) 8 [0, 1, 2, 3, 4, 5] [6, 7] rfl (by kernel_rfl) (by kernel_rfl) (fun d _ _ _ _ h => by cases d <;> exact h) ⟨H1.out.1.drew ⟨1, rfl⟩, by have := HR1.out.b.cell 0; rw [← Hvx.out]; exact this⟩ ?_
  apply Exists.intro
  refine ⟨?_, ?_⟩
  · intro W hW
    have k2 : ∀ u, (W u).cell? ⟨tB, 0, none⟩ = some (.slice ax m qx) := fun u => (hW u).2
    have rl : ∀ u, (Instr.loadAt 99 (.pointer (some ⟨p, 0, none⟩))).run Tryz.prog (W u) = .ok (.agg (trC x).toArray) (W u) := fun u => load_info_tr (hW u).1
    dsimp only [trC] at rl
    have Hrl := hid rl
    clear hW rl
    simp only [List.take, opsAt, List.drop, List.cons_append, List.nil_append]
    repeat (first | (go_big_quiet_want; refine quiet_loadO 99 _ rfl ⟨p, 0, none⟩ rfl _ (fun w hx => by obtain ⟨x, rfl⟩ := hx; exact Hrl.out x) ?_; simp only [Act.put, List.setIfInBounds_toArray, List.set_cons_succ, List.set_cons_zero]; go_big_quiet_on) | go_big_quiet_step (fail))
    exact rfl
  simp only [List.take, List.drop, opsAt, List.cons_append, List.nil_append, wpHv]
  have HBd : Hid (Below w1.heap.size w1 w1.drew) := hid (Drew.below ⟨1, rfl⟩ _)
  generalize w1.drew = wd at HBd ⊢
  go_wp2_with fail
  obtain ⟨k8, hk8⟩ : ∃ k, wd.heap.size = k := ⟨_, rfl⟩
  obtain ⟨wf, hwf⟩ : ∃ wf, wd.alloc (.cells (trC x).toArray 99) = wf := ⟨_, rfl⟩
  have HBf : Hid (Below w1.heap.size w1 wf) := hid (by rw [← hwf]; exact HBd.out.trans ((nbel wd _).mono HBd.out.size))
  have HNw : Hid (∀ ad, some (⟨k8, 0, none⟩ : Addr) = some ad → ∀ j u, ([x].flatMap rtR.f)[j]? = some u → wf.cell? (ad.add j) = some u) := hid (by rw [← hwf]; exact newX rtR wd x _ hk8.symm)
  dsimp only [trC] at hwf
  (try simp only [hwf, hk8])
  have HS : ∀ wx : World, Below w1.heap.size w1 wx → Blk wx p 99 (trC x) ∧ wx.cell? ⟨tB, 0, none⟩ = some (.slice ax m qx) := fun wx hx => ⟨H1.out.1.below hx, by have := (HR1.out.b.below hx).cell 0; rw [← Hvx.out]; exact this⟩
  refine ⟨HS _ HBf.out, ?_⟩
  clear hwf hk8
  have HRf := hid (HR1.out.below HBf.out)
  have hrf := HRf.out.t
  rw [Hvx.out] at hrf
  refine wpList_app_x okR rfl (.tmp 9) (.tmp 11) hrf rfl [x] (by simp [Act.eval, Act.put]; done) (some ⟨k8, 0, none⟩) 1 1 (by simp [Act.eval, Act.put]; done) rfl (fun h => by cases h) HNw.out (by have := Hm.out; show (T.types.length + 1) * 56 ≤ _; omega) ?_
  intro v8 w8 τ8 hr8 hf8 _ _
  obtain ⟨a8, q8, h8⟩ := hr8.out.shape
  rw [List.length_append, List.length_singleton, Hm.out] at h8
  subst h8
  have HP8 := hid (HRf.out.appT hr8.out hf8.out)
  have hk8 : Blk w8 tB 95 (tbC V) := hf8.out.keep HRf.out.b HRf.out.rb rfl
  have s1 : Blk w8 p 99 (trC x) := hf8.out.keep (c := 0) (H1.out.1.below HBf.out) (by
    cases hz : τ p with
    | zero => rfl
    | succ z => have := HD.out p (by rw [hz]; exact Nat.succ_ne_zero z); have := H1.out.2.2; omega) rfl
  have s2 : w8.cell? ⟨tB, 0, none⟩ = some (.slice ax m qx) := by rw [← Hvx.out]; exact hk8.cell 0
  have f2 : w8.frozen? ⟨tB, 0, none⟩ = false := hk8.frozen _
  have HF : Hid (∃ τ' v', TbM τ' (w8.setCell ⟨tB, 0, none⟩ (.slice a8 (m + 1) q8)) tB { V with t := v' } { T with types := T.types ++ [x] } ∧ Fr X50 τ w τ' (w8.setCell ⟨tB, 0, none⟩ (.slice a8 (m + 1) q8))) := hid ⟨τ8, _, HP8.out.1, (Fr.below H1.out.2.1).trans ((Fr.below HBf.out).trans HP8.out.2)⟩
  have hk9 := HP8.out.1.b
  have c9 := hk9.cell 0
  have c9' : (w8.setCell ⟨tB, 0, none⟩ (.slice a8 (m + 1) q8)).cell? ⟨tB, 0, none⟩ = some (.slice a8 (m + 1) q8) := c9
  clear hrf hr8 hf8 HRf HNw HBf HBd HP8 hk8 hk9 c9 HR1 HS
  go_wp2_with fail
  refine ⟨⟨s1, s2⟩, ?_⟩
  simp only [QN]
  go_upto_region 2 with fail
  generalize hw9 : w8.setCell _ _ = w9 at c9' HF ⊢
  clear hw9 s1 s2 f2 H1
  have e1 : ((m + 1 : Nat) : Int) - 1 = (m : Int) := by omega
  have e2 : IntKind.i32.wrap (m : Int) = (m : Int) := by rw [IntKind.wrap_i32]; omega
  go_wp2
  go_ret
  exact ⟨rfl, HF⟩
end
end Go.Proofs.Qxb6500883aGreatDoor
