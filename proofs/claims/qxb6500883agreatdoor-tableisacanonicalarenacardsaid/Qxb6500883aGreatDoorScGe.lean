/- Table.internShape. -/
import Derived.Test.Qxb6500883aGreatDoorScGd
namespace Go.Proofs.Qxb6500883aGreatDoor
open Go.RowKit
set_option linter.unusedSimpArgs false
set_option linter.unusedVariables false
def shR (k : SK) : TR := ⟨k.kind, false, 0, k.elem, 0, 0, k.length, ⟨#[]⟩, 0, 0, 0, 0⟩
def skC (k : SK) : List Value := [.int .u8 (k.kind : Int), .int .i32 k.elem, .int .u64 (k.length : Int)]
theorem info_sk : (Tryz.prog.info? 250).map (·.size) = some 3 := by kernel_rfl
theorem load_info_sk {w : World} {g : Nat} {x : SK} (h : Blk w g 250 (skC x)) : (Instr.loadAt 250 (.pointer (some ⟨g, 0, none⟩))).run Tryz.prog w = .ok (.agg (skC x).toArray) w := run_loadAt_mid w g 0 250 (skC x) _ h.rangeAt Tryz.underlying250 rfl info_sk
section
variable {τ τ' : Rl} {w w' w1 w2 : World} {tB : Nat} {V V' : TV} {T T' : TS} {M : TMp}
set_option maxRecDepth 100000 in
set_option maxHeartbeats 1000000 in
theorem internShapeY (h : TbX τ w tB V T M) (k : SK) {i : Nat} (hi : M.sh k = some i) : Calls Tryz.prog 147 #[.pointer (some ⟨tB, 0, none⟩), .int .u8 (k.kind : Int), .int .i32 k.elem, .int .u64 (k.length : Int)] w fun e w' => e = .returned (.tuple #[.int .i32 (i : Int), .bool false]) ∧ Below w.heap.size w w' := by
  obtain ⟨p, hp⟩ : ∃ p, w.heap.size = p := ⟨_, rfl⟩
  have H1 : Hid (Blk (w.alloc (.cells (skC k).toArray 250)) p 250 (skC k) ∧ Below w.heap.size w (w.alloc (.cells (skC k).toArray 250)) ∧ w.heap.size ≤ p) := hid (by
    have k1 := Blk.new w (skC k) 250
    rw [hp] at k1
    exact ⟨k1, nbel w _, by omega⟩)
  have HR := hid h
  have Hi := hid hi
  clear h hi
  dsimp only [skC] at H1 ⊢
  go_enter Tryz.func147, Tryz.ntmps147
  go_upto_region 2 with fail
  (try simp only [hp])
  generalize hw1 : w.alloc _ = w1 at H1 ⊢
  clear hw1 hp
  have HR1 := hid (HR.out.below H1.out.2.1)
  have b7 : w1.cell? ⟨tB, 7, none⟩ = some (.map (some M.ms)) := by rw [← HR1.out.vs]; exact HR1.out.tb.b.cell 7
  obtain ⟨X0, W, hT, hI⟩ := class_mk (fun w' => Drew w1 w')
  have H0 : Hid (∃ y, w1.drew = W y) := hid (hI _ ⟨1, rfl⟩)
  have hne : Nonempty X0 := ⟨H0.out.choose⟩
  have HTT := hid hT
  have j7 : ∀ z, (W z).cell? ⟨tB, 7, none⟩ = some (.map (some M.ms)) := fun y => by obtain ⟨m, e⟩ := hT y; rw [e]; exact b7
  have Hrl : Hid (∀ z, (Instr.loadAt 250 (.pointer (some ⟨p, 0, none⟩))).run Tryz.prog (W z) = .ok (skV k) (W z)) := hid (fun z => load_info_sk (H1.out.1.drew (hT z)))
  have jl : ∀ z, (Instr.lookup 92 (.map (some M.ms)) (skV k) true).run Tryz.prog (W z) = .ok (.tuple #[.int .i32 (i : Int), .bool true]) (W z) := fun z => by
    have := (HR1.out.s.below ((hT z).below _)).lookT (P := Tryz.prog) Tryz.underlying92 keySK k (z := .int .i32 0) (fun w => by kernel_rfl)
    rw [Hi.out] at this
    exact this
  clear hT hI
  refine wp_region_class W (by kernel_rfl) (by kernel_rfl) H0.out ?_
  repeat (first | (go_big_quiet_want; refine quiet_loadO 250 _ rfl ⟨p, 0, none⟩ rfl _ (fun w hx => by obtain ⟨x, rfl⟩ := hx; exact Hrl.out x) ?_; simp only [Act.put, List.setIfInBounds_toArray, List.set_cons_succ, List.set_cons_zero]; go_big_quiet_on) | go_big_quiet_step (fail))
  refine wpQuiet_nil ?_
  intro z
  have HB := hid ((HTT.out z).below w1.heap.size)
  generalize W z = w2 at HB ⊢
  clear j7 jl Hrl H0 HTT hne b7
  have HBB := hid (H1.out.2.1.trans (HB.out.mono H1.out.2.1.size))
  go_wp2
  go_ret2
  exact ⟨rfl, HBB.out⟩
def X51 : Nat → Bool := fun c => c == 50 || c == 51 || c == 55
set_option maxRecDepth 100000 in
set_option maxHeartbeats 1000000 in
theorem internShapeN (h : TbX τ w tB V T M) (k : SK) (hi : M.sh k = none) (hl : T.types.length ≤ 1000000000) : Calls Tryz.prog 147 #[.pointer (some ⟨tB, 0, none⟩), .int .u8 (k.kind : Int), .int .i32 k.elem, .int .u64 (k.length : Int)] w fun e w' => e = .returned (.tuple #[.int .i32 (T.types.length : Int), .bool true]) ∧ Hid (∃ τ' v', TbX τ' w' tB { V with t := v' } { T with types := T.types ++ [shR k] } { M with sh := gup M.sh k (some T.types.length) } ∧ Fr X51 τ w τ' w') := by
  obtain ⟨m, hm⟩ : ∃ m, T.types.length = m := ⟨_, rfl⟩
  have Hm := hid hm
  rw [hm] at hl ⊢
  clear hm
  obtain ⟨p, hp⟩ : ∃ p, w.heap.size = p := ⟨_, rfl⟩
  have H1 : Hid (Blk (w.alloc (.cells (skC k).toArray 250)) p 250 (skC k) ∧ Below w.heap.size w (w.alloc (.cells (skC k).toArray 250)) ∧ w.heap.size ≤ p) := hid (by
    have k1 := Blk.new w (skC k) 250
    rw [hp] at k1
    exact ⟨k1, nbel w _, by omega⟩)
  have HR := hid h
  have Hi := hid hi
  clear h hi
  dsimp only [skC] at H1 ⊢
  go_enter Tryz.func147, Tryz.ntmps147
  go_upto_region 2 with fail
  (try simp only [hp])
  generalize hw1 : w.alloc _ = w1 at H1 ⊢
  clear hw1 hp
  have HR1 := hid (HR.out.below H1.out.2.1)
  have b7 : w1.cell? ⟨tB, 7, none⟩ = some (.map (some M.ms)) := by rw [← HR1.out.vs]; exact HR1.out.tb.b.cell 7
  obtain ⟨X0, W, hT, hI⟩ := class_mk (fun w' => Drew w1 w')
  have H0 : Hid (∃ y, w1.drew = W y) := hid (hI _ ⟨1, rfl⟩)
  have hne : Nonempty X0 := ⟨H0.out.choose⟩
  have HTT := hid hT
  have j7 : ∀ z, (W z).cell? ⟨tB, 7, none⟩ = some (.map (some M.ms)) := fun y => by obtain ⟨m, e⟩ := hT y; rw [e]; exact b7
  have Hrl : Hid (∀ z, (Instr.loadAt 250 (.pointer (some ⟨p, 0, none⟩))).run Tryz.prog (W z) = .ok (skV k) (W z)) := hid (fun z => load_info_sk (H1.out.1.drew (hT z)))
  have jl : ∀ z, (Instr.lookup 92 (.map (some M.ms)) (skV k) true).run Tryz.prog (W z) = .ok (.tuple #[.int .i32 0, .bool false]) (W z) := fun z => by
    have := (HR1.out.s.below ((hT z).below _)).lookT (P := Tryz.prog) Tryz.underlying92 keySK k (z := .int .i32 0) (fun w => by kernel_rfl)
    rw [Hi.out] at this
    exact this
  clear hT hI
  refine wp_region_class W (by kernel_rfl) (by kernel_rfl) H0.out ?_
  repeat (first | (go_big_quiet_want; refine quiet_loadO 250 _ rfl ⟨p, 0, none⟩ rfl _ (fun w hx => by obtain ⟨x, rfl⟩ := hx; exact Hrl.out x) ?_; simp only [Act.put, List.setIfInBounds_toArray, List.set_cons_succ, List.set_cons_zero]; go_big_quiet_on) | go_big_quiet_step (fail))
  refine wpQuiet_nil ?_
  intro z
  have HB := hid ((HTT.out z).below w1.heap.size)
  generalize W z = w2 at HB ⊢
  clear j7 jl Hrl H0 HTT hne b7
  have HBB := hid (H1.out.2.1.trans (HB.out.mono H1.out.2.1.size))
  have HA := hid (addXW (HR1.out.below HB.out) (shR k) (by rw [Hm.out]; exact hl))
  have Hp2 := hid (H1.out.1.below HB.out)
  have Hpw := hid H1.out.2.2
  rw [Hm.out] at HA
  dsimp only [shR, trC] at HA
  clear H1 HR1 HB
  go_wp2_with fail
  refine HA.out.mono ?_
  rintro e w4 ⟨rfl, h4⟩
  obtain ⟨τ4, v4, h4a, h4b⟩ := h4.out
  have HF4 := hid (And.intro h4a h4b)
  clear HA h4 h4a h4b
  have b7 : w4.cell? ⟨tB, 7, none⟩ = some (.map (some M.ms)) := by rw [← HF4.out.1.vs]; exact HF4.out.1.tb.b.cell 7
  have Hp4 : Hid (Blk w4 p 250 (skC k)) := hid (HF4.out.2.keep (c := 0) Hp2.out (by
    cases hz : τ p with
    | zero => rfl
    | succ z => have := HR.out.dom p (by rw [hz]; exact Nat.succ_ne_zero z); have := Hpw.out; omega) rfl)
  go_upto_region 6 with fail
  obtain ⟨X0, W, hT, hI⟩ := class_mk (fun w' => Drew w4 w')
  have H0 : Hid (∃ y, w4.drew = W y) := hid (hI _ ⟨1, rfl⟩)
  have hne : Nonempty X0 := ⟨H0.out.choose⟩
  have HTT := hid hT
  have j7 : ∀ z, (W z).cell? ⟨tB, 7, none⟩ = some (.map (some M.ms)) := fun y => by obtain ⟨m, e⟩ := hT y; rw [e]; exact b7
  have Hrl : Hid (∀ z, (Instr.loadAt 250 (.pointer (some ⟨p, 0, none⟩))).run Tryz.prog (W z) = .ok (skV k) (W z)) := hid (fun z => load_info_sk (Hp4.out.drew (hT z)))
  clear hT hI
  refine wp_region_class_tailT W 6 (by kernel_rfl) (by kernel_rfl) (by kernel_rfl) H0.out ?_
  dsimp only [List.take, List.drop]
  repeat (first | (go_big_quiet_want; refine quiet_loadO 250 _ rfl ⟨p, 0, none⟩ rfl _ (fun w hx => by obtain ⟨x, rfl⟩ := hx; exact Hrl.out x) ?_; simp only [Act.put, List.setIfInBounds_toArray, List.set_cons_succ, List.set_cons_zero]; go_big_quiet_on) | go_big_quiet_step (fail))
  refine wpQuiet_nil ?_
  intro z
  have HD := hid ((HTT.out z).below w4.heap.size)
  generalize W z = w5 at HD ⊢
  clear j7 Hrl H0 HTT hne b7
  have H5 := hid (HF4.out.1.below HD.out)
  obtain ⟨w6, hput, hg6, hu6⟩ := H5.out.s.put (P := Tryz.prog) Tryz.underlying92 keySK k (.int .i32 (m : Int))
  have HF : Hid (∃ τ' v', TbX τ' w6 tB { V with t := v' } { T with types := T.types ++ [shR k] } { M with sh := gup M.sh k (some m) } ∧ Fr X51 τ w τ' w6) := hid (by
    have hf6 : Fr (fun c => c == 55) τ4 w5 τ4 w6 := Fr.upd hu6 (by show (τ4 M.ms == 55) = true; rw [H5.out.rs]; rfl)
    refine ⟨τ4, v4, ⟨H5.out.tb.fr hf6 (fun r h1 h2 => by simp; omega), hf6.dom H5.out.dom, H5.out.vs, H5.out.vu, H5.out.rs, H5.out.ru, ?_, H5.out.u.of (hf6.blk _ H5.out.u.lt (by rw [H5.out.ru]; rfl))⟩, ?_⟩
    · have e : (fun q => idV (gup M.sh k (some m) q)) = gup (fun q => idV (M.sh q)) k (some (.int .i32 (m : Int))) := by
        funext q
        by_cases hq : q = k
        · subst hq; simp only [gup_self]; rfl
        · simp only [gup_ne _ _ hq]
      show MG skV w6 M.ms (fun q => idV (gup M.sh k (some m) q))
      rw [e]
      exact hg6
    · refine ((Fr.below HBB.out).trans (HF4.out.2.mono (fun c hc => ?_))).trans ((Fr.below HD.out).trans (hf6.one rfl))
      unfold X50 at hc
      unfold X51
      rw [hc]
      rfl)
  clear hg6 hu6
  go_wp2
  go_ret2
  exact ⟨rfl, HF⟩
end
end Go.Proofs.Qxb6500883aGreatDoor
