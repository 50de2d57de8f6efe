/- The abstract model: push, fieldOf, refuse, value, alloc. -/
import Derived.Test.Qxb6500888aBaK1
namespace Go.Proofs.Qxb6500888a
open Go.RowKit
set_option linter.unusedSimpArgs false
set_option linter.unusedVariables false
attribute [local irreducible] wdC

set_option maxRecDepth 100000 in
theorem mrefuse_walk (c : Nat) (w : World) : Calls Try.prog 59 #[.int .u8 (c : Int)] w fun e w' => e = .returned (.agg (rzC c 0).toArray) ∧ Below w.heap.size w w' := by
  obtain ⟨r, hr⟩ : ∃ r, w.heap.size = r := ⟨_, rfl⟩
  have hb := Blk.new w (rzC 0 0) 38
  rw [hr] at hb
  have HB := hid hb
  have I0 := hid info_rz
  clear hb
  go_enter Try.func59, Try.ntmps59
  go_wp2_with (refine wpList_store_blk rfl 38 _ _ rfl r rfl (rzC c 0) rfl HB.out rfl I0.out (rz_one c 0) ?_; intro w9 HB9 HU9)
  exact bodyPost_ret (results_blk (cs := rzC c 0) Try.results59 rfl aggRz HB9.out) rfl ⟨rfl, (nbel w _).trans (HU9.out.below (by omega) (by simp))⟩
set_option maxRecDepth 100000 in
theorem mvalue_walk (v : Nat) (w : World) : Calls Try.prog 62 #[.int .u64 (v : Int)] w fun e w' => e = .returned (.agg (rzC 0 v).toArray) ∧ Below w.heap.size w w' := by
  obtain ⟨r, hr⟩ : ∃ r, w.heap.size = r := ⟨_, rfl⟩
  have hb := Blk.new w (rzC 0 0) 38
  rw [hr] at hb
  have HB := hid hb
  have I0 := hid info_rz
  clear hb
  go_enter Try.func62, Try.ntmps62
  go_wp2_with (refine wpList_store_blk rfl 38 _ _ rfl r rfl (rzC 0 v) rfl HB.out rfl I0.out (rz_one 0 v) ?_; intro w9 HB9 HU9)
  exact bodyPost_ret (results_blk (cs := rzC 0 v) Try.results62 rfl aggRz HB9.out) rfl ⟨rfl, (nbel w _).trans (HU9.out.below (by omega) (by simp))⟩
/-- What the model has become. -/
def MdR (w : World) (ρ : Rl) (L : GL) (Y : ML) (G : GS) (M : MS) (w' : World) : Prop := ∃ L' Y' ρ', MdM w' ρ' L' Y' G M ∧ Y'.mB = Y.mB ∧ L.Same L' ∧ Fr bX ρ w ρ' w'
def mpush (M : MS) (m ref : Nat) : MS := { M with roots := fup M.roots m (M.roots m ++ [ref]) }
section
variable {w w' : World} {ρ ρ' : Rl} {L L' : GL} {Y Y' : ML} {G G' : GS} {M M' : MS}
theorem MdM.same (h : MdM w ρ L Y G M) (hb : Below w.heap.size w w') : MdR w ρ L Y G M w' := ⟨L, Y, ρ, h.below hb, rfl, GL.Same.refl _, Fr.below hb⟩
theorem MdR.trans {w'' : World} (h : MdR w ρ L Y G M w') (k : ∀ L' Y' ρ', MdM w' ρ' L' Y' G M → L.Same L' → Y'.mB = Y.mB → MdR w' ρ' L' Y' G' M' w'') : MdR w ρ L Y G' M' w'' := by
  obtain ⟨L', Y', ρ', h1, h2, h3, h4⟩ := h
  obtain ⟨L2, Y2, ρ2, k1, k2, k3, k4⟩ := k L' Y' ρ' h1 h3 h2
  exact ⟨L2, Y2, ρ2, k1, k2.trans h2, h3.trans k3, h4.trans k4⟩
def MuP (w : World) (ρ : Rl) (L : GL) (Y : ML) (G : GS) (M : MS) (m ref : Nat) (e : Ending) (w' : World) : Prop := if (M.roots m).length = 64 then e = .returned (.int .u8 8) ∧ w' = w else e = .returned (.int .u8 0) ∧ MdR w ρ L Y G (mpush M m ref) w'
set_option maxRecDepth 1000000 in
set_option maxHeartbeats 8000000 in
theorem mpush_walk (h : MdM w ρ L Y G M) {m : Nat} (hm : m < 4) (ref : Nat) :
    Calls Try.prog 64 #[.pointer (some ⟨Y.mB, 0, none⟩), .int .i64 (m : Int), .int .u64 (ref : Int)] w fun e w' => MuP w ρ L Y G M m ref e w' := by
  have c1 := h.rcell hm
  obtain ⟨ax, k, hv⟩ := (h.rt m hm).shape
  have hl := h.rl m
  obtain ⟨n, hn⟩ : ∃ n, (M.roots m).length = n := ⟨_, rfl⟩
  rw [hn] at hv hl
  rw [hv] at c1
  have im : (m : Int) < 4 := by omega
  have il : (n : Int) ≤ 64 := by omega
  have HH := hid h
  have Hn := hid hn
  have HV := hid hv
  have Hm := hid hm
  clear h hn hv hm
  by_cases hn64 : n = 64
  · as_aux_lemma =>
    subst hn64
    have HR : Hid (MuP w ρ L Y G M m ref (.returned (.int .u8 8)) w) := hid (by unfold MuP; rw [if_pos Hn.out]; exact ⟨rfl, rfl⟩)
    go_enter Try.func64, Try.ntmps64
    go_wp2
    go_ret
    exact HR.out
  have d1 : ((n : Int) == 64) = false := by simp; omega
  have HS : Hid (∀ wx : World, Below w.heap.size w wx → wx.cell? ⟨Y.mB, 3 + m, none⟩ = some (.slice ax n k)) := hid (fun wx hx => by rw [← HV.out]; exact (HH.out.below hx).rcell Hm.out)
  go_enter Try.func64, Try.ntmps64
  go_upto_region 3 with fail
  clear c1 d1
  refine wp_region_heavy (fun wx => wx.cell? ⟨Y.mB, 3 + m, none⟩ = some (.slice ax n k)) 13 [0, 1, 2, 3, 4, 5, 6, 7, 8, 11, 12] [9, 10] rfl (by kernel_rfl) (by kernel_rfl) (fun d _ _ _ _ h => by cases d <;> exact h) (HS.out _ (Drew.below ⟨1, rfl⟩ _)) ?_
  apply Exists.intro
  refine ⟨?_, ?_⟩
  · intro W hW
    simp only [List.take, opsAt, List.drop, List.cons_append, List.nil_append]
    repeat (go_big_quiet_step (fail))
    exact rfl
  simp only [List.take, List.drop, opsAt, List.cons_append, List.nil_append, wpHv]
  have HBd : Hid (Below w.heap.size w w.drew) := hid (Drew.below ⟨1, rfl⟩ _)
  generalize w.drew = wd at HBd ⊢
  go_wp2_with fail
  obtain ⟨wf, hwf⟩ : ∃ wf, wd.alloc (.cells #[.int .u64 (ref : Int)] 48) = wf := ⟨_, rfl⟩
  have HBf : Hid (Below w.heap.size w wf) := hid (by rw [← hwf]; exact HBd.out.trans ((nbel wd _).mono HBd.out.size))
  have HNw : Hid (∀ ad, some (⟨wd.heap.size, 0, none⟩ : Addr) = some ad → ∀ j u, ([ref].flatMap rtA.f)[j]? = some u → wf.cell? (ad.add j) = some u) := hid (by rw [← hwf]; exact newX rtA wd ref _ rfl)
  (try simp only [hwf])
  refine ⟨HS.out _ HBf.out, ?_⟩
  clear hwf
  have HHf := hid (HH.out.below HBf.out)
  have hrf := HHf.out.rt m Hm.out
  rw [HV.out] at hrf
  refine wpList_app_x okA rfl (.tmp 22) (.tmp 24) hrf rfl [ref] (by simp [Act.eval, Act.put]; done) (some ⟨wd.heap.size, 0, none⟩) 1 1 (by simp [Act.eval, Act.put]; done) rfl (fun h => by cases h) HNw.out (by have := Hn.out; show ((M.roots m).length + 1) * 8 ≤ _; omega) ?_
  intro v8 w8 ρ8 hr8 hf8 _ _
  obtain ⟨a8, k8, h8⟩ := hr8.out.shape
  rw [List.length_append, List.length_singleton, Hn.out] at h8
  subst h8
  have HM8 := hid (HHf.out.setR Hm.out (by rw [List.length_append, List.length_singleton, Hn.out]; omega) hf8.out hr8.out)
  have hbk : w8.heap[Y.mB]? = wf.heap[Y.mB]? := hf8.out.blk _ HHf.out.mb.lt (by rw [HHf.out.rm]; show (12 == 16 + m) = false; simp; omega)
  have s1 : w8.cell? ⟨Y.mB, 3 + m, none⟩ = some (.slice ax n k) := by rw [World.cell?_of_block hbk]; exact HS.out _ HBf.out
  have f1 : w8.frozen? ⟨Y.mB, 3 + m, none⟩ = false := by rw [World.frozen?_of_block hbk]; exact HHf.out.mb.frozen _
  have HR : Hid (MuP w ρ L Y G M m ref (.returned (.int .u8 0)) (w8.setCell ⟨Y.mB, 3 + m, none⟩ (.slice a8 (n + 1) k8))) := hid (by
    unfold MuP
    rw [if_neg (by rw [Hn.out]; exact hn64)]
    exact ⟨rfl, L, _, ρ8, HM8.out.1, rfl, GL.Same.refl _, (Fr.below HBf.out).trans HM8.out.2⟩)
  clear hrf hr8 hf8 HHf HNw HBf HBd HM8 hbk
  go_wp2_with fail
  refine ⟨s1, ?_⟩
  simp only [QN]
  go_wp2
  go_ret
  exact HR.out
def mfieldS (G : GS) (obj i : Nat) : Nat × Nat :=
  match G.head obj with
  | none => (0, 2)
  | some (n, q) => if q ≤ i then (0, 3) else (obj + 1 + i, 0)
set_option maxRecDepth 1000000 in
set_option maxHeartbeats 4000000 in
theorem mfield_walk (h : MdM w ρ L Y G M) (ok : GOk G) (obj i : Nat) (hi : i < 18446744073709551616) :
    Calls Try.prog 65 #[.pointer (some ⟨Y.mB, 0, none⟩), .int .u64 (obj : Int), .int .u64 (i : Int)] w fun e w' => e = .returned (.tuple #[.int .u64 ((mfieldS G obj i).1 : Int), .int .u8 ((mfieldS G obj i).2 : Int)]) ∧ Below w.heap.size w w' := by
  obtain ⟨fv, hfv⟩ : ∃ x, (mfieldS G obj i).1 = x := ⟨_, rfl⟩
  obtain ⟨cv, hcv⟩ : ∃ x, (mfieldS G obj i).2 = x := ⟨_, rfl⟩
  rw [hfv, hcv]
  have Hfc := hid (And.intro hfv hcv)
  clear hfv hcv
  have c1 := h.cells.1
  have HS := hid (shapeOf_walk h.gm obj)
  obtain ⟨⟨n, q⟩, hp⟩ : ∃ z, (G.head obj).getD (0, 0) = z := ⟨_, rfl⟩
  rw [hp] at HS
  have e0 : shV (n, q) = .agg #[.int .i64 (n : Int), .int .i64 (q : Int)] := rfl
  rw [e0] at HS
  have I0 : Hid ((Try.prog.info? 73).map (·.size) = some 2) := hid info_sh
  have HOne : Hid (∀ u ∈ [(.int .i64 (n : Int) : Value), .int .i64 (q : Int)], u.oneCell' = true) := hid (fun u hu => by
    simp only [List.mem_cons, List.not_mem_nil, or_false] at hu
    rcases hu with rfl | rfl <;> rfl)
  have HF : Hid (∀ n' q', G.head obj = some (n', q') → 65536 ≤ obj ∧ obj < 98304 ∧ q' ≤ 8192) := hid (fun n' q' hh => by
    have h1 := ok.hd obj n' q' hh
    have h2 := offA_in h1.1
    exact ⟨h1.1, by omega, by omega⟩)
  clear h e0
  go_enter Try.func65, Try.ntmps65
  go_wp2_with fail
  refine HS.out.mono ?_
  rintro e1 w1 ⟨rfl, hb1⟩
  obtain ⟨sB, hsB⟩ : ∃ x, w1.heap.size = x := ⟨_, rfl⟩
  have HB1 := hid hb1
  have hbz := Blk.new w1 [.int .i64 0, .int .i64 0] 73
  rw [hsB] at hbz
  have HZ := hid hbz
  clear hb1 HS c1 hbz
  go_upto_region 2 with (refine wpList_store_blk rfl 73 _ _ rfl sB rfl [.int .i64 (n : Int), .int .i64 (q : Int)] rfl HZ.out rfl I0.out HOne.out ?_; intro w9 HB9 HU9)
  have HB2 : Hid (Below w.heap.size w w9) := hid (by
    have h1 := nbel w1 (.cells #[.int .i64 0, .int .i64 0] 73)
    have h2 := HB1.out.trans (h1.mono HB1.out.size)
    exact h2.trans (HU9.out.below (by rw [← hsB]; exact HB1.out.size) h2.size))
  have cq : w9.cell? ⟨sB, 1, none⟩ = some (.int .i64 (q : Int)) := HB9.out.cell 1
  clear HB9 HU9 HZ HB1 hsB HOne I0
  cases hh : G.head obj with
  | none =>
    as_aux_lemma =>
    have e1 : mfieldS G obj i = (0, 2) := by unfold mfieldS; rw [hh]
    have e2 := Hfc.out
    rw [e1] at e2
    obtain ⟨rfl, rfl⟩ := e2
    clear hh e1 cq hi HF hp Hfc
    go_wp2
    exact bodyPost_ret (v := .tuple #[.int .u64 0, .int .u8 2]) (by simp [results, Try.results65, go_sem]) rfl ⟨rfl, HB2.out⟩
  | some p =>
    obtain ⟨n', q'⟩ := p
    have hq : (n', q') = (n, q) := by rw [← hp, hh]; rfl
    obtain ⟨rfl, rfl⟩ := Prod.mk.inj hq
    have hin := HF.out n' q' hh
    have iq : (q' : Int) ≤ 8192 := by omega
    have io : (obj : Int) < 98304 := by omega
    by_cases hiq : q' ≤ i
    · as_aux_lemma =>
      have e1 : mfieldS G obj i = (0, 3) := by unfold mfieldS; rw [hh]; exact if_pos hiq
      have e2 := Hfc.out
      rw [e1] at e2
      obtain ⟨rfl, rfl⟩ := e2
      have d1 : decide ((i : Int) ≥ (q' : Int)) = true := decide_eq_true (by omega)
      have d2 : decide ((q' : Int) ≤ (i : Int)) = true := decide_eq_true (by omega)
      have d3 : (q' : Int) ≤ (i : Int) := by omega
      clear hh e1 hi HF hp hq hin
      go_wp2
      exact bodyPost_ret (v := .tuple #[.int .u64 0, .int .u8 3]) (by simp [results, Try.results65, go_sem]) rfl ⟨rfl, HB2.out⟩
    · as_aux_lemma =>
      have e1 : mfieldS G obj i = (obj + 1 + i, 0) := by unfold mfieldS; rw [hh]; exact if_neg hiq
      have e2 := Hfc.out
      rw [e1] at e2
      have d1 : decide ((i : Int) ≥ (q' : Int)) = false := decide_eq_false (by omega)
      have d2 : decide ((q' : Int) ≤ (i : Int)) = false := decide_eq_false (by omega)
      have d3 : (i : Int) < (q' : Int) := by omega
      obtain ⟨hfa, rfl⟩ := e2
      have HFA : Hid (∀ w, Calls Try.prog 35 #[.int .u64 (obj : Int), .int .i64 (i : Int)] w fun e w' => e = .returned (.int .u64 (fv : Int)) ∧ w' = w) := hid (fun w => field_walk hfa (by omega) (by omega) w)
      clear hh e1 hi HF hp hq hin hfa Hfc
      go_wp2_with fail
      refine (HFA.out _).mono ?_
      rintro e w5 ⟨rfl, rfl⟩
      go_wp2
      exact bodyPost_ret (v := .tuple #[.int .u64 (fv : Int), .int .u8 0]) (by simp [results, Try.results65, go_sem]) rfl ⟨rfl, HB2.out⟩
end
end Go.Proofs.Qxb6500888a
