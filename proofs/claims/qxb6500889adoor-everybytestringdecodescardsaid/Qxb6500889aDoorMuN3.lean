/- The model: give. -/
import Derived.Test.Qxb6500889aDoorMuN2
namespace Go.Proofs.Qxb6500889aDoor
open Go.RowKit
set_option linter.unusedSimpArgs false
set_option linter.unusedVariables false
theorem info_int : (Tryd.prog.info? 3).map (fun i => (i.zero, i.size, i.bytes)) = some (some (.int .i64 0), 1, 8) := by kernel_rfl
def setHv (N : ML) (m : Nat) (v : Value) : ML := { N with hv := fup N.hv m v }
def setRvM (N : ML) (m : Nat) (v : Value) : ML := { N with rv := fup N.rv m v }
def setIv (N : ML) (v : Value) : ML := { N with iv := v }
section
variable {w w' w'' : World} {σ σ' σ'' : Rl} {N N' : ML} {M M' : MS} {n m : Nat}
theorem Pt.held (h : Pt w σ N M) (hm : m < 4) (hk : ∀ g, g < w.heap.size → σ g ≠ 32 + m → w'.heap[g]? = w.heap[g]?) (ho : ∀ g, g < w.heap.size → σ' g = σ g) {v : Value} {ys : List Nat} (hr : RowK w' σ' 3 .i64 (32 + m) v ys) : Pt w' σ' (setHv N m v) { M with held := fup M.held m ys } := by
  have hol : ∀ g, N.ov.ownBlock = some g → g < w.heap.size := fun g hg => (h.ow.lt g hg).2
  refine ⟨ow_of h.ow (fun g hg => hk g (hol g hg) (by rw [h.ro g hg]; omega)), fun g hg => by rw [ho g (hol g hg)]; exact h.ro g hg, fun i q hq => (h.o i q hq).of (fun g hg hr => ⟨hk g hg (by omega), ho g hg⟩), fun i hi => (h.rt i hi).of (fun g hg hr => ⟨hk g hg (by omega), ho g hg⟩), fun i hi => ?_, h.is.of (fun g hg hr => ⟨hk g hg (by omega), ho g hg⟩)⟩
  show RowK w' σ' _ _ _ (fup N.hv m v i) (fup M.held m ys i)
  by_cases e : i = m
  · subst e
    rw [fup_self, fup_self]; exact hr
  · rw [fup_ne _ _ e, fup_ne _ _ e]
    exact (h.hd i hi).of (fun g hg hr => ⟨hk g hg (by omega), ho g hg⟩)
theorem Pt.root (h : Pt w σ N M) (hm : m < 4) (hk : ∀ g, g < w.heap.size → σ g ≠ 16 + m → w'.heap[g]? = w.heap[g]?) (ho : ∀ g, g < w.heap.size → σ' g = σ g) {v : Value} {ys : List Nat} (hr : RowK w' σ' 3 .i64 (16 + m) v ys) : Pt w' σ' (setRvM N m v) { M with roots := fup M.roots m ys } := by
  have hol : ∀ g, N.ov.ownBlock = some g → g < w.heap.size := fun g hg => (h.ow.lt g hg).2
  refine ⟨ow_of h.ow (fun g hg => hk g (hol g hg) (by rw [h.ro g hg]; omega)), fun g hg => by rw [ho g (hol g hg)]; exact h.ro g hg, fun i q hq => (h.o i q hq).of (fun g hg hr => ⟨hk g hg (by omega), ho g hg⟩), fun i hi => ?_, fun i hi => (h.hd i hi).of (fun g hg hr => ⟨hk g hg (by omega), ho g hg⟩), h.is.of (fun g hg hr => ⟨hk g hg (by omega), ho g hg⟩)⟩
  show RowK w' σ' _ _ _ (fup N.rv m v i) (fup M.roots m ys i)
  by_cases e : i = m
  · subst e
    rw [fup_self, fup_self]; exact hr
  · rw [fup_ne _ _ e, fup_ne _ _ e]
    exact (h.rt i hi).of (fun g hg hr => ⟨hk g hg (by omega), ho g hg⟩)
theorem Pt.issd (h : Pt w σ N M) (hk : ∀ g, g < w.heap.size → σ g ≠ 44 → w'.heap[g]? = w.heap[g]?) (ho : ∀ g, g < w.heap.size → σ' g = σ g) {v : Value} {ys : List Nat} (hr : RowK w' σ' 39 .u64 44 v ys) : Pt w' σ' (setIv N v) { M with iss := ys } := by
  have hol : ∀ g, N.ov.ownBlock = some g → g < w.heap.size := fun g hg => (h.ow.lt g hg).2
  exact ⟨ow_of h.ow (fun g hg => hk g (hol g hg) (by rw [h.ro g hg]; omega)), fun g hg => by rw [ho g (hol g hg)]; exact h.ro g hg, fun i q hq => (h.o i q hq).of (fun g hg hr => ⟨hk g hg (by omega), ho g hg⟩), fun i hi => (h.rt i hi).of (fun g hg hr => ⟨hk g hg (by omega), ho g hg⟩), fun i hi => (h.hd i hi).of (fun g hg hr => ⟨hk g hg (by omega), ho g hg⟩), hr⟩
theorem mC_hv (N : ML) (M : MS) (hm : m < 4) (v : Value) (ys : List Nat) : (mC N M).set (5 + m) v = mC (setHv N m v) { M with held := fup M.held m ys } := by
  rcases (by omega : m = 0 ∨ m = 1 ∨ m = 2 ∨ m = 3) with rfl | rfl | rfl | rfl <;> rfl
theorem mC_rv (N : ML) (M : MS) (hm : m < 4) (v : Value) (ys : List Nat) : (mC N M).set (1 + m) v = mC (setRvM N m v) { M with roots := fup M.roots m ys } := by
  rcases (by omega : m = 0 ∨ m = 1 ∨ m = 2 ∨ m = 3) with rfl | rfl | rfl | rfl <;> rfl
theorem mC_iv (N : ML) (M : MS) (v : Value) (ys : List Nat) : (mC N M).set 13 v = mC (setIv N v) { M with iss := ys } := rfl
theorem mC_gen (N : ML) (M : MS) (hm : m < 4) (g : Nat) : (mC N M).set (9 + m) (.int .u64 (g : Int)) = mC N { M with gen := fup M.gen m g } := by
  rcases (by omega : m = 0 ∨ m = 1 ∨ m = 2 ∨ m = 3) with rfl | rfl | rfl | rfl <;> rfl
/-- What a step of the model leaves. -/
def MOut (w : World) (σ : Rl) (N : ML) (M' : MS) (w' : World) : Prop := ∃ σ' N', MN w' σ' N' M' ∧ N'.mB = N.mB ∧ Fm σ w σ' w'
theorem MOut.same (h : MN w σ N M) (hb : Below w.heap.size w w') : MOut w σ N M w' := ⟨σ, N, h.below hb, rfl, Fm.below hb⟩
theorem MOut.trans (h : MOut w σ N M w') (k : ∀ σ' N', MN w' σ' N' M → N'.mB = N.mB → MOut w' σ' N' M' w'') : MOut w σ N M' w'' := by
  obtain ⟨σ1, N1, h1, h2, h3⟩ := h
  obtain ⟨σ2, N2, k1, k2, k3⟩ := k σ1 N1 h1 h2
  exact ⟨σ2, N2, k1, k2.trans h2, h3.trans k3⟩
theorem MOut.pre (hb : Below w.heap.size w w') (k : MOut w' σ N M' w'') : MOut w σ N M' w'' := by
  obtain ⟨σ2, N2, k1, k2, k3⟩ := k
  exact ⟨σ2, N2, k1, k2, (Fm.below hb).trans k3⟩
/-- A row has been appended to and put into its cell. -/
theorem MN.put2 (h : MN w σ N M) {i : Nat} {v : Value} (hb0 : Below 0 w w') (hk : ∀ g, g < w.heap.size → σ g ≠ 0 → σ g ≠ 1 → True) (hkk : ∀ g, g < w.heap.size → σ g = 0 ∨ σ g = 1 → w'.heap[g]? = w.heap[g]?) (ho : ∀ g, g < w.heap.size → σ' g = σ g) (hd : ∀ g, σ' g ≠ 0 → g < w'.heap.size) (hp : Pt w' σ' N' M') (hN : N'.mB = N.mB) (hc : (mC N M).set i v = mC N' M') : MOut w σ N M' (w'.setCell ⟨N.mB, i, none⟩ v) := by
  have hu : Upd N.mB w' (w'.setCell ⟨N.mB, i, none⟩ v) := (Upd.refl N.mB w').setCell (p := ⟨N.mB, i, none⟩) rfl _
  refine ⟨σ', N', h.put hb0.size ho hd (hkk _ h.mb.lt (.inr h.r1)) hp hN hc, hN, ⟨hu.os.trans hb0.os, hu.tape.trans hb0.tape, hu.output.trans hb0.output, Nat.le_trans hb0.size hu.size, ho, fun g hg h0 => (hu.block g (Nat.lt_of_lt_of_le hg hb0.size) (fun e => by rw [e, h.r1] at h0; omega)).trans (hkk g hg (.inl h0))⟩⟩
set_option maxRecDepth 1000000 in
set_option maxHeartbeats 4000000 in
theorem mgive_walk2 (h : MN w σ N M) (hb : MBd M n) (hn : n ≤ 100000000000) (hm : m < 4) (hl : (M.held m).length < 128) (id : Nat) :
    Calls Tryd.prog 40 #[.pointer (some ⟨N.mB, 0, none⟩), .int .i64 (m : Int), .int .i64 (id : Int)] w fun e w' => e = .returned (.int .u64 ((hN (M.gen m) m (M.held m).length : Nat) : Int)) ∧ MOut w σ N (mGive M m id) w' ∧ ∀ g, g < w.heap.size → σ g ≠ 1 → σ g ≠ 32 + m → σ g ≠ 44 → w'.heap[g]? = w.heap[g]? := by
  obtain ⟨mB, hmB⟩ : ∃ b, N.mB = b := ⟨_, rfl⟩
  have HmB := hid hmB
  obtain ⟨gn, hgn⟩ : ∃ b, M.gen m = b := ⟨_, rfl⟩
  obtain ⟨ln, hln⟩ : ∃ b, (M.held m).length = b := ⟨_, rfl⟩
  obtain ⟨a, k, hv⟩ := (h.pt.hd m hm).shape
  rw [hln] at hv
  have Hv := hid hv
  have Hgn := hid hgn
  have Hln := hid hln
  have HH := hid h
  have HC : Hid (∀ wz, Below w.heap.size w wz → wz.cell? ⟨mB, 5 + m, none⟩ = some (.slice a ln k) ∧ wz.cell? ⟨mB, 9 + m, none⟩ = some (.int .u64 (gn : Int))) := hid (fun wz hz => by
    have := (h.below hz).rcell hm
    rw [hmB, hv, hgn] at this
    exact ⟨this.2.1, this.2.2⟩)
  have hg := hb.gen m hm
  have HHo : Hid (∀ w9 : World, Calls Tryd.prog 62 #[.int .i64 (m : Int), .int .u64 (gn : Int), .int .i64 (ln : Int)] w9 fun e w' => e = .returned (.int .u64 ((hN gn m ln : Nat) : Int)) ∧ w' = w9) := hid (fun w9 => handleOf_walk m gn ln hm (by omega) (by omega) w9)
  rw [hmB, hgn, hln]
  have HG : Hid (mGive M m id = { M with held := fup M.held m (M.held m ++ [id]), iss := M.iss ++ [hN gn m ln] }) := hid (by unfold mGive; rw [hgn, hln])
  generalize hN gn m ln = hv1 at HHo HG
  have hiss := hb.iss
  have ln8 : ln < 128 := by omega
  have i1 : (m : Int) < 4 := by omega
  clear h hb hmB hv hgn hln hg hl
  go_enter Tryd.func40, Tryd.ntmps40
  go_upto_region 1 with fail
  refine wp_region_heavy (fun wz => Below w.heap.size w wz) 16 [0, 1, 2, 3, 4, 5, 6, 7, 8, 9, 10, 11, 12, 13, 14, 15] [] rfl (by kernel_rfl) (by kernel_rfl) (fun d _ _ _ _ h => by cases d <;> exact h) (Drew.below ⟨1, rfl⟩ _) ?_
  apply Exists.intro
  refine ⟨?_, ?_⟩
  · intro W hW
    have q0 : ∀ x, (W x).cell? ⟨mB, 5 + m, none⟩ = some (.slice a ln k) := fun x => (HC.out _ (hW x)).1
    have q1 : ∀ x, (W x).cell? ⟨mB, 9 + m, none⟩ = some (.int .u64 (gn : Int)) := fun x => (HC.out _ (hW x)).2
    clear hW
    simp only [List.take, opsAt, List.drop, List.cons_append, List.nil_append]
    repeat (go_big_quiet_step ((go_at_call 62; exact Calls.class_same (HHo.out _))))
    exact rfl
  simp only [List.take, List.drop, opsAt, List.cons_append, List.nil_append, wpHv, QN]
  have HB0 : Hid (Below w.heap.size w w.drew) := hid (Drew.below ⟨1, rfl⟩ _)
  generalize w.drew = wd at HB0 ⊢
  go_upto_region 2 with fail
  refine wp_region_heavy (fun wz => wz.cell? ⟨mB, 5 + m, none⟩ = some (.slice a ln k)) 13 [0, 1, 2, 3, 4, 5, 6, 7, 8, 11, 12] [9, 10] rfl (by kernel_rfl) (by kernel_rfl) (fun d _ _ _ _ h => by cases d <;> exact h) (HC.out _ (HB0.out.trans (Drew.below ⟨1, rfl⟩ _))).1 ?_
  apply Exists.intro
  refine ⟨?_, ?_⟩
  · intro W hW
    simp only [List.take, opsAt, List.drop, List.cons_append, List.nil_append]
    repeat (go_big_quiet_step (fail))
    exact rfl
  simp only [List.take, List.drop, opsAt, List.cons_append, List.nil_append, wpHv]
  have HBd : Hid (Below w.heap.size w wd.drew) := hid (HB0.out.trans (Drew.below ⟨1, rfl⟩ _))
  generalize wd.drew = wd2 at HBd ⊢
  clear HB0
  go_wp2_with fail
  obtain ⟨wf, hwf⟩ : ∃ wf, wd2.alloc (.cells #[.int .i64 (id : Int)] 3) = wf := ⟨_, rfl⟩
  have HBf : Hid (Below w.heap.size w wf) := hid (by rw [← hwf]; exact HBd.out.trans ((nbel wd2 _).mono HBd.out.size))
  have HNw : Hid (∀ ad, some (⟨wd2.heap.size, 0, none⟩ : Addr) = some ad → ∀ j u, (aK .i64 [id])[j]? = some u → wf.cell? (ad.add j) = some u) := hid (by rw [← hwf]; exact newRow wd2 (aK .i64 [id]) 3 _ rfl)
  (try simp only [hwf])
  refine ⟨(HC.out _ HBf.out).1, ?_⟩
  clear hwf
  have HHf := hid (HH.out.below HBf.out)
  have hrf := HHf.out.pt.hd m hm
  rw [Hv.out] at hrf
  have hbb : ((M.held m).length + 1) * 8 ≤ 140737488355328 := by rw [Hln.out]; omega
  refine wpList_app_rowK rfl (.tmp 30) (.tmp 32) 3 65 .i64 rfl Tryd.underlying65 info_int wf σ (32 + m) (.slice a ln k) (M.held m) [id] (by simp [Act.eval, Act.put]; done) hrf HHf.out.dom (some ⟨wd2.heap.size, 0, none⟩) 1 1 (by simp [Act.eval, Act.put]; done) rfl (fun h => by cases h) HNw.out hbb ?_
  intro v8 w8 σ8 hr8 ho8 hk8 hd8 hb8
  obtain ⟨a8, k8, h8⟩ := hr8.out.shape
  rw [List.length_append, List.length_singleton, Hln.out] at h8
  subst h8
  have hM8 := HHf.out.put2 (i := 5 + m) (v := .slice a8 (ln + 1) k8) hb8 (fun _ _ _ _ => trivial) (fun g hg hr => hk8 g hg (by omega)) ho8 hd8 (HHf.out.pt.held hm hk8 ho8 hr8.out) rfl (mC_hv N M hm _ _)
  have HM8 : Hid (MOut w σ N { M with held := fup M.held m (M.held m ++ [id]) } (w8.setCell ⟨mB, 5 + m, none⟩ (.slice a8 (ln + 1) k8))) := hid (by
    rw [HmB.out] at hM8
    exact MOut.pre HBf.out hM8)
  have HK8 : Hid (∀ g, g < w.heap.size → σ g ≠ 1 → σ g ≠ 32 + m → (w8.setCell ⟨mB, 5 + m, none⟩ (.slice a8 (ln + 1) k8)).heap[g]? = w.heap[g]?) := hid (fun g hg h1 h2 => by
    have hne : g ≠ mB := fun e => h1 (by rw [e, ← HmB.out]; exact HH.out.r1)
    have hu : Upd mB w8 (w8.setCell ⟨mB, 5 + m, none⟩ (.slice a8 (ln + 1) k8)) := (Upd.refl mB w8).setCell (p := ⟨mB, 5 + m, none⟩) rfl _
    have hl : g < wf.heap.size := Nat.lt_of_lt_of_le hg HBf.out.size
    rw [hu.block g (Nat.lt_of_lt_of_le hl hb8.size) hne, hk8 g hl h2, HBf.out.block g hg])
  have hmlt : mB < wf.heap.size := by rw [← HmB.out]; exact HHf.out.mb.lt
  have hk8m : w8.heap[mB]? = wf.heap[mB]? := hk8 mB hmlt (by have := HHf.out.r1; rw [HmB.out] at this; rw [this]; omega)
  have c8 : w8.cell? ⟨mB, 5 + m, none⟩ = some (.slice a ln k) := by rw [← (HC.out _ HBf.out).1]; exact World.cell?_of_block hk8m
  have f8 : w8.frozen? ⟨mB, 5 + m, none⟩ = false := by
    rw [World.frozen?_of_block (w := wf) hk8m]
    have := HHf.out.mb.frozen (5 + m)
    rw [HmB.out] at this
    exact this
  clear hr8 ho8 hk8 hd8 hrf HHf HNw HBf HBd hb8 hM8 hk8m hmlt
  go_wp2_with fail
  refine ⟨c8, ?_⟩
  simp only [QN]
  go_upto_region 3 with fail
  generalize w8.setCell ⟨mB, 5 + m, none⟩ (.slice a8 (ln + 1) k8) = w9 at HM8 HK8 ⊢
  clear c8 f8 HC Hv Hln Hgn
  obtain ⟨σ1, N1, hM1, hB1, hF1⟩ := HM8.out
  have HM1 := hid hM1
  have HF1 := hid hF1
  have HB1 : Hid (N1.mB = mB) := hid (hB1.trans HmB.out)
  obtain ⟨ia, ik, hiv⟩ := hM1.pt.is.shape
  obtain ⟨li, hli⟩ : ∃ x, M.iss.length = x := ⟨_, rfl⟩
  have hiv' : N1.iv = .slice ia li ik := by rw [hiv, ← hli]
  have cI : w9.cell? ⟨mB, 13, none⟩ = some (.slice ia li ik) := by
    have := hM1.cell 13
    rw [HB1.out] at this
    rw [this, ← hiv']
    rfl
  have HOw := hid (hM1.pt.is)
  rw [hiv'] at HOw
  have li9 : li ≤ 100000000000 := by omega
  have hbb : (li + 1) * 8 ≤ 140737488355328 := by omega
  have Hli := hid hli
  have Hbb : Hid ((M.iss.length + 1) * 8 ≤ 140737488355328) := hid (by rw [hli]; exact hbb)
  have HOw2 : Hid (RowK (w9.alloc (.cells #[.int .u64 (hv1 : Int)] 39)) σ1 39 .u64 44 (.slice ia li ik) M.iss) := hid (HOw.out.of (fun g hg _ => ⟨(nbel w9 _).block g hg, rfl⟩))
  have HNws : Hid (∀ ad, some (⟨w9.heap.size, 0, none⟩ : Addr) = some ad → ∀ j u, (aK .u64 [hv1])[j]? = some u → (w9.alloc (.cells #[.int .u64 (hv1 : Int)] 39)).cell? (ad.add j) = some u) := hid (newRow w9 (aK .u64 [hv1]) 39 _ rfl)
  have HMa := hid (hM1.below (nbel w9 (.cells #[.int .u64 (hv1 : Int)] 39)))
  have cIa : (w9.alloc (.cells #[.int .u64 (hv1 : Int)] 39)).cell? ⟨mB, 13, none⟩ = some (.slice ia li ik) := by
    have := HMa.out.cell 13
    rw [HB1.out] at this
    rw [this, ← hiv']
    rfl
  have HcF : Hid (∀ w10 : World, (∀ g, g < (w9.alloc (.cells #[.int .u64 (hv1 : Int)] 39)).heap.size → σ1 g ≠ 44 → w10.heap[g]? = (w9.alloc (.cells #[.int .u64 (hv1 : Int)] 39)).heap[g]?) → w10.cell? ⟨mB, 13, none⟩ = some (.slice ia li ik) ∧ w10.frozen? ⟨mB, 13, none⟩ = false) := hid (fun w10 hk => by
    have hmlt := HMa.out.mb.lt
    have hr1 := HMa.out.r1
    have hf := HMa.out.mb.frozen 13
    rw [HB1.out] at hmlt hr1 hf
    have e := hk mB hmlt (by rw [hr1]; omega)
    exact ⟨by rw [← cIa]; exact World.cell?_of_block e, by rw [World.frozen?_of_block e]; exact hf⟩)
  clear hM1 hB1 hF1 hiv hiv' hli HM8 hbb cIa HOw
  go_wp2_with (at_builtin; refine wpList_app_rowK rfl (.tmp 41) (.tmp 43) 39 40 .u64 rfl Tryd.underlying40 info_hand _ σ1 44 (.slice ia li ik) M.iss [hv1] rfl HOw2.out HMa.out.dom (some ⟨w9.heap.size, 0, none⟩) 1 1 rfl rfl (fun h => by cases h) HNws.out Hbb.out ?_; intro v10 w10 σ10 hr10 ho10 hk10 hd10 hb10; obtain ⟨c10, f10⟩ := HcF.out w10 hk10; obtain ⟨a10, k10, h10⟩ := hr10.out.shape; subst h10)
  go_ret
  refine ⟨rfl, ?_⟩
  rw [HG.out]
  have hM10 := HMa.out.put2 (i := 13) (v := .slice a10 (M.iss ++ [hv1]).length k10) hb10 (fun _ _ _ _ => trivial) (fun g hg hr => hk10 g hg (by omega)) ho10 hd10 (HMa.out.pt.issd hk10 ho10 hr10.out) rfl (mC_iv N1 _ _ _)
  rw [HB1.out, List.length_append, List.length_singleton] at hM10
  obtain ⟨σ2, N2, k1, k2, k3⟩ := MOut.pre (nbel w9 _) hM10
  refine ⟨⟨σ2, N2, k1, k2.trans (HB1.out.trans HmB.out.symm), HF1.out.trans k3⟩, fun g hg h1 h2 h3 => ?_⟩
  have hg9 : g < w9.heap.size := Nat.lt_of_lt_of_le hg HF1.out.size
  have hs : σ1 g = σ g := HF1.out.old g hg
  have hne : g ≠ mB := fun e => h1 (by rw [← hs, e, ← HB1.out]; exact HM1.out.r1)
  have hga : g < (w9.alloc (.cells #[.int .u64 (hv1 : Int)] 39)).heap.size := Nat.lt_of_lt_of_le hg9 (nbel w9 _).size
  have hu : Upd mB w10 (w10.setCell ⟨mB, 13, none⟩ (.slice a10 (M.iss.length + 1) k10)) := (Upd.refl mB w10).setCell (p := ⟨mB, 13, none⟩) rfl _
  have e1 := hu.block g (Nat.lt_of_lt_of_le hga hb10.size) hne
  have e2 := hk10 g hga (by rw [hs]; exact h3)
  have e3 := (nbel w9 (.cells #[.int .u64 (hv1 : Int)] 39)).block g hg9
  have e4 := HK8.out g hg h1 h2
  have e5 := e1.trans (e2.trans (e3.trans e4))
  exact e5
theorem mgive_walk (h : MN w σ N M) (hb : MBd M n) (hn : n ≤ 100000000000) (hm : m < 4) (hl : (M.held m).length < 128) (id : Nat) :
    Calls Tryd.prog 40 #[.pointer (some ⟨N.mB, 0, none⟩), .int .i64 (m : Int), .int .i64 (id : Int)] w fun e w' => e = .returned (.int .u64 ((hN (M.gen m) m (M.held m).length : Nat) : Int)) ∧ MOut w σ N (mGive M m id) w' :=
  (mgive_walk2 h hb hn hm hl id).mono (fun e w' ⟨k1, k2, _⟩ => ⟨k1, k2⟩)
end
end Go.Proofs.Qxb6500889aDoor
