/- The heap: PopRoot, PushRoot, free. -/
import Derived.Test.Qxb6500889aDoorMuH2
namespace Go.Proofs.Qxb6500889aDoor
open Go.RowKit
set_option linter.unusedSimpArgs false
set_option linter.unusedVariables false

/-- A row has grown. -/
theorem RowA.grow {w w' : World} {ρ : Rl} {c : Nat} {v v' : Value} {xs ys : List Nat} (h : RowA w ρ c v xs) (hd : ∀ g, ρ g ≠ 0 → g < w.heap.size) (ho : w'.ownsRow 0 50 1 v' (xs.length + ys.length) (aC xs ++ aC ys))
    (hk : ∀ k, k < w.heap.size → (∀ g, v.ownBlock = some g → k ≠ g) → w'.heap[k]? = w.heap[k]?) (hg : ∀ g, v'.ownBlock = some g → v.ownBlock = some g ∨ g = w.heap.size) (hs : w.heap.size ≤ w'.heap.size) :
    ∃ ρ' : Rl, RowA w' ρ' c v' (xs ++ ys) ∧ (∀ g, g < w.heap.size → ρ' g = ρ g) ∧ (∀ g, g < w.heap.size → ρ g ≠ c → w'.heap[g]? = w.heap[g]?) ∧ (∀ g, ρ' g ≠ 0 → g < w'.heap.size) := by
  refine ⟨fun g => if v'.ownBlock = some g then c else ρ g, ⟨?_, fun g hg' => by rw [if_pos hg']⟩, fun g hg' => ?_, fun g hg' hne => hk g hg' (fun g' hg2 e => hne (by rw [e]; exact h.role g' hg2)), fun g hg' => ?_⟩
  · rw [List.length_append]
    have e : aC (xs ++ ys) = aC xs ++ aC ys := by simp [aC]
    rw [e]
    exact ho
  · dsimp only
    by_cases hb : v'.ownBlock = some g
    · rw [if_pos hb]
      rcases hg g hb with h1 | h1
      · exact (h.role g h1).symm
      · omega
    · rw [if_neg hb]
  · dsimp only at hg'
    by_cases hb : v'.ownBlock = some g
    · exact (ho.lt g hb).2
    · rw [if_neg hb] at hg'
      exact Nat.lt_of_lt_of_le (hd g hg') hs
section
variable {w w' : World} {ρ ρ' : Rl} {L : HL} {H : HS}
def setRv (L : HL) (m : Nat) (v : Value) : HL := { L with rv := fup L.rv m v }
theorem hC_setR (L : HL) (H : HS) (R : Nat → List Nat) {m : Nat} (hm : m < 4) (v : Value) : (hC L H).set (2 + m) v = hC (setRv L m v) { H with roots := R } := by
  rcases (by omega : m = 0 ∨ m = 1 ∨ m = 2 ∨ m = 3) with rfl | rfl | rfl | rfl <;> rfl
theorem hC_setN (L : HL) (H : HS) {m : Nat} (hm : m < 4) (b : Bool) : (hC L H).set (6 + m) (.bool b) = hC L { H with run := fup H.run m b } := by
  rcases (by omega : m = 0 ∨ m = 1 ∨ m = 2 ∨ m = 3) with rfl | rfl | rfl | rfl <;> rfl
/-- A root stack is another row now. -/
theorem HM.root (h : HM w ρ L H) {m : Nat} (hm : m < 4) {v : Value} {ys : List Nat} (hs : w.heap.size ≤ w'.heap.size) (hb : ∀ g, g < w.heap.size → ρ g ≠ 16 + m → w'.heap[g]? = w.heap[g]?) (ho : ∀ g, g < w.heap.size → ρ' g = ρ g) (hd : ∀ g, ρ' g ≠ 0 → g < w'.heap.size) (hr : RowA w' ρ' (16 + m) v ys) :
    HM (w'.setCell ⟨L.hB, 2 + m, none⟩ v) ρ' (setRv L m v) { H with roots := fup H.roots m ys } := by
  have e : ∀ k, k < w.heap.size → ρ k ≠ 16 + m → ρ k ≠ 1 → (w'.setCell ⟨L.hB, 2 + m, none⟩ v).heap[k]? = w.heap[k]? ∧ ρ' k = ρ k := fun k hk h1 h2 => by
    refine ⟨?_, ho k hk⟩
    rw [Below.heap_setCell _ _ _ _ (fun e => h2 (by rw [show k = L.hB from e]; exact h.r1))]
    exact hb k hk h1
  have hbH : Blk w' L.hB 85 (hC L H) := h.hb.of (hb _ h.hb.lt (by rw [h.r1]; omega))
  have hb2 := hbH.set (2 + m) v
  rw [hC_setR L H (fup H.roots m ys) hm] at hb2
  obtain ⟨E, p1, p2, p3⟩ := h.mo
  obtain ⟨F, q1, q2, q3⟩ := h.mc
  have e2 := e _ h.tk.lt (by rw [h.r2]; omega) (by rw [h.r2]; omega)
  have e3 := e _ p1.lt (by rw [h.r3]; omega) (by rw [h.r3]; omega)
  have e4 := e _ q1.lt (by rw [h.r4]; omega) (by rw [h.r4]; omega)
  refine ⟨hb2, h.tk.of e2.1, ⟨E, p1.of e3.1, p2, p3⟩, ⟨F, q1.of e4.1, q2, q3⟩, fun a x hx => ?_, fun i hi => ?_, by rw [show (setRv L m v).hB = L.hB from rfl, ho _ h.hb.lt]; exact h.r1, by rw [show (setRv L m v).tB = L.tB from rfl, e2.2]; exact h.r2, by rw [show (setRv L m v).mO = L.mO from rfl, e3.2]; exact h.r3, by rw [show (setRv L m v).mC = L.mC from rfl, e4.2]; exact h.r4, fun g hg => by have := hd g hg; simpa [World.setCell] using this⟩
  · have := (h.o a x hx).of (w' := w'.setCell ⟨L.hB, 2 + m, none⟩ v) (ρ' := ρ') (fun g hg hr => e g hg (by omega) (by omega))
    exact ⟨this.o, this.r, this.d, this.ro, this.rr, this.rd, this.sz⟩
  · by_cases him : i = m
    · subst him
      show RowA _ _ _ (fup L.rv i v i) (fup H.roots i ys i)
      rw [fup_self, fup_self]
      refine hr.of (fun g hg hgr => ⟨Below.heap_setCell _ _ _ _ (fun e => ?_), rfl⟩)
      have h1 : ρ' L.hB = 1 := by rw [ho _ h.hb.lt]; exact h.r1
      rw [show g = L.hB from e, h1] at hgr
      omega
    · show RowA _ _ _ (fup L.rv m v i) (fup H.roots m ys i)
      rw [fup_ne _ _ him, fup_ne _ _ him]
      exact (h.rt i hi).of (fun g hg hr => e g hg (by omega) (by omega))
theorem HM.runs (h : HM w ρ L H) {m : Nat} (hm : m < 4) (b : Bool) : HM (w.setCell ⟨L.hB, 6 + m, none⟩ (.bool b)) ρ L { H with run := fup H.run m b } ∧ Fr ρ w ρ (w.setCell ⟨L.hB, 6 + m, none⟩ (.bool b)) := by
  have hu : Upd L.hB w (w.setCell ⟨L.hB, 6 + m, none⟩ (.bool b)) := (Upd.refl L.hB w).setCell (p := ⟨L.hB, 6 + m, none⟩) rfl _
  refine ⟨h.setH hu ?_ ⟨rfl, rfl, rfl, rfl, rfl, rfl, rfl⟩ ⟨rfl, rfl, rfl⟩ h.rt, Fr.upd hu (by rw [h.r1]; omega)⟩
  have := h.hb.set (6 + m) (.bool b)
  rw [hC_setN L H hm] at this
  exact this
set_option maxRecDepth 1000000 in
set_option maxHeartbeats 2000000 in
theorem popRoot_walk (h : HM w ρ L H) {m : Nat} (hm : m < 4) {xs : List Nat} {x : Nat} (hx : H.roots m = xs ++ [x]) :
    Calls Tryd.prog 75 #[.pointer (some ⟨L.hB, 0, none⟩), .int .i64 (m : Int)] w fun e w' => e = .returned (.tuple #[.int .u64 (x : Int), .bool true]) ∧ ∃ L', HM w' ρ L' { H with roots := fup H.roots m xs, run := fup H.run m true } ∧ L'.hB = L.hB ∧ Fr ρ w ρ w' := by
  have hrt := h.rt m hm
  rw [hx] at hrt
  obtain ⟨g, k, hv, cx⟩ := hrt.get (i := xs.length) (x := x) (by simp)
  have c0 := h.rcell hm
  have hle := hrt.le
  unfold maxLen at hle
  simp only [List.length_append, List.length_singleton] at hv hle
  rw [hv] at c0 hrt
  obtain ⟨n, hn⟩ : ∃ n, xs.length = n := ⟨_, rfl⟩
  rw [hn] at c0 hrt cx hle
  have hcut := hrt.cut (j := n) (by simp; omega)
  rw [List.take_left' hn] at hcut
  have hkc : n + 1 ≤ k := by
    rcases hrt.own.2 with ⟨h0, _⟩ | ⟨g', cap, cur, he, _, _, h7, _⟩
    · cases h0
    · injection he with _ _ h3
      simp at h7
      omega
  have hkm : (k : Int) ≤ 9223372036854775807 := by
    rcases hrt.own.2 with ⟨h0, _⟩ | ⟨g', cap, cur, he, _, _, _, h8, _⟩
    · cases h0
    · injection he with _ _ h3
      unfold maxLen at h8
      omega
  have HH := hid h
  have HC := hid hcut
  obtain ⟨X, W, hT, hI⟩ := class_mk (fun w' => Drew w w')
  have H0 : Hid (∃ y, w.drew = W y) := hid (hI _ ⟨1, rfl⟩)
  have hne : Nonempty X := ⟨H0.out.choose⟩
  have d0 : ∀ y, (W y).cell? ⟨L.hB, 2 + m, none⟩ = some (.slice (some ⟨g, 0, none⟩) (n + 1) k) := fun y => by rw [← c0]; exact ((h.hb.drew (hT y)).cell _).trans (h.hb.cell _).symm
  have HTT := hid hT
  obtain ⟨hB, hhB⟩ : ∃ b, L.hB = b := ⟨_, rfl⟩
  rw [hhB] at c0 d0
  rw [hhB]
  have HhB := hid hhB
  have i1 : (m : Int) < 4 := by omega
  have i2 : (n : Int) < (n : Int) + 1 := by omega
  have i3 : ((n : Int) + 1 == 0) = false := by simp; omega
  clear h hx hrt hv hcut hT hI hn hhB
  go_enter Tryd.func75, Tryd.ntmps75
  go_upto_region 5 with fail
  clear c0 cx
  refine wp_region_class_tailT W 13 (by kernel_rfl) (by kernel_rfl) (by kernel_rfl) H0.out ?_
  dsimp only [List.take, List.drop]
  repeat (go_big_quiet_step (fail))
  refine wpQuiet_nil ?_
  intro z
  have HZ := hid (HTT.out z)
  generalize W z = wz at HZ ⊢
  clear d0 H0 HTT
  have HHz := hid (HH.out.below (Drew.below HZ.out _))
  have c1 : wz.cell? ⟨hB, 2 + m, none⟩ = some (L.rv m) := by rw [← HhB.out]; exact HHz.out.rcell hm
  have f1 : wz.frozen? ⟨hB, 2 + m, none⟩ = false := by rw [← HhB.out]; exact HHz.out.hb.frozen _
  have HH2 : Hid (HM (wz.setCell ⟨hB, 2 + m, none⟩ (.slice (some ⟨g, 0, none⟩) n k)) ρ (setRv L m (.slice (some ⟨g, 0, none⟩) n k)) { H with roots := fup H.roots m xs }) := hid (by
    rw [← HhB.out]
    exact HHz.out.root hm (Nat.le_refl _) (fun _ _ _ => rfl) (fun _ _ => rfl) HHz.out.dom (HC.out.of (fun g' hg' _ => ⟨(Drew.below HZ.out _ : Below w.heap.size w wz).block g' hg', rfl⟩)))
  have HF2 : Hid (Fr ρ w ρ (wz.setCell ⟨hB, 2 + m, none⟩ (.slice (some ⟨g, 0, none⟩) n k))) := hid ((Fr.below (Drew.below HZ.out _)).trans (Fr.upd ((Upd.refl hB wz).setCell (p := ⟨hB, 2 + m, none⟩) rfl _) (by rw [← HhB.out, HHz.out.r1]; omega)))
  go_upto_region 6 with fail
  generalize wz.setCell ⟨hB, 2 + m, none⟩ (.slice (some ⟨g, 0, none⟩) n k) = w2 at HH2 HF2 ⊢
  clear c1 f1
  have c2 : w2.cell? ⟨hB, 6 + m, none⟩ = some (.bool (H.run m)) := by rw [← HhB.out]; exact HH2.out.ncell hm
  have f2 : w2.frozen? ⟨hB, 6 + m, none⟩ = false := by rw [← HhB.out]; exact HH2.out.hb.frozen _
  have HR := hid (HH2.out.runs hm true)
  rw [show (setRv L m (.slice (some ⟨g, 0, none⟩) n k)).hB = hB from HhB.out] at HR
  go_wp2_with fail
  exact bodyPost_ret (v := .tuple #[.int .u64 (x : Int), .bool true]) (by simp [results, Tryd.results75, go_sem]) rfl ⟨rfl, _, HR.out.1, HhB.out, HF2.out.trans HR.out.2⟩
theorem info_addr : ∃ i, Tryd.prog.info? 50 = some i ∧ i.zero = some (.int .u64 0) ∧ i.size = 1 ∧ i.bytes = 8 := by
  have h : (Tryd.prog.info? 50).map (fun i => (i.zero, i.size, i.bytes)) = some (some (.int .u64 0), 1, 8) := by kernel_rfl
  obtain ⟨i, hi, he⟩ := Option.map_eq_some_iff.1 h
  simp only [Prod.mk.injEq] at he
  exact ⟨i, hi, he.1, he.2.1, he.2.2⟩
theorem aC_one (l : List Nat) : ∀ u ∈ aC l, u.oneCell' = true := by
  intro u hu
  unfold aC at hu
  obtain ⟨x, _, rfl⟩ := List.mem_map.1 hu
  rfl
/-- Addresses appended to a row. -/
theorem wpList_app_row {ops : Array Oper} {rest : List Oper} {o : Oper} {a : Act} {Q : Exit → Act → World → Prop} (hgd : o.guard = none) (s x : Operand)
    (ho : o.op = .call { callee := .builtin .append, args := #[s, x], argTypes := #[80, 80] })
    (w : World) (ρ : Rl) (c : Nat) (v : Value) (xs ys : List Nat) (hs : a.eval s = v) (hA : RowA w ρ c v xs) (hd : ∀ g, ρ g ≠ 0 → g < w.heap.size) (ax : Option Addr) (n k : Nat) (hx : a.eval x = .slice ax n k) (hm : ys.length = n) (hm0 : ax = none → n = 0 ∧ k = 0)
    (hnews : ∀ ad, ax = some ad → ∀ j u, (aC ys)[j]? = some u → w.cell? (ad.add j) = some u) (hb : (xs.length + n) * 8 ≤ 140737488355328)
    (h : ∀ v' w' ρ', Hid (RowA w' ρ' c v' (xs ++ ys)) → (∀ g, g < w.heap.size → ρ' g = ρ g) → (∀ g, g < w.heap.size → ρ g ≠ c → w'.heap[g]? = w.heap[g]?) → (∀ g, ρ' g ≠ 0 → g < w'.heap.size) → Below 0 w w' → wpList Tryd.prog ops Q rest (a.put o.dst v') w') : wpList Tryd.prog ops Q (o :: rest) a w := by
  obtain ⟨i0, hi, hz0, hz1, hz2⟩ := info_addr
  subst hm
  refine wpList_append_row w hgd s x 80 ho 0 50 i0 (.int .u64 0) 1 8 Tryd.underlying80 hi hz0 hz1 hz2 rfl (by decide) v xs.length (aC xs) hs hA.own ax ys.length k (aC ys) hx (by simp [aC]) hm0 hnews (aC_one ys) hb (by decide) (Nat.zero_le _) ?_
  intro v' w' h1 h2 h3 h4
  obtain ⟨ρ', r1, r2, r3, r4⟩ := hA.grow hd h1 h3 h4 h2.size
  exact h v' w' ρ' (hid r1) r2 r3 r4 h2
theorem newA (W : World) (x : Nat) (g : Nat) (hg : g = W.heap.size) : ∀ ad, some (⟨g, 0, none⟩ : Addr) = some ad → ∀ j u, (aC [x])[j]? = some u → (W.alloc (.cells #[.int .u64 (x : Int)] 50)).cell? (ad.add j) = some u := newRow W (aC [x]) 50 g hg
theorem nbel (w : World) (o : Obj) : Below w.heap.size w (w.alloc o) := Below.alloc (Below.refl _ _) (Nat.le_refl _) _
/-- What PushRoot answers. -/
def PushP (w : World) (ρ : Rl) (L : HL) (H : HS) (m x : Nat) (e : Ending) (w' : World) : Prop :=
  if (H.roots m).length = 64 then e = .returned (.bool false) ∧ w' = w
  else e = .returned (.bool true) ∧ ∃ L' ρ', HM w' ρ' L' { H with roots := fup H.roots m (H.roots m ++ [x]) } ∧ L'.hB = L.hB ∧ Fr ρ w ρ' w'
set_option maxRecDepth 1000000 in
set_option maxHeartbeats 2000000 in
theorem pushRoot_walk (h : HM w ρ L H) {m : Nat} (hm : m < 4) (hl : (H.roots m).length ≤ 64) (x : Nat) :
    Calls Tryd.prog 74 #[.pointer (some ⟨L.hB, 0, none⟩), .int .i64 (m : Int), .int .u64 (x : Int)] w fun e w' => PushP w ρ L H m x e w' := by
  have hrt := h.rt m hm
  have c0 := h.rcell hm
  obtain ⟨ax, k, hv⟩ := hrt.shape
  rw [hv] at c0
  have HH := hid h
  have HV := hid hv
  obtain ⟨n, hn⟩ : ∃ n, (H.roots m).length = n := ⟨_, rfl⟩
  have Hn := hid hn
  rw [hn] at c0 hl
  obtain ⟨hB, hhB⟩ : ∃ b, L.hB = b := ⟨_, rfl⟩
  rw [hhB] at c0
  rw [hhB]
  have HhB := hid hhB
  have i1 : (m : Int) < 4 := by omega
  by_cases h64 : n = 64
  · subst h64
    clear h hrt hv hhB hn
    go_enter Tryd.func74, Tryd.ntmps74
    go_wp2
    go_ret
    show PushP _ _ _ _ _ _ _ _
    unfold PushP
    rw [if_pos Hn.out]
    exact ⟨rfl, rfl⟩
  have d64 : ((n : Int) == 64) = false := by simp; omega
  clear h hrt hv hhB hn
  go_enter Tryd.func74, Tryd.ntmps74
  go_upto_region 3 with fail
  refine wp_region_heavy (fun w3 => w3.cell? ⟨hB, 2 + m, none⟩ = some (.slice ax n k)) 13 [0, 1, 2, 3, 4, 5, 6, 7, 8, 11, 12] [9, 10] rfl (by kernel_rfl) (by kernel_rfl) (fun d _ _ _ _ h => by cases d <;> exact h) c0 ?_
  apply Exists.intro
  refine ⟨?_, ?_⟩
  · intro W hW
    simp only [List.take, opsAt, List.drop, List.cons_append, List.nil_append]
    repeat (go_big_quiet_step (fail))
    exact rfl
  simp only [List.take, List.drop, opsAt, List.cons_append, List.nil_append, wpHv]
  have HBd : Hid (Below w.heap.size w w.drew) := hid (Drew.below ⟨1, rfl⟩ _)
  generalize w.drew = wd at HBd ⊢
  clear c0
  go_wp2_with fail
  obtain ⟨wf, hwf⟩ : ∃ wf, wd.alloc (.cells #[.int .u64 (x : Int)] 50) = wf := ⟨_, rfl⟩
  have HBf : Hid (Below w.heap.size w wf) := hid (by rw [← hwf]; exact HBd.out.trans ((nbel wd _).mono HBd.out.size))
  have HNw : Hid (∀ ad, some (⟨wd.heap.size, 0, none⟩ : Addr) = some ad → ∀ j u, (aC [x])[j]? = some u → wf.cell? (ad.add j) = some u) := hid (by rw [← hwf]; exact newA wd x _ rfl)
  (try simp only [hwf])
  refine ⟨(by
    show wf.cell? ⟨hB, 2 + m, none⟩ = some (.slice ax n k)
    have := (HH.out.below HBf.out).rcell hm
    rw [HV.out, HhB.out, Hn.out] at this
    exact this), ?_⟩
  clear hwf
  have HHf := hid (HH.out.below HBf.out)
  have hrf := HHf.out.rt m hm
  rw [HV.out, Hn.out] at hrf
  have hbb : ((H.roots m).length + 1) * 8 ≤ 140737488355328 := by rw [Hn.out]; omega
  refine wpList_app_row rfl (.tmp 22) (.tmp 24) rfl wf ρ (16 + m) (.slice ax n k) (H.roots m) [x] (by simp [Act.eval, Act.put]; done) hrf HHf.out.dom (some ⟨wd.heap.size, 0, none⟩) 1 1 (by simp [Act.eval, Act.put]; done) rfl (fun h => by cases h) HNw.out hbb ?_
  intro v8 w8 ρ8 hr8 ho8 hk8 hd8 hb8
  have HB8 : Hid (∀ g, g < w.heap.size → ¬ HR (ρ g) → w8.heap[g]? = w.heap[g]?) := hid (fun g hg h0 => (hk8 g (Nat.lt_of_lt_of_le hg HBf.out.size) (by omega)).trans (HBf.out.block g hg))
  obtain ⟨a8, k8, h8⟩ := hr8.out.shape
  rw [List.length_append, List.length_singleton, Hn.out] at h8
  subst h8
  have HM8 : Hid (HM (w8.setCell ⟨hB, 2 + m, none⟩ (.slice a8 (n + 1) k8)) ρ8 (setRv L m (.slice a8 (n + 1) k8)) { H with roots := fup H.roots m (H.roots m ++ [x]) }) := hid (by
    rw [← HhB.out]
    exact HHf.out.root hm hb8.size hk8 ho8 hd8 hr8.out)
  have HF8 : Hid (Fr ρ w ρ8 (w8.setCell ⟨hB, 2 + m, none⟩ (.slice a8 (n + 1) k8))) := hid (by
    have f1 : Fr ρ w ρ8 w8 := ⟨hb8.os.trans HBf.out.os, hb8.tape.trans HBf.out.tape, hb8.output.trans HBf.out.output, Nat.le_trans HBf.out.size hb8.size, fun g hg => ho8 g (Nat.lt_of_lt_of_le hg HBf.out.size), HB8.out⟩
    refine f1.trans (Fr.upd ((Upd.refl hB w8).setCell (p := ⟨hB, 2 + m, none⟩) rfl _) ?_)
    rw [← HhB.out, ho8 _ HHf.out.hb.lt, HHf.out.r1]
    omega)
  have c8 : w8.cell? ⟨hB, 2 + m, none⟩ = some (.slice ax n k) := by
    have := HHf.out.rcell hm
    rw [HV.out, HhB.out, Hn.out] at this
    rw [← this]
    exact World.cell?_of_block (hk8 _ (by rw [← HhB.out]; exact HHf.out.hb.lt) (by rw [← HhB.out, HHf.out.r1]; omega))
  have f8 : w8.frozen? ⟨hB, 2 + m, none⟩ = false := by
    rw [World.frozen?_of_block (w := wf) (hk8 _ (by rw [← HhB.out]; exact HHf.out.hb.lt) (by rw [← HhB.out, HHf.out.r1]; omega)), ← HhB.out]
    exact HHf.out.hb.frozen _
  clear hr8 ho8 hk8 hd8 hrf HHf HNw HBf HBd HB8
  go_wp2_with fail
  refine ⟨c8, ?_⟩
  simp only [QN]
  go_wp2
  go_ret
  show PushP _ _ _ _ _ _ _ _
  unfold PushP
  rw [if_neg (by rw [Hn.out]; exact h64)]
  exact ⟨rfl, _, _, HM8.out, rfl, HF8.out⟩
end
end Go.Proofs.Qxb6500889aDoor
