/- The model in memory. -/
import Derived.Test.Qxb6500889aDoorMuP6
import Derived.Test.Qxb6500889aDoorTree
namespace Go.Proofs.Qxb6500889aDoor
open Go.RowKit
set_option linter.unusedSimpArgs false
set_option linter.unusedVariables false
structure ML where
  mB : Nat
  ov : Value
  rb : Nat → Nat
  db : Nat → Nat
  rv : Nat → Value
  hv : Nat → Value
  iv : Value
def mC (N : ML) (M : MS) : List Value := [N.ov, N.rv 0, N.rv 1, N.rv 2, N.rv 3, N.hv 0, N.hv 1, N.hv 2, N.hv 3, .int .u64 (M.gen 0 : Int), .int .u64 (M.gen 1 : Int), .int .u64 (M.gen 2 : Int), .int .u64 (M.gen 3 : Int), N.iv, .int .i64 (M.alt : Int), .int .u64 (M.st : Int), .int .u64 (M.rf : Int), .int .u64 (M.sf : Int)]
def obC (rb db : Nat → Nat) (i : Nat) (q : MO) : List Value := [.slice (some ⟨rb i, 0, none⟩) q.refs.length q.refs.length, .slice (some ⟨db i, 0, none⟩) q.data.length q.data.length]
def oC (rb db : Nat → Nat) : Nat → List MO → List Value
  | _, [] => []
  | i, q :: qs => obC rb db i q ++ oC rb db (i + 1) qs
theorem oC_len (rb db : Nat → Nat) : ∀ (qs : List MO) (i : Nat), (oC rb db i qs).length = qs.length * 2
  | [], i => rfl
  | q :: qs, i => by rw [oC, List.length_append, oC_len rb db qs (i + 1)]; simp [obC]; omega
theorem oC_app (rb db : Nat → Nat) (q : MO) : ∀ (qs : List MO) (i : Nat), oC rb db i (qs ++ [q]) = oC rb db i qs ++ obC rb db (i + qs.length) q
  | [], i => by simp [oC]
  | p :: qs, i => by
    rw [List.cons_append, oC, oC_app rb db q qs (i + 1), oC, List.append_assoc]
    congr 3
    simp
    omega
theorem oC_get (rb db : Nat → Nat) {q : MO} {b : Nat} (hb : b < 2) : ∀ (qs : List MO) (i j : Nat), qs[j]? = some q → (oC rb db i qs)[j * 2 + b]? = (obC rb db (i + j) q)[b]?
  | [], i, j, h => by simp at h
  | p :: qs, i, 0, h => by
    simp at h
    subst h
    rw [oC, List.getElem?_append_left (by simp [obC]; omega)]
    simp
  | p :: qs, i, j + 1, h => by
    simp at h
    rw [oC, List.getElem?_append_right (by simp [obC]; omega)]
    have := oC_get rb db hb qs (i + 1) j h
    rw [show (j + 1) * 2 + b - (obC rb db i p).length = j * 2 + b by simp [obC]; omega, this, show i + 1 + j = i + (j + 1) by omega]
/-- The row of objects depends on the lengths and the places alone. -/
theorem oC_same (rb db rb' db' : Nat → Nat) : ∀ (qs ps : List MO) (i : Nat), qs.length = ps.length → (∀ (j : Nat) (q p : MO), qs[j]? = some q → ps[j]? = some p → q.refs.length = p.refs.length ∧ q.data.length = p.data.length) → (∀ j, i ≤ j → j < i + qs.length → rb j = rb' j ∧ db j = db' j) → oC rb db i qs = oC rb' db' i ps
  | [], [], i, _, _, _ => rfl
  | [], p :: ps, i, h, _, _ => by simp at h
  | q :: qs, [], i, h, _, _ => by simp at h
  | q :: qs, p :: ps, i, h, h2, h3 => by
    rw [oC, oC, oC_same rb db rb' db' qs ps (i + 1) (by simpa using h) (fun j a b ha hb => h2 (j + 1) a b (by simpa using ha) (by simpa using hb)) (fun j k1 k2 => h3 j (by omega) (by simp; omega))]
    have h4 := h2 0 q p rfl rfl
    have h5 := h3 i (Nat.le_refl _) (by simp)
    unfold obC
    rw [h4.1, h4.2, h5.1, h5.2]
/-- One object of the model in memory. -/
structure MoM (w : World) (σ : Rl) (rb db : Nat → Nat) (i : Nat) (q : MO) : Prop where
  r : Blk w (rb i) 3 (aK .i64 q.refs)
  d : Blk w (db i) 29 (aK .u64 q.data)
  rr : σ (rb i) = 64 + 2 * i
  rd : σ (db i) = 65 + 2 * i
  sz : q.refs.length + q.data.length ≤ 8192
/-- All but the model's own block. -/
structure Pt (w : World) (σ : Rl) (N : ML) (M : MS) : Prop where
  ow : w.ownsRow 0 93 2 N.ov M.objs.length (oC N.rb N.db 0 M.objs)
  ro : ∀ g, N.ov.ownBlock = some g → σ g = 2
  o : ∀ i q, M.objs[i]? = some q → MoM w σ N.rb N.db i q
  rt : ∀ m, m < 4 → RowK w σ 3 .i64 (16 + m) (N.rv m) (M.roots m)
  hd : ∀ m, m < 4 → RowK w σ 3 .i64 (32 + m) (N.hv m) (M.held m)
  is : RowK w σ 39 .u64 44 N.iv M.iss
structure MN (w : World) (σ : Rl) (N : ML) (M : MS) : Prop where
  mb : Blk w N.mB 69 (mC N M)
  pt : Pt w σ N M
  r1 : σ N.mB = 1
  dom : ∀ g, σ g ≠ 0 → g < w.heap.size
structure Fm (σ : Rl) (w : World) (σ' : Rl) (w' : World) : Prop where
  os : w'.os = w.os
  tape : w'.tape = w.tape
  output : w'.output = w.output
  size : w.heap.size ≤ w'.heap.size
  old : ∀ g, g < w.heap.size → σ' g = σ g
  blk : ∀ g, g < w.heap.size → σ g = 0 → w'.heap[g]? = w.heap[g]?
section
variable {w w' w'' : World} {σ σ' σ'' : Rl} {N N' : ML} {M M' : MS}
theorem Fm.refl (σ : Rl) (w : World) : Fm σ w σ w := ⟨rfl, rfl, rfl, Nat.le_refl _, fun _ _ => rfl, fun _ _ _ => rfl⟩
theorem Fm.trans (h : Fm σ w σ' w') (k : Fm σ' w' σ'' w'') : Fm σ w σ'' w'' :=
  ⟨k.os.trans h.os, k.tape.trans h.tape, k.output.trans h.output, Nat.le_trans h.size k.size, fun g hg => (k.old g (Nat.lt_of_lt_of_le hg h.size)).trans (h.old g hg), fun g hg h0 => (k.blk g (Nat.lt_of_lt_of_le hg h.size) (by rw [h.old g hg]; exact h0)).trans (h.blk g hg h0)⟩
theorem Fm.below (h : Below w.heap.size w w') : Fm σ w σ w' := ⟨h.os, h.tape, h.output, h.size, fun _ _ => rfl, fun g hg _ => h.block g hg⟩
theorem Fm.upd {g : Nat} (h : Upd g w w') (hg : σ g ≠ 0) : Fm σ w σ w' := ⟨h.os, h.tape, h.output, h.size, fun _ _ => rfl, fun k hk h0 => h.block k hk (fun e => hg (by rw [← e]; exact h0))⟩
theorem Fm.fresh (h : Fm σ w σ' w') {g : Nat} (hu : Upd g w' w'') (hg : w.heap.size ≤ g) : Fm σ w σ' w'' := ⟨hu.os.trans h.os, hu.tape.trans h.tape, hu.output.trans h.output, Nat.le_trans h.size hu.size, h.old, fun k hk h0 => (hu.block k (Nat.lt_of_lt_of_le hk h.size) (by omega)).trans (h.blk k hk h0)⟩
theorem MoM.of {rb db : Nat → Nat} {i : Nat} {q : MO} (h : MoM w σ rb db i q) (hb : ∀ g, g < w.heap.size → (σ g = 64 + 2 * i ∨ σ g = 65 + 2 * i) → w'.heap[g]? = w.heap[g]? ∧ σ' g = σ g) : MoM w' σ' rb db i q := by
  have e1 := hb _ h.r.lt (.inl h.rr)
  have e2 := hb _ h.d.lt (.inr h.rd)
  exact ⟨h.r.of e1.1, h.d.of e2.1, by rw [e1.2]; exact h.rr, by rw [e2.2]; exact h.rd, h.sz⟩
/-- A row of objects stands where its block does. -/
theorem ow_of {v : Value} {n : Nat} {xs : List Value} (h : w.ownsRow 0 93 2 v n xs) (hb : ∀ g, v.ownBlock = some g → w'.heap[g]? = w.heap[g]?) : w'.ownsRow 0 93 2 v n xs := by
  refine ⟨h.1, ?_⟩
  rcases h.2 with h2 | ⟨g, cap, cur, h1, h2, hg, h3⟩
  · exact .inl h2
  · exact .inr ⟨g, cap, cur, h1, h2, by rw [hb g (by rw [h1]; rfl)]; exact hg, h3⟩
theorem Pt.of (h : Pt w σ N M) (hb : ∀ g, g < w.heap.size → 2 ≤ σ g → w'.heap[g]? = w.heap[g]? ∧ σ' g = σ g) : Pt w' σ' N M := by
  have hol : ∀ g, N.ov.ownBlock = some g → g < w.heap.size := fun g hg => (h.ow.lt g hg).2
  exact ⟨ow_of h.ow (fun g hg => (hb g (hol g hg) (by rw [h.ro g hg]; omega)).1), fun g hg => by rw [(hb g (hol g hg) (by rw [h.ro g hg]; omega)).2]; exact h.ro g hg, fun i q hq => (h.o i q hq).of (fun g hg hr => hb g hg (by omega)), fun m hm => (h.rt m hm).of (fun g hg hr => hb g hg (by omega)), fun m hm => (h.hd m hm).of (fun g hg hr => hb g hg (by omega)), h.is.of (fun g hg hr => hb g hg (by omega))⟩
theorem MN.below (h : MN w σ N M) (hb : Below w.heap.size w w') : MN w' σ N M := ⟨h.mb.below hb, h.pt.of (fun g hg _ => ⟨hb.block g hg, rfl⟩), h.r1, fun g hg => Nat.lt_of_lt_of_le (h.dom g hg) hb.size⟩
/-- Every block with a role stays. -/
theorem MN.keep (h : MN w σ N M) (hs : w.heap.size ≤ w'.heap.size) (hb : ∀ g, g < w.heap.size → σ g ≠ 0 → w'.heap[g]? = w.heap[g]?) : MN w' σ N M := ⟨h.mb.of (hb _ h.mb.lt (by rw [h.r1]; omega)), h.pt.of (fun g hg h2 => ⟨hb g hg (by omega), rfl⟩), h.r1, fun g hg => Nat.lt_of_lt_of_le (h.dom g hg) hs⟩
theorem MN.other (h : MN w σ N M) {g : Nat} (hu : Upd g w w') (hg : σ g = 0) : MN w' σ N M := h.keep hu.size (fun k hk h0 => hu.block k hk (fun e => h0 (by rw [e]; exact hg)))
theorem MN.new0 (h : MN w σ N M) {g : Nat} (hg : w.heap.size ≤ g) : σ g = 0 := by
  cases hz : σ g with
  | zero => rfl
  | succ k => have := h.dom g (by omega); omega
/-- A cell of the model's block is written, the rows being what they are now. -/
theorem MN.put (h : MN w σ N M) {i : Nat} {v : Value} (hs : w.heap.size ≤ w'.heap.size) (ho : ∀ g, g < w.heap.size → σ' g = σ g) (hd : ∀ g, σ' g ≠ 0 → g < w'.heap.size) (hm : w'.heap[N.mB]? = w.heap[N.mB]?) (hp : Pt w' σ' N' M') (hN : N'.mB = N.mB) (hc : (mC N M).set i v = mC N' M') : MN (w'.setCell ⟨N.mB, i, none⟩ v) σ' N' M' := by
  have hu : Upd N.mB w' (w'.setCell ⟨N.mB, i, none⟩ v) := (Upd.refl N.mB w').setCell (p := ⟨N.mB, i, none⟩) rfl _
  have hr : σ' N.mB = 1 := by rw [ho _ h.mb.lt]; exact h.r1
  refine ⟨?_, hp.of (fun g hg h2 => ⟨hu.block g hg (fun e => by rw [e, hr] at h2; omega), rfl⟩), by rw [hN]; exact hr, fun g hg => Nat.lt_of_lt_of_le (hd g hg) hu.size⟩
  rw [hN]
  have := (h.mb.of hm).set i v
  rw [hc] at this
  exact this
theorem MN.cell (h : MN w σ N M) (i : Nat) : w.cell? ⟨N.mB, i, none⟩ = (mC N M)[i]? := h.mb.cell i
theorem MN.rcell (h : MN w σ N M) {m : Nat} (hm : m < 4) : w.cell? ⟨N.mB, 1 + m, none⟩ = some (N.rv m) ∧ w.cell? ⟨N.mB, 5 + m, none⟩ = some (N.hv m) ∧ w.cell? ⟨N.mB, 9 + m, none⟩ = some (.int .u64 (M.gen m : Int)) := by
  rw [h.cell, h.cell, h.cell]
  rcases (by omega : m = 0 ∨ m = 1 ∨ m = 2 ∨ m = 3) with rfl | rfl | rfl | rfl <;> exact ⟨rfl, rfl, rfl⟩
end
/-- Bounds of the model behind n steps. -/
structure MBd (M : MS) (n : Nat) : Prop where
  ob : M.objs.length ≤ n
  iss : M.iss.length ≤ n
  gen : ∀ m, m < 4 → M.gen m ≤ n
  hd : ∀ m, m < 4 → (M.held m).length ≤ 128
  rt : ∀ m, m < 4 → (M.roots m).length ≤ 64
  st : M.st ≤ n
  rf : M.rf ≤ n
  sf : M.sf ≤ n
  alt : M.alt ≤ n * 8194
  ih : ∀ h, h ∈ M.iss → h < 18446744073709551616
set_option maxRecDepth 100000 in
theorem handleOf_walk (m g s : Nat) (h1 : m < 4) (h2 : g ≤ 1000000000000) (h3 : s < 256) (w : World) : Calls Tryd.prog 62 #[.int .i64 (m : Int), .int .u64 (g : Int), .int .i64 (s : Int)] w fun e w' => e = .returned (.int .u64 ((hN g m s : Nat) : Int)) ∧ w' = w := by
  have i1 : (m : Int) < 4 := by omega
  have i2 : (g : Int) ≤ 1000000000000 := by omega
  have i3 : (s : Int) < 256 := by omega
  have HE : Hid ((((181419418583040 + (g : Int)) * 256 + (m : Int)) * 256 + (s : Int)) = ((hN g m s : Nat) : Int)) := hid (by unfold hN; omega)
  go_enter Tryd.func62, Tryd.ntmps62
  go_wp2
  go_ret
  exact ⟨by rw [← HE.out]; rfl, rfl⟩
set_option maxRecDepth 100000 in
theorem words_walk (size : Nat) (h1 : size ≤ 8192) (w : World) : Calls Tryd.prog 47 #[.int .i64 (size : Int)] w fun e w' => e = .returned (.int .i64 ((wrdM size : Nat) : Int)) ∧ w' = w := by
  have i1 : (size : Int) ≤ 8192 := by omega
  obtain ⟨wo, hwo⟩ : ∃ x, x = w := ⟨_, rfl⟩
  have Hwo := hid hwo
  rw [← hwo]
  clear hwo
  go_enter Tryd.func47, Tryd.ntmps47
  go_wp2_with fail
  go_loopw [3] (fun v wr => ∃ k : Nat, (k = 1 + size ∨ (k = 2 + size ∧ k % 2 = 0)) ∧ v = .int .i64 (k : Int) ∧ Hid (wr = wo)) (fun v _ => 2 + size - (intOf v).toNat)
  case atStart => exact ⟨1 + size, .inl rfl, by go_num, hid rfl⟩
  case round =>
    obtain ⟨k, hk, rfl, Hw⟩ := hrel
    by_cases he : k % 2 = 0
    · have d1 : (((k : Int) % 2) != 0) = false := by simp; omega
      have He : Hid (k = wrdM size) := hid (by unfold wrdM; omega)
      have hk2 : (k : Int) ≤ 10000 := by omega
      clear hk he
      go_wp2
      go_ret
      exact ⟨by rw [← He.out]; rfl, Hw.out⟩
    · have d1 : (((k : Int) % 2) != 0) = true := by simp; omega
      have hk2 : (k : Int) ≤ 10000 := by omega
      have Hk := hid hk
      have He := hid he
      clear hk he
      go_wp2
      have := Hk.out
      have := He.out
      exact ⟨⟨k + 1, .inr ⟨by omega, by omega⟩, by go_num, Hw⟩, by simp [intOf]; omega⟩
end Go.Proofs.Qxb6500889aDoor
