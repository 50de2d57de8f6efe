/- The model: step (written by tools/mk_mst.py). -/
import Derived.Test.Qxb6500889aDoorMuN6
namespace Go.Proofs.Qxb6500889aDoor
open Go.RowKit
set_option linter.unusedSimpArgs false
set_option linter.unusedVariables false
section
variable {w w' w'' wz : World} {σ σ' σ'' : Rl} {N N' : ML} {M M' : MS} {n m : Nat} {xs : List XBk}
/-- What stands behind live handles of the model. -/
def MIds (M : MS) : Prop := ∀ m, m < 4 → ∀ id, id ∈ M.held m → ∃ q, 1 ≤ id ∧ M.objs[id - 1]? = some q
def MsP (w : World) (σ : Rl) (N : ML) (M : MS) (o : OpP) (room : Bool) (e : Ending) (w' : World) : Prop := e = .returned (.agg (rzC (mDo M o room).2).toArray) ∧ MOut w σ N (mDo M o room).1 w'
theorem EM.two (h : MN w σ N M) (o : OpP) : EM w σ N M [(w.heap.size + 1, 36, rzC (rzR 0)), (w.heap.size, 31, opC o)] ((w.alloc (.cells (opC o).toArray 31)).alloc (.cells (rzC (rzR 0)).toArray 36)) := by
  have := ((EM.start h).alloc (opC o) 31).alloc (rzC (rzR 0)) 36
  simpa using this
theorem MN.nilH (h : MN w σ N M) (hm : m < 4) : MOut w σ N { M with held := fup M.held m [] } (w.setCell ⟨N.mB, 5 + m, none⟩ (.slice none 0 0)) :=
  h.put2 (Below.refl _ _) (fun _ _ _ _ => trivial) (fun _ _ _ => rfl) (fun _ _ => rfl) h.dom (h.pt.held hm (fun _ _ _ => rfl) (fun _ _ => rfl) (RowK.nil _ _ _ _ _)) rfl (mC_hv N M hm _ _)
theorem MN.setG (h : MN w σ N M) (hm : m < 4) (v : Nat) : MOut w σ N { M with gen := fup M.gen m v } (w.setCell ⟨N.mB, 9 + m, none⟩ (.int .u64 (v : Int))) :=
  h.put2 (N' := N) (Below.refl _ _) (fun _ _ _ _ => trivial) (fun _ _ _ => rfl) (fun _ _ => rfl) h.dom ⟨h.pt.ow, h.pt.ro, h.pt.o, h.pt.rt, h.pt.hd, h.pt.is⟩ rfl (mC_gen N M hm v)
theorem MN.setS (h : MN w σ N M) (v : Nat) : MOut w σ N { M with sf := v } (w.setCell ⟨N.mB, 17, none⟩ (.int .u64 (v : Int))) :=
  h.put2 (N' := N) (Below.refl _ _) (fun _ _ _ _ => trivial) (fun _ _ _ => rfl) (fun _ _ => rfl) h.dom ⟨h.pt.ow, h.pt.ro, h.pt.o, h.pt.rt, h.pt.hd, h.pt.is⟩ rfl rfl
theorem EM.mcell (h : EM w σ N M xs wz) {mB : Nat} (hB : N.mB = mB) (i : Nat) (hi : i < 18) : ∃ N' : ML, N'.mB = mB ∧ wz.cell? ⟨mB, i, none⟩ = (mC N' M)[i]? ∧ wz.frozen? ⟨mB, i, none⟩ = false := by
  obtain ⟨σ', N', h1, h2, h3, h4⟩ := h.ex
  have e : N'.mB = mB := h2.trans hB
  refine ⟨N', e, ?_, ?_⟩
  · have := h1.cell i; rw [e] at this; exact this
  · have := h1.mb.frozen i; rw [e] at this; exact this
theorem EM.app (h : EM w σ N M xs wz) {mB : Nat} (hB : N.mB = mB) (k : ∀ σ' N', MN wz σ' N' M → N'.mB = mB → MOut wz σ' N' M' w'') : EM w σ N M' xs w'' := by
  obtain ⟨σ', N', h1, h2, h3, h4⟩ := h.ex
  exact h.run1 h1 ⟨h2, h3, h4⟩ (k σ' N' h1 (h2.trans hB))
theorem MN.cutR (h : MN w σ N M) (hm : m < 4) {g k n : Nat} (hv : N.rv m = .slice (some ⟨g, 0, none⟩) n k) (hn : (M.roots m).length = n) : MOut w σ N { M with roots := fup M.roots m (M.roots m).dropLast } (w.setCell ⟨N.mB, 1 + m, none⟩ (.slice (some ⟨g, 0, none⟩) (n - 1) k)) := by
  have hr := h.pt.rt m hm
  rw [hv] at hr
  have hc := hr.cut (j := n - 1) (by omega)
  rw [← hn, ← List.dropLast_eq_take, hn] at hc
  exact h.put2 (Below.refl _ _) (fun _ _ _ _ => trivial) (fun _ _ _ => rfl) (fun _ _ => rfl) h.dom (h.pt.root hm (fun _ _ _ => rfl) (fun _ _ => rfl) hc) rfl (mC_rv N M hm _ _)
/-- Where an object of the model lies. -/
structure OAt (mB : Nat) (q : MO) (i no gO kO rB dB : Nat) (wy : World) : Prop where
  c : wy.cell? ⟨mB, 0, none⟩ = some (.slice (some ⟨gO, 0, none⟩) no kO)
  r : wy.cell? ⟨gO, i * 2, none⟩ = some (.slice (some ⟨rB, 0, none⟩) q.refs.length q.refs.length)
  d : wy.cell? ⟨gO, i * 2 + 1, none⟩ = some (.slice (some ⟨dB, 0, none⟩) q.data.length q.data.length)
  rb : Blk wy rB 3 (aK .i64 q.refs)
  db : Blk wy dB 29 (aK .u64 q.data)
theorem MN.oat (h : MN w σ N M) {i : Nat} {q : MO} (hq : M.objs[i]? = some q) : ∃ gO kO, N.ov = .slice (some ⟨gO, 0, none⟩) M.objs.length kO ∧ ∀ wy, Below w.heap.size w wy → OAt N.mB q i M.objs.length gO kO (N.rb i) (N.db i) wy := by
  have hi := (List.getElem?_eq_some_iff.1 hq).1
  rcases h.pt.ow.2 with ⟨e, h0⟩ | ⟨g, cap, cur, e, h5, hg, hn, hc, hs, ht⟩
  · omega
  · refine ⟨g, cap, e, fun wy hy => ?_⟩
    have hy2 := h.below hy
    have hcell : ∀ b, b < 2 → wy.cell? ⟨g, i * 2 + b, none⟩ = (obC N.rb N.db i q)[b]? := fun b hb => by
      have e1 := oC_get N.rb N.db (q := q) hb M.objs 0 i hq
      rw [Nat.zero_add] at e1
      rw [← e1, ← ht, List.getElem?_take, if_pos (by omega)]
      have hgy : wy.heap[g]? = some (.cells cur 93 (0, 0)) := by rw [hy.block g (Array.getElem?_eq_some_iff.1 hg).1]; exact hg
      simp [World.cell?, hgy]
    have ho := hy2.pt.o i q hq
    refine ⟨?_, ?_, ?_, ho.r, ho.d⟩
    · have := hy2.cell 0
      rw [this, ← e]
      rfl
    · have := hcell 0 (by omega)
      rw [Nat.add_zero] at this
      exact this
    · exact hcell 1 (by omega)
theorem aK_set (k : IntKind) (xs : List Nat) (j v : Nat) : (aK k xs).set j (.int k (v : Int)) = aK k (xs.set j v) := by unfold aK; rw [List.map_set]
theorem MN.setO (h : MN w σ N M) {i : Nat} {q q' : MO} (hq : M.objs[i]? = some q) {g : Nat} (hu : Upd g w w') (hg : σ g = 64 + 2 * i ∨ σ g = 65 + 2 * i) (hl : q'.refs.length = q.refs.length ∧ q'.data.length = q.data.length) (hm : MoM w' σ N.rb N.db i q') : MOut w σ N { M with objs := M.objs.set i q' } w' := by
  have hol : ∀ k, N.ov.ownBlock = some k → k < w.heap.size := fun k hk => (h.pt.ow.lt k hk).2
  have hne : ∀ k, σ k ≠ 64 + 2 * i → σ k ≠ 65 + 2 * i → k ≠ g := fun k h1 h2 e => by subst e; omega
  have hi := (List.getElem?_eq_some_iff.1 hq).1
  refine ⟨σ, N, ⟨h.mb.upd hu (hne _ (by rw [h.r1]; omega) (by rw [h.r1]; omega)), ⟨?_, h.pt.ro, fun j p hp => ?_, fun m hm => (h.pt.rt m hm).of (fun k hk hr => ⟨hu.block k hk (hne _ (by omega) (by omega)), rfl⟩), fun m hm => (h.pt.hd m hm).of (fun k hk hr => ⟨hu.block k hk (hne _ (by omega) (by omega)), rfl⟩), h.pt.is.of (fun k hk hr => ⟨hu.block k hk (hne _ (by omega) (by omega)), rfl⟩)⟩, h.r1, fun k hk => Nat.lt_of_lt_of_le (h.dom k hk) hu.size⟩, rfl, Fm.upd hu (by omega)⟩
  · have e := oC_same N.rb N.db N.rb N.db (M.objs.set i q') M.objs 0 (by simp) (fun j a b ha hb => by
      by_cases e : j = i
      · subst e
        rw [List.getElem?_set_self hi] at ha
        rw [hq] at hb
        cases ha; cases hb
        exact hl
      · rw [List.getElem?_set_ne (by omega), hb] at ha
        cases ha
        exact ⟨rfl, rfl⟩) (fun _ _ _ => ⟨rfl, rfl⟩)
    show w'.ownsRow 0 _ 2 N.ov (M.objs.set i q').length (oC N.rb N.db 0 (M.objs.set i q'))
    rw [e, List.length_set]
    exact ow_of h.pt.ow (fun k hk => hu.block k (hol k hk) (hne _ (by rw [h.pt.ro k hk]; omega) (by rw [h.pt.ro k hk]; omega)))
  · have hp' : (M.objs.set i q')[j]? = some p := hp
    by_cases e : j = i
    · subst e
      rw [List.getElem?_set_self hi] at hp'
      cases hp'
      exact hm
    · rw [List.getElem?_set_ne (by omega)] at hp'
      exact (h.pt.o j p hp').of (fun k hk hr => ⟨hu.block k hk (hne _ (by omega) (by omega)), rfl⟩)
theorem MN.setD (h : MN w σ N M) {i : Nat} {q : MO} (hq : M.objs[i]? = some q) (j v : Nat) : MOut w σ N { M with objs := M.objs.set i { q with data := q.data.set j v } } (w.setCell ⟨N.db i, j, none⟩ (.int .u64 (v : Int))) := by
  have ho := h.pt.o i q hq
  have hu : Upd (N.db i) w (w.setCell ⟨N.db i, j, none⟩ (.int .u64 (v : Int))) := (Upd.refl _ w).setCell (p := ⟨N.db i, j, none⟩) rfl _
  refine h.setO hq hu (.inr ho.rd) ⟨rfl, by simp⟩ ⟨ho.r.upd hu (fun e => by have h1 := ho.rr; have h2 := ho.rd; rw [e] at h1; omega), ?_, ho.rr, ho.rd, by simpa using ho.sz⟩
  have := ho.d.set j (.int .u64 (v : Int))
  rw [aK_set] at this
  exact this
theorem MN.setRf (h : MN w σ N M) {i : Nat} {q : MO} (hq : M.objs[i]? = some q) (j v : Nat) : MOut w σ N { M with objs := M.objs.set i { q with refs := q.refs.set j v } } (w.setCell ⟨N.rb i, j, none⟩ (.int .i64 (v : Int))) := by
  have ho := h.pt.o i q hq
  have hu : Upd (N.rb i) w (w.setCell ⟨N.rb i, j, none⟩ (.int .i64 (v : Int))) := (Upd.refl _ w).setCell (p := ⟨N.rb i, j, none⟩) rfl _
  refine h.setO hq hu (.inl ho.rr) ⟨by simp, rfl⟩ ⟨?_, ho.d.upd hu (fun e => by have h1 := ho.rr; have h2 := ho.rd; rw [← e] at h1; omega), ho.rr, ho.rd, by simpa using ho.sz⟩
  have := ho.r.set j (.int .i64 (v : Int))
  rw [aK_set] at this
  exact this
theorem mLook_mem {m h id : Nat} (hl : mLook M m h = some id) : id ∈ M.held m := by
  unfold mLook at hl
  split at hl
  · exact List.mem_of_getElem? hl
  · cases hl
/-- An object of the model, seen from a world with blocks beside it. -/
theorem EM.oat (h : EM w σ N M xs wz) {mB : Nat} (hB : N.mB = mB) {i : Nat} {q : MO} (hq : M.objs[i]? = some q) : ∃ gO kO rB dB, (∀ wy, Below wz.heap.size wz wy → OAt mB q i M.objs.length gO kO rB dB wy) ∧ q.refs.length + q.data.length ≤ 8192 ∧ kO ≤ maxLen ∧ M.objs.length ≤ kO ∧ (∀ (j v : Nat) wy, Below wz.heap.size wz wy → EM w σ N { M with objs := M.objs.set i { q with data := q.data.set j v } } xs (wy.setCell ⟨dB, j, none⟩ (.int .u64 (v : Int))) ∧ EM w σ N { M with objs := M.objs.set i { q with refs := q.refs.set j v } } xs (wy.setCell ⟨rB, j, none⟩ (.int .i64 (v : Int)))) ∧ (∀ wy, Below wz.heap.size wz wy → ∀ n, MBd M n → n ≤ 100000000000 → ∀ m, m < 4 → (M.held m).length < 128 → ∀ id : Nat, Calls Tryd.prog 40 #[.pointer (some ⟨mB, 0, none⟩), .int .i64 (m : Int), .int .i64 (id : Int)] wy fun e w' => e = .returned (.int .u64 ((hN (M.gen m) m (M.held m).length : Nat) : Int)) ∧ EM w σ N (mGive M m id) xs w' ∧ w'.heap[gO]? = wy.heap[gO]? ∧ w'.heap[rB]? = wy.heap[rB]?) := by
  obtain ⟨σ', N', h1, h2, h3, h4⟩ := h.ex
  obtain ⟨gO, kO, e1, e2⟩ := h1.oat hq
  have hi := (List.getElem?_eq_some_iff.1 hq).1
  have hcap : kO ≤ maxLen ∧ M.objs.length ≤ kO := by
    rcases h1.pt.ow.2 with ⟨e, h0⟩ | ⟨g, cap, cur, e, h5, hg, hn, hc, hs, ht⟩
    · omega
    · rw [e1] at e
      injection e with t1 t2 t3
      subst t3
      first
        | exact ⟨hc, hn⟩
        | exact ⟨by omega, by omega⟩
  refine ⟨gO, kO, N'.rb i, N'.db i, fun wy hy => ?_, (h1.pt.o i q hq).sz, hcap.1, hcap.2, fun j v wy hy => ⟨?_, ?_⟩, fun wy hy n hb hn m hm hl id => ?_⟩
  · rw [← hB, ← h2]
    exact e2 wy hy
  · have hy' := h.below hy
    exact hy'.run1 (h1.below hy) ⟨h2, h3.trans (Fm.below hy), h4⟩ ((h1.below hy).setD hq j v)
  · have hy' := h.below hy
    exact hy'.run1 (h1.below hy) ⟨h2, h3.trans (Fm.below hy), h4⟩ ((h1.below hy).setRf hq j v)
  · have hy' := h.below hy
    have hM := h1.below hy
    have c := mgive_walk2 hM hb hn hm hl id
    rw [h2, hB] at c
    refine c.mono ?_
    rintro e w9 ⟨k1, k2, k3⟩
    have ho : N'.ov.ownBlock = some gO := by rw [e1]; rfl
    have hgl := (h1.pt.ow.lt gO ho).2
    have hgr := h1.pt.ro gO ho
    have hmo := h1.pt.o i q hq
    have hrr := hmo.rr
    exact ⟨k1, hy'.run1 hM ⟨h2, h3.trans (Fm.below hy), h4⟩ k2, k3 gO (Nat.lt_of_lt_of_le hgl hy.size) (by omega) (by omega) (by omega), k3 (N'.rb i) (Nat.lt_of_lt_of_le hmo.r.lt hy.size) (by omega) (by omega) (by omega)⟩
end
end Go.Proofs.Qxb6500889aDoor
