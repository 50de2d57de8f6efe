/- New: the walk. -/
import Derived.Test.Qxb6500892aDoorTqNew
namespace Go.Proofs.Qxb6500892aDoor
open Go.RowKit
set_option linter.unusedSimpArgs false
set_option linter.unusedVariables false

/-- A fresh engine. -/
structure NewS (a b c d : Int) (s : ES) (L : Nat → List Nat) : Prop where
  sl : (s.slots : Int) = a
  ki : (s.kin : Int) = b
  ko : (s.kout : Int) = c
  kn : (s.kneg : Int) = d
  l1 : L 1 = []
  l2 : L 2 = []
  l3 : L 3 = []
  wh : ∀ i, i < s.slots → s.whr i = 0
  pin : ∀ i, s.pin i = 0
def NewP (a b c d : Int) (w : World) (y : Ending) (w' : World) : Prop :=
  (cfgB a b c d = false ∧ y = .returned (.tuple #[.pointer none, .int .u8 4]) ∧ Below w.heap.size w w') ∨
  (cfgB a b c d = true ∧ ∃ e gn gb s L C, y = .returned (.tuple #[.pointer (some ⟨e, 0, none⟩), .int .u8 0]) ∧ EE e gn gb w' s L C w' ∧ Below w.heap.size w w' ∧ w.heap.size ≤ e ∧ w.heap.size ≤ gn ∧ w.heap.size ≤ gb ∧ NewS a b c d s L)
theorem made3 (w : World) (A B E : List Value) (t1 t2 t3 : TypeId) : Blk (((w.alloc (.cells A.toArray t1)).alloc (.cells B.toArray t2)).alloc (.cells E.toArray t3)).drew w.heap.size t1 A ∧ Blk (((w.alloc (.cells A.toArray t1)).alloc (.cells B.toArray t2)).alloc (.cells E.toArray t3)).drew (w.heap.size + 1) t2 B ∧ Blk (((w.alloc (.cells A.toArray t1)).alloc (.cells B.toArray t2)).alloc (.cells E.toArray t3)).drew (w.heap.size + 1 + 1) t3 E ∧ Below w.heap.size w (((w.alloc (.cells A.toArray t1)).alloc (.cells B.toArray t2)).alloc (.cells E.toArray t3)).drew := by
  have s1 : ∀ (x : World) (o : Obj), (x.alloc o).heap.size = x.heap.size + 1 := fun x o => by simp
  refine ⟨(((Blk.new w A t1).alloc _).alloc _).drewN 1, ?_, ?_, (((Below.refl _ w).alloc (Nat.le_refl _) _).alloc (by rw [s1]; omega) _ |>.alloc (by rw [s1, s1]; omega) _).trans (Drew.below ⟨1, rfl⟩ _)⟩
  · have h := Blk.new (w.alloc (.cells A.toArray t1)) B t2
    rw [s1] at h
    exact (h.alloc _).drewN 1
  · have h := Blk.new ((w.alloc (.cells A.toArray t1)).alloc (.cells B.toArray t2)) E t3
    rw [s1, s1] at h
    exact h.drewN 1
theorem wpList_store_cells {P : Program} {ops : Array Oper} {rest : List Oper} {op : Oper} {a : Act} {w : World} {Q : Exit → Act → World → Prop} (hgd : op.guard = none) (ty : TypeId) (x y : Operand) (ho : op.op = .store ty x y)
    (b o : Nat) (ds : List Value) (hx : a.eval x = .pointer (some ⟨b, o, none⟩)) (hy : a.eval y = .agg ds.toArray)
    (ht : w.there b o ds.length) (hi : (P.info? ty).map (·.size) = some ds.length) (h1 : ∀ v ∈ ds, v.oneCell' = true)
    (h : ∀ w', Hid (w' = w.setCells b o ds) → wpList P ops Q rest (a.put op.dst undef) w') : wpList P ops Q (op :: rest) a w :=
  wpList_store_mid hgd ty x y ho b o ds.toArray hx hy (by simpa using ht) (by simpa using hi) (all_oneCell_toArray h1) (h _ (hid rfl))
structure NI (w0 : World) (z sl ki ko kn e gn gb : Nat) (s : ES) (w : World) : Prop where
  em : EM e gn gb s w
  bel : Below w0.heap.size w0 w
  le : w0.heap.size ≤ e
  ln : w0.heap.size ≤ gn
  lb : w0.heap.size ≤ gb
  cb : Blk w z 31 [.int .i64 (sl : Int), .int .i64 (ki : Int), .int .i64 (ko : Int), .int .i64 (kn : Int)]
section
variable {w0 : World} {z sl ki ko kn e gn gb : Nat} {s s' : ES} {w w' : World}
theorem NI.upd (h : NI w0 z sl ki ko kn e gn gb s w) {g : Nat} (hg : g = e ∨ g = gn ∨ g = gb) (hu : Upd g w w') (hE : EM e gn gb s' w') : NI w0 z sl ki ko kn e gn gb s' w' := by
  have hgz : w0.heap.size ≤ g := by have := h.le; have := h.ln; have := h.lb; omega
  refine ⟨hE, h.bel.trans (hu.below hgz h.bel.size), h.le, h.ln, h.lb, h.cb.upd hu ?_⟩
  rcases hg with rfl | rfl | rfl
  · exact h.cb.tne h.em.eb (by decide)
  · exact h.cb.tne h.em.nb (by decide)
  · exact h.cb.tne h.em.bb (by decide)
theorem NI.drew (h : NI w0 z sl ki ko kn e gn gb s w) (n : Nat) : NI w0 z sl ki ko kn e gn gb s (w.drewN n) := ⟨h.em.drew n, h.bel.trans (Drew.below ⟨n, rfl⟩ _), h.le, h.ln, h.lb, h.cb⟩
theorem NI.u3 (h : NI w0 z sl ki ko kn e gn gb s w) (hu : U3 e gn gb w w') (hE : EM e gn gb s' w') : NI w0 z sl ki ko kn e gn gb s' w' := by
  have h1 := h.le
  have h2 := h.ln
  have h3 := h.lb
  refine ⟨hE, h.bel.trans ⟨hu.os, hu.tape, hu.output, hu.size, fun k hk => hu.block k (Nat.lt_of_lt_of_le hk h.bel.size) (by omega) (by omega) (by omega)⟩, h.le, h.ln, h.lb, ?_⟩
  have hz := h.cb.lt
  have := h.cb
  unfold Blk at this ⊢
  rw [hu.block z hz (h.cb.tne h.em.eb (by decide)) (h.cb.tne h.em.nb (by decide)) (h.cb.tne h.em.bb (by decide))]
  exact this
/-- The ghosts from y on lie in Spare. -/
structure SpI (e gn gb : Nat) (w5 : World) (s0 : ES) (y : Nat) (s : ES) (L : Nat → List Nat) (w : World) : Prop where
  si : SI e gn gb w5 s L (fun _ => []) (fun _ => False) w
  fx : Fx s0 s
  wh : ∀ i, s.whr i = if y ≤ i ∧ i < s0.n then 4 else 0
  l1 : L 1 = []
  l2 : L 2 = []
  l3 : L 3 = []
  l4 : (L 4).length = s0.n - y
theorem SpI.start {n m k sl ki ko kn sh : Nat} (hE : EM e gn gb (nsS n m sl ki ko kn sh m 5 n) w) (hn : n ≤ 131072) (hm : 2 ^ k = m) (hs : 64 - k = sh) (hk : k ≤ 64) (hmb : m ≤ 131072) : SpI e gn gb w (nsS n m sl ki ko kn sh m 5 n) n (nsS n m sl ki ko kn sh m 5 n) (fun _ => []) w := by
  refine ⟨⟨hE, U3.refl _ _ _ _, ⟨hn, fun q hq => ⟨?_, ?_, rfl, List.nodup_nil, fun i hi => (by cases hi), fun i hi => (by cases hi), fun A i B e1 => (by simp at e1), fun A i B e1 => (by simp at e1)⟩, rfl, fun i hi => by show 0 < 5; omega, fun i hi h0 => absurd rfl h0, fun i hi _ => ⟨if_pos hi, if_pos hi⟩⟩, ⟨⟨?_, ?_, hmb⟩, fun b hb => ?_, fun b hb => List.nodup_nil, fun b i hb hi => (by cases hi), fun i hi hp => hp.elim⟩⟩, Fx.refl _, fun i => ?_, rfl, rfl, rfl, ?_⟩
  · show (if q < 5 then (-1 : Int) else 0) = -1
    rw [if_pos hq]
  · show (if q < 5 then (-1 : Int) else 0) = -1
    rw [if_pos hq]
  · show m * 2 ^ sh = _
    rw [← hm, ← hs, ← Nat.pow_add, show k + (64 - k) = 64 by omega]
  · show sh ≤ 64
    omega
  · have hb2 : b < m := hb
    show (if b < m then (-1 : Int) else 0) = -1
    rw [if_pos hb2]
  · show 0 = if n ≤ i ∧ i < n then 4 else 0
    rw [if_neg (by omega)]
  · show ([] : List Nat).length = n - n
    simp
theorem SpI.fin {n m sl ki ko kn sh : Nat} {L : Nat → List Nat} {w5 : World} (h : SpI e gn gb w5 (nsS n m sl ki ko kn sh m 5 n) sl s L w) (hn : sl + ko = n) (hc : cfgB (sl : Int) (ki : Int) (ko : Int) (kn : Int) = true) : EE e gn gb w s L (fun _ => []) w ∧ NewS (sl : Int) (ki : Int) (ko : Int) (kn : Int) s L := by
  obtain ⟨a1, a2, a3, a4, a5, a6, a7, a8⟩ := cfgB_true.1 hc
  have f := h.fx
  have f1 : s.n = n := f.n
  have f2 : s.slots = sl := f.slots
  have f3 : s.kin = ki := f.kin
  have f4 : s.kout = ko := f.kout
  have f5 : s.kneg = kn := f.kneg
  have f6 : s.pin = fun _ => 0 := f.pin
  have f7 : s.neg = fun _ => false := f.neg
  have f8 : s.negs = 0 := f.negs
  have f9 : s.pinned = 0 := f.pinned
  have hw : ∀ i, s.whr i = if sl ≤ i ∧ i < n then 4 else 0 := h.wh
  have hnh : ∀ j, False ↔ Hs s j := fun j => ⟨fun x => x.elim, fun hj => by
    unfold Hs at hj
    rw [hw j] at hj
    split at hj <;> omega⟩
  refine ⟨⟨h.si.em, U3.refl _ _ _ _, ⟨h.si.q, h.si.c.iff hnh, by rw [f1, f2, f4]; omega, by omega, fun i hi => ?_, fun i h1 h2 => ?_, fun i j hi => ((hnh i).2 hi).elim, fun i hi => by rw [f6]; simp, fun i hi => by rw [f7]; simp, by rw [f8, h.l1]; rfl, by rw [f9, h.l1, h.l2]; rfl, ?_⟩⟩, ⟨by rw [f2], by rw [f3], by rw [f4], by rw [f5], h.l1, h.l2, h.l3, fun i hi => ?_, fun i => by rw [f6]⟩⟩
  · rw [hw, if_neg (by omega)]; omega
  · rw [hw, if_pos (by omega)]; omega
  · rw [h.l3, h.l4, f4]
    show 0 + (n - sl) = ko
    omega
  · rw [hw, if_neg (by omega)]
end
set_option maxRecDepth 100000 in
set_option maxHeartbeats 2000000 in
theorem new_walk (a b c d : Int) (w : World) :
    Calls Tryd.prog 23 #[.agg #[.int .i64 a, .int .i64 b, .int .i64 c, .int .i64 d]] w fun y w' => NewP a b c d w y w' := by
  cases hB : cfgB a b c d with
  | false =>
    as_aux_lemma =>
    have HB := hid hB
    have HV := hid (fun w => valid_walk a b c d w)
    rw [hB] at HV
    clear hB
    go_enter Tryd.func23, Tryd.ntmps23
    go_wp2_with fail
    refine (HV.out _).mono ?_
    rintro y w1 ⟨rfl, hb1⟩
    have HB1 := hid hb1
    clear hb1
    go_wp2
    refine bodyPost_ret (results_tmp2 Tryd.results23 _ _ _) rfl ?_
    exact .inl ⟨HB.out, rfl, (nbel w _).trans (HB1.out.mono (nbel w _).size)⟩
  | true =>
  obtain ⟨q1, q2, q3, q4, q5, q6, q7, q8⟩ := cfgB_true.1 hB
  obtain ⟨sl, rfl⟩ : ∃ sl : Nat, a = (sl : Int) := ⟨a.toNat, by omega⟩
  obtain ⟨ki, rfl⟩ : ∃ ki : Nat, b = (ki : Int) := ⟨b.toNat, by omega⟩
  obtain ⟨ko, rfl⟩ : ∃ ko : Nat, c = (ko : Int) := ⟨c.toNat, by omega⟩
  obtain ⟨kn, rfl⟩ : ∃ kn : Nat, d = (kn : Int) := ⟨d.toNat, by omega⟩
  have HB := hid hB
  have HV := hid (fun w => valid_walk sl ki ko kn w)
  rw [hB] at HV
  obtain ⟨n, hn⟩ : ∃ n : Nat, sl + ko = n := ⟨_, rfl⟩
  have Hn := hid hn
  have hni : (sl : Int) + (ko : Int) = (n : Int) := by omega
  have hn1 : 1 ≤ n := by omega
  have hn2 : n ≤ 131072 := by omega
  clear hB hn
  go_enter Tryd.func23, Tryd.ntmps23
  go_wp2_with fail
  refine (HV.out _).mono ?_
  rintro y w1 ⟨rfl, hb1⟩
  obtain ⟨wb, hwb⟩ : ∃ wb, w.alloc (.cells #[.int .i64 (sl : Int), .int .i64 (ki : Int), .int .i64 (ko : Int), .int .i64 (kn : Int)] 31) = wb := ⟨_, rfl⟩
  obtain ⟨z, hz⟩ : ∃ z, w.heap.size = z := ⟨_, rfl⟩
  rw [hwb] at hb1
  have HBl : Hid (Below w.heap.size w w1) := hid ((hwb ▸ nbel w _).trans (hb1.mono (hwb ▸ nbel w _ : Below w.heap.size w wb).size))
  have HCb : Hid (Blk w1 z 31 [.int .i64 (sl : Int), .int .i64 (ki : Int), .int .i64 (ko : Int), .int .i64 (kn : Int)]) := hid ((hz ▸ hwb ▸ Blk.new w _ _ : Blk wb z _ _).below hb1)
  have Hz := hid hz
  have hzw : z < w1.heap.size := HCb.out.lt
  try rw [hz]
  clear hz hwb hb1 HV
  have k0 : w1.cell? ⟨z, 0, none⟩ = some (.int .i64 (sl : Int)) := HCb.out.cell 0
  have k1 : w1.cell? ⟨z, 1, none⟩ = some (.int .i64 (ki : Int)) := HCb.out.cell 1
  have k2 : w1.cell? ⟨z, 2, none⟩ = some (.int .i64 (ko : Int)) := HCb.out.cell 2
  have k3 : w1.cell? ⟨z, 3, none⟩ = some (.int .i64 (kn : Int)) := HCb.out.cell 3
  go_upto_region 5 with fail
  go_loopw [5] (fun v wr => wr = w1 ∧ ∃ k : Nat, v = .int .u64 (k : Int) ∧ 1 ≤ k ∧ k ≤ 17) (fun v _ => 64 - (intOf v).toNat)
  case atStart => exact ⟨rfl, 1, rfl, by omega, by omega⟩
  case round =>
  obtain ⟨hwr, k, rfl, hk1, hk2⟩ := hrel
  have hwr' := hwr.symm
  clear hwr
  subst hwr'
  obtain ⟨M, hM⟩ : ∃ M : Nat, 2 ^ k = M := ⟨_, rfl⟩
  have hM1 : M ≤ 131072 := by
    rw [← hM]
    exact Nat.le_trans (Nat.pow_le_pow_right (by omega) hk2) (by decide)
  have hMp : 0 < M := by rw [← hM]; exact Nat.two_pow_pos k
  have hMi : (2 : Int) ^ k = (M : Int) := by rw [← hM]; simp
  have hwM : wrap64 ((2 : Int) ^ k) = (M : Int) := by rw [hMi]; unfold wrap64; omega
  have HM := hid hM
  clear hM hMi
  by_cases hlt : M < n
  · as_aux_lemma =>
    have dl : decide ((M : Int) < (n : Int)) = true := decide_eq_true (by omega)
    have hk3 : k < 17 := by
      have h1 := HM.out
      rcases Nat.lt_or_ge k 17 with h2 | h2
      · exact h2
      · exfalso
        have : k = 17 := by omega
        subst this
        omega
    go_wp2
    exact ⟨⟨trivial, k + 1, by go_num, by omega, by omega⟩, by simp [intOf]; omega⟩
  have dl : decide ((M : Int) < (n : Int)) = false := decide_eq_false (by omega)
  have hk64 : k ≤ 64 := by omega
  obtain ⟨sh, hsh⟩ : ∃ sh : Nat, 64 - k = sh := ⟨_, rfl⟩
  have hsh2 : (64 : Int) - (k : Int) = (sh : Int) := by omega
  have hsh3 : sh ≤ 64 := by omega
  have Hsh := hid hsh
  clear hsh
  have hm1 := make_nd n (by omega)
  have hm2 := make_bk M (by omega)
  obtain ⟨Z1, hZ1⟩ : ∃ Z, (fnL (n * 7) fun c => ndV (nsS n M sl ki ko kn sh 0 0 0) (c / 7) (c % 7)) = Z := ⟨_, rfl⟩
  obtain ⟨Z2, hZ2⟩ : ∃ Z, (fnL M fun c => .int .i32 ((nsS n M sl ki ko kn sh 0 0 0).bk c)) = Z := ⟨_, rfl⟩
  simp only [made_nd n M sl ki ko kn sh, hZ1] at hm1
  simp only [made_bk n M sl ki ko kn sh, hZ2] at hm2
  have HZ1 := hid hZ1
  have HZ2 := hid hZ2
  clear hZ1 hZ2
  go_upto_region 7 with fail
  go_cut [6] (fun v wc => ∃ e gn gb, v = .pointer (some ⟨e, 0, none⟩) ∧ Hid (NI w z sl ki ko kn e gn gb (nsS n M sl ki ko kn sh 0 0 0) wc))
  case first =>
    go_region
    all_goals (go_wp2_with fail)
    all_goals go_meet
    · as_aux_lemma =>
      have K := made3 w1 Z1 Z2 (fnL 24 (enV w1.heap.size (w1.heap.size + 1) (nsS n M sl ki ko kn sh 0 0 0))) 86 21 84
      rw [made_en] at K
      exact ⟨_, w1.heap.size, w1.heap.size + 1, rfl, hid ⟨⟨by rw [made_en]; exact K.2.2.1, by rw [← HZ1.out] at K; exact HZ1.out ▸ K.1, by rw [← HZ2.out] at K; exact HZ2.out ▸ K.2.1⟩, HBl.out.trans (K.2.2.2.mono HBl.out.size), by have := HBl.out.size; omega, by have := HBl.out.size; omega, by have := HBl.out.size; omega, HCb.out.below K.2.2.2⟩⟩
    · as_aux_lemma =>
      have K := made3 w1 Z2 Z1 (fnL 24 (enV (w1.heap.size + 1) w1.heap.size (nsS n M sl ki ko kn sh 0 0 0))) 21 86 84
      rw [made_en] at K
      exact ⟨_, w1.heap.size + 1, w1.heap.size, rfl, hid ⟨⟨by rw [made_en]; exact K.2.2.1, by rw [← HZ1.out] at K; exact HZ1.out ▸ K.2.1, by rw [← HZ2.out] at K; exact HZ2.out ▸ K.1⟩, HBl.out.trans (K.2.2.2.mono HBl.out.size), by have := HBl.out.size; omega, by have := HBl.out.size; omega, by have := HBl.out.size; omega, HCb.out.below K.2.2.2⟩⟩
  case rest =>
  as_aux_lemma =>
  obtain ⟨e, gn, gb, rfl, HN⟩ := hcut
  clear hm1 hm2 HZ1 HZ2 Z1 Z2 k0 k1 k2 k3 HCb HBl hzw dl
  have e20 : wc.cell? ⟨e, 20, none⟩ = some (.slice (some ⟨gb, 0, none⟩) M M) := HN.out.em.bks
  go_upto_region 9 with fail
  clear e20
  go_loopw [40] (fun v wr => ∃ j : Nat, v = .int .i64 (j : Int) ∧ j ≤ M ∧ Hid (NI w z sl ki ko kn e gn gb (nsS n M sl ki ko kn sh j 0 0) wr)) (fun v _ => M - (intOf v).toNat)
  case atStart => exact ⟨0, rfl, by omega, HN⟩
  case round =>
  obtain ⟨j, rfl, hj, HN1⟩ := hrel
  clear HN
  by_cases hj2 : j < M
  · as_aux_lemma =>
    have dj : decide ((j : Int) < (M : Int)) = true := decide_eq_true (by omega)
    have e20 : wr.cell? ⟨e, 20, none⟩ = some (.slice (some ⟨gb, 0, none⟩) M M) := HN1.out.em.bks
    have b1 := HN1.out.em.bk (b := j) hj2
    have b2 := HN1.out.em.bb.frozen j
    have hji : (j : Int) < (M : Int) := by omega
    have HN2 : Hid (NI w z sl ki ko kn e gn gb (nsS n M sl ki ko kn sh (j + 1) 0 0) (wr.setCell ⟨gb, j, none⟩ (.int .i32 (-1)))) := hid (HN1.out.upd (g := gb) (.inr (.inr rfl)) ((Upd.refl gb wr).setCell rfl _) (nsS_bk HN1.out.em hj2))
    go_wp2
    exact ⟨⟨j + 1, by go_num, by omega, HN2⟩, by simp [intOf]; omega⟩
  have hjM : j = M := by omega
  clear hj hj2
  subst hjM
  have dj : decide ((j : Int) < (j : Int)) = false := decide_eq_false (by omega)
  go_upto_region 14 with fail
  clear dj
  go_loopw [50] (fun v wr => ∃ q : Nat, v = .int .i64 (q : Int) ∧ q ≤ 5 ∧ Hid (NI w z sl ki ko kn e gn gb (nsS n j sl ki ko kn sh j q 0) wr)) (fun v _ => 5 - (intOf v).toNat)
  case atStart => exact ⟨0, rfl, by omega, HN1⟩
  case round =>
  obtain ⟨q, rfl, hq, HN2⟩ := hrel
  clear HN1
  by_cases hq2 : q < 5
  · as_aux_lemma =>
    have dj : decide ((q : Int) < 5) = true := decide_eq_true (by omega)
    have hqi : (q : Int) < 5 := by omega
    have E0 := HN2.out.em
    have E1 := E0.setHd (q := q) hq2 (-1)
    have E2 := E1.setTl (q := q) hq2 (-1)
    have a0 := E0.hd hq2
    have b0 := E0.eb.frozen (5 + q * 3)
    have a1 := E1.tl hq2
    have b1 := E1.eb.frozen (5 + q * 3 + 1)
    have a2 := E2.sz hq2
    have b2 := E2.eb.frozen (5 + q * 3 + 2)
    have HN3 : Hid (NI w z sl ki ko kn e gn gb (nsS n j sl ki ko kn sh j (q + 1) 0) (((wr.setCell ⟨e, 5 + q * 3, none⟩ (.int .i32 (-1))).setCell ⟨e, 5 + q * 3 + 1, none⟩ (.int .i32 (-1))).setCell ⟨e, 5 + q * 3 + 2, none⟩ (.int .i64 0))) := hid (HN2.out.upd (g := e) (.inl rfl) (Upd.setCells e [.int .i32 (-1), .int .i32 (-1), .int .i64 0] (5 + q * 3) (Upd.refl e wr)) (nsS_q HN2.out.em hq2))
    clear E0 E1 E2
    go_wp2
    exact ⟨⟨q + 1, by go_num, by omega, HN3⟩, by simp [intOf]; omega⟩
  have dj : decide ((q : Int) < 5) = false := decide_eq_false (by omega)
  have hq5 : q = 5 := by omega
  rw [hq5] at HN2
  clear hq hq2 hq5
  have e4 : wr.cell? ⟨e, 4, none⟩ = some (.slice (some ⟨gn, 0, none⟩) n n) := HN2.out.em.nds
  go_upto_region 19 with fail
  clear dj e4
  go_loopw [65] (fun v wr => ∃ i : Nat, v = .int .i64 (i : Int) ∧ i ≤ n ∧ Hid (NI w z sl ki ko kn e gn gb (nsS n j sl ki ko kn sh j 5 i) wr)) (fun v _ => n - (intOf v).toNat)
  case atStart => exact ⟨0, rfl, by omega, HN2⟩
  case round =>
  obtain ⟨i, rfl, hi, HN3⟩ := hrel
  clear HN2
  by_cases hi2 : i < n
  · as_aux_lemma =>
    have dj : decide ((i : Int) < (n : Int)) = true := decide_eq_true (by omega)
    have hqi : (i : Int) < (n : Int) := by omega
    have e4 : wr.cell? ⟨e, 4, none⟩ = some (.slice (some ⟨gn, 0, none⟩) n n) := HN3.out.em.nds
    have HI : Hid ((Tryd.prog.info? 86).map (·.size) = some 7) := hid info_nd1
    have HTh : Hid (wr.there gn (i * 7) 7) := hid (HN3.out.em.nb.thereAt (by rw [fnL_len]; show _ ≤ n * 7; omega))
    have HN4 : Hid (NI w z sl ki ko kn e gn gb (nsS n j sl ki ko kn sh j 5 (i + 1)) (wr.setCells gn (i * 7) [.int .i32 (-1), .int .i32 (-1), .int .i32 (-1), .int .i32 0, .int .u64 0, .int .u8 0, .bool false])) := hid (HN3.out.upd (g := gn) (.inr (.inl rfl)) (Upd.setCells gn [.int .i32 (-1), .int .i32 (-1), .int .i32 (-1), .int .i32 0, .int .u64 0, .int .u8 0, .bool false] (i * 7) (Upd.refl gn wr)) (nsS_n HN3.out.em hi2))
    go_wp2_with (refine wpList_store_cells rfl 86 _ _ rfl gn (i * 7) [.int .i32 (-1), .int .i32 (-1), .int .i32 (-1), .int .i32 0, .int .u64 0, .int .u8 0, .bool false] (by simp [Act.eval, Act.put]; done) rfl HTh.out HI.out (fun v hv => by simp at hv; rcases hv with rfl | rfl | rfl | rfl | rfl <;> rfl) ?_; intro w9 HW9)
    rw [← HW9.out] at HN4
    exact ⟨⟨i + 1, by go_num, by omega, HN4⟩, by simp [intOf]; omega⟩
  have hi5 : i = n := by omega
  clear hi hi2
  subst hi5
  have dj : decide ((i : Int) < (i : Int)) = false := decide_eq_false (by omega)
  have HS0 := hid (SpI.start HN3.out.em hn2 HM.out Hsh.out hk64 hM1)
  obtain ⟨w5, hw5⟩ : ∃ w5, w5 = wr := ⟨_, rfl⟩
  subst hw5
  obtain ⟨s0, hs0⟩ : ∃ s0, nsS i j sl ki ko kn sh j 5 i = s0 := ⟨_, rfl⟩
  have Hs0 := hid hs0
  have Hn0 : Hid (s0.n = i) := hid (by rw [← hs0]; rfl)
  rw [hs0] at HS0 HN3
  clear hs0
  go_upto_region 24 with fail
  clear dj
  go_loopw [10] (fun v wl => ∃ y : Int, v = .int .i64 y ∧ (sl : Int) ≤ y + 1 ∧ y < (i : Int) ∧ Hid (∃ s L, SpI e gn gb w5 s0 (y + 1).toNat s L wl)) (fun v _ => (intOf v + 1).toNat)
  case atStart => exact ⟨(i : Int) - 1, rfl, by omega, by omega, hid ⟨_, _, by rw [show ((i : Int) - 1 + 1).toNat = i by omega]; exact HS0.out⟩⟩
  case round =>
  clear hwM hsh2 hsh3 hMp hk1 hk2 hM1 hk64
  obtain ⟨y, rfl, hy1, hy2, HL⟩ := hrel
  clear HS0
  obtain ⟨s, L, hSp⟩ := HL.out
  have HSp := hid hSp
  have HN4 := hid (HN3.out.u3 hSp.si.u3 hSp.si.em)
  clear hSp HL
  have k0 : wr.cell? ⟨z, 0, none⟩ = some (.int .i64 (sl : Int)) := HN4.out.cb.cell 0
  by_cases hge : (sl : Int) ≤ y
  · as_aux_lemma =>
    obtain ⟨g, rfl⟩ : ∃ g : Nat, y = (g : Int) := ⟨y.toNat, by omega⟩
    have hgs : sl ≤ g := by omega
    have dg3 : decide (sl ≤ g) = true := decide_eq_true hgs
    have dg : decide ((sl : Int) ≤ (g : Int)) = true := decide_eq_true hge
    have dg2 : decide ((g : Int) ≥ (sl : Int)) = true := decide_eq_true hge
    have h32 : wrap32 (g : Int) = (g : Int) := by unfold wrap32; omega
    have h32b : IntKind.i32.wrap (g : Int) = (g : Int) := by rw [IntKind.wrap_i32]; omega
    have hg1 : ((g : Int) + 1).toNat = g + 1 := by omega
    rw [hg1] at HSp
    have hgn : g < s.n := by rw [HSp.out.fx.n, Hn0.out]; omega
    have HP := hid (pushHead_si HSp.out.si (q := 4) (i := g) (by omega) (by omega) hgn (by rw [HSp.out.wh, if_neg (by omega)]))
    clear hg1 hge
    go_wp2_with fail
    refine HP.out.mono ?_
    rintro x w6 ⟨rfl, s6, h6, f6, r6⟩
    have HG : Hid (∃ s L, SpI e gn gb w5 s0 g s L w6) := hid ⟨s6, _, h6, HSp.out.fx.trans f6, fun j => by
        rw [r6, upd_ev]
        have h9 := HSp.out.wh j
        by_cases e1 : j = g
        · rw [if_pos e1, if_pos (by rw [Hn0.out]; omega)]
        · rw [if_neg e1, h9]
          by_cases e2 : g ≤ j ∧ j < s0.n
          · rw [if_pos e2, if_pos (by omega)]
          · rw [if_neg e2, if_neg (by omega)], by rw [upd_ne _ _ (by omega)]; exact HSp.out.l1, by rw [upd_ne _ _ (by omega)]; exact HSp.out.l2, by rw [upd_ne _ _ (by omega)]; exact HSp.out.l3, by
        rw [upd_same, List.length_cons, HSp.out.l4, Hn0.out]
        omega⟩
    clear h6 f6 r6 HP
    go_wp2
    exact ⟨⟨(g : Int) - 1, rfl, by omega, by omega, by rw [show ((g : Int) - 1 + 1).toNat = g by omega]; exact HG⟩, by simp only [intOf]; omega⟩
  · as_aux_lemma =>
    have hys : (y + 1).toNat = sl := by omega
    rw [hys] at HSp
    have dg : decide ((sl : Int) ≤ y) = false := decide_eq_false hge
    have dg2 : decide (y ≥ (sl : Int)) = false := decide_eq_false hge
    have hSpF : SpI e gn gb w5 (nsS i j sl ki ko kn sh j 5 i) sl s L wr := by rw [Hs0.out]; exact HSp.out
    have HF : Hid (EE e gn gb wr s L (fun _ => []) wr ∧ NewS (sl : Int) (ki : Int) (ko : Int) (kn : Int) s L) := hid (SpI.fin hSpF Hn.out HB.out)
    clear hSpF
    clear hys hge
    go_wp2
    refine bodyPost_ret (results_tmp2 Tryd.results23 _ _ _) rfl ?_
    exact .inr ⟨HB.out, e, gn, gb, s, L, _, rfl, HF.out.1, HN4.out.bel, HN4.out.le, HN4.out.ln, HN4.out.lb, HF.out.2⟩
end Go.Proofs.Qxb6500892aDoor
