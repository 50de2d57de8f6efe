/- Union. -/
import Derived.Test.Qxb6500884aClInt
namespace Go.Proofs.Qxb6500884a
open Go.RowKit
set_option linter.unusedSimpArgs false
set_option linter.unusedVariables false

theorem MInv.perm {s s' mg : List (Int × Int)} (h : MInv s mg) (hp : s.Perm s') : MInv s' mg :=
  ⟨h.nrm, fun x => by rw [h.mem x]; exact memB_perm hp x, fun ms ab e => by obtain ⟨p, h1, h2⟩ := h.lst ms ab e; exact ⟨p, hp.subset h1, h2⟩, by rw [← hp.length_eq]; exact h.len, h.ne⟩
/-- One interval more, behind any list. -/
def mnext (mg : List (Int × Int)) (r : Int × Int) : List (Int × Int) := match mg.getLast? with
  | none => [r]
  | some ab => mstep mg.dropLast ab r
theorem mnext_nil (r : Int × Int) : mnext [] r = [r] := rfl
theorem mnext_snoc (ms : List (Int × Int)) (ab r : Int × Int) : mnext (ms ++ [ab]) r = mstep ms ab r := by unfold mnext; simp
structure UI (c d : List (Int × Int)) (i j : Nat) (mg : List (Int × Int)) : Prop where
  m0 : i + j = 0 → mg = []
  m1 : 0 < i + j → MInv (c.take i ++ d.take j) mg
  o1 : ∀ p ∈ c.take i, ∀ q, d[j]? = some q → p.1 ≤ q.1
  o2 : ∀ p ∈ d.take j, ∀ q, c[i]? = some q → p.1 ≤ q.1
theorem UI.zero (c d : List (Int × Int)) : UI c d 0 0 [] := ⟨fun _ => rfl, fun h => by omega, fun p hp => (by simp at hp), fun p hp => (by simp at hp)⟩
theorem Nrm.mem_take {l : List (Int × Int)} (h : Nrm l) {i : Nat} {p q : Int × Int} (hp : p ∈ l.take i) (hq : l[i]? = some q) : p.1 ≤ q.1 := by
  obtain ⟨k, hk⟩ := List.mem_iff_getElem?.1 hp
  have hlt := (List.getElem?_eq_some_iff.1 hk).1
  rw [List.length_take] at hlt
  rw [List.getElem?_take, if_pos (by omega)] at hk
  have h1 := h.later (show k < i by omega) hk hq
  have h2 := h.rng p (List.mem_of_getElem? hk)
  omega
theorem UI.stepC {c d mg : List (Int × Int)} {i j : Nat} {p : Int × Int} (h : UI c d i j mg) (hc : Nrm c) (hd : Nrm d) (hp : c[i]? = some p) (hle : ∀ q, d[j]? = some q → p.1 ≤ q.1) : UI c d (i + 1) j (mnext mg p) := by
  have hr := hc.rng p (List.mem_of_getElem? hp)
  have ht : c.take (i + 1) = c.take i ++ [p] := (take_two hp).symm
  refine ⟨fun h => by omega, fun _ => ?_, fun r hr2 q hq => ?_, fun r hr2 q hq => ?_⟩
  · have hperm : ((c.take i ++ d.take j) ++ [p]).Perm (c.take (i + 1) ++ d.take j) := by
      rw [ht, List.append_assoc, List.append_assoc]
      exact List.Perm.append_left _ List.perm_append_comm
    refine MInv.perm ?_ hperm
    rcases Nat.eq_zero_or_pos (i + j) with h0 | h0
    · have hi : i = 0 := by omega
      have hj : j = 0 := by omega
      subst hi hj
      rw [h.m0 h0, mnext_nil]
      simpa using MInv.one hr
    · have hm := h.m1 h0
      obtain ⟨ms, ab, hab⟩ : ∃ ms ab, mg = ms ++ [ab] := by
        rcases List.eq_nil_or_concat mg with h1 | ⟨ms, ab, h1⟩
        · exact absurd h1 hm.ne
        · exact ⟨ms, ab, by rw [h1, List.concat_eq_append]⟩
      subst hab
      rw [mnext_snoc]
      refine hm.step hr (fun q hq => ?_)
      rcases List.mem_append.1 hq with h2 | h2
      · exact hc.mem_take h2 hp
      · exact h.o2 q h2 p hp
  · rw [ht] at hr2
    rcases List.mem_append.1 hr2 with h2 | h2
    · exact h.o1 r h2 q hq
    · simp at h2; subst h2; exact hle q hq
  · have h1 := h.o2 r hr2 p hp
    have h2 := hc.later (show i < i + 1 by omega) hp hq
    omega
theorem UI.stepD {c d mg : List (Int × Int)} {i j : Nat} {p : Int × Int} (h : UI c d i j mg) (hc : Nrm c) (hd : Nrm d) (hp : d[j]? = some p) (hle : ∀ q, c[i]? = some q → p.1 ≤ q.1) : UI c d i (j + 1) (mnext mg p) := by
  have hr := hd.rng p (List.mem_of_getElem? hp)
  have ht : d.take (j + 1) = d.take j ++ [p] := (take_two hp).symm
  refine ⟨fun h => by omega, fun _ => ?_, fun r hr2 q hq => ?_, fun r hr2 q hq => ?_⟩
  · have he : (c.take i ++ d.take j) ++ [p] = c.take i ++ d.take (j + 1) := by rw [ht, List.append_assoc]
    rw [← he]
    rcases Nat.eq_zero_or_pos (i + j) with h0 | h0
    · have hi : i = 0 := by omega
      have hj : j = 0 := by omega
      subst hi hj
      rw [h.m0 h0, mnext_nil]
      simpa using MInv.one hr
    · have hm := h.m1 h0
      obtain ⟨ms, ab, hab⟩ : ∃ ms ab, mg = ms ++ [ab] := by
        rcases List.eq_nil_or_concat mg with h1 | ⟨ms, ab, h1⟩
        · exact absurd h1 hm.ne
        · exact ⟨ms, ab, by rw [h1, List.concat_eq_append]⟩
      subst hab
      rw [mnext_snoc]
      refine hm.step hr (fun q hq => ?_)
      rcases List.mem_append.1 hq with h2 | h2
      · exact h.o1 q h2 p hp
      · exact hd.mem_take h2 hp
  · have h1 := h.o1 r hr2 p hp
    have h2 := hd.later (show j < j + 1 by omega) hp hq
    omega
  · rw [ht] at hr2
    rcases List.mem_append.1 hr2 with h2 | h2
    · exact h.o2 r h2 q hq
    · simp at h2; subst h2; exact hle q hq
theorem UI.len {c d mg : List (Int × Int)} {i j : Nat} (h : UI c d i j mg) : mg.length ≤ i + j := by
  rcases Nat.eq_zero_or_pos (i + j) with h0 | h0
  · rw [h.m0 h0]; simp
  · have := (h.m1 h0).len
    rw [List.length_append, List.length_take, List.length_take] at this
    omega
theorem UI.fin {c d mg : List (Int × Int)} (h : UI c d c.length d.length mg) (h0 : 0 < c.length + d.length) : Nrm mg ∧ ∀ x, memB mg x = (memB c x || memB d x) := by
  have hm := h.m1 h0
  rw [List.take_of_length_le (Nat.le_refl _), List.take_of_length_le (Nat.le_refl _)] at hm
  exact ⟨hm.nrm, fun x => by rw [hm.mem x, memB_append]⟩
theorem Pre.nil (cs : List Value) : Pre cs [] cs := ⟨rfl, fun i hi => by simp at hi, fun _ _ => rfl⟩
set_option maxRecDepth 100000 in
set_option maxHeartbeats 2000000 in
theorem merged0_walk (g n : Nat) (cs old : List Value) (x y : Int) (w : World) (hb : Blk w g 67 cs) (hp : Pre cs [] old) (hn : 1 ≤ n) (hn2 : n ≤ 100000000000) (hl : n * 2 = old.length) :
    Calls Try.prog 38 #[.slice (some ⟨g, 0, none⟩) 0 n, .agg #[.int .i64 x, .int .i64 y]] w fun e w' => Am g n old [(x, y)] w e w' := by
  obtain ⟨i0, hi, hz0, hz1, hz2⟩ := info_ivz
  have HI := hid (And.intro hi (And.intro hz0 (And.intro hz1 hz2)))
  obtain ⟨q, hq⟩ : ∃ q, w.heap.size = q := ⟨_, rfl⟩
  have hb1' := Blk.new w [.int .i64 x, .int .i64 y] 67
  rw [hq] at hb1'
  have hbg := hb.alloc (.cells [Value.int .i64 x, .int .i64 y].toArray 67)
  have hu1 : Upd g w (w.alloc (.cells [Value.int .i64 x, .int .i64 y].toArray 67)) := (Upd.refl g w).alloc _
  obtain ⟨w1, hw1⟩ : ∃ w1, w.alloc (.cells #[.int .i64 x, .int .i64 y] 67) = w1 := ⟨_, rfl⟩
  have hw1' : w.alloc (.cells [Value.int .i64 x, .int .i64 y].toArray 67) = w1 := hw1
  rw [hw1'] at hb1' hbg hu1
  have HBq := hid hb1'
  have HBg := hid hbg
  have HU1 := hid hu1
  have HP := hid hp
  clear hi hz0 hz1 hz2 hb hp hb1' hbg hu1 hw1'
  go_enter Try.func38, Try.ntmps38
  go_upto_region 2 with fail
  try simp only [hw1]
  clear hw1
  go_quiet (fail)
  have HBq2 := hid (HBq.out.drewN nq)
  have HBg2 := hid (HBg.out.drewN nq)
  have HU2 := hid (HU1.out.drewN nq)
  generalize w1.drewN nq = w2 at HBq2 HBg2 HU2 ⊢
  clear HBq HBg HU1
  have q0' : w2.cell? ⟨q, 0, none⟩ = some (.int .i64 x) := HBq2.out.cell 0
  have q1' : w2.cell? ⟨q, 1, none⟩ = some (.int .i64 y) := HBq2.out.cell 1
  have HBg3 := hid (HBg2.out.alloc (.cells #[.int .i64 x, .int .i64 y] 67))
  have HNew := hid (newRow w2 [.int .i64 x, .int .i64 y] 67 w2.heap.size rfl)
  have hfit : 0 * 2 + 2 ≤ cs.length := by rw [HP.out.len]; omega
  have hroom : 0 + 1 ≤ n := by omega
  have HU3 : Hid (Upd g w (w2.alloc (.cells #[.int .i64 x, .int .i64 y] 67))) := hid (HU2.out.alloc _)
  go_wp2_with (at_builtin; refine wpList_append_blk rfl (.tmp 39) (.tmp 41) 25 rfl 67 i0 2 Try.underlying25 HI.out.1 HI.out.2.2.1 g 0 n cs rfl HBg3.out ⟨w2.heap.size, 0, none⟩ 1 1 [.int .i64 x, .int .i64 y] rfl rfl (fun j u hu => HNew.out _ rfl j u hu) (fun u hu => by simp at hu; rcases hu with rfl | rfl <;> rfl) hroom hfit ?_; intro w8 hb8 hu8; have HB8 := hid hb8; have HU8 := hid hu8; clear hb8 hu8)
  go_ret
  exact ⟨rfl, HU3.out.trans HU8.out, _, HB8.out, by have h := HP.out.app (x := x) (y := y) (by simp; omega); exact h⟩
/-- appendMerged, whatever the list. -/
theorem mergedL_walk (g n : Nat) (cs old : List Value) (mg : List (Int × Int)) (x y : Int) (w : World) (hb : Blk w g 67 cs) (hp : Pre cs mg old) (hn : mg.length + 1 ≤ n) (hn2 : n ≤ 100000000000) (hl : n * 2 = old.length) (hr : ∀ p ∈ mg, 0 ≤ p.2 ∧ p.2 ≤ 196607) :
    Calls Try.prog 38 #[.slice (some ⟨g, 0, none⟩) mg.length n, .agg #[.int .i64 x, .int .i64 y]] w fun e w' => Am g n old (mnext mg (x, y)) w e w' := by
  rcases List.eq_nil_or_concat mg with h1 | ⟨ms, ab, h1⟩
  · subst h1
    rw [mnext_nil]
    exact merged0_walk g n cs old x y w hb hp (by omega) hn2 hl
  · rw [List.concat_eq_append] at h1
    subst h1
    obtain ⟨a, b⟩ := ab
    rw [mnext_snoc, List.length_append]
    have h2 := hr (a, b) (by simp)
    exact merged_walk g n cs old ms a b x y w hb hp (by rw [List.length_append] at hn; simp at hn; omega) hn2 hl h2.2 h2.1
/-- The union under way. -/
structure Uw (w0 : World) (K : List (Nat × List Value)) (g : Nat) (Z : List Value) (mg : List (Int × Int)) (w : World) : Prop where
  bel : Below w0.heap.size w0 w
  blk : ∃ cs, Blk w g 67 cs ∧ Pre cs mg Z
  keep : ∀ x ∈ K, Blk w x.1 30 x.2
theorem Uw.below {w0 w w' : World} {K : List (Nat × List Value)} {g : Nat} {Z : List Value} {mg : List (Int × Int)} (h : Uw w0 K g Z mg w) (hb : Below w.heap.size w w') : Uw w0 K g Z mg w' :=
  ⟨h.bel.trans (hb.mono h.bel.size), by obtain ⟨cs, h1, h2⟩ := h.blk; exact ⟨cs, h1.below hb, h2⟩, fun x hx => (h.keep x hx).below hb⟩
theorem blk_ne {w : World} {g h : Nat} {t t' : TypeId} {cs ds : List Value} (h1 : Blk w g t cs) (h2 : Blk w h t' ds) (hne : t ≠ t') : g ≠ h := by
  intro e
  subst e
  unfold Blk at h1 h2
  rw [h1] at h2
  injection h2 with h2
  injection h2 with _ h3
  exact hne h3
theorem Uw.step {w0 w w' : World} {K : List (Nat × List Value)} {g n : Nat} {Z : List Value} {mg mg' : List (Int × Int)} {e : Ending} (h : Uw w0 K g Z mg w) (ha : Am g n Z mg' w e w') (hg : w0.heap.size ≤ g) : Uw w0 K g Z mg' w' := by
  obtain ⟨cs, h1, h2⟩ := h.blk
  obtain ⟨ds, h3, h4⟩ := ha.blk
  exact ⟨h.bel.trans (ha.upd.below hg h.bel.size), ⟨ds, h3, h4⟩, fun x hx => (h.keep x hx).upd ha.upd (fun e => blk_ne h1 (h.keep x hx) (by decide) e.symm)⟩
set_option maxRecDepth 100000 in
set_option maxHeartbeats 4000000 in
theorem union_walk (a1 : Option Addr) (n1 c1 : Nat) (l1 : List (Int × Int)) (a2 : Option Addr) (n2 c2 : Nat) (l2 : List (Int × Int)) (w : World) (hr1 : IvRow w a1 n1 c1 l1) (hr2 : IvRow w a2 n2 c2 l2) (hN1 : Nrm l1) (hN2 : Nrm l2) (ht1 : Ty67 w a1 n1) (ht2 : Ty67 w a2 n2) :
    Calls Try.prog 45 #[.agg #[.slice a1 n1 c1], .agg #[.slice a2 n2 c2]] w fun e w' => CP (fun x => memB l1 x || memB l2 x) w e w' := by
  have HR1 := hid hr1
  have HR2 := hid hr2
  have hl1 := hr1.len
  have hl2 := hr2.len
  have hs1 := hN1.short
  have hs2 := hN2.short
  have HY1 := hid ht1
  have HY2 := hid ht2
  clear hr1 hr2 ht1 ht2
  obtain ⟨q, hq⟩ : ∃ q, w.heap.size = q := ⟨_, rfl⟩
  have HO0 := hid (Ow.two w (.slice a1 n1 c1) (.slice a2 n2 c2) hq)
  obtain ⟨q2, hq2⟩ : ∃ q2, q + 1 = q2 := ⟨_, rfl⟩
  rw [hq2] at HO0
  obtain ⟨r, hr⟩ : ∃ r, q2 + 1 = r := ⟨_, rfl⟩
  rw [hr] at HO0
  obtain ⟨K, hK⟩ : ∃ K, [(q, [Value.slice a1 n1 c1]), (q2, [.slice a2 n2 c2]), (r, [.slice none 0 0])] = K := ⟨_, rfl⟩
  rw [hK] at HO0
  have Hk1 : Hid ((q, [Value.slice a1 n1 c1]) ∈ K) := hid (by rw [← hK]; simp)
  have Hk2 : Hid ((q2, [Value.slice a2 n2 c2]) ∈ K) := hid (by rw [← hK]; simp)
  have Hk3 : Hid ((r, [Value.slice none 0 0]) ∈ K) := hid (by rw [← hK]; simp)
  have Hq2 := hid hq2
  have Hr := hid hr
  clear hK
  go_enter Try.func45, Try.ntmps45
  go_upto_region 1 with fail
  have hsz1 : (((w.alloc (.cells #[Value.slice a1 n1 c1] 30)).alloc (.cells #[Value.slice a2 n2 c2] 30)).alloc (.cells #[Value.slice none 0 0] 30)).heap.size = r + 1 := by rw [← Hr.out, ← Hq2.out, ← hq]; simp
  generalize ((w.alloc (.cells #[Value.slice a1 n1 c1] 30)).alloc (.cells #[Value.slice a2 n2 c2] 30)).alloc (.cells #[Value.slice none 0 0] 30) = w1 at HO0 hsz1 ⊢
  clear hq2 hr
  have hqr : w.heap.size ≤ r := by have := Hq2.out; have := Hr.out; omega
  have b1 : w1.cell? ⟨q, 0, none⟩ = some (.slice a1 n1 c1) := (HO0.out.keep _ Hk1.out).cell 0
  have b2 : w1.cell? ⟨q2, 0, none⟩ = some (.slice a2 n2 c2) := (HO0.out.keep _ Hk2.out).cell 0
  by_cases hn1 : n1 = 0
  · as_aux_lemma =>
    have hl0 : l1 = [] := List.eq_nil_of_length_eq_zero (by omega)
    have dz : ((n1 : Int) == 0) = true := by rw [hn1]; rfl
    have dz' : (n1 == 0) = true := by rw [hn1]; rfl
    have I0 : Hid ((Try.prog.info? 30).map (·.size) = some [Value.slice a2 n2 c2].length) := hid info_reg
    have HK2 := hid (HO0.out.keep _ Hk2.out)
    have HK3 := hid (HO0.out.keep _ Hk3.out)
    go_wp2_with (refine wpList_store_blk rfl 30 _ _ rfl r rfl [.slice a2 n2 c2] rfl HK3.out rfl I0.out (fun v hv => by simp at hv; subst hv; rfl) ?_; intro w9 HB9 HU9)
    have hbe := HO0.out.bel.trans (HU9.out.below hqr HO0.out.bel.size)
    exact bodyPost_ret (results_blk Try.results45 rfl (show AggOf Try.prog 30 (List.length [_]) from AggOf.struct Try.underlying30 info_reg) HB9.out) rfl ⟨⟨_, _, _, l2, rfl, HR2.out.below hbe, hN2, fun x _ _ => (by first | (rw [hl0]; rfl) | rfl), HY2.out.below hbe⟩, hbe⟩
  by_cases hn2 : n2 = 0
  · as_aux_lemma =>
    have hl0 : l2 = [] := List.eq_nil_of_length_eq_zero (by omega)
    have dz : ((n1 : Int) == 0) = false := by simp; omega
    have dz' : (n1 == 0) = false := by simp; omega
    have dz2 : ((n2 : Int) == 0) = true := by rw [hn2]; rfl
    have dz2' : (n2 == 0) = true := by rw [hn2]; rfl
    have I0 : Hid ((Try.prog.info? 30).map (·.size) = some [Value.slice a1 n1 c1].length) := hid info_reg
    have HK3 := hid (HO0.out.keep _ Hk3.out)
    go_wp2_with (refine wpList_store_blk rfl 30 _ _ rfl r rfl [.slice a1 n1 c1] rfl HK3.out rfl I0.out (fun v hv => by simp at hv; subst hv; rfl) ?_; intro w9 HB9 HU9)
    have hbe := HO0.out.bel.trans (HU9.out.below hqr HO0.out.bel.size)
    exact bodyPost_ret (results_blk Try.results45 rfl (show AggOf Try.prog 30 (List.length [_]) from AggOf.struct Try.underlying30 info_reg) HB9.out) rfl ⟨⟨_, _, _, l1, rfl, HR1.out.below hbe, hN1, fun x _ _ => (by first | (rw [hl0]; simp [memB]; done) | (simp [memB]; done)), HY1.out.below hbe⟩, hbe⟩
  have dz : ((n1 : Int) == 0) = false := by simp; omega
  have dz' : (n1 == 0) = false := by simp; omega
  have dz2 : ((n2 : Int) == 0) = false := by simp; omega
  have dz2' : (n2 == 0) = false := by simp; omega
  obtain ⟨N, hNN⟩ : ∃ N, n1 + n2 = N := ⟨_, rfl⟩
  have hmk0 := make_iv N (by omega)
  obtain ⟨Z, hZ⟩ : ∃ Z : List Value, madeCells #[Value.int .i64 0, .int .i64 0] (N * 2) = Z.toArray := ⟨(madeCells #[Value.int .i64 0, .int .i64 0] (N * 2)).toList, by simp⟩
  have hZl : N * 2 = Z.length := by have h := size_madeCells #[Value.int .i64 0, .int .i64 0] (N * 2); rw [hZ] at h; simpa using h.symm
  rw [hZ] at hmk0
  have hmk : ∀ w : World, (Instr.makeSlice 25 (.int .i64 0) (.int .i64 ((n1 : Int) + (n2 : Int)))).run Try.prog w = .ok (.slice (some ⟨w.heap.size, 0, none⟩) 0 N) (w.alloc (.cells Z.toArray 67)) := fun w => by have := hmk0 w; rw [← hNN] at this ⊢; simpa using this
  have HU0 : Hid (Uw w K (r + 1) Z [] (w1.alloc (.cells Z.toArray 67))) := hid (by
    have hb := Blk.new w1 Z 67
    rw [hsz1] at hb
    exact ⟨HO0.out.bel.alloc HO0.out.bel.size _, ⟨Z, hb, Pre.nil Z⟩, fun x hx => (HO0.out.keep x hx).alloc _⟩)
  obtain ⟨g, hg⟩ : ∃ g, r + 1 = g := ⟨_, rfl⟩
  rw [hg] at HU0 hsz1
  have hgw : w.heap.size ≤ g := by omega
  have Hg := hid hg
  clear hmk0 hZ hg
  go_upto_region 6 with fail
  generalize w1.alloc (.cells Z.toArray 67) = w2 at HU0 ⊢
  clear HO0 hsz1 b1 b2 hmk
  go_wp2_with fail
  go_loopw [5, 6, 7] (fun v i j wr => ∃ (i' j' : Nat) (mg : List (Int × Int)), i' ≤ n1 ∧ j' ≤ n2 ∧ i = .int .i64 i' ∧ j = .int .i64 j' ∧ v = .slice (some ⟨g, 0, none⟩) mg.length N ∧ Hid (UI l1 l2 i' j' mg) ∧ Hid (Uw w K g Z mg wr)) (fun _ i j _ => (n1 - (intOf i).toNat) + (n2 - (intOf j).toNat))
  case atStart => exact ⟨0, 0, [], Nat.zero_le _, Nat.zero_le _, rfl, rfl, rfl, hid (UI.zero l1 l2), HU0⟩
  case round =>
    clear HU0
    obtain ⟨i, j, mg, hi, hj, rfl, rfl, rfl, HUI, HU⟩ := hrel
    have b1 : wr.cell? ⟨q, 0, none⟩ = some (.slice a1 n1 c1) := (HU.out.keep _ Hk1.out).cell 0
    have b2 : wr.cell? ⟨q2, 0, none⟩ = some (.slice a2 n2 c2) := (HU.out.keep _ Hk2.out).cell 0
    have hml := HUI.out.len
    have HMr : Hid (∀ p ∈ mg, 0 ≤ p.2 ∧ p.2 ≤ 196607) := hid (fun p hp => by
      rcases Nat.eq_zero_or_pos (i + j) with h0 | h0
      · rw [HUI.out.m0 h0] at hp; cases hp
      · have := (HUI.out.m1 h0).nrm.rng p hp; omega)
    by_cases hj1 : j < n2
    · have d2 : decide ((j : Int) < (n2 : Int)) = true := decide_eq_true (by omega)
      have dj : ((j : Int) == (n2 : Int)) = false := by simp; omega
      have dj' : (j == n2) = false := by simp; omega
      have i2 : (j : Int) < (n2 : Int) := by omega
      obtain ⟨p', hp', g1, g2, bB, offB, rfl, hbB, e3, e4⟩ := (HR2.out.below HU.out.bel).get hj1
      obtain ⟨x', y'⟩ := p'
      have hp2 := hid hp'
      dsimp only at e3 e4
      have r5 : ∀ nn, (wr.drewN nn).cell? ⟨bB, offB + j * 2, none⟩ = some (.int .i64 x') := fun nn => e3
      have r6 : ∀ nn, (wr.drewN nn).cell? ⟨bB, offB + j * 2 + 1, none⟩ = some (.int .i64 y') := fun nn => e4
      clear hp'
      by_cases hi1 : i < n1
      · have d1 : decide ((i : Int) < (n1 : Int)) = true := decide_eq_true (by omega)
        have i1 : (i : Int) < (n1 : Int) := by omega
        obtain ⟨p, hp, f1, f2, bA, offA, rfl, hbA, e1, e2⟩ := (HR1.out.below HU.out.bel).get hi1
        obtain ⟨x, y⟩ := p
        have hp1 := hid hp
        dsimp only at e1 e2
        have r3 : ∀ nn, (wr.drewN nn).cell? ⟨bA, offA + i * 2, none⟩ = some (.int .i64 x) := fun nn => e1
        have r4 : ∀ nn, (wr.drewN nn).cell? ⟨bA, offA + i * 2 + 1, none⟩ = some (.int .i64 y) := fun nn => e2
        clear hp
        have r1 : ∀ nn, (wr.drewN nn).cell? ⟨q, 0, none⟩ = some (.slice (some ⟨bA, offA, none⟩) n1 c1) := fun nn => b1
        have r2 : ∀ nn, (wr.drewN nn).cell? ⟨q2, 0, none⟩ = some (.slice (some ⟨bB, offB, none⟩) n2 c2) := fun nn => b2
        by_cases hxx : x ≤ x'
        · as_aux_lemma =>
          have dx : decide (x ≤ x') = true := decide_eq_true hxx
          have hleC : Hid (∀ q, l2[j]? = some q → x ≤ q.1) := hid (fun q hq => by rw [hp2.out] at hq; cases hq; exact hxx)
          go_upto_region 8 with fail
          go_quiet (fail)
          have HUd := hid (HU.out.below (Drew.below ⟨nq, rfl⟩ _))
          have t1 : (wr.drewN nq).cell? ⟨q, 0, none⟩ = some _ := r1 nq
          have t2 : (wr.drewN nq).cell? ⟨q2, 0, none⟩ = some _ := r2 nq
          have t3 : (wr.drewN nq).cell? ⟨bA, offA + i * 2, none⟩ = some (.int .i64 x) := r3 nq
          have t4 : (wr.drewN nq).cell? ⟨bA, offA + i * 2 + 1, none⟩ = some (.int .i64 y) := r4 nq
          generalize wr.drewN nq = wd at HUd t1 t2 t3 t4 ⊢
          obtain ⟨cs, hcs, hpre⟩ := HUd.out.blk
          have HMg := hid (mergedL_walk g N cs Z mg x y wd hcs hpre (by omega) (by omega) hZl HMr.out)
          have HStp := hid (HUI.out.stepC hN1 hN2 hp1.out hleC.out)
          obtain ⟨mg', hmg'⟩ : ∃ mg', mnext mg (x, y) = mg' := ⟨_, rfl⟩
          rw [hmg'] at HMg HStp
          clear hcs hpre hmg' r1 r2
          go_wp2_with fail
          refine (HMg.out).mono ?_
          rintro e w5 ha5
          have HU5 := hid (HUd.out.step ha5 hgw)
          obtain ⟨rfl, _, _⟩ := ha5
          clear HMg
          go_wp2
          exact ⟨⟨i + 1, j, mg', by omega, by omega, by go_num, rfl, rfl, HStp, HU5⟩, by simp [intOf]; omega⟩
        · as_aux_lemma =>
          have dx : decide (x ≤ x') = false := decide_eq_false hxx
          have hleD : Hid (∀ q, l1[i]? = some q → x' ≤ q.1) := hid (fun q hq => by rw [hp1.out] at hq; cases hq; show x' ≤ x; omega)
          go_upto_region 8 with fail
          go_quiet (fail)
          have HUd := hid (HU.out.below (Drew.below ⟨nq, rfl⟩ _))
          have t1 : (wr.drewN nq).cell? ⟨q, 0, none⟩ = some _ := r1 nq
          have t2 : (wr.drewN nq).cell? ⟨q2, 0, none⟩ = some _ := r2 nq
          have t5 : (wr.drewN nq).cell? ⟨bB, offB + j * 2, none⟩ = some (.int .i64 x') := r5 nq
          have t6 : (wr.drewN nq).cell? ⟨bB, offB + j * 2 + 1, none⟩ = some (.int .i64 y') := r6 nq
          generalize wr.drewN nq = wd at HUd t1 t2 t5 t6 ⊢
          obtain ⟨cs, hcs, hpre⟩ := HUd.out.blk
          have HMg := hid (mergedL_walk g N cs Z mg x' y' wd hcs hpre (by omega) (by omega) hZl HMr.out)
          have HStp := hid (HUI.out.stepD hN1 hN2 hp2.out hleD.out)
          obtain ⟨mg', hmg'⟩ : ∃ mg', mnext mg (x', y') = mg' := ⟨_, rfl⟩
          rw [hmg'] at HMg HStp
          clear hcs hpre hmg' r1 r2
          go_wp2_with fail
          refine (HMg.out).mono ?_
          rintro e w5 ha5
          have HU5 := hid (HUd.out.step ha5 hgw)
          obtain ⟨rfl, _, _⟩ := ha5
          clear HMg
          go_wp2
          exact ⟨⟨i, j + 1, mg', by omega, by omega, rfl, by go_num, rfl, HStp, HU5⟩, by simp [intOf]; omega⟩
      · as_aux_lemma =>
        have d1 : decide ((i : Int) < (n1 : Int)) = false := decide_eq_false (by omega)
        have r1 : ∀ nn, (wr.drewN nn).cell? ⟨q, 0, none⟩ = some (.slice a1 n1 c1) := fun nn => b1
        have r2 : ∀ nn, (wr.drewN nn).cell? ⟨q2, 0, none⟩ = some (.slice (some ⟨bB, offB, none⟩) n2 c2) := fun nn => b2
        have hleD : Hid (∀ q, l1[i]? = some q → x' ≤ q.1) := hid (fun q hq => by have := (List.getElem?_eq_some_iff.1 hq).1; omega)
        go_upto_region 8 with fail
        go_quiet (fail)
        have HUd := hid (HU.out.below (Drew.below ⟨nq, rfl⟩ _))
        have t1 : (wr.drewN nq).cell? ⟨q, 0, none⟩ = some _ := r1 nq
        have t2 : (wr.drewN nq).cell? ⟨q2, 0, none⟩ = some _ := r2 nq
        have t5 : (wr.drewN nq).cell? ⟨bB, offB + j * 2, none⟩ = some (.int .i64 x') := r5 nq
        have t6 : (wr.drewN nq).cell? ⟨bB, offB + j * 2 + 1, none⟩ = some (.int .i64 y') := r6 nq
        generalize wr.drewN nq = wd at HUd t1 t2 t5 t6 ⊢
        obtain ⟨cs, hcs, hpre⟩ := HUd.out.blk
        have HMg := hid (mergedL_walk g N cs Z mg x' y' wd hcs hpre (by omega) (by omega) hZl HMr.out)
        have HStp := hid (HUI.out.stepD hN1 hN2 hp2.out hleD.out)
        obtain ⟨mg', hmg'⟩ : ∃ mg', mnext mg (x', y') = mg' := ⟨_, rfl⟩
        rw [hmg'] at HMg HStp
        clear hcs hpre hmg' r1 r2
        go_wp2_with fail
        refine (HMg.out).mono ?_
        rintro e w5 ha5
        have HU5 := hid (HUd.out.step ha5 hgw)
        obtain ⟨rfl, _, _⟩ := ha5
        clear HMg
        go_wp2
        exact ⟨⟨i, j + 1, mg', by omega, by omega, rfl, by go_num, rfl, HStp, HU5⟩, by simp [intOf]; omega⟩
    · have d2 : decide ((j : Int) < (n2 : Int)) = false := decide_eq_false (by omega)
      have hje : j = n2 := by omega
      have dj : ((j : Int) == (n2 : Int)) = true := by rw [hje]; simp
      have dj' : (j == n2) = true := by rw [hje]; simp
      have Hje := hid hje
      clear hje
      by_cases hi1 : i < n1
      · as_aux_lemma =>
        have d1 : decide ((i : Int) < (n1 : Int)) = true := decide_eq_true (by omega)
        have i1 : (i : Int) < (n1 : Int) := by omega
        obtain ⟨p, hp, f1, f2, bA, offA, rfl, hbA, e1, e2⟩ := (HR1.out.below HU.out.bel).get hi1
        obtain ⟨x, y⟩ := p
        have hp1 := hid hp
        dsimp only at e1 e2
        have r3 : ∀ nn, (wr.drewN nn).cell? ⟨bA, offA + i * 2, none⟩ = some (.int .i64 x) := fun nn => e1
        have r4 : ∀ nn, (wr.drewN nn).cell? ⟨bA, offA + i * 2 + 1, none⟩ = some (.int .i64 y) := fun nn => e2
        clear hp
        have r1 : ∀ nn, (wr.drewN nn).cell? ⟨q, 0, none⟩ = some (.slice (some ⟨bA, offA, none⟩) n1 c1) := fun nn => b1
        have r2 : ∀ nn, (wr.drewN nn).cell? ⟨q2, 0, none⟩ = some (.slice a2 n2 c2) := fun nn => b2
        have hleC : Hid (∀ q, l2[j]? = some q → x ≤ q.1) := hid (fun q hq => by have := (List.getElem?_eq_some_iff.1 hq).1; omega)
        go_upto_region 8 with fail
        go_quiet (fail)
        have HUd := hid (HU.out.below (Drew.below ⟨nq, rfl⟩ _))
        have t1 : (wr.drewN nq).cell? ⟨q, 0, none⟩ = some _ := r1 nq
        have t2 : (wr.drewN nq).cell? ⟨q2, 0, none⟩ = some _ := r2 nq
        have t3 : (wr.drewN nq).cell? ⟨bA, offA + i * 2, none⟩ = some (.int .i64 x) := r3 nq
        have t4 : (wr.drewN nq).cell? ⟨bA, offA + i * 2 + 1, none⟩ = some (.int .i64 y) := r4 nq
        generalize wr.drewN nq = wd at HUd t1 t2 t3 t4 ⊢
        obtain ⟨cs, hcs, hpre⟩ := HUd.out.blk
        have HMg := hid (mergedL_walk g N cs Z mg x y wd hcs hpre (by omega) (by omega) hZl HMr.out)
        have HStp := hid (HUI.out.stepC hN1 hN2 hp1.out hleC.out)
        obtain ⟨mg', hmg'⟩ : ∃ mg', mnext mg (x, y) = mg' := ⟨_, rfl⟩
        rw [hmg'] at HMg HStp
        clear hcs hpre hmg' r1 r2
        go_wp2_with fail
        refine (HMg.out).mono ?_
        rintro e w5 ha5
        have HU5 := hid (HUd.out.step ha5 hgw)
        obtain ⟨rfl, _, _⟩ := ha5
        clear HMg
        go_wp2
        exact ⟨⟨i + 1, j, mg', by omega, by omega, by go_num, rfl, rfl, HStp, HU5⟩, by simp [intOf]; omega⟩
      · as_aux_lemma =>
        have d1 : decide ((i : Int) < (n1 : Int)) = false := decide_eq_false (by omega)
        have HF : Hid (Nrm mg ∧ ∀ x, memB mg x = (memB l1 x || memB l2 x)) := hid (by
          have h := HUI.out
          rw [show i = l1.length by omega, show j = l2.length by omega] at h
          exact h.fin (by omega))
        obtain ⟨cs, hcs, hpre⟩ := HU.out.blk
        have HCs := hid hcs
        have HPre := hid hpre
        have I0 : Hid ((Try.prog.info? 30).map (·.size) = some [Value.slice (some ⟨g, 0, none⟩) mg.length N].length) := hid info_reg
        have HK3 := hid (HU.out.keep _ Hk3.out)
        clear hcs hpre
        go_wp2_with (refine wpList_store_blk rfl 30 _ _ rfl r rfl [.slice (some ⟨g, 0, none⟩) mg.length N] rfl HK3.out rfl I0.out (fun v hv => by simp at hv; subst hv; rfl) ?_; intro w9 HB9 HU9)
        have hbe := HU.out.bel.trans (HU9.out.below hqr HU.out.bel.size)
        have hrow : IvRow w9 (some ⟨g, 0, none⟩) mg.length N mg := by
          have hdg := HCs.out.upd HU9.out (show g ≠ r by have := Hg.out; omega)
          refine ⟨⟨rfl, by omega, ⟨by omega, by unfold maxLen; omega, fun e => by cases e⟩, fun i hi => ⟨g, 0, rfl, hdg.lt, fun j hj => ?_⟩⟩, fun q hq => ?_⟩
          · rw [hdg.cell, Nat.zero_add, HPre.out.pre (i * 2 + j) (by omega), flat_get (List.getElem?_eq_getElem hi) hj]
          · have := HF.out.1.rng q hq
            unfold Fit
            omega
        exact bodyPost_ret (results_blk Try.results45 rfl (show AggOf Try.prog 30 (List.length [_]) from AggOf.struct Try.underlying30 info_reg) HB9.out) rfl ⟨⟨_, _, _, mg, rfl, hrow, HF.out.1, fun x _ _ => HF.out.2 x, Ty67.blk (HCs.out.upd HU9.out (show g ≠ r by have := Hg.out; omega))⟩, hbe⟩
end Go.Proofs.Qxb6500884a
